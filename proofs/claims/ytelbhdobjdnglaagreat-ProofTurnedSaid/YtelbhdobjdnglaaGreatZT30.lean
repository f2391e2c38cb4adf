/-
 Merged: lemmas of this claim.
 Conditions: none.
-/
import Derived.Test.YtelbhdobjdnglaaGreatZT22
import Derived.Test.YtelbhdobjdnglaaGreatZT27
import Derived.Test.YtelbhdobjdnglaaGreatZT29
import Derived.Test.YtelbhdobjdnglaaGreatZT18
import Derived.Test.YtelbhdobjdnglaaGreatZT10
import Derived.Laws.BitsAllLaws
import Derived.Test.YtelbhdobjdnglaaGreatZT0
namespace Go.Proofs.YtelbhdobjdnglaaGreat
set_option linter.unusedVariables false
set_option maxRecDepth 20000
set_option maxHeartbeats 16000000
open Go.RowKit Mono Rlp
namespace E
theorem EO {l : List Pr} {U : List (List UInt8)} {x : Raw} {u : List UInt8} (h : u ∈ jG l U x) : l.isEmpty = false ∧ (u ∈ U ∨ u = pkB x) := by
 unfold jG at h
 split at h
 · cases h
 ·
  rename_i hl
  refine ⟨by simpa using hl, ?_⟩
  rcases XJ.1 h with h | h
  · exact .inl h
  ·
   split at h
   · cases h
   · exact .inr (by simpa using h)
theorem vO : ∀ (f : Nat) (l : List Pr), iV l → l.isEmpty = false → (∀ x ∈ l, x.1.length < f) → ∀ u ∈ bZ f l, ∃ f' l', iV l' ∧ l'.isEmpty = false ∧ (∀ x ∈ l', x.1.length < f') ∧ u = pkB (aB f' l')
 | 0, l, hg, hl, hf, u, hu => by
  rw [bZ] at hu
  cases hu
 | f + 1, l, hg, hl, hf, u, hu => by
  rcases ndE f l hl with ⟨x, rfl, hx, hU, hn⟩ | ⟨q, q0, hq, hs, h2, hz, hx, hn, hU⟩ | ⟨h2, hz, hx, hn, hU⟩
  ·
   rw [hU] at hu
   cases hu
  ·
   have gr := pI hg q hq
   rw [hU] at hu
   obtain ⟨hk, hu | hu⟩ := EO hu
   · exact vO f _ gr hk (rZ q0 hf hq) u hu
   · exact ⟨f, _, gr, hk, rZ q0 hf hq, hu⟩
  ·
   rw [hU] at hu
   obtain ⟨U, hU2, hu⟩ := Zj.1 hu
   obtain ⟨d, _, rfl⟩ := XA.1 hU2
   obtain ⟨hk, hu | hu⟩ := EO hu
   · exact vO f _ (oJ hg d) hk (pG hf d) u hu
   · exact ⟨f, _, oJ hg d, hk, pG hf d, hu⟩
def NdB (b : List UInt8) : Prop := rdE b = 0 ∧ isN 40 (rdX b) = true
theorem vY {l ns : List Pr} (he : ji l = 0) (hn : l ≠ []) (h : G6 l ns) : ∀ y ∈ ns, NdB y.2 ∧ y.1.length = 32 := fun y hy => by
 obtain ⟨u, hu, rfl⟩ := h.2.1 y hy
 have hg := FW he
 have hl : (l.map sp).isEmpty = false := by
  cases l with
  | nil => exact absurd rfl hn
  | cons _ _ => rfl
 have hf := Pj he
 have hb : ∀ {f : Nat} {m : List Pr}, iV m → m.isEmpty = false → (∀ x ∈ m, x.1.length < f) → NdB (pkB (aB f m)) := fun {f m} h1 h2 h3 => by
  obtain ⟨e1, e2, _⟩ := rX (f := f) h1
  exact ⟨e1, by rw [e2]; exact tX h1 h2 h3⟩
 refine ⟨?_, fJ _⟩
 rcases XJ.1 hu with hu | hu
 ·
  obtain ⟨f', l', h1, h2, h3, rfl⟩ := vO 200 _ hg hl hf u hu
  exact hb h1 h2 h3
 ·
  obtain rfl : u = _ := by simpa using hu
  exact hb hg hl hf
theorem uU : ∀ {ns : List Pr} {h b : List UInt8}, lG ns h = some b → (h, b) ∈ ns
 | [], h, b, e => by cases e
 | y :: ns, h, b, e => by
  rw [lG] at e
  split at e
  ·
   rename_i hq
   injection e with e
   have : y.1 = h := by simpa using hq
   subst this
   subst e
   exact List.mem_cons_self
  · exact Xw _ (uU e)
def qH (ns : List Pr) : Nat → Raw → List UInt8 → List (List UInt8)
 | 0, _, _ => []
 | f + 1, x, p => if isL x then (if (dwn x p).2.2.2 then qH ns f (dwn x p).1 (dwn x p).2.1 else []) else match lG ns (bts x) with
  | none => []
  | some b => b :: (if (dwn (rdX b) p).2.2.2 then qH ns f (dwn (rdX b) p).1 (dwn (rdX b) p).2.1 else [])
theorem PZ (l : List Pr) (key : List UInt8) (hk : key.length ≤ 150) (he : ji l = 0) (hn : l ≠ []) : Fn 47 [.sl 2 (l.map dPr), .bs key] (fun r => ∃ ns, G6 l ns ∧ r = .tpl [.sl 1 ((qH ns 400 (.mk false (iH l) []) (split key)).map D.bs), .v (.int .i64 0)]) := by
 have hml : (l.map dPr).length = l.length := List.length_map _
 have hT := Gj l
 have hS := uV key (by omega)
 have hB := mF (iH l)
 rw [aO, dL] at hB
 rw [he] at hT
 have hnib : ∀ c ∈ split key, c.toNat < 16 := fun c hc => by have := iG key c hc; omega
 have hsl := dB key
 have hl0 : 0 < l.length := by
  cases l with
  | nil => exact absurd rfl hn
  | cons _ _ => simp
 have hrl : (iH l).length = 32 := by
  unfold iH
  rw [if_neg (show ¬ ji l ≠ 0 from fun h => h he)]
  rw [if_neg (show ¬ l.isEmpty = true by cases l with | nil => exact absurd rfl hn | cons _ _ => exact Xv)]
  exact fJ _
 refine FnM.toFn ?_
 refine FnM.walk 73 Tryz.func47 rfl Tryz.ntmps47 (by simp) fun X => ?_
 repeat
  (first
   | (apply Ea (hT); rfl; exact aj.refl _ _; exact enA; (iterate 2 rfl); rintro _ ⟨ns, hns, rfl⟩)
   | (apply aA (hS); rfl; exact aj.refl _ _; exact enA; iterate 2 rfl) | (apply ak; iterate 3 rfl) | (apply ah; iterate 3 rfl)
   | (apply aF; iterate 4 rfl) | (apply aS; iterate 4 rfl) | (apply aC (b := false); (iterate 2 rfl); exact aK; iterate 2 rfl)
   | (apply aJ; iterate 4 rfl) | (apply aT; rfl; rfl; rfl; intro _)
   | (apply aI; rfl; exact saA; iterate 4 rfl) | apply EL.nil
   | (apply EC.f0; rfl) | (with_reducible first | apply EK.nc | apply EC.seq | apply EC.r0 | apply EC.k0))
 refine EL.le (Le.pin (p := 6) (pre := []) rfl rfl) ?_
 simp only [List.nil_append]
 repeat
  (first
   | (apply aA (hB); rfl; exact aj.refl _ _; exact enA; iterate 2 rfl) | (apply Jj rF; iterate 6 rfl) | (apply aT; rfl; rfl; rfl; intro _)
   | (apply aI; rfl; exact saA; iterate 4 rfl) | apply EL.nil | ((with_reducible apply EK.h0); apply EK.code)
   | (with_reducible apply EC.b0))
 rename_i g
 have hns := hns rfl
 have hgood := vY he hn hns
 have hnl := hns.1
 have hlen := (Qe.1 he).1
 obtain ⟨tot, htot⟩ : ∃ tot, qH ns 400 (.mk false (iH l) []) (split key) = tot := ⟨_, rfl⟩
 refine EC.le (Le.row 38 1) ?_
 refine EC.loop (ι := {x : Nat × Raw × List UInt8 × Nat × Value × List (List UInt8) // G9 x.1 x.2.1 ∧ (∀ c ∈ x.2.2.1, c.toNat < 16) ∧ x.2.2.1.length < x.2.2.2.1 ∧ x.2.2.2.2.2.length + x.2.2.1.length ≤ 400 ∧ x.2.2.2.2.2 ++ qH ns x.2.2.2.1 x.2.1 x.2.2.1 = tot})
  (fun x => ⟨[(11, .val (.v (.pointer (some ⟨g, 0, none⟩)))), (9, .val (.v x.1.2.2.2.2.1)), (10, .val (.bs x.1.2.2.1)), (7, .val (.sl 33 (ns.map dNd)))], [.row x.1.2.2.2.2.1 38 1 (x.1.2.2.2.2.2.map D.bs), .var g 138 (aO x.1.2.1)], []⟩)
  (fun x => x.1.2.2.1.length) ⟨(40, .mk false (iH l) [], split key, 400, .slice none 0 0, []), BN hrl, hnib, by dsimp only; omega, by dsimp only [List.length_nil]; omega, (by dsimp only; rw [List.nil_append]; exact htot)⟩ ?_ ?_
 ·
  dsimp only
  rw [aO, dL]
  exact Le.kp
 rintro ⟨⟨f, y, p, fu, v, out⟩, hgd, hp, hpf, hol, hch⟩
 dsimp only at hgd hp hpf hol hch ⊢
 obtain ⟨fu, rfl⟩ : ∃ n, fu = n + 1 := ⟨fu - 1, by omega⟩
 obtain ⟨hg, hyy⟩ := hgd
 rw [qH] at hch
 have hom : (out.map D.bs).length = out.length := List.length_map _
 rcases hyy with ⟨hl, hni, _⟩ | ⟨hl, h32⟩
 ·
  rw [if_pos hl] at hch
  have hD := P8 hg hni p hp
  have hst := yC hg hni p hp
  unfold Kt at hD
  obtain ⟨yl, yb, yx⟩ := y
  obtain rfl : yl = true := hl
  rw [aO] at hD ⊢
  rcases hst with ⟨r, w, e1, e2, _⟩ | ⟨g', k, r, e1, _, e3, e4, e5⟩
  ·
   rw [e1, if_neg Xv, X9] at hch
   rw [e1, e2] at hD
   generalize (dwn (.mk true yb yx) p).1 = z1 at hD
   generalize (dwn (.mk true yb yx) p).2.1 = z2 at hD
   obtain ⟨zl, zb, zx⟩ := z1
   rw [aO] at hD
   repeat
    (first
     | (apply aA (hD); rfl; exact aj.refl _ _; exact enA; iterate 2 rfl) | (apply ak; iterate 3 rfl) | (apply ah; iterate 3 rfl)
     | (apply bn; iterate 6 rfl) | (apply aF; iterate 4 rfl) | (apply dI; iterate 3 rfl) | (apply bH; rfl; exact I.a; iterate 4 rfl)
     | (apply aT; rfl; rfl; rfl; intro _) | (apply aI; rfl; exact saA; iterate 4 rfl) | apply EL.nil
     | (apply EC.t0; rfl) | (apply EC.f0; rfl)
     | (with_reducible first | apply EK.nc | apply EC.seq | apply EC.r0 | apply EC.k0 | apply EC.b0 | apply EC.ret | apply EK.dK | apply EK.aG))
   refine EK.le (Le.freeze (pre := [_, _]) rfl) ?_
   exact EK.bV [] rfl rfl rfl (RL.cons (Rf.fact List.mem_cons_self rfl) (RL.cons Rf.same RL.nil)) (Xt _) ⟨⟨ns, hns, by rw [htot, ← hch]⟩, rfl⟩
  ·
   rw [e1, if_pos rfl] at hch
   rw [e1] at hD
   dsimp only at hch hD
   obtain ⟨kl, kb, kx⟩ := k
   rw [aO] at hD
   repeat
    (first
     | (apply aA (hD); rfl; exact aj.refl _ _; exact enA; iterate 2 rfl) | (apply ak; iterate 3 rfl) | (apply ah; iterate 3 rfl)
     | (apply bn; iterate 6 rfl) | (apply aF; iterate 4 rfl) | (apply dI; iterate 3 rfl) | (apply bH; rfl; exact I.a; iterate 4 rfl)
     | (apply aT; rfl; rfl; rfl; intro _) | (apply aI; rfl; exact saA; iterate 4 rfl) | apply EL.nil
     | (apply EC.f0; rfl)
     | (with_reducible first | apply EK.nc | apply EC.seq | apply EC.r0 | apply EC.k0 | apply EC.b0 | apply EK.n0))
   refine EK.again ⟨(g', .mk kl kb kx, r, fu, v, out), e3, fun c hc => hp c (e5 c hc), by dsimp only; omega, by dsimp only; omega, hch⟩ (by dsimp only; omega) ?_
   dsimp only
   rw [aO]
   exact Le.kp
 ·
  rw [if_neg (show ¬ isL y = true by rw [hl]; decide)] at hch
  obtain ⟨yl, yb, yx⟩ := y
  obtain rfl : yl = false := hl
  rw [aO]
  have hF := SI ns (fun z hz => (hgood z hz).2) (by omega) yb
  rw [show bts (.mk false yb yx) = yb from rfl] at hch
  unfold Uf at hF
  cases hfn : lG ns yb with
  | none =>
   rw [hfn] at hch hF
   rw [X9] at hch
   repeat
    (first
     | (apply aA (hF); rfl; exact aj.refl _ _; exact enA; iterate 2 rfl) | (apply ak; iterate 3 rfl) | (apply ah; iterate 3 rfl)
     | (apply bn; iterate 6 rfl) | (apply aF; iterate 4 rfl) | (apply dI; iterate 3 rfl) | (apply bH; rfl; exact I.a; iterate 4 rfl)
     | (apply aT; rfl; rfl; rfl; intro _) | (apply aI; rfl; exact saA; iterate 4 rfl) | apply EL.nil
     | (apply EC.t0; rfl)
     | (with_reducible first | apply EK.nc | apply EC.seq | apply EC.r0 | apply EC.b0 | apply EC.ret | apply EK.dK | apply EK.aG))
   refine EK.le (Le.freeze (pre := [_]) rfl) ?_
   exact EK.bV [] rfl rfl rfl (RL.cons (Rf.fact List.mem_cons_self rfl) (RL.cons Rf.same RL.nil)) (Xt _) ⟨⟨ns, hns, by rw [htot, ← hch]⟩, rfl⟩
  | some b =>
   rw [hfn] at hch hF
   dsimp only at hch hF
   obtain ⟨⟨hb0, hbN⟩, _⟩ := hgood _ (uU hfn)
   dsimp only at hb0 hbN
   have hR := ND b
   have hgx := uz b
   unfold ET at hR
   rw [hb0] at hR
   have hD := P8 hgx hbN p hp
   have hst := yC hgx hbN p hp
   have hou : out.map D.bs ++ [D.bs b] = (out ++ [b]).map D.bs := by rw [Yd]; rfl
   unfold Kt at hD
   clear hb0 hbN hgx
   generalize rdX b = x at *
   obtain ⟨xl, xb, xx⟩ := x
   rw [aO] at hR hD
   rcases hst with ⟨r, w, e1, e2, _⟩ | ⟨g', k, r, e1, _, e3, e4, e5⟩
   ·
    rw [e1, if_neg Xv] at hch
    rw [e1, e2] at hD
    generalize (dwn (.mk xl xb xx) p).1 = z1 at hD
    generalize (dwn (.mk xl xb xx) p).2.1 = z2 at hD
    obtain ⟨zl, zb, zx⟩ := z1
    rw [aO] at hD
    repeat
     (first
      | (apply aA (hF); rfl; exact aj.refl _ _; exact enA; iterate 2 rfl) | (apply aA (hR); rfl; exact aj.refl _ _; exact enA; iterate 2 rfl)
      | (apply aA (hD); rfl; exact aj.refl _ _; exact enA; iterate 2 rfl) | (apply ak; iterate 3 rfl) | (apply ah; iterate 3 rfl)
      | (apply bn; iterate 6 rfl) | (apply aF; iterate 4 rfl) | (apply dI; iterate 3 rfl) | (apply bH; rfl; exact I.a; iterate 4 rfl)
      | (apply jF; iterate 9 rfl) | (apply aT; rfl; rfl; rfl; intro _)
      | (apply aI; rfl; exact saA; iterate 4 rfl)
      | ((apply ig; rfl; exact saA; (iterate 5 rfl); (focus (constructor <;> (first | (simp; done) | (simp; omega))))); intro _)
      | apply EL.nil | (apply EC.t0; rfl) | (apply EC.f0; rfl)
      | (with_reducible first | apply EK.nc | apply EC.seq | apply EC.r0 | apply EC.k0 | apply EC.b0 | apply EC.ret | apply EK.dK | apply EK.aG))
    rename_i v2 _
    simp only [hou]
    refine EK.le (Le.freeze (pre := [_, _]) rfl) ?_
    exact EK.bV [] rfl rfl rfl (RL.cons (Rf.fact List.mem_cons_self rfl) (RL.cons Rf.same RL.nil)) (Xt _) ⟨⟨ns, hns, by rw [htot, ← hch]⟩, rfl⟩
   ·
    rw [e1, if_pos rfl] at hch
    rw [e1] at hD
    dsimp only at hch hD
    obtain ⟨kl, kb, kx⟩ := k
    rw [aO] at hD
    repeat
     (first
      | (apply aA (hF); rfl; exact aj.refl _ _; exact enA; iterate 2 rfl) | (apply aA (hR); rfl; exact aj.refl _ _; exact enA; iterate 2 rfl)
      | (apply aA (hD); rfl; exact aj.refl _ _; exact enA; iterate 2 rfl) | (apply ak; iterate 3 rfl) | (apply ah; iterate 3 rfl)
      | (apply bn; iterate 6 rfl) | (apply aF; iterate 4 rfl) | (apply dI; iterate 3 rfl) | (apply bH; rfl; exact I.a; iterate 4 rfl)
      | (apply jF; iterate 9 rfl) | (apply aT; rfl; rfl; rfl; intro _)
      | (apply aI; rfl; exact saA; iterate 4 rfl)
      | ((apply ig; rfl; exact saA; (iterate 5 rfl); (focus (constructor <;> (first | (simp; done) | (simp; omega))))); intro _)
      | apply EL.nil | (apply EC.t0; rfl) | (apply EC.f0; rfl)
      | (with_reducible first | apply EK.nc | apply EC.seq | apply EC.r0 | apply EC.k0 | apply EC.b0 | apply EK.n0))
    rename_i v2 _
    simp only [hou]
    refine EK.again ⟨(g', .mk kl kb kx, r, fu, v2, out ++ [b]), e3, fun c hc => hp c (e5 c hc), by dsimp only; omega, by rw [List.length_append]; dsimp only [List.length_cons, List.length_nil]; omega, by dsimp only; rw [List.append_assoc]; exact hch⟩ (by dsimp only; omega) ?_
    dsimp only
    rw [aO]
    exact Le.kp
theorem uf : ∀ {ns : List Pr} {h : List UInt8}, (∃ y ∈ ns, y.1 = h) → ∃ b, lG ns h = some b
 | [], h, ⟨y, hy, _⟩ => by cases hy
 | z :: ns, h, ⟨y, hy, e⟩ => by
  rw [lG]
  split
  · exact ⟨_, rfl⟩
  ·
   rename_i hq
   refine uf ⟨y, ?_, e⟩
   rcases XB.1 hy with rfl | hy
   · exact absurd (by simpa using e) hq
   · exact hy
theorem Ny {S l ns : List Pr} (h : Sn S l) (hns : G6 l ns) {u : List UInt8} (hu : u ∈ bZ 200 (l.map sp) ++ [pkB (aB 200 (l.map sp))]) : lG ns (hash u) = some u := by
 obtain ⟨b, hb⟩ := uf (hns.2.2 h.ne u hu)
 obtain ⟨v, hv, e⟩ := hns.2.1 _ (uU hb)
 obtain ⟨e1, e2⟩ := Prod.mk.inj e
 have hS : ∀ w ∈ bZ 200 (l.map sp) ++ [pkB (aB 200 (l.map sp))], (hash w, w) ∈ S := fun w hw => by
  rcases XJ.1 hw with hw | hw
  · exact h.strs w hw
  ·
   obtain rfl : w = _ := by simpa using hw
   exact h.top
 have h1 := hS u hu
 have h2 := hS v hv
 rw [e1] at h1
 rw [hb, e2, qp h.srt h1 h2]
theorem nX (ns : List Pr) (f : Nat) (x : Raw) (p : List UInt8) : qH ns (f + 1) x p = if isL x then (if (dwn x p).2.2.2 then qH ns f (dwn x p).1 (dwn x p).2.1 else []) else match lG ns (bts x) with
  | none => []
  | some b => b :: (if (dwn (rdX b) p).2.2.2 then qH ns f (dwn (rdX b) p).1 (dwn (rdX b) p).2.1 else []) := rfl
theorem EX (ns : List Pr) : ∀ (f g : Nat) (l : List Pr) (p : List UInt8), iV l → l.isEmpty = false → (∀ x ∈ l, x.1.length < f) → (∀ c ∈ p, c.toNat < 16) → p.length < g → (∀ u ∈ jG l (bZ f l) (aB f l), lG ns (hash u) = some u) → qH ns g (dX l (aB f l)) p = hsh (aB f l) ++ pfE f l p
 | 0, g, l, p, hg, hl, hf, hp, hpg, hu => by
  cases l with
  | nil => cases hl
  | cons x _ => exact absurd (hf x List.mem_cons_self) (Yc _)
 | f + 1, 0, l, p, hg, hl, hf, hp, hpg, hu => absurd hpg (Yc _)
 | f + 1, g + 1, l, p, hg, hl, hf, hp, hpg, hu => by
  have hrest : (if (dwn (aB (f + 1) l) p).2.2.2 then qH ns g (dwn (aB (f + 1) l) p).1 (dwn (aB (f + 1) l) p).2.1 else []) = pfE (f + 1) l p := by
   rw [pfE]
   rcases oK f l hg hl hf p hp with ⟨h1, h2, h3⟩ | ⟨l', p', h1, h2, h3, h4, h5, h6, h7, h8, h9, _⟩
   · rw [h1, h2, if_neg Xv]
   ·
    rw [h1, h2, if_pos rfl]
    refine EX ns f g l' p' h4 h3 h5 (fun c hc => hp c (h8 c hc)) (by omega) fun u hu' => hu u ?_
    unfold jG
    rw [hl, if_neg Xv]
    exact XJ.2 (.inl (h9 u hu'))
  have h5 := FP (f := f + 1) hl hf
  obtain ⟨_, e2, _⟩ := rX (f := f + 1) hg
  rw [nX, ← hrest]
  unfold dX nG hsh
  rw [hl, if_neg Xv]
  by_cases h32 : (pkB (aB (f + 1) l)).length < 32
  · rw [if_pos h32, if_pos h32, if_pos h5, List.nil_append]
  ·
   rw [if_neg h32, if_neg h32, if_neg (show ¬ isL (.mk false (hash (pkB (aB (f + 1) l))) []) = true from Xv)]
   rw [show bts (.mk false (hash (pkB (aB (f + 1) l))) []) = hash (pkB (aB (f + 1) l)) from rfl]
   rw [hu (pkB (aB (f + 1) l)) (by
    unfold jG
    rw [hl, if_neg Xv, if_neg h32]
    exact XJ.2 (.inr (by simp)))]
   dsimp only
   rw [e2]
   rfl
theorem OV {S l ns : List Pr} (h : Sn S l) (hns : G6 l ns) {key : List UInt8} (hk : key.length ≤ 150) : qH ns 400 (.mk false (iH l) []) (split key) = fH l key := by
 obtain ⟨hg, hl, hf⟩ := h.good
 have hnib : ∀ c ∈ split key, c.toNat < 16 := fun c hc => by have := iG key c hc; omega
 have hsl := dB key
 have hr : iH l = hash (pkB (aB 200 (l.map sp))) := by
  unfold iH
  rw [if_neg (show ¬ ji l ≠ 0 from fun e => e h.ok)]
  rw [if_neg (show ¬ l.isEmpty = true by cases l with | nil => exact absurd rfl h.ne | cons _ _ => exact Xv)]
 have hfind : ∀ u ∈ bZ 200 (l.map sp) ++ [pkB (aB 200 (l.map sp))], lG ns (hash u) = some u := fun u hu => Ny h hns hu
 have hle : l.isEmpty = false := by cases l with | nil => exact absurd rfl h.ne | cons _ _ => rfl
 unfold fH
 rw [hle, if_neg Xv, hr]
 obtain ⟨F, hF⟩ : ∃ F, F = 199 := ⟨_, rfl⟩
 obtain ⟨G, hG⟩ : ∃ G, G = 399 := ⟨_, rfl⟩
 rw [show 200 = F + 1 by omega, show 400 = G + 1 by omega] at *
 rw [nX, if_neg (show ¬ isL (.mk false (hash (pkB (aB (F + 1) (l.map sp)))) []) = true from Xv)]
 rw [show bts (.mk false (hash (pkB (aB (F + 1) (l.map sp)))) []) = hash (pkB (aB (F + 1) (l.map sp))) from rfl]
 rw [hfind _ (XJ.2 (.inr (by simp)))]
 dsimp only
 obtain ⟨_, e2, _⟩ := rX (f := F + 1) hg
 rw [e2, pfE]
 congr 1
 rcases oK F _ hg hl hf _ hnib with ⟨h1, h2, h3⟩ | ⟨l', p', h1, h2, h3, h4, h5, h6, h7, h8, h9, _⟩
 · rw [h1, h2, if_neg Xv]
 ·
  rw [h1, h2, if_pos rfl]
  exact EX ns F G l' p' h4 h3 h5 (fun c hc => hnib c (h8 c hc)) (by omega) fun u hu' => hfind u (XJ.2 (.inl (h9 u hu')))
theorem Rw {l ns : List Pr} (he : ji l = 0) (hn : l ≠ []) (hns : G6 l ns) (key : List UInt8) : qH ns 400 (.mk false (iH l) []) (split key) ≠ [] := by
 have hr : iH l = hash (pkB (aB 200 (l.map sp))) := by
  unfold iH
  rw [if_neg (show ¬ ji l ≠ 0 from fun e => e he)]
  rw [if_neg (show ¬ l.isEmpty = true by cases l with | nil => exact absurd rfl hn | cons _ _ => exact Xv)]
 obtain ⟨b, hb⟩ := uf (hns.2.2 hn _ (XJ.2 (.inr List.mem_cons_self)))
 obtain ⟨G, hG⟩ : ∃ G, G = 399 := ⟨_, rfl⟩
 rw [show 400 = G + 1 by omega, nX, if_neg (show ¬ isL (.mk false (iH l) []) = true from Xv)]
 rw [show bts (.mk false (iH l) []) = iH l from rfl, hr, hb]
 exact List.cons_ne_nil _ _
theorem uG {ns : List Pr} : ∀ (f : Nat) (x : Raw) (p : List UInt8), ∀ b ∈ qH ns f x p, ∃ h, (h, b) ∈ ns
 | 0, x, p, b, hb => by cases hb
 | f + 1, x, p, b, hb => by
  rw [nX] at hb
  split at hb
  ·
   split at hb
   · exact uG f _ _ b hb
   · cases hb
  ·
   split at hb
   · cases hb
   ·
    rename_i c hc
    rcases XB.1 hb with rfl | hb
    · exact ⟨_, uU hc⟩
    ·
     split at hb
     · exact uG f _ _ b hb
     · cases hb
theorem UM {b : List UInt8} (h : NdB b) : b ≠ [] := fun e => by
 subst e
 have h2 := h.2
 rw [show rdX [] = .mk false [] [] from rfl] at h2
 cases h2
def bytesOf : Nat → Nat → List UInt8 → List UInt8
 | 0, _, t => t
 | k + 1, m, t => bytesOf k (m / 256) (UInt8.ofNat m :: t)

theorem Tt (a b : BitVec 8) : bits .xor .u8 (a.toNat : Int) (b.toNat : Int) = ((a ^^^ b).toNat : Int) := by
 rw [u8_xor_nat _ _ a.isLt b.isLt, BitVec.toNat_xor]
theorem Vw (a b : UInt8) : Bin .xor 5 (.v (bv a)) (.v (bv b)) (bv (a ^^^ b)) := DZ rfl fun w => by
 show Result.ok (Value.int .u8 (bits .xor .u8 (a.toBitVec.toNat : Int) (b.toBitVec.toNat : Int))) w = _
 rw [Tt]
 rfl
theorem VL {a b : UInt8} (h : b ≠ 0) : a ^^^ b ≠ a := fun e => by
 apply h
 have h1 : a.toBitVec ^^^ b.toBitVec = a.toBitVec := congrArg UInt8.toBitVec e
 have h2 : b.toBitVec = 0 := by
  have h3 : a.toBitVec ^^^ (a.toBitVec ^^^ b.toBitVec) = a.toBitVec ^^^ a.toBitVec := by rw [h1]
  rw [← BitVec.xor_assoc, BitVec.xor_self, BitVec.zero_xor] at h3
  exact h3
 exact UInt8.toBitVec_inj.1 h2
section
variable {S l : List Pr} (h : Sn S l)
include h
theorem Sn.less {key : List UInt8} (hk : key.length ≤ 70) {k : Nat} (hkp : k < (fH l key).length) : xQ (jM l) key ((fH l key).take k ++ (fH l key).drop (k + 1)) = ([], 5) := by
 have e : fH l key = (fH l key).take k ++ (fH l key)[k] :: (fH l key).drop (k + 1) := by
  rw [← XI hkp, X7]
 refine h.bad hk e fun c t hq => ?_
 rw [hq] at e
 exact h.next e
theorem Sn.more {key : List UInt8} (hk : key.length ≤ 70) (b : List UInt8) : xQ (jM l) key (fH l key ++ [b]) = ([], 3) := by
 rw [h.complete hk [b], if_neg (by simp)]
theorem Sn.turn {key : List UInt8} (hk : key.length ≤ 70) {k : Nat} (hkp : k < (fH l key).length) {b : List UInt8} (hb : (hash b, b) ∈ S) (hne : b ≠ (fH l key)[k]) : xQ (jM l) key ((fH l key).set k b) = ([], 5) := by
 have e : fH l key = (fH l key).take k ++ (fH l key)[k] :: (fH l key).drop (k + 1) := by
  rw [← XI hkp, X7]
 have h2 : (fH l key).set k b = (fH l key).take k ++ b :: (fH l key).drop (k + 1) := by rw [List.set_eq_take_append_cons_drop, if_pos hkp]
 rw [h2]
 refine h.bad hk e fun c t hq he => ?_
 obtain ⟨rfl, _⟩ := List.cons.inj hq
 have h3 := h.mem key _ (XW hkp)
 rw [← he] at h3
 exact hne (qp h.srt hb h3)
end
theorem Uz {p : List UInt8} {j : Nat} {c b : UInt8} (hj : p[j]? = some b) (hc : c ≠ b) : p.set j c ≠ p := fun e => by
 have h1 := congrArg (·[j]?) e
 obtain ⟨hlt, _⟩ := XC.1 hj
 simp only [Zr, if_pos hlt, hj] at h1
 exact hc (by simpa using h1)
end E
end Go.Proofs.YtelbhdobjdnglaaGreat
