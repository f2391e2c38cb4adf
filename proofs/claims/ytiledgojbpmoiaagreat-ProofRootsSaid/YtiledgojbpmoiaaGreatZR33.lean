/-
 Merged (wip/tools/merge.py): PFC, SD6, KecDog, AL1, StrBytes, KecText, AL2, BGP, PG1, BR6, TA1, TA2.
 Conditions: none.
-/
import Derived.Test.YtiledgojbpmoiaaGreatZR25
import Derived.Test.YtiledgojbpmoiaaGreatZR32
import Derived.Test.YtiledgojbpmoiaaGreatZR31
import Derived.Test.YtiledgojbpmoiaaGreatZR3
import Derived.Lib.ConvBytes
import Derived.Test.YtiledgojbpmoiaaGreatZR2
import Derived.Test.YtiledgojbpmoiaaGreatZR26
import Derived.Test.YtiledgojbpmoiaaGreatZR29
import Derived.Test.YtiledgojbpmoiaaGreatZR17
namespace Go.Proofs.YtiledgojbpmoiaaGreat
set_option linter.unusedVariables false
set_option maxRecDepth 20000
set_option maxHeartbeats 16000000
open Go.RowKit Mono Rlp
namespace E
def pK : Tn → Nd
 | .nil => .nil
 | .leaf p v => .leaf p v
 | .ext p k => .ext p (pK k)
 | .br ks v => .br (fun i => pK (ks i)) v
theorem zI : ∀ t : Tn, dN (pK t) = dT t
 | .nil => rfl
 | .leaf p v => rfl
 | .ext p k => by rw [pK, dN, dT, zI k]
 | .br ks v => by
  rw [pK, dN, dT]
  have : ∀ i, dN (pK (ks i)) = dT (ks i) := fun i => zI (ks i)
  simp only [this]
theorem Oq (t : Tn) (p : List UInt8) : (gB (pK t) p).1 = pK (stepT t p).1 ∧ ((stepT t p).1.isNil = false → (gB (pK t) p).2.1 = (stepT t p).2) := by
 cases t with
 | nil => rw [pK, show gB .nil p = (.nil, [], []) by cases p <;> rfl]; exact ⟨by cases p <;> rfl, fun h => by cases p <;> cases h⟩
 | leaf q v =>
  rw [pK, kG, show stepT (.leaf q v) p = (.nil, []) by cases p <;> rfl]
  exact ⟨by split <;> rfl, fun h => by cases h⟩
 | ext q k =>
  rw [pK, nD, stepT]
  split
  · exact ⟨rfl, fun _ => rfl⟩
  · exact ⟨rfl, fun h => by cases h⟩
 | br ks v =>
  cases p with
  | nil => exact ⟨rfl, fun h => by cases h⟩
  | cons c r => exact ⟨rfl, fun _ => rfl⟩
theorem Ou {t : Tn} (h : t.ok) (p : List UInt8) : (stepT t p).1.ok := by
 cases t with
 | nil => rw [show stepT .nil p = (.nil, []) by cases p <;> rfl]; exact trivial
 | leaf q v => rw [show stepT (.leaf q v) p = (.nil, []) by cases p <;> rfl]; exact trivial
 | ext q k =>
  rw [stepT]
  split
  · exact h.2
  · exact trivial
 | br ks v =>
  cases p with
  | nil => exact trivial
  | cons c r => exact h c.toNat
theorem GN (t : Tn) : Bin .neq 125 (dT t) (.v .nilIface) (.bool !t.isNil) := by
 have := kL (pK t)
 rw [zI] at this
 have e : (pK t).isNil = t.isNil := by cases t <;> rfl
 rwa [e] at this
def Tv (tot : List (List UInt8)) (t : Tn) (p : List UInt8) (out : List (List UInt8)) : Prop :=
 t.ok ∧ (∀ c ∈ p, c.toNat < 16) ∧ ((t.isNil = true ∧ out = tot) ∨ ∃ f l g, TR f l t ∧ jh l ∧ (∀ x ∈ l, x.1.length < f) ∧ p.length < g ∧ out ++ yN g t p (decide (out.length = 0)) = tot)
def msT (t : Tn) (p : List UInt8) : Nat := if t.isNil then 0 else p.length + 1
theorem Lr (n : Nd) (p : List UInt8) : ∀ c ∈ (gB n p).2.1, c ∈ p := by
 cases n with
 | nil => rw [show gB .nil p = (.nil, [], []) by cases p <;> rfl]; intro c hc; cases hc
 | hash w => rw [show gB (.hash w) p = (.nil, [], []) by cases p <;> rfl]; intro c hc; cases hc
 | leaf q v =>
  rw [kG]
  intro c hc
  split at hc <;> cases hc
 | ext q k =>
  rw [nD]
  intro c hc
  split at hc
  · exact List.mem_of_mem_drop hc
  · cases hc
 | br ks v =>
  intro c hc
  cases p with
  | nil => cases hc
  | cons d r => exact List.mem_cons_of_mem _ hc
theorem MG {tot out : List (List UInt8)} {t : Tn} {p r : List UInt8} (h : Tv tot t p out) (hn : t.isNil = false) (hr : ∀ c ∈ r, c ∈ p) (hr2 : (stepT t p).1.isNil = false → r = (stepT t p).2) :
  Tv tot (stepT t p).1 r (out ++ if out.length = 0 ∨ 32 ≤ (pkB (eu t)).length then [pkB (eu t)] else []) ∧ msT (stepT t p).1 r < msT t p := by
 obtain ⟨hok, hp, h | ⟨f, l, g, h1, h2, h3, h4, h5⟩⟩ := h
 ·
  rw [hn] at h
  cases h.1
 ·
  obtain ⟨g, rfl⟩ : ∃ n, g = n + 1 := ⟨g - 1, by omega⟩
  obtain ⟨f, rfl⟩ : ∃ n, f = n + 1 := by
   cases f with
   | zero => exact h1.elim
   | succ f => exact ⟨f, rfl⟩
  rw [yN, if_neg (by rw [hn]; decide), ← List.append_assoc] at h5
  have e1 : (if decide (out.length = 0) || decide (32 ≤ (pkB (eu t)).length) then [pkB (eu t)] else []) = (if out.length = 0 ∨ 32 ≤ (pkB (eu t)).length then [pkB (eu t)] else []) := by
   by_cases ha : out.length = 0 <;> by_cases hb : 32 ≤ (pkB (eu t)).length <;> simp [ha, hb]
  rw [e1] at h5
  have hne : (out ++ if out.length = 0 ∨ 32 ≤ (pkB (eu t)).length then [pkB (eu t)] else []).length ≠ 0 := by
   rw [List.length_append]
   by_cases ha : out.length = 0
   ·
    rw [if_pos (.inl ha)]
    simp
   · omega
  generalize (out ++ if out.length = 0 ∨ 32 ≤ (pkB (eu t)).length then [pkB (eu t)] else []) = out' at h5 hne ⊢
  have hms : ∀ q : List UInt8, ((stepT t p).1.isNil = false → q.length < p.length) → msT (stepT t p).1 q < msT t p := fun q hq => by
   unfold msT
   rw [hn, if_neg Bool.false_ne_true]
   cases hs : (stepT t p).1.isNil with
   | true =>
    rw [if_pos rfl]
    omega
   | false =>
    have := hq hs
    rw [if_neg Bool.false_ne_true]
    omega
  have hso := Ou hok p
  rcases Jy h1 p hp with ⟨a1, a2⟩ | ⟨l', p', t', a1, a2, a3⟩
  ·
   rw [a2, CY, List.append_nil] at h5
   exact ⟨⟨hso, fun c hc => hp c (hr c hc), .inl ⟨by rw [a2]; rfl, h5⟩⟩, hms _ fun h => by rw [a2] at h; cases h⟩
  ·
   rcases qB f l h2 (lK h1).2 h3 p hp with ⟨e1, _⟩ | ⟨l2, p2, e1, _, _, e4, e5, _, e7, e8, _, _⟩
   · rw [a1] at e1; cases e1
   ·
    rw [a1] at e1
    injection e1 with e1
    obtain ⟨rfl, rfl⟩ := Prod.mk.inj e1
    rw [a2] at h5 hso hms hr2 ⊢
    dsimp only at h5 hso hms hr2 ⊢
    obtain rfl := hr2 (lK a3).1
    refine ⟨⟨hso, fun c hc => hp c (e8 c hc), .inr ⟨f, l', g, a3, e4, e5, by omega, ?_⟩⟩, hms _ fun _ => e7⟩
    rw [decide_eq_false hne]
    exact h5
theorem Fa : ∀ (g : Nat) (t : Tn) (p : List UInt8) (b : Bool), (yN g t p b).length ≤ g
 | 0, _, _, _ => Nat.le_refl _
 | g + 1, t, p, b => by
  rw [yN]
  split
  · exact Nat.zero_le _
  ·
   rw [List.length_append]
   have := Fa g (stepT t p).1 (stepT t p).2 false
   split <;> simp <;> omega
def uY (l : List Pr) (key : List UInt8) : List (List UInt8) := if fP l = 0 then yN 400 (kT l) (split key) true else []
theorem SI (l : List Pr) (key : List UInt8) (hk : key.length ≤ 150) : Fn 43 [.sl 2 (l.map dPr), .bs key] (· = .tpl [.sl 1 ((uY l key).map D.bs), .v (.int .i64 (fP l : Int))]) := by
 have hT := Jc l
 have hS := qx key (by omega)
 have hnib : ∀ c ∈ split key, c.toNat < 16 := fun c hc => by have := iU key c hc; omega
 have hsl := dG key
 refine FnM.toFn ?_
 unfold uY
 by_cases he : fP l = 0
 ·
  rw [if_pos he]
  rw [if_pos he] at hT
  rw [he]
  generalize htot : yN 400 (kT l) (split key) true = tot
  have hI : Tv tot (kT l) (split key) [] := by
   refine ⟨Cj he, hnib, ?_⟩
   by_cases hn : l = []
   ·
    subst hn
    have e : kT [] = .nil := by
     unfold kT
     rw [show srt (([] : List Pr).map sp) = [] from List.Perm.eq_nil (gX _), zQ]
    rw [e, CY] at htot
    rw [e]
    exact .inl ⟨rfl, htot⟩
   · exact .inr ⟨200, _, 400, Cm he hn, zo he, IG he, by omega, htot⟩
  have htl : tot.length ≤ 400 := by
   rw [← htot]
   exact Fa _ _ _ _
  clear htot hk hsl
  generalize split key = p0 at *
  generalize kT l = t0 at *
  refine FnM.walk 45 Tryz.func43 rfl Tryz.ntmps43 (by simp) fun X => ?_
  repeat
   (first
    | (apply aA (hT); rfl; exact aj.refl _ _; exact enA; iterate 2 rfl) | (apply aA (hS); rfl; exact aj.refl _ _; exact enA; iterate 2 rfl)
    | (apply au; iterate 3 rfl) | (apply ak; iterate 3 rfl) | (apply aF; iterate 4 rfl)
    | (apply aC (b := false); (iterate 2 rfl); exact aO; iterate 2 rfl) | apply EL.nil | ((with_reducible apply EK.ah); apply EK.code) | (apply EC.cond_false; rfl)
    | (with_reducible first | apply EC.seq | apply EC.region | apply EC.skip | apply EC.block))
  refine EC.le (Le.row 30 1) ?_
  refine EC.loop (ι := {x : Tn × List UInt8 × List (List UInt8) × Value // Tv tot x.1 x.2.1 x.2.2.1})
   (fun x => ⟨[(6, .val (dT x.1.1)), (9, .val (.bs x.1.2.1)), (8, .val (.v x.1.2.2.2))], [.row x.1.2.2.2 30 1 (x.1.2.2.1.map D.bs)], []⟩)
   (fun x => msT x.1.1 x.1.2.1) ⟨(t0, p0, [], .slice none 0 0), hI⟩ ?_ ?_
  · exact Le.kp
  rintro ⟨⟨t, p, out, v⟩, hc⟩
  dsimp only at hc ⊢
  have hml : (out.map D.bs).length = out.length := List.length_map _
  have hnn := GN t
  cases hn : t.isNil with
  | true =>
   rw [hn] at hnn
   have hout : out = tot := by
    obtain ⟨_, _, h | ⟨f, l, g, h1, _⟩⟩ := hc
    · exact h.2
    ·
     rw [(lK h1).1] at hn
     cases hn
   subst hout
   refine EC.le (Le.freeze (pre := []) rfl) ?_
   simp only [List.nil_append]
   repeat
    (first
     | (apply dY; (iterate 2 rfl); exact hnn; iterate 2 rfl) | (apply au; iterate 3 rfl) | (apply ak; iterate 3 rfl) | apply EL.nil
     | ((with_reducible apply EK.ah); apply EK.code) | (apply EC.cond_false; rfl)
     | (with_reducible first | apply EC.seq | apply EC.region | apply EC.exit | apply EC.ret | apply EK.bG | apply EK.aQ))
   exact EK.bT [] rfl rfl rfl (RL.cons (Rf.fact List.mem_cons_self rfl) (RL.cons Rf.same RL.nil)) (List.nil_sublist _) ⟨rfl, rfl⟩
  | false =>
   rw [hn] at hnn
   have hol : out.length ≤ 400 := by
    obtain ⟨_, _, h | ⟨f, l, g, _, _, _, _, h5⟩⟩ := hc
    ·
     rw [h.2]
     exact htl
    ·
     rw [← h5, List.length_append] at htl
     omega
   have hB := Kq t hc.1 hn
   have hst := vO (pK t) p hc.2.1
   rw [zI] at hst
   obtain ⟨e1, e2⟩ := Oq t p
   obtain ⟨hnx, hms⟩ := MG hc hn (Lr (pK t) p) e2
   unfold stepD at hst
   rw [e1, zI] at hst
   generalize (gB (pK t) p).2.1 = r1 at *
   generalize (gB (pK t) p).2.2 = r2 at *
   generalize (stepT t p).1 = t2 at *
   generalize pkB (eu t) = b at *
   by_cases hz : out.length = 0
   ·
    rw [if_pos (.inl hz)] at hnx
    have hc0 : dL .eql ((out.map D.bs).length : Int) 0 = some true := by
     have : ((out.map D.bs).length : Int) = 0 := by omega
     rw [this]
     rfl
    repeat
     (first
      | (apply fF; iterate 2 rfl) | (apply dY; (iterate 2 rfl); exact hnn; iterate 2 rfl)
      | (apply aA (hB); rfl; exact aj.refl _ _; exact enA; iterate 2 rfl) | (apply aA (hst); rfl; exact aj.refl _ _; exact enA; iterate 2 rfl)
      | (apply aC (b := true); (iterate 2 rfl); exact hc0; iterate 2 rfl)
      | (apply je; rfl; exact .z; (iterate 5 rfl); (focus (constructor <;> (first | (simp; done) | (simp; omega)))); intro v2) | (apply au; iterate 3 rfl)
      | (apply ak; iterate 3 rfl) | (apply aF; iterate 4 rfl) | (apply aT; iterate 4 rfl) | (apply qK; rfl; exact I.a; iterate 3 rfl)
      | (apply jD; iterate 9 rfl) | apply EL.nil | ((with_reducible apply EK.ah); apply EK.code) | (apply EC.cond_true; rfl)
      | (with_reducible first | apply EC.seq | apply EC.region | apply EC.skip | apply EC.block | apply EK.aI))
    refine EK.again ⟨(t2, r1, out ++ [b], v2), hnx⟩ (by exact hms) ?_
    dsimp only
    rw [List.map_append]
    exact Le.kp
   ·
    have hc0 : dL .eql ((out.map D.bs).length : Int) 0 = some false := by
     simp only [dL, Option.some.injEq, beq_eq_false_iff_ne]
     omega
    by_cases h32 : 32 ≤ b.length
    ·
     rw [if_pos (.inr h32)] at hnx
     repeat
      (first
       | (apply dY; (iterate 2 rfl); exact hnn; iterate 2 rfl) | (apply aA (hB); rfl; exact aj.refl _ _; exact enA; iterate 2 rfl)
       | (apply aA (hst); rfl; exact aj.refl _ _; exact enA; iterate 2 rfl) | (apply aC (b := false); (iterate 2 rfl); exact hc0; iterate 2 rfl)
       | (apply je; rfl; exact .z; (iterate 5 rfl); (focus (constructor <;> (first | (simp; done) | (simp; omega)))); intro v2) | (apply au; iterate 3 rfl)
       | (apply ak; iterate 3 rfl) | (apply aF; iterate 4 rfl) | (apply aT; iterate 4 rfl)
       | (apply aC (b := true); (iterate 2 rfl); exact aO; iterate 2 rfl) | (apply aU; iterate 4 rfl) | (apply qK; rfl; exact I.a; iterate 3 rfl)
       | (apply jD; iterate 9 rfl) | apply EL.nil | ((with_reducible apply EK.ah); apply EK.code) | (apply EC.cond_true; rfl)
       | (with_reducible first | apply EC.seq | apply EC.region | apply EC.skip | apply EC.block | apply EK.aI))
     refine EK.again ⟨(t2, r1, out ++ [b], v2), hnx⟩ (by exact hms) ?_
     dsimp only
     rw [List.map_append]
     exact Le.kp
    ·
     rw [if_neg (by omega), List.append_nil] at hnx
     repeat
      (first
       | (apply dY; (iterate 2 rfl); exact hnn; iterate 2 rfl) | (apply aA (hB); rfl; exact aj.refl _ _; exact enA; iterate 2 rfl)
       | (apply aA (hst); rfl; exact aj.refl _ _; exact enA; iterate 2 rfl) | (apply aC (b := false); (iterate 2 rfl); exact hc0; iterate 2 rfl)
       | (apply au; iterate 3 rfl) | (apply ak; iterate 3 rfl) | (apply aF; iterate 4 rfl) | (apply aT; iterate 4 rfl)
       | (apply aC (b := false); (iterate 2 rfl); exact aO; iterate 2 rfl) | (apply aU; iterate 4 rfl) | (apply qK; rfl; exact I.a; iterate 3 rfl)
       | apply EL.nil | ((with_reducible apply EK.ah); apply EK.code) | (apply EC.cond_true; rfl) | (apply EC.cond_false; rfl)
       | (with_reducible first | apply EC.seq | apply EC.region | apply EC.skip | apply EC.block | apply EK.aI))
     refine EK.again ⟨(t2, r1, out, v), hnx⟩ (by exact hms) ?_
     exact Le.kp
 ·
  rw [if_neg he]
  rw [if_neg he] at hT
  have hne : (fP l : Int) ≠ 0 := by omega
  refine FnM.walk 45 Tryz.func43 rfl Tryz.ntmps43 (by simp) fun X => ?_
  repeat
   (first
    | (apply aA (hT); rfl; exact aj.refl _ _; exact enA; iterate 2 rfl) | (apply au; iterate 3 rfl) | (apply ak; iterate 3 rfl)
    | (apply aF; iterate 4 rfl) | (apply aC (b := true); (iterate 2 rfl); exact aO; iterate 2 rfl) | apply EL.nil | ((with_reducible apply EK.ah); apply EK.code)
    | (apply EC.cond_true; rfl) | (with_reducible first | apply EC.seq | apply EC.region | apply EC.ret | apply EK.aH))
  exact EK.bT [] rfl rfl rfl (RL.cons Rf.sl0 (RL.cons Rf.same RL.nil)) (List.nil_sublist _) ⟨rfl, rfl⟩
abbrev Qq (l : List Pr) : D := .sl 2 (l.map dPr)
def Clr (ls : List (List Pr)) : Prop := ∃ S : List Pr, Srt S ∧ ∀ l ∈ ls, fP l = 0 → ∀ x ∈ ni l, (hash x, x) ∈ S
theorem clear_ (ls : List (List Pr)) (hls : ls.length ≤ 40) : FnM 24 [.sl 1 (ls.map Qq)] [] (fun r os' => ∃ b, (b = true → Clr ls) ∧ r = .val (.v (.bool b)) ∧ os' = []) := by
 have hml : (ls.map Qq).length = ls.length := List.length_map _
 refine FnM.walk 28 Tryz.func24 rfl Tryz.ntmps24 (by simp) fun X => ?_
 repeat
  (first
   | (apply gU; rfl; rfl; rfl; intro gs) | (apply ak; iterate 3 rfl) | (apply eU; iterate 7 rfl) | apply EL.nil
   | ((with_reducible apply EK.ah); apply EK.code) | (with_reducible first | apply EC.seq | apply EC.region | apply EC.block))
 refine EC.le (Le.row 56 33) ?_
 refine EC.le (Le.pick [1, 0] [_, _] rfl (by decide) rfl) ?_
 refine EC.loop (ι := {x : Nat × Value × List Pr // x.1 ≤ ls.length ∧ Srt x.2.2 ∧ x.2.2.length ≤ x.1 * 20000002 ∧ ∀ j, (hj : j < ls.length) → j < x.1 → fP ls[j] = 0 → ∀ y ∈ ni ls[j], (hash y, y) ∈ x.2.2})
  (fun x => ⟨[(4, .val (.v (.int .i64 (x.1.1 : Int)))), (3, .val (.v (ptr gs))), (0, .val (.sl 1 (ls.map Qq)))], [sdO gs x.1.2.1, sdR x.1.2.1 x.1.2.2], []⟩)
  (fun x => ls.length - x.1.1) ⟨(0, .slice none 0 0, []), Nat.zero_le _, .nil, Nat.zero_le _, fun j _ hj => absurd hj (Nat.not_lt_zero _)⟩ ?_ ?_
 · exact Le.kp
 rintro ⟨⟨i, v, S⟩, hi, hS, hSl, hall⟩
 dsimp only at hi hS hSl hall ⊢
 by_cases hlt : i < ls.length
 ·
  have hd : (ls.map Qq)[i]? = some (.sl 2 (ls[i].map dPr)) := by rw [List.getElem?_map, List.getElem?_eq_getElem hlt]; rfl
  have hM := oW ls[i]
  by_cases he : fP ls[i] = 0
  ·
   have hT := Rh gs v S ls[i] hS (by omega) he
   have hlen := (Qk.1 he).1
   have hall1 : ∀ b S', Jp (ni ls[i]) (2 + 200 * ls[i].length) S S' b → b = true → ∀ j, (hj : j < ls.length) → j < i + 1 → fP ls[j] = 0 → ∀ y ∈ ni ls[j], (hash y, y) ∈ S' := fun b S' h hb j hj hji hje y hy => by
    rcases Nat.lt_or_ge j i with h2 | h2
    · exact h.2.2.1 _ (hall j hj h2 hje y hy)
    ·
     obtain rfl : j = i := by omega
     exact h.2.2.2 hb y hy
   rw [he] at hM
   generalize ls[i] = l at hd hM hT hlen hall1
   repeat
    (first
     | (apply aA (hM); rfl; exact aj.refl _ _; exact enA; iterate 2 rfl) | (apply au; iterate 3 rfl) | (apply aK; iterate 5 rfl)
     | (apply aC (b := true); (iterate 2 rfl); exact aO; iterate 2 rfl) | (apply aC (b := false); (iterate 2 rfl); exact aO; iterate 2 rfl)
     | (apply aJ; iterate 4 rfl)
     | (apply bJ; (iterate 4 rfl); (focus (first | exact ⟨by decide, rfl⟩ | (refine ⟨by omega, ?_⟩; rw [Int.toNat_natCast]; assumption))); iterate 2 rfl) | apply EL.nil
     | ((with_reducible apply EK.ah); apply EK.code) | (apply EC.cond_true; rfl) | (apply EC.cond_false; rfl)
     | (with_reducible first | apply EC.seq | apply EC.region | apply EC.skip | apply EC.block))
   refine jE hT [] [] rfl rfl (aj.refl _ _) (by intro _ _; simp [go_sem]) rfl rfl ?_
   rintro _ _ ⟨b, v', S', hsn, rfl, rfl⟩
   simp only [List.cons_append, List.nil_append]
   cases b with
   | true =>
    repeat
     (first
      | (apply au; iterate 3 rfl) | (apply ak; iterate 3 rfl) | (apply dP; iterate 3 rfl)
      | (apply jd; (iterate 3 rfl); (focus omega); (focus omega); iterate 2 rfl) | apply EL.nil | ((with_reducible apply EK.ah); apply EK.code) | (apply EC.cond_false; rfl)
      | (with_reducible first | apply EC.seq | apply EC.region | apply EC.skip | apply EK.aI))
    refine EK.again ⟨(i + 1, v', S'), hlt, hsn.1, by have := hsn.2.1; dsimp only; omega, hall1 _ _ hsn rfl⟩ (by dsimp only; omega) ?_
    simp only [Int.natCast_add]
    exact Le.kp
   | false =>
    repeat
     (first
      | (apply au; iterate 3 rfl) | (apply ak; iterate 3 rfl) | (apply dP; iterate 3 rfl) | apply EL.nil | ((with_reducible apply EK.ah); apply EK.code)
      | (apply EC.cond_true; rfl) | (with_reducible first | apply EC.seq | apply EC.region | apply EC.ret | apply EK.dV | apply EK.aH))
    exact EK.iy [] rfl rfl (List.nil_sublist _) ⟨false, (fun h => by cases h), rfl, rfl⟩
  ·
   have hne : (fP ls[i] : Int) ≠ 0 := by omega
   have hall1 : ∀ j, (hj : j < ls.length) → j < i + 1 → fP ls[j] = 0 → ∀ y ∈ ni ls[j], (hash y, y) ∈ S := fun j hj hji hje y hy => by
    rcases Nat.lt_or_ge j i with h2 | h2
    · exact hall j hj h2 hje y hy
    ·
     obtain rfl : j = i := by omega
     exact absurd hje he
   generalize fP ls[i] = e at hM hne
   generalize ls[i] = l at hd hM
   clear he
   repeat
    (first
     | (apply aA (hM); rfl; exact aj.refl _ _; exact enA; iterate 2 rfl) | (apply au; iterate 3 rfl) | (apply ak; iterate 3 rfl)
     | (apply aK; iterate 5 rfl) | (apply aC (b := true); (iterate 2 rfl); exact aO; iterate 2 rfl)
     | (apply jd; (iterate 3 rfl); (focus omega); (focus omega); iterate 2 rfl) | (apply aJ; iterate 4 rfl)
     | (apply bJ; (iterate 4 rfl); (focus (first | exact ⟨by decide, rfl⟩ | (refine ⟨by omega, ?_⟩; rw [Int.toNat_natCast]; assumption))); iterate 2 rfl) | apply EL.nil
     | ((with_reducible apply EK.ah); apply EK.code) | (apply EC.cond_true; rfl)
     | (with_reducible first | apply EC.seq | apply EC.region | apply EC.skip | apply EC.block | apply EC.exit | apply EK.bG | apply EK.aQ))
   refine EK.again ⟨(i + 1, v, S), hlt, hS, Nat.le_trans hSl (Nat.mul_le_mul_right _ (Nat.le_succ i)), hall1⟩ (by dsimp only; omega) ?_
   simp only [Int.natCast_add]
   exact Le.kp
 ·
  have hie : i = ls.length := by omega
  repeat
   (first
    | (apply au; iterate 3 rfl) | (apply ak; iterate 3 rfl) | (apply aC (b := false); (iterate 2 rfl); exact aO; iterate 2 rfl)
    | (apply aJ; iterate 4 rfl) | apply EL.nil | ((with_reducible apply EK.ah); apply EK.code) | (apply EC.cond_false; rfl)
    | (with_reducible first | apply EC.seq | apply EC.region | apply EC.exit | apply EC.ret | apply EK.bG | apply EK.aQ))
  exact EK.iy [] rfl rfl (List.nil_sublist _) ⟨true, fun _ => ⟨S, hS, fun l hl he y hy => by
   obtain ⟨j, hj, rfl⟩ := List.getElem_of_mem hl
   exact hall j hj (by omega) he y hy⟩, rfl, rfl⟩
end E
end Go.Proofs.YtiledgojbpmoiaaGreat
namespace Go.Proofs.YtiledgojbpmoiaaGreat.Kec
end Go.Proofs.YtiledgojbpmoiaaGreat.Kec
namespace Go.Proofs.YtiledgojbpmoiaaGreat
set_option linter.unusedVariables false
open Go.RowKit Mono Rlp
namespace E

end E
end Go.Proofs.YtiledgojbpmoiaaGreat
namespace Go.Proofs.YtiledgojbpmoiaaGreat
set_option linter.unusedVariables false
open Go.RowKit Mono
def digit (n : Nat) : UInt8 := [48, 49, 50, 51, 52, 53, 54, 55, 56, 57, 97, 98, 99, 100, 101, 102].getD n 0
def text (l : List UInt8) : List UInt8 := [48, 120] ++ l.flatMap fun b => [digit (b.toNat / 16), digit (b.toNat % 16)]
end Go.Proofs.YtiledgojbpmoiaaGreat
namespace Go.Proofs.YtiledgojbpmoiaaGreat
set_option linter.unusedVariables false
set_option maxRecDepth 20000
set_option maxHeartbeats 16000000
open Go.RowKit Mono Rlp
namespace E
def Tf (l : List Pr) : Bool := decide (60 < l.length) || l.any fun x => decide (70 < x.1.length) || decide (300 < x.2.length)
theorem Tj {α : Type} {p : α → Bool} {l : List α} {i : Nat} (h : i < l.length) (hp : p l[i] = true) : l.any p = true := List.any_eq_true.2 ⟨l[i], List.getElem_mem h, hp⟩
theorem Qe (l : List Pr) : Fn 23 [.sl 2 (l.map dPr)] (· = .val (.v (.bool (Tf l)))) := by
 have hml : (l.map dPr).length = l.length := List.length_map _
 refine Fn.walk 29 Tryz.func23 rfl Tryz.ntmps23 (by simp) fun X => ?_
 unfold Tf
 by_cases h60 : 60 < l.length
 ·
  rw [show decide (60 < l.length) = true by simp [h60], Bool.true_or]
  repeat
   (first
    | (apply au; iterate 3 rfl) | (apply ak; iterate 3 rfl) | (apply aC (b := true); (iterate 2 rfl); exact aO; iterate 2 rfl)
    | (apply aJ; iterate 4 rfl) | apply EL.nil | ((with_reducible apply EK.ah); apply EK.code) | (apply EC.cond_true; rfl)
    | (with_reducible first | apply EC.seq | apply EC.region | apply EC.ret | apply EK.aH))
  exact EK.kC rfl rfl rfl
 ·
  rw [show decide (60 < l.length) = false by simp [h60], Bool.false_or]
  repeat
   (first
    | (apply au; iterate 3 rfl) | (apply ak; iterate 3 rfl) | (apply aC (b := false); (iterate 2 rfl); exact aO; iterate 2 rfl)
    | (apply aJ; iterate 4 rfl) | apply EL.nil | ((with_reducible apply EK.ah); apply EK.code) | (apply EC.cond_false; rfl)
    | (with_reducible first | apply EC.seq | apply EC.region | apply EC.skip | apply EC.block))
  refine EC.loop (ι := {i : Nat // i ≤ l.length ∧ (l.take i).any (fun x => decide (70 < x.1.length) || decide (300 < x.2.length)) = false})
   (fun i => ⟨[(3, .val (.v (.int .i64 (i.1 : Int)))), (0, .val (.sl 2 (l.map dPr)))], [], []⟩)
   (fun i => l.length - i.1) ⟨0, Nat.zero_le _, rfl⟩ ?_ ?_
  · exact Le.kp
  rintro ⟨i, hi, hno⟩
  dsimp only at hi ⊢
  by_cases hlt : i < l.length
  ·
   have hd : (l.map dPr)[i]? = some (.tup [.bs l[i].1, .bs l[i].2]) := by rw [List.getElem?_map, List.getElem?_eq_getElem hlt]; rfl
   have htk : l.take (i + 1) = l.take i ++ [l[i]] := List.take_succ_eq_append_getElem hlt
   have hat := Tj (p := fun x : Pr => decide (70 < x.1.length) || decide (300 < x.2.length)) hlt
   generalize l[i] = x at hd htk hat
   by_cases hc : 70 < x.1.length
   ·
    rw [hat (by simp [hc])]
    repeat
     (first
      | (apply fF; iterate 2 rfl) | (apply au; iterate 3 rfl) | (apply ak; iterate 3 rfl) | (apply bf; iterate 7 rfl)
      | (apply aK; iterate 5 rfl) | (apply aT; iterate 4 rfl) | (apply aC (b := true); (iterate 2 rfl); exact aO; iterate 2 rfl)
      | (apply aU; iterate 4 rfl) | (apply aJ; iterate 4 rfl)
      | (apply bJ; (iterate 4 rfl); (focus (first | exact ⟨by decide, rfl⟩ | (refine ⟨by omega, ?_⟩; rw [Int.toNat_natCast]; assumption))); iterate 2 rfl) | apply EL.nil
      | ((with_reducible apply EK.ah); apply EK.code) | (apply EC.cond_true; rfl)
      | (with_reducible first | apply EC.seq | apply EC.region | apply EC.skip | apply EC.block | apply EC.ret | apply EK.dV | apply EK.aH))
    exact EK.kC rfl rfl rfl
   ·
    by_cases hs : 300 < x.2.length
    ·
     rw [hat (by simp [hs])]
     repeat
      (first
       | (apply au; iterate 3 rfl) | (apply ak; iterate 3 rfl) | (apply bf; iterate 7 rfl) | (apply aK; iterate 5 rfl)
       | (apply aT; iterate 4 rfl) | (apply aC (b := true); (iterate 2 rfl); exact aO; iterate 2 rfl)
       | (apply aC (b := false); (iterate 2 rfl); exact aO; iterate 2 rfl) | (apply aU; iterate 4 rfl) | (apply aJ; iterate 4 rfl)
       | (apply bJ; (iterate 4 rfl); (focus (first | exact ⟨by decide, rfl⟩ | (refine ⟨by omega, ?_⟩; rw [Int.toNat_natCast]; assumption))); iterate 2 rfl) | apply EL.nil
       | ((with_reducible apply EK.ah); apply EK.code) | (apply EC.cond_true; rfl)
       | (with_reducible first | apply EC.seq | apply EC.region | apply EC.skip | apply EC.block | apply EC.ret | apply EK.dV | apply EK.aH))
     exact EK.kC rfl rfl rfl
    ·
     skip
     repeat
      (first
       | (apply au; iterate 3 rfl) | (apply ak; iterate 3 rfl) | (apply bf; iterate 7 rfl) | (apply aK; iterate 5 rfl)
       | (apply aT; iterate 4 rfl) | (apply aC (b := true); (iterate 2 rfl); exact aO; iterate 2 rfl)
       | (apply aC (b := false); (iterate 2 rfl); exact aO; iterate 2 rfl) | (apply jd; (iterate 3 rfl); (focus omega); (focus omega); iterate 2 rfl)
       | (apply aU; iterate 4 rfl) | (apply aJ; iterate 4 rfl)
       | (apply bJ; (iterate 4 rfl); (focus (first | exact ⟨by decide, rfl⟩ | (refine ⟨by omega, ?_⟩; rw [Int.toNat_natCast]; assumption))); iterate 2 rfl) | apply EL.nil
       | ((with_reducible apply EK.ah); apply EK.code) | (apply EC.cond_true; rfl) | (apply EC.cond_false; rfl)
       | (with_reducible first | apply EC.seq | apply EC.region | apply EC.skip | apply EC.block | apply EK.aI))
     refine EK.again ⟨i + 1, hlt, ?_⟩ (by dsimp only; omega) ?_
     ·
      rw [htk, List.any_append, hno]
      simp [hc, hs]
     ·
      simp only [Int.natCast_add]
      exact Le.kp
  ·
   have hiE : i = l.length := by omega
   subst hiE
   rw [List.take_length] at hno
   rw [hno]
   repeat
    (first
     | (apply au; iterate 3 rfl) | (apply ak; iterate 3 rfl) | (apply aC (b := false); (iterate 2 rfl); exact aO; iterate 2 rfl)
     | (apply aJ; iterate 4 rfl) | apply EL.nil | ((with_reducible apply EK.ah); apply EK.code) | (apply EC.cond_false; rfl)
     | (with_reducible first | apply EC.seq | apply EC.region | apply EC.exit | apply EC.ret | apply EK.bG | apply EK.aQ))
   exact EK.kC rfl rfl rfl
theorem Ir {l : List Pr} (he : fP l = 0) (hn : l ≠ []) {key : List UInt8} (hk : key.length ≤ 150) : uY l key = lq l key := by
 have hnib : ∀ c ∈ split key, c.toNat < 16 := fun c hc => by have := iU key c hc; omega
 have h := O1 200 400 (l.map sp) (kT l) (split key) true (Cm he hn) (zo he) (IG he) hnib (by rw [dG]; omega)
 unfold uY lq
 rw [if_pos he, h, if_pos rfl, if_neg (by cases l with | nil => exact absurd rfl hn | cons _ _ => exact Bool.false_ne_true)]
 rfl
theorem LC {l m : List Pr} (el : fP l = 0) (em : fP m = 0) (nl : l ≠ []) (nm : m ≠ []) (h : Clr [l, m]) {key : List UInt8} (hk : key.length ≤ 64) :
  ((qF (fK m) key (uY l key)).2 = 0 ↔ fK l = fK m) ∧ (fK l ≠ fK m → (qF (fK m) key (uY l key)).2 = 5) ∧ (qF kE key (uY l key)).2 = 3 ∧ (qF (fK l) key []).2 = 5 := by
 obtain ⟨S, hS, hall⟩ := h
 have sl : Sn S l := ⟨hS, el, nl, hall l (by simp) el⟩
 have sm : Sn S m := ⟨hS, em, nm, hall m (by simp) em⟩
 have hp := Ir el nl (key := key) (by omega)
 have hpl : lq l key = pkB (aG 200 (l.map sp)) :: pfE 200 (l.map sp) (split key) := by
  unfold lq
  rw [if_neg (by cases l with | nil => exact absurd rfl nl | cons _ _ => exact Bool.false_ne_true)]
 have hne5 : fK l ≠ fK m → (qF (fK m) key (uY l key)).2 = 5 := fun hr => by
  rw [hp, hpl, sm.chk, rF 399 rfl, if_neg]
  intro e
  rw [show bts (.mk false (hash (pkB (aG 200 (m.map sp)))) []) = hash (pkB (aG 200 (m.map sp))) from rfl, ← sm.root, ← sl.root] at e
  exact hr e
 refine ⟨⟨fun h0 => Classical.byContradiction fun hr => ?_, fun hr => ?_⟩, hne5, ?_, ?_⟩
 ·
  rw [hne5 hr] at h0
  cases h0
 ·
  rw [← hr, hp, show lq l key = lq l key ++ [] from (List.append_nil _).symm, sl.complete (by omega)]
  rfl
 ·
  rw [hp, hpl]
  unfold qF
  rw [if_pos rfl, if_neg (by simp)]
 · rw [sl.chk, vP 399 rfl]
theorem EK.CU {N : Nat} {X : Cx N} {S : St} {fn : Func} {Φ : R → List Obj → Prop} {p u q : Tmp} {g ty : Nat} {t : TypeId} {d d' e e' k k' : D} (i : Nat) (os' : List Obj) (hres : fn.results = #[.cell p ty, .tmp u, .tmp q]) (hl : look S.regs p = some (.val (.v (.pointer (some ⟨g, 0, none⟩))))) (hi : S.objs[i]? = some (.var g t d)) (hT : assoc tyL ty = some (d.size, d.agg)) (hu : look S.regs u = some (.val e)) (hq : look S.regs q = some (.val k)) (hR : aj S.facts [d] [d']) (hR2 : aj S.facts [e] [e']) (hR3 : aj S.facts [k] [k']) (ho : os'.Sublist S.objs) (hΦ : Φ (.tpl [d', e', k']) os') : EK X (bodyPost Tryz.prog fn (Ap X Φ) .ret) S := by
 constructor
 intro a w ha
 obtain ⟨x, h1, h2⟩ := tV ha.mem hi (tyI hT)
 have hp := (bF.1 (ha.regs p _ hl)).2
 have hp' : a.tmps[p]?.getD undef = .pointer (some ⟨g, 0, none⟩) := by simpa using hp
 have h3 : bY (X.ok S.objs w) w (.tpl [d', e', k']) (.tuple #[x, a.tmps.getD u undef, a.tmps.getD q undef]) := ⟨[x, a.tmps.getD u undef, a.tmps.getD q undef], rfl, _, _, rfl, Refine1.kF ha.mem.fact hR h2, _, _, rfl, Refine1.kF ha.mem.fact hR2 (ha.regs u _ hu), _, _, rfl, Refine1.kF ha.mem.fact hR3 (ha.regs q _ hq), rfl⟩
 refine bodyPost_ret (v := .tuple #[x, a.tmps.getD u undef, a.tmps.getD q undef]) ?_ ha.defers ⟨_, _, os', rfl, hΦ, ha.mem.less ho (fun f hf => by cases hf), h3.mono (fun b hb => rC ho hb) fun _ _ => rfl⟩
 simp [results, hres, hp', asAddr, h1]
theorem J8 (l : List Pr) : Fn 37 [.sl 2 (l.map dPr)] (fun r => ∃ ns : List Pr, r = .tpl [.arr 32 (JE l), .sl 33 (ns.map dNd), .v (.int .i64 (fP l : Int))]) := by
 have hml : (l.map dPr).length = l.length := List.length_map _
 have hM := oW l
 have hE := Gp
 unfold JE
 refine FnM.toFn ?_
 refine FnM.walk 60 Tryz.func37 rfl Tryz.ntmps37 (by simp) fun X => ?_
 by_cases he : fP l = 0
 ·
  rw [he] at hM ⊢
  rw [if_neg (by decide)]
  have hlen := (show l.length ≤ 100000 from by
   unfold fP at he
   split at he
   · cases he
   ·
    rename_i h1
    have : ¬ 100000 < l.length := fun e => h1 (.inl e)
    omega)
  have hlg : l.any lg = false := (lN he).2.1
  by_cases hnil : l = []
  ·
   subst hnil
   rw [if_pos (show ([] : List Pr).isEmpty = true from rfl)]
   repeat
    (first
     | (apply aA (hM); rfl; exact aj.refl _ _; exact enA; iterate 2 rfl) | (apply aA (hE); rfl; exact aj.refl _ _; exact enA; iterate 2 rfl)
     | (apply au; iterate 3 rfl) | (apply ak; iterate 3 rfl) | (apply aC (b := true); (iterate 2 rfl); exact aO; iterate 2 rfl)
     | (apply aC (b := false); (iterate 2 rfl); exact aO; iterate 2 rfl) | (apply aJ; iterate 4 rfl) | (apply aZ; rfl; rfl; rfl; intro _)
     | (apply aN; rfl; (focus (repeat first | exact .z | apply bC.s | apply aP.s)); iterate 4 rfl) | apply EL.nil | ((with_reducible apply EK.ah); apply EK.code)
     | (apply EC.cond_true; rfl) | (apply EC.cond_false; rfl) | (with_reducible first | apply EC.seq | apply EC.region | apply EC.skip | apply EC.ret | apply EK.aH))
   refine EK.CU 0 [] rfl rfl rfl rfl rfl rfl ?_ ?_ ?_ (List.nil_sublist _) ⟨⟨[], rfl⟩, rfl⟩
   · (exact RL.a)
   · exact RL.cons Rf.sl0 RL.nil
   · (exact RL.a)
  ·
   obtain ⟨y, l', rfl⟩ : ∃ y l', l = y :: l' := by
    cases l with
    | nil => exact absurd rfl hnil
    | cons y l' => exact ⟨y, l', rfl⟩
   rw [if_neg (show ¬ ((y :: l').isEmpty = true) from Bool.false_ne_true)]
   have hne : ((y :: l').map sp).isEmpty = false := rfl
   have hlen2 : ((y :: l').map dPr).length = l'.length + 1 := by simp
   have hL2 : (y :: l').length = l'.length + 1 := rfl
   repeat
    (first
     | (apply aA (hM); rfl; exact aj.refl _ _; exact enA; iterate 2 rfl) | (apply au; iterate 3 rfl) | (apply ak; iterate 3 rfl)
     | (apply aC (b := false); (iterate 2 rfl); exact aO; iterate 2 rfl) | (apply aJ; iterate 4 rfl) | (apply aZ; rfl; rfl; rfl; intro _) | apply EL.nil
     | ((with_reducible apply EK.ah); apply EK.code) | (apply EC.cond_false; rfl) | (with_reducible first | apply EC.seq | apply EC.region | apply EC.skip | apply EC.block))
   rename_i g2
   generalize hL : y :: l' = l at *
   clear hnil
   refine EC.le (Le.row 149 2) ?_
   refine EC.loop (ι := {x : Nat × Value // x.1 ≤ l.length})
    (fun x => ⟨[(7, .val (.v (.int .i64 (x.1.1 : Int)))), (6, .val (.v x.1.2)), (0, .val (.sl 2 (l.map dPr))), (2, .val (.v (.pointer (some ⟨g2, 0, none⟩))))], [.row x.1.2 149 2 (((l.take x.1.1).map sp).map dPr), .var g2 29 (.arr 32 zero32)], []⟩)
    (fun x => l.length - x.1.1) ⟨(0, .slice none 0 0), Nat.zero_le _⟩ ?_ ?_
   · exact Le.kp
   rintro ⟨⟨i, v⟩, hi⟩
   dsimp only at hi ⊢
   by_cases hlt : i < l.length
   ·
    have hd : (l.map dPr)[i]? = some (.tup [.bs l[i].1, .bs l[i].2]) := by rw [List.getElem?_map, List.getElem?_eq_getElem hlt]; rfl
    have hsz := iL hlg (List.getElem_mem hlt)
    have hS := Gl l[i].1 (by omega)
    have hl3 : (((l.take i).map sp).map dPr).length = i := by rw [List.length_map, List.length_map, List.length_take]; omega
    have htk : ((l.take (i + 1)).map sp).map dPr = ((l.take i).map sp).map dPr ++ [.tup [.bs (split l[i].1), .bs l[i].2]] := by
     rw [List.take_succ_eq_append_getElem hlt, List.map_append, List.map_append]
     rfl
    repeat
     (first
      | (apply au; iterate 3 rfl) | (apply aC (b := true); (iterate 2 rfl); exact aO; iterate 2 rfl) | (apply aJ; iterate 4 rfl) | apply EL.nil
      | ((with_reducible apply EK.ah); apply EK.code) | (apply EC.cond_true; rfl) | (with_reducible first | apply EC.seq | apply EC.region | apply EC.skip | apply EC.block))
    refine EC.jO 15 [0, 1, 2, 3, 4, 5, 6, 7, 8, 9, 10, 11, 12, 13] [14] [_] _ (by kernel_rfl) (by kernel_rfl) rfl ?_
    simp only [bQ, List.filterMap_cons, List.filterMap_nil, List.getElem?_cons_zero, List.getElem?_cons_succ]
    repeat
     (first
      | (apply dW (hS); rfl; exact aj.refl _ _; exact enA; iterate 2 rfl) | (apply aY; iterate 3 rfl) | (apply dn; iterate 7 rfl)
      | (apply bM; iterate 5 rfl)
      | (apply dI; (iterate 4 rfl); (focus (first | exact ⟨by decide, rfl⟩ | (refine ⟨by omega, ?_⟩; rw [Int.toNat_natCast]; assumption))); iterate 2 rfl)
      | (apply iZ; iterate 7 rfl) | (apply kY; iterate 9 rfl))
    refine EM.nil ?_
    repeat (first | rw [List.cons_append] | rw [List.nil_append])
    refine CH.mut (os := [_]) (rest := []) rfl rfl (iM rfl rfl rfl rfl rfl ?_) ?_
    ·
     rw [hl3]
     constructor <;> (simp; omega)
    rintro _ _ ⟨v', rfl, rfl⟩
    try simp only [St.put]
    repeat (first | rw [List.cons_append] | rw [List.nil_append])
    refine CH.nil ?_
    try simp only [List.drop_succ_cons, List.drop_zero]
    repeat
     (first
      | (apply au; iterate 3 rfl) | (apply ak; iterate 3 rfl) | (apply jd; (iterate 3 rfl); (focus omega); (focus omega); iterate 2 rfl) | apply EL.nil
      | ((with_reducible apply EK.ah); apply EK.code) | (with_reducible first | apply EC.region | apply EK.aI))
    refine EK.again ⟨(i + 1, v'), hlt⟩ (by dsimp only; omega) ?_
    dsimp only
    rw [htk]
    simp only [Int.natCast_add]
    exact Le.kp
   ·
    have hie : i = l.length := by omega
    rw [show l.take i = l by rw [hie, List.take_length]]
    refine EC.le (Le.freeze (pre := []) rfl) ?_
    refine EC.le (Le.refine (t := 6) (d' := .sl 2 ((l.map sp).map dPr)) rfl (Rf.fact List.mem_cons_self rfl)) ?_
    simp only [List.nil_append]
    have hNd : ∀ gb, FnM 78 [.v (ptr gb), .sl 2 ((l.map sp).map dPr)] [bO gb []] (fun r os' => ∃ t : List Pr, t.length ≤ 0 + 200 * (l.map sp).length ∧ r = .val (aW (aG 200 (l.map sp))) ∧ os' = [bO gb t]) := fun gb => Jm (WT gb) 200 (l.map sp) ([] : List Pr) hne (fun z hz => by
     obtain ⟨w, hw, rfl⟩ := List.mem_map.1 hz
     have := iL hlg hw
     show (split w.1).length < 200
     rw [dG]
     omega) (fun z hz => by
     obtain ⟨w, hw, rfl⟩ := List.mem_map.1 hz
     have := iL hlg hw
     show (split w.1).length ≤ _
     rw [dG]
     omega) (by rw [List.length_map]; omega) (by rw [List.length_map]; show 0 + _ ≤ _; omega)
    have h2 := DI (aG 200 (l.map sp))
    repeat
     (first
      | (apply gU; rfl; rfl; rfl; intro gb; refine EL.le (Le.QV (d' := .tup [.sl 33 (([] : List Pr).map dNd), .v (.pointer none), .v (.bool false)]) (by apply Rf.tup; exact RL.cons Rf.sl0 (RL.cons Rf.same (RL.cons Rf.same RL.nil)))) ?_)
      | (apply au; iterate 3 rfl) | (apply ak; iterate 3 rfl) | (apply aC (b := false); (iterate 2 rfl); exact aO; iterate 2 rfl)
      | (apply aJ; iterate 4 rfl) | (apply eU; iterate 7 rfl) | apply EL.nil | ((with_reducible apply EK.ah); apply EK.code) | (apply EC.cond_false; rfl)
      | (with_reducible first | apply EC.seq | apply EC.region | apply EC.exit | apply EK.bG | apply EK.aQ))
    refine jE (hNd gb) [] [_] rfl rfl (aj.refl _ _) (by intro _ _; simp [go_sem]) rfl rfl ?_
    rintro _ _ ⟨ns1, hn1, rfl, rfl⟩
    simp only [List.cons_append, List.nil_append]
    rw [List.length_map] at hn1
    have hpb : packed (aG 200 (l.map sp)) = none ∨ packed (aG 200 (l.map sp)) = some (pkB (aG 200 (l.map sp))) := by
     unfold pkB
     cases h : packed (aG 200 (l.map sp)) with
     | none => exact .inl rfl
     | some b => exact .inr rfl
    rcases hpb with hp | hp
    ·
     have h0 : pkB (aG 200 (l.map sp)) = [] := by unfold pkB; rw [hp]; rfl
     rw [hp] at h2
     rw [h0]
     unfold nM at h2
     dsimp only at h2
     repeat
      (first
       | (apply aA (h2); rfl; exact aj.refl _ _; exact enA; iterate 2 rfl) | (apply au; iterate 3 rfl) | (apply ak; iterate 3 rfl)
       | (apply aF; iterate 4 rfl) | apply EL.nil | ((with_reducible apply EK.ah); apply EK.code) | (with_reducible first | apply EC.seq | apply EC.region))
     have hle := xG (aG 200 (l.map sp))
     refine jE (QD gb ns1 [] (by omega) (by simp)) [] [_] rfl rfl RL.a (by intro _ _; simp [go_sem]) rfl rfl ?_
     rintro _ _ ⟨rfl, rfl⟩
     simp only [List.cons_append, List.nil_append]
     repeat
      (first
       | (apply aZ; rfl; rfl; rfl; intro _) | (apply aN; rfl; (focus (repeat first | exact .z | apply bC.s | apply aP.s)); iterate 4 rfl) | apply EL.nil
       | ((with_reducible apply EK.ah); apply EK.code) | (with_reducible apply EC.seq))
     refine EC.le (Le.pick [2, 0, 1] [_, _, _] rfl (by decide) rfl) ?_
     refine EC.jO 8 [0, 1, 2, 3, 4, 6, 7] [5] [_] _ (by kernel_rfl) (by kernel_rfl) rfl ?_
     simp only [bQ, List.filterMap_cons, List.filterMap_nil, List.getElem?_cons_zero, List.getElem?_cons_succ]
     repeat
      (first
       | (apply aY; iterate 3 rfl) | (apply gy; iterate 3 rfl) | (apply dB; iterate 6 rfl) | (apply dH; rfl; exact I.a; iterate 4 rfl)
       | (apply fG; iterate 3 rfl))
     refine EM.nil ?_
     repeat (first | rw [List.cons_append] | rw [List.nil_append])
     refine CH.mut (os := [_]) (rest := []) rfl rfl (rQ (lM rfl rfl rfl rfl rfl)) ?_
     rintro _ _ ⟨rfl, rfl⟩
     try simp only [St.put]
     repeat (first | rw [List.cons_append] | rw [List.nil_append])
     refine CH.nil ?_
     try simp only [List.drop_succ_cons, List.drop_zero]
     repeat
      (first
       | apply EL.nil | ((with_reducible apply EK.ah); apply EK.code) | (with_reducible apply EC.ret))
     refine EK.CU 0 [] rfl rfl rfl rfl rfl rfl (aj.refl _ _) (aj.refl _ _) (aj.refl _ _) (List.nil_sublist _) ⟨⟨_, rfl⟩, rfl⟩
    ·
     rw [hp] at h2
     unfold nM at h2
     dsimp only at h2
     repeat
      (first
       | (apply aA (h2); rfl; exact aj.refl _ _; exact enA; iterate 2 rfl) | (apply au; iterate 3 rfl) | (apply ak; iterate 3 rfl)
       | (apply aF; iterate 4 rfl) | apply EL.nil | ((with_reducible apply EK.ah); apply EK.code) | (with_reducible first | apply EC.seq | apply EC.region))
     have hle := xG (aG 200 (l.map sp))
     refine jE (QD gb ns1 (pkB (aG 200 (l.map sp))) (by omega) (by exact hle)) [] [_] rfl rfl RL.a (by intro _ _; simp [go_sem]) rfl rfl ?_
     rintro _ _ ⟨rfl, rfl⟩
     simp only [List.cons_append, List.nil_append]
     repeat
      (first
       | (apply aZ; rfl; rfl; rfl; intro _) | (apply aN; rfl; (focus (repeat first | exact .z | apply bC.s | apply aP.s)); iterate 4 rfl) | apply EL.nil
       | ((with_reducible apply EK.ah); apply EK.code) | (with_reducible apply EC.seq))
     refine EC.le (Le.pick [2, 0, 1] [_, _, _] rfl (by decide) rfl) ?_
     refine EC.jO 8 [0, 1, 2, 3, 4, 6, 7] [5] [_] _ (by kernel_rfl) (by kernel_rfl) rfl ?_
     simp only [bQ, List.filterMap_cons, List.filterMap_nil, List.getElem?_cons_zero, List.getElem?_cons_succ]
     repeat
      (first
       | (apply aY; iterate 3 rfl) | (apply gy; iterate 3 rfl) | (apply dB; iterate 6 rfl) | (apply dH; rfl; exact I.a; iterate 4 rfl)
       | (apply fG; iterate 3 rfl))
     refine EM.nil ?_
     repeat (first | rw [List.cons_append] | rw [List.nil_append])
     refine CH.mut (os := [_]) (rest := []) rfl rfl (rQ (lM rfl rfl rfl rfl rfl)) ?_
     rintro _ _ ⟨rfl, rfl⟩
     try simp only [St.put]
     repeat (first | rw [List.cons_append] | rw [List.nil_append])
     refine CH.nil ?_
     try simp only [List.drop_succ_cons, List.drop_zero]
     repeat
      (first
       | apply EL.nil | ((with_reducible apply EK.ah); apply EK.code) | (with_reducible apply EC.ret))
     refine EK.CU 0 [] rfl rfl rfl rfl rfl rfl (aj.refl _ _) (aj.refl _ _) (aj.refl _ _) (List.nil_sublist _) ⟨⟨_, rfl⟩, rfl⟩
 ·
  rw [if_pos he]
  have hne : (fP l : Int) ≠ 0 := by omega
  repeat
   (first
    | (apply aA (hM); rfl; exact aj.refl _ _; exact enA; iterate 2 rfl) | (apply au; iterate 3 rfl) | (apply ak; iterate 3 rfl)
    | (apply aC (b := true); (iterate 2 rfl); exact aO; iterate 2 rfl) | (apply G5; iterate 5 rfl) | (apply aZ; rfl; rfl; rfl; intro _)
    | (apply aN; rfl; (focus (repeat first | exact .z | apply bC.s | apply aP.s)); iterate 4 rfl) | apply EL.nil | ((with_reducible apply EK.ah); apply EK.code)
    | (apply EC.cond_true; rfl) | (with_reducible first | apply EC.seq | apply EC.region | apply EC.ret | apply EK.aH))
  refine EK.CU 0 [] rfl rfl rfl rfl rfl rfl ?_ ?_ ?_ (List.nil_sublist _) ⟨⟨[], rfl⟩, rfl⟩
  · (exact RL.a)
  · exact RL.cons Rf.sl0 RL.nil
  · (exact RL.a)

theorem Ho (t : Tn) : (sumT t).length = 32 := by
 unfold sumT
 split
 · exact fH _
 · exact fH _
theorem tX (l : List Pr) : (fK l).length = 32 := by
 unfold fK
 split
 · exact Ho _
 · exact Ae
structure Acc where
 a : List UInt8
 n : Int
 w : List UInt8
 cd : List UInt8
 sl : List Pr
structure Acc.ok (x : Acc) : Prop where
 a : x.a.length = 20
 n0 : -9223372036854775808 ≤ x.n
 n1 : x.n ≤ 9223372036854775807
 w : x.w.length = 32
 sl : ∀ s ∈ x.sl, s.1.length = 32 ∧ s.2.length = 32
 len : x.sl.length ≤ 1000000
end E
end Go.Proofs.YtiledgojbpmoiaaGreat
