/-
 Merged (wip/tools/merge.py): PQ1, PQ2, PQ3, PQ4.
 Conditions: none.
-/
import Derived.Test.YtiledgojbpmoiaaGreatZR23
import Derived.Test.YtiledgojbpmoiaaGreatZR31
namespace Go.Proofs.YtiledgojbpmoiaaGreat
set_option linter.unusedVariables false
open Go.RowKit Mono Rlp
namespace E
theorem Ux (p : List UInt8) (a : Bool) (hp : ∀ x ∈ p, x.toNat ≤ 15) : split (ppk p a) = Go.Proofs.YtiledgojbpmoiaaGreat.hdr p a ++ p := by
 obtain ⟨m, hm⟩ := join_some (Go.Proofs.YtiledgojbpmoiaaGreat.hdr p a ++ p) (FX p a) fun x hx => by
  rcases List.mem_append.1 hx with h | h
  · exact BD p a x h
  · exact hp x h
 unfold ppk
 rw [hm]
 exact su _ _ hm
theorem xB (p : List UInt8) (a : Bool) (hp : ∀ x ∈ p, x.toNat ≤ 15) : rdP (ppk p a) = some (p, a) := by
 have h := Ux p a hp
 cases hb : ppk p a with
 | nil =>
  rw [hb] at h
  unfold Go.Proofs.YtiledgojbpmoiaaGreat.hdr at h
  split at h <;> simp [split] at h
 | cons c r =>
  rw [hb, wu] at h
  rw [rdP]
  unfold Go.Proofs.YtiledgojbpmoiaaGreat.hdr at h
  by_cases h1 : p.length % 2 = 1
  ·
   rw [if_pos h1] at h
   injection h with h2 h3
   rw [h2]
   cases a with
   | true =>
    rw [if_neg (by decide), if_pos (by decide), h3]
    rfl
   | false =>
    rw [if_neg (by decide), if_pos (by decide), h3]
    rfl
  ·
   rw [if_neg h1] at h
   injection h with h2 h3
   injection h3 with h3 h4
   rw [h2, h3, h4]
   cases a with
   | true =>
    rw [if_neg (by decide), if_neg (by decide), if_pos (by decide)]
    rfl
   | false =>
    rw [if_neg (by decide), if_neg (by decide), if_pos (by decide)]
    rfl
structure jh (l : List Pr) : Prop extends GoodL l where
 nd : (l.map (·.1)).Nodup
theorem zo {l : List Pr} (h : fP l = 0) : jh (l.map sp) where
 toGoodL := RU h
 nd := by
  unfold fP at h
  split at h
  · cases h
  ·
   split at h
   · cases h
   ·
    split at h
    · assumption
    · cases h
theorem yS {α β : Type} {g : α → β} : ∀ {l : List α}, l.Nodup → (∀ x ∈ l, ∀ y ∈ l, g x = g y → x = y) → (l.map g).Nodup
 | [], _, _ => List.nodup_nil
 | x :: l, hn, h => by
  obtain ⟨h1, h2⟩ := List.nodup_cons.1 hn
  refine List.nodup_cons.2 ⟨fun hm => ?_, yS h2 fun a ha b hb => h a (List.mem_cons_of_mem _ ha) b (List.mem_cons_of_mem _ hb)⟩
  obtain ⟨y, hy, e⟩ := List.mem_map.1 hm
  exact h1 (h y (List.mem_cons_of_mem _ hy) x List.mem_cons_self e ▸ hy)
theorem sW {l : List Pr} (h : jh l) (p : List UInt8) (hp : ∀ z ∈ l, z.1 = p ++ z.1.drop p.length) : jh (bU p.length l) where
 toGoodL := nT h.toGoodL _ p hp
 nd := by
  have e : (bU p.length l).map (·.1) = (l.map (·.1)).map (List.drop p.length) := by
   unfold bU
   rw [List.map_map, List.map_map]
   rfl
  rw [e]
  refine yS h.nd fun a ha b hb hab => ?_
  obtain ⟨x, hx, rfl⟩ := List.mem_map.1 ha
  obtain ⟨y, hy, rfl⟩ := List.mem_map.1 hb
  rw [hp x hx, hp y hy, hab]
theorem vK {l : List Pr} (h : jh l) (d : Nat) : jh (aV d l) := by
 have hf : jh (l.filter (headD d)) := ⟨wP h.toGoodL _, (List.Sublist.map _ List.filter_sublist).nodup h.nd⟩
 exact sW hf [UInt8.ofNat d] fun z hz => by
  obtain ⟨c, t, e, hc⟩ := headD_cons (List.mem_filter.1 hz).2
  rw [e, ← hc, UInt8.ofNat_toNat]
  rfl
def Pm (l : List Pr) : List UInt8 → Option (List Pr × List UInt8)
 | [] => none
 | c :: t => if (aV c.toNat l).isEmpty then none else some (aV c.toNat l, t)
def nxE : List Pr → List UInt8 → Option (List Pr × List UInt8)
 | [], _ => none
 | [_], _ => none
 | x :: y :: r, p =>
  if 0 < bD x.1 (y :: r) then
   if common p (x.1.take (bD x.1 (y :: r))) < bD x.1 (y :: r) then none else some (bU (bD x.1 (y :: r)) (x :: y :: r), p.drop (bD x.1 (y :: r)))
  else Pm (x :: y :: r) p
inductive NdE (f : Nat) (l : List Pr) : Prop where
 | leaf (x : Pr) (h : l = [x]) (hx : ∀ q, nxE l q = none) (hU : dF (f + 1) l = []) (hn : aG (f + 1) l = .mk true [] [.mk false (ppk x.1 true) [], .mk false x.2 []])
 | ext (p : List UInt8) (h0 : 0 < p.length) (hp : ∀ z ∈ l, z.1 = p ++ z.1.drop p.length) (hs : ∀ c ∈ p, ∃ z ∈ l, c ∈ z.1) (h2 : 2 ≤ l.length) (hz : ∀ c, ¬ ∀ z ∈ l, ∃ t, z.1 = p ++ c :: t) (hx : ∀ q, nxE l q = if common q p < p.length then none else some (bU p.length l, q.drop p.length)) (hn : aG (f + 1) l = .mk true [] [.mk false (ppk p false) [], dZ (bU p.length l) (aG f (bU p.length l))]) (hU : dF (f + 1) l = kD (bU p.length l) (dF f (bU p.length l)) (aG f (bU p.length l)))
 | br (h2 : 2 ≤ l.length) (hz : ∀ c, ¬ ∀ z ∈ l, ∃ t, z.1 = c :: t) (hx : ∀ q, nxE l q = Pm l q) (hn : aG (f + 1) l = .mk true [] ((List.range 16).map (fun d => dZ (aV d l) (aG f (aV d l))) ++ [.mk false (iI l) []])) (hU : dF (f + 1) l = ((List.range 16).map fun d => kD (aV d l) (dF f (aV d l)) (aG f (aV d l))).flatten)
theorem Ve (x y : Pr) (r : List Pr) (d : UInt8) : ¬ ∀ z ∈ x :: y :: r, ∃ t, z.1 = x.1.take (bD x.1 (y :: r)) ++ d :: t := fun h => by
 obtain ⟨t, ht⟩ := h x List.mem_cons_self
 have hle : bD x.1 (y :: r) ≤ x.1.length := (jl x.1 (y :: r) x.1.length (Nat.le_refl _)).1
 have hln : (x.1.take (bD x.1 (y :: r))).length = bD x.1 (y :: r) := by rw [List.length_take]; omega
 have hlx : bD x.1 (y :: r) + 1 ≤ x.1.length := by
  have := congrArg List.length ht
  rw [List.length_append, List.length_cons, hln] at this
  omega
 have : bD x.1 (y :: r) + 1 ≤ bD x.1 (y :: r) := zL x.1 _ (y :: r) x.1.length hlx fun z hz => by
  obtain ⟨s, hs⟩ := h z (List.mem_cons_of_mem _ hz)
  generalize hp : x.1.take (bD x.1 (y :: r)) = p at *
  have e1 : x.1.take (p.length + 1) = p ++ [d] := by rw [ht, List.take_length_add_append]; rfl
  have e2 : z.1.take (p.length + 1) = p ++ [d] := by rw [hs, List.take_length_add_append]; rfl
  rw [← hln]
  refine rE _ _ _ (e1.trans e2.symm) (by omega) ?_
  rw [hs, List.length_append, List.length_cons]
  omega
 omega
theorem ndE (f : Nat) : ∀ l : List Pr, l.isEmpty = false → NdE f l
 | [x], _ => .leaf x rfl (fun _ => rfl) (by rw [dF]) (by rw [aG])
 | x :: y :: r, _ => by
  have hmx := Ve x y r
  have hle : bD x.1 (y :: r) ≤ x.1.length := (jl x.1 (y :: r) x.1.length (Nat.le_refl _)).1
  have hln : (x.1.take (bD x.1 (y :: r))).length = bD x.1 (y :: r) := by rw [List.length_take]; omega
  by_cases hp : 0 < bD x.1 (y :: r)
  ·
   refine .ext (x.1.take (bD x.1 (y :: r))) (by omega) ?_ (fun c hc => ⟨x, List.mem_cons_self, List.mem_of_mem_take hc⟩) (by simp) hmx (fun q => by rw [hln, nxE, if_pos hp]) ?_ ?_
   ·
    rw [hln]
    exact DR x y r
   · rw [hln, aG, if_pos hp]
   · rw [hln, dF, if_pos hp]
  ·
   have h0 : bD x.1 (y :: r) = 0 := by omega
   rw [h0] at hmx
   refine .br (by simp) hmx (fun q => by rw [nxE, if_neg hp]) ?_ ?_
   · rw [aG, if_neg hp]
   · rw [dF, if_neg hp]
theorem Hu {l : List Pr} {x : Raw} {xs : List Raw} (hx : x = .mk true [] xs) : some1 (dZ l x) = !l.isEmpty := by
 unfold dZ
 cases l.isEmpty with
 | true => rfl
 | false =>
  rw [if_neg Bool.false_ne_true, oI]
  split
  · rw [hx]; rfl
  ·
   show (false || decide (0 < (hash _).length)) = true
   rw [fH]
   rfl
theorem Ug {α : Type} {a b : α} {l : List α} (ha : a ∈ l) (hb : b ∈ l) (h : a ≠ b) : 2 ≤ l.length := by
 match l with
 | [] => cases ha
 | [c] =>
  rw [List.mem_singleton.1 ha, List.mem_singleton.1 hb] at h
  exact absurd rfl h
 | _ :: _ :: _ => simp
theorem IQ {l : List Pr} (h : GoodL l) {z : Pr} (hz : z ∈ l) {c : UInt8} {t : List UInt8} (e : z.1 = c :: t) : c.toNat ∈ (List.range 16).filter fun d => !(aV d l).isEmpty := by
 have hc := h.nib z hz c (by rw [e]; exact List.mem_cons_self)
 refine List.mem_filter.2 ⟨List.mem_range.2 (by omega), ?_⟩
 have : (t, z.2) ∈ aV c.toNat l := (xJ (by omega)).2 (by
  rw [UInt8.ofNat_toNat, ← e]
  exact hz)
 rw [pJ this]
 rfl
theorem Vj {l : List Pr} (h : jh l) (h2 : 2 ≤ l.length) (hz : ∀ c, ¬ ∀ z ∈ l, ∃ t, z.1 = c :: t) : 2 ≤ ((List.range 16).filter fun d => !(aV d l).isEmpty).length + (if 0 < (iI l).length then 1 else 0) := by
 by_cases h0 : ∃ z ∈ l, z.1 = []
 ·
  obtain ⟨z, hzl, hz0⟩ := h0
  have hv : 0 < (iI l).length := by
   rw [Cc h.toGoodL hzl hz0]
   exact List.length_pos_iff.2 (h.some z hzl)
  rw [if_pos hv]
  have : ∃ y ∈ l, y.1 ≠ [] := Classical.byContradiction fun hn => by
   have hall : ∀ y ∈ l, y.1 = [] := fun y hy => Classical.byContradiction fun hne => hn ⟨y, hy, hne⟩
   match l, h2, h.nd, hall with
   | a :: b :: r, _, hnd, hall =>
    have h1 : a.1 ∉ (b :: r).map (·.1) := (List.nodup_cons.1 hnd).1
    rw [hall a List.mem_cons_self] at h1
    exact h1 (by rw [List.map_cons, hall b (List.mem_cons_of_mem _ List.mem_cons_self)]; exact List.mem_cons_self)
  obtain ⟨y, hy, hy0⟩ := this
  cases e : y.1 with
  | nil => exact absurd e hy0
  | cons c t =>
   have := List.length_pos_of_mem (IQ h.toGoodL hy e)
   omega
 ·
  have hall : ∀ z ∈ l, ∃ c t, z.1 = c :: t := fun z hzl => by
   cases e : z.1 with
   | nil => exact absurd ⟨z, hzl, e⟩ h0
   | cons c t => exact ⟨c, t, rfl⟩
  have hx : ∃ x, x ∈ l := by
   match l, h2 with
   | a :: _, _ => exact ⟨a, List.mem_cons_self⟩
  obtain ⟨x, hx⟩ := hx
  obtain ⟨c, t, e⟩ := hall x hx
  have hn : ∃ y ∈ l, ∃ d s, y.1 = d :: s ∧ d ≠ c := Classical.byContradiction fun hn => hz c fun y hy => by
   obtain ⟨d, s, e2⟩ := hall y hy
   by_cases hd : d = c
   · exact ⟨s, by rw [e2, hd]⟩
   · exact absurd ⟨y, hy, d, s, e2, hd⟩ hn
  obtain ⟨y, hy, d, s, e2, hd⟩ := hn
  have := Ug (IQ h.toGoodL hx e) (IQ h.toGoodL hy e2) fun e3 => hd (UInt8.toNat_inj.1 e3).symm
  omega
theorem xq (f : Nat) (l : List Pr) (hf : 1 ≤ f ∨ ∀ d, (aV d l).isEmpty = true) : ((((List.range 16).map fun d => dZ (aV d l) (aG f (aV d l)))).filter some1).length = ((List.range 16).filter fun d => !(aV d l).isEmpty).length := by
 rw [List.filter_map, List.length_map]
 congr 1
 refine List.filter_congr fun d _ => ?_
 show some1 (dZ (aV d l) (aG f (aV d l))) = _
 rcases hf with hf | hf
 ·
  obtain ⟨f', rfl⟩ : ∃ f', f = f' + 1 := ⟨f - 1, by omega⟩
  obtain ⟨xs, hxs⟩ := iV f' (aV d l)
  exact Hu hxs
 ·
  rw [dZ, hf d]
  rfl
theorem xK {l : List Pr} {f : Nat} {p : List UInt8} (h0 : 0 < p.length) (hl : ∀ x ∈ l, x.1.length < f + 1) (hp : ∀ z ∈ l, z.1 = p ++ z.1.drop p.length) : ∀ x ∈ bU p.length l, x.1.length < f := fun x hx => by
 obtain ⟨w, hw, rfl⟩ := List.mem_map.1 hx
 have h1 := hl w hw
 have h2 := congrArg List.length (hp w hw)
 rw [List.length_append] at h2
 show (w.1.drop p.length).length < f
 omega
theorem sU {l : List Pr} {f : Nat} (hl : ∀ x ∈ l, x.1.length < f + 1) (d : Nat) : ∀ x ∈ aV d l, x.1.length < f := fun x hx => by
 obtain ⟨w, hw, hh, rfl⟩ := nP hx
 have h1 := hl w hw
 have h2 := nS hh
 show (w.1.drop 1).length < f
 rw [List.length_drop]
 omega
theorem JF {g f : Nat} {l : List Pr} {b : Bool} (hl : l.isEmpty = false ∨ b = true) (hg : GoodL l) (hN : l.isEmpty = false → (pkB (aG f l)).length < 32 → isN g (aG f l) = true) (hls : l.isEmpty = false → isL (aG f l) = true) : rfB (isN g) b (dZ l (aG f l)) = true := by
 unfold dZ
 cases he : l.isEmpty with
 | true =>
  rw [if_pos rfl]
  rcases hl with h | rfl
  · rw [h] at he; cases he
  · rfl
 | false =>
  rw [if_neg Bool.false_ne_true, oI]
  split
  ·
   rename_i h32
   have h1 := hN he h32
   have h2 := hls he
   cases hx : aG f l with
   | mk yl yb yx =>
   rw [hx] at h1 h2 h32
   obtain rfl : yl = true := h2
   rw [tZ, h1, decide_eq_true h32]
   rfl
  ·
   rw [qR, fH]
   rfl
theorem FV : ∀ (f g : Nat) (l : List Pr), jh l → l.isEmpty = false → (∀ x ∈ l, x.1.length < f + 1) → E.dep (aG (f + 1) l) < g → isN g (aG (f + 1) l) = true
 | f, 0, l, _, _, _, h => absurd h (Nat.not_lt_zero _)
 | f, g + 1, l, hg, hl, hf, hd => by
  have kid : ∀ l' : List Pr, jh l' → l'.isEmpty = false → (∀ x ∈ l', x.1.length < f) → E.dep (aG f l') < g → isN g (aG f l') = true := fun l' hg' hl' hf' hd' => by
   cases f with
   | zero =>
    cases l' with
    | nil => cases hl'
    | cons x r => exact absurd (hf' x List.mem_cons_self) (Nat.not_lt_zero _)
   | succ f => exact FV f g l' hg' hl' hf' hd'
  have isl : ∀ l' : List Pr, (∀ x ∈ l', x.1.length < f) → l'.isEmpty = false → ∃ xs, aG f l' = .mk true [] xs := fun l' hf' hl' => by
   cases f with
   | zero =>
    cases l' with
    | nil => cases hl'
    | cons x r => exact absurd (hf' x List.mem_cons_self) (Nat.not_lt_zero _)
   | succ f => exact iV f l'
  have dref : ∀ (l' : List Pr) (x : Raw), l'.isEmpty = false → (pkB x).length < 32 → dZ l' x = x := fun l' x h h2 => by
   unfold dZ oI
   rw [h, if_neg Bool.false_ne_true, if_pos h2]
  rcases ndE f l hl with ⟨x, rfl, _, _, hn⟩ | ⟨p, p0, hp, hs, h2, hz, _, hn, _⟩ | ⟨h2, hz, _, hn, _⟩
  ·
   rw [hn, isN]
   show (if 2 = 17 then _ else if 2 = 2 then _ else _) = true
   rw [if_neg (by decide), if_pos rfl]
   show prB _ (.mk false (ppk x.1 true) []) (.mk false x.2 []) = true
   unfold prB
   rw [show bts (.mk false (ppk x.1 true) []) = ppk x.1 true from rfl, xB _ _ (hg.nib x List.mem_cons_self)]
   have := List.length_pos_iff.2 (hg.some x List.mem_cons_self)
   show (!false && (!false && decide (0 < x.2.length))) = true
   rw [decide_eq_true this]
   rfl
  ·
   have gr := sW hg p hp
   have hlr : (bU p.length l).isEmpty = false := by
    cases l with
    | nil => cases hl
    | cons _ _ => rfl
   have hfr := xK p0 hf hp
   rw [hn] at hd
   rw [hn, isN]
   show (if 2 = 17 then _ else if 2 = 2 then _ else _) = true
   rw [if_neg (by decide), if_pos rfl]
   show prB _ (.mk false (ppk p false) []) (dZ (bU p.length l) (aG f (bU p.length l))) = true
   have hnb : ∀ x ∈ p, x.toNat ≤ 15 := fun c hc => by
    obtain ⟨z, hz, h3⟩ := hs c hc
    exact hg.nib z hz c h3
   have hrf : rfB (isN g) false (dZ (bU p.length l) (aG f (bU p.length l))) = true := JF (.inl hlr) gr.toGoodL (fun _ h32 => kid _ gr hlr hfr (by
    have h3 := dref (bU p.length l) _ hlr h32
    rw [h3, E.dep] at hd
    have := uO (x := aG f (bU p.length l)) (xs := [.mk false (ppk p false) [], aG f (bU p.length l)]) (by simp)
    omega)) fun h => by
    obtain ⟨xs, e⟩ := isl _ hfr h
    rw [e]
    rfl
   have hsh : (isL (dZ (bU p.length l) (aG f (bU p.length l))) && decide ((its (dZ (bU p.length l) (aG f (bU p.length l)))).length = 2)) = false := by
    unfold dZ oI
    rw [hlr, if_neg Bool.false_ne_true]
    split
    ·
     obtain ⟨f', rfl⟩ : ∃ f', f = f' + 1 := by
      cases f with
      | zero =>
       cases l with
       | nil => cases hl
       | cons x r => exact absurd (hfr _ List.mem_cons_self) (Nat.not_lt_zero _)
      | succ f => exact ⟨f, rfl⟩
     rcases ndE f' (bU p.length l) hlr with ⟨x, h, _, _, _⟩ | ⟨q, q0, hq, _, _, _, _, _, _⟩ | ⟨_, _, _, hn2, _⟩
     ·
      have := congrArg List.length h
      rw [uX] at this
      simp at this
      omega
     ·
      exfalso
      cases q with
      | nil => simp at q0
      | cons c q =>
       refine hz c fun z hzl => ?_
       have h3 := hq _ (List.mem_map.2 ⟨z, hzl, rfl⟩)
       dsimp only at h3
       refine ⟨q ++ (z.1.drop p.length).drop (c :: q).length, ?_⟩
       have h4 := hp z hzl
       rw [h3] at h4
       exact h4
     ·
      rw [hn2]
      simp [its]
    · rfl
   unfold prB
   rw [show bts (.mk false (ppk p false) []) = ppk p false from rfl, xB _ _ hnb]
   dsimp only
   rw [hrf, hsh, decide_eq_true p0]
   rfl
  ·
   rw [hn] at hd
   rw [hn, isN]
   have hlen : (((List.range 16).map fun d => dZ (aV d l) (aG f (aV d l))) ++ [Raw.mk false (iI l) []]).length = 17 := by simp
   have htk : (((List.range 16).map fun d => dZ (aV d l) (aG f (aV d l))) ++ [Raw.mk false (iI l) []]).take 16 = (List.range 16).map fun d => dZ (aV d l) (aG f (aV d l)) := List.take_left' (by simp)
   have h16 : (((List.range 16).map fun d => dZ (aV d l) (aG f (aV d l))) ++ [Raw.mk false (iI l) []]).getD 16 fM = .mk false (iI l) [] := by
    rw [List.getD_eq_getElem?_getD, List.getElem?_append_right (by simp)]
    simp
   rw [if_pos hlen]
   unfold brB
   rw [htk, h16]
   have hall : ((List.range 16).map fun d => dZ (aV d l) (aG f (aV d l))).all (rfB (isN g) true) = true := List.all_eq_true.2 fun y hy => by
    obtain ⟨d, _, rfl⟩ := List.mem_map.1 hy
    refine JF (.inr rfl) (nU hg.toGoodL d) (fun hk h32 => kid _ (vK hg d) hk (sU hf d) ?_) fun h => by
     obtain ⟨xs, e⟩ := isl _ (sU hf d) h
     rw [e]
     rfl
    have h3 := dref (aV d l) _ hk h32
    rw [E.dep] at hd
    have := uO (List.mem_append.2 (.inl hy) : _ ∈ ((List.range 16).map fun d => dZ (aV d l) (aG f (aV d l))) ++ [Raw.mk false (iI l) []])
    rw [h3] at this
    omega
   rw [hall]
   have hc := Vj hg h2 hz
   rw [← xq f l (by
    cases f with
    | zero =>
     refine .inr fun d => ?_
     cases hk : aV d l with
     | nil => rfl
     | cons z _ => exact absurd (sU hf d z (by rw [hk]; exact List.mem_cons_self)) (Nat.not_lt_zero _)
    | succ f => exact .inl (by omega))] at hc
   rw [show bts (.mk false (iI l) []) = iI l from rfl, decide_eq_true hc]
   rfl
def gtE (l : List Pr) (p : List UInt8) : List UInt8 := match l.find? (fun x => x.1 == p) with
 | some x => x.2
 | none => []
theorem Dw {l : List Pr} (h : (l.map (·.1)).Nodup) {x : Pr} (hx : x ∈ l) : gtE l x.1 = x.2 := by
 unfold gtE
 cases hf : l.find? (fun y => y.1 == x.1) with
 | none =>
  have := List.find?_eq_none.1 hf x hx
  simp at this
 | some y =>
  have h1 := List.find?_some hf
  have h2 := List.mem_of_find?_eq_some hf
  rw [J5 h y h2 x hx (by simpa using h1)]
theorem uH {l : List Pr} {p : List UInt8} (h : ∀ x ∈ l, x.1 ≠ p) : gtE l p = [] := by
 unfold gtE
 rw [List.find?_eq_none.2 fun x hx => by simpa using h x hx]
theorem JV {l m : List Pr} {p q : List UInt8} (hl : (l.map (·.1)).Nodup) (hm : (m.map (·.1)).Nodup) (h : ∀ v, (p, v) ∈ l ↔ (q, v) ∈ m) : gtE l p = gtE m q := by
 by_cases hx : ∃ x ∈ l, x.1 = p
 ·
  obtain ⟨⟨a, v⟩, hx, rfl⟩ := hx
  have h1 := Dw hl hx
  have h2 := Dw hm ((h v).1 hx)
  exact h1.trans h2.symm
 · rw [uH fun x hxl e => hx ⟨x, hxl, e⟩, uH fun y hy e => hx ⟨(p, y.2), (h y.2).2 (by rw [← e]; exact hy), rfl⟩]
theorem IY {α : Type} {g : Nat → α} {a d : α} {c : Nat} (hc : c < 16) : ((List.range 16).map g ++ [a]).getD c d = g c := by
 rw [List.getD_eq_getElem?_getD, List.getElem?_append_left (by simpa using hc), List.getElem?_map, List.getElem?_range hc]
 rfl
theorem oJ {l : List Pr} {x : Raw} (h : l.isEmpty = true) : dZ l x = .mk false [] [] := by
 unfold dZ
 rw [if_pos h]
theorem Rk {f : Nat} {l : List Pr} (h : l.isEmpty = false) (hf : ∀ x ∈ l, x.1.length < f) : (!isL (dZ l (aG f l)) && decide ((bts (dZ l (aG f l))).length = 0)) = false := by
 unfold dZ oI
 rw [h, if_neg Bool.false_ne_true]
 split
 ·
  obtain ⟨f', rfl⟩ : ∃ f', f = f' + 1 := by
   cases f with
   | zero =>
    cases l with
    | nil => cases h
    | cons x r => exact absurd (hf x List.mem_cons_self) (Nat.not_lt_zero _)
   | succ f => exact ⟨f, rfl⟩
  obtain ⟨xs, e⟩ := iV f' l
  rw [e]
  rfl
 ·
  show (true && decide ((hash _).length = 0)) = false
  rw [fH]
  rfl
theorem Kt (a y : Raw) (p : List UInt8) : dwn (.mk true [] [a, y]) p = match rdP (bts a) with
  | some (q, true) => if p = q then (fM, [], bts y, false) else (fM, [], [], false)
  | some (q, false) => if common p q < q.length then (fM, [], [], false) else (y, p.drop q.length, [], true)
  | none => if common p [] < ([] : List UInt8).length then (fM, [], [], false) else (y, p.drop 0, [], true) := by
 unfold dwn
 exact if_neg (show ¬ 2 = 17 by decide)
theorem SQ (xs : List Raw) (h : xs.length = 17) : dwn (.mk true [] xs) [] = (fM, [], bts (xs.getD 16 fM), false) := by
 unfold dwn
 exact if_pos h
theorem Va (xs : List Raw) (h : xs.length = 17) (c : UInt8) (r : List UInt8) : dwn (.mk true [] xs) (c :: r) = if !isL (xs.getD c.toNat fM) && decide ((bts (xs.getD c.toNat fM)).length = 0) then (fM, [], [], false) else (xs.getD c.toNat fM, r, [], true) := by
 unfold dwn
 exact if_pos h
theorem qB (f : Nat) (l : List Pr) (hg : jh l) (hl : l.isEmpty = false) (hf : ∀ x ∈ l, x.1.length < f + 1) (p : List UInt8) (hp : ∀ c ∈ p, c.toNat < 16) :
  (nxE l p = none ∧ (dwn (aG (f + 1) l) p).2.2.2 = false ∧ (dwn (aG (f + 1) l) p).2.2.1 = gtE l p) ∨
  (∃ l' p', nxE l p = some (l', p') ∧ dwn (aG (f + 1) l) p = (dZ l' (aG f l'), p', [], true) ∧ l'.isEmpty = false ∧ jh l' ∧ (∀ x ∈ l', x.1.length < f) ∧ gtE l p = gtE l' p' ∧ p'.length < p.length ∧ (∀ c ∈ p', c ∈ p) ∧ (∀ u ∈ kD l' (dF f l') (aG f l'), u ∈ dF (f + 1) l) ∧ (∀ x ∈ l', ∃ y ∈ l, x.1.length < y.1.length)) := by
 rcases ndE f l hl with ⟨x, rfl, hx, _, hn⟩ | ⟨q, q0, hq, hs, h2, hz, hx, hn, hU⟩ | ⟨h2, hz, hx, hn, hU⟩
 ·
  refine .inl ⟨hx p, ?_⟩
  rw [hn, Kt, show bts (.mk false (ppk x.1 true) []) = ppk x.1 true from rfl, xB _ _ (hg.nib x List.mem_cons_self)]
  dsimp only
  by_cases he : p = x.1
  ·
   rw [if_pos he]
   refine ⟨rfl, ?_⟩
   rw [he, Dw hg.nd List.mem_cons_self]
   rfl
  ·
   rw [if_neg he]
   refine ⟨rfl, ?_⟩
   rw [uH fun y hy e => he (by rw [← e, List.mem_singleton.1 hy])]
 ·
  have hnb : ∀ x ∈ q, x.toNat ≤ 15 := fun c hc => by
   obtain ⟨z, hz, h3⟩ := hs c hc
   exact hg.nib z hz c h3
  have gr := sW hg q hq
  have hlr : (bU q.length l).isEmpty = false := by
   cases l with
   | nil => cases hl
   | cons _ _ => rfl
  have hd : dwn (aG (f + 1) l) p = if common p q < q.length then (fM, [], [], false) else (dZ (bU q.length l) (aG f (bU q.length l)), p.drop q.length, [], true) := by
   rw [hn, Kt, show bts (.mk false (ppk q false) []) = ppk q false from rfl, xB _ _ hnb]
  have hcp := tC p q
  by_cases hc : common p q < q.length
  ·
   refine .inl ⟨by rw [hx, if_pos hc], ?_⟩
   rw [hd, if_pos hc]
   refine ⟨rfl, (uH fun y hy e => ?_).symm⟩
   refine hcp.1 ?_ hc
   have := hq y hy
   rw [← e, this, List.take_left]
  ·
   refine .inr ⟨_, _, by rw [hx, if_neg hc], by rw [hd, if_neg hc], hlr, gr, xK q0 hf hq, ?_, ?_, fun c hc => List.mem_of_mem_drop hc, fun u hu => by rw [hU]; exact hu, fun x hx => ?_⟩
   ·
    have hpq := hcp.2 hc
    refine JV hg.nd gr.nd fun v => ⟨fun h => List.mem_map.2 ⟨_, h, rfl⟩, fun h => ?_⟩
    obtain ⟨z, hz, e⟩ := List.mem_map.1 h
    obtain ⟨e1, e2⟩ := Prod.mk.inj e
    have e3 := hq z hz
    rw [e1] at e3
    have e4 : z.1 = p := by
     rw [e3]
     conv => rhs; rw [← List.take_append_drop q.length p, ← hpq]
    rw [← e4, ← e2]
    exact hz
   ·
    have := (fA p q).2.1
    rw [List.length_drop]
    omega
   ·
    obtain ⟨w, hw, rfl⟩ := List.mem_map.1 hx
    refine ⟨w, hw, ?_⟩
    have h2 := congrArg List.length (hq w hw)
    rw [List.length_append] at h2
    show (w.1.drop q.length).length < w.1.length
    omega
 ·
  have hlen : (((List.range 16).map fun d => dZ (aV d l) (aG f (aV d l))) ++ [Raw.mk false (iI l) []]).length = 17 := by simp
  have h16 : (((List.range 16).map fun d => dZ (aV d l) (aG f (aV d l))) ++ [Raw.mk false (iI l) []]).getD 16 fM = .mk false (iI l) [] := by
   rw [List.getD_eq_getElem?_getD, List.getElem?_append_right (by simp)]
   simp
  cases p with
  | nil =>
   refine .inl ⟨hx _, ?_⟩
   rw [hn, SQ _ hlen, h16]
   refine ⟨rfl, ?_⟩
   show iI l = _
   by_cases h0 : ∃ z ∈ l, z.1 = []
   ·
    obtain ⟨z, hz, e⟩ := h0
    rw [Cc hg.toGoodL hz e, ← Dw hg.nd hz, e]
   ·
    rw [uH fun x hx e => h0 ⟨x, hx, e⟩]
    exact qN l [] fun x hx => by
     cases e : x.1 with
     | nil => exact absurd ⟨x, hx, e⟩ h0
     | cons _ _ => rfl
  | cons c t =>
   have hc := hp c List.mem_cons_self
   have hd : dwn (aG (f + 1) l) (c :: t) = if !isL (dZ (aV c.toNat l) (aG f (aV c.toNat l))) && decide ((bts (dZ (aV c.toNat l) (aG f (aV c.toNat l)))).length = 0) then (fM, [], [], false) else (dZ (aV c.toNat l) (aG f (aV c.toNat l)), t, [], true) := by
    rw [hn, Va _ hlen]
    rw [IY (g := fun d => dZ (aV d l) (aG f (aV d l))) hc]
   have hgk : gtE l (c :: t) = gtE (aV c.toNat l) t := JV hg.nd (vK hg _).nd fun v => by
    have := xJ (d := c.toNat) (l := l) (t := t) (v := v) (by omega)
    rw [UInt8.ofNat_toNat] at this
    exact this.symm
   cases hk : (aV c.toNat l).isEmpty with
   | true =>
    refine .inl ⟨by rw [hx, Pm, if_pos hk], ?_⟩
    rw [hd, oJ hk]
    refine ⟨rfl, ?_⟩
    rw [hgk, show aV c.toNat l = [] by simpa using hk]
    rfl
   | false =>
    refine .inr ⟨_, _, by rw [hx, Pm, if_neg (by rw [hk]; decide)], by rw [hd, Rk hk (sU hf _), if_neg Bool.false_ne_true], hk, vK hg _, sU hf _, hgk, by simp, fun d hd => List.mem_cons_of_mem _ hd, fun u hu => ?_, fun x hx => ?_⟩
    ·
     rw [hU]
     exact List.mem_flatten.2 ⟨_, List.mem_map.2 ⟨c.toNat, List.mem_range.2 hc, rfl⟩, hu⟩
    ·
     obtain ⟨w, hw, hh, rfl⟩ := nP hx
     have := nS hh
     refine ⟨w, hw, ?_⟩
     show (w.1.drop 1).length < _
     rw [List.length_drop]
     omega
def hsh (x : Raw) : List (List UInt8) := if (pkB x).length < 32 then [] else [pkB x]
def pfE : Nat → List Pr → List UInt8 → List (List UInt8)
 | 0, _, _ => []
 | f + 1, l, p => match nxE l p with
  | none => []
  | some (l', p') => hsh (aG f l') ++ pfE f l' p'
theorem Dc {f : Nat} {l : List Pr} (hg : jh l) : rdE (pkB (aG f l)) = 0 ∧ rdX (pkB (aG f l)) = aG f l ∧ Gd (aG f l) := by
 have hk := kS f l hg.toGoodL
 have h := yK hk.1
 rw [hk.2] at h
 rw [yO hk]
 unfold rdE rdX
 rw [h]
 exact ⟨rfl, rfl, Ez h⟩
theorem zi {f : Nat} {l : List Pr} (hg : jh l) (hl : l.isEmpty = false) (hf : ∀ x ∈ l, x.1.length < f) : isN 40 (aG f l) = true := by
 obtain ⟨f', rfl⟩ : ∃ f', f = f' + 1 := by
  cases f with
  | zero =>
   cases l with
   | nil => cases hl
   | cons x r => exact absurd (hf x List.mem_cons_self) (Nat.not_lt_zero _)
  | succ f => exact ⟨f, rfl⟩
 exact FV f' 40 l hg hl hf (by have := (Dc (f := f' + 1) hg).2.2.dep; omega)
theorem PE {f : Nat} {l : List Pr} (hl : l.isEmpty = false) (hf : ∀ x ∈ l, x.1.length < f) : isL (aG f l) = true := by
 cases f with
 | zero =>
  cases l with
  | nil => cases hl
  | cons x r => exact absurd (hf x List.mem_cons_self) (Nat.not_lt_zero _)
 | succ f =>
  obtain ⟨xs, e⟩ := iV f l
  rw [e]
  rfl
theorem Rz {f : Nat} {l : List Pr} (hg : jh l) (hl : l.isEmpty = false) (hf : ∀ x ∈ l, x.1.length < f) (q : List (List UInt8)) : nxt (dZ l (aG f l)) (hsh (aG f l) ++ q) = .ok (aG f l, q) := by
 obtain ⟨h1, h2, h3⟩ := Dc (f := f) hg
 have h4 := zi hg hl hf
 have h5 := PE hl hf
 unfold dZ oI hsh nxt
 rw [hl, if_neg Bool.false_ne_true]
 split
 · rfl
 ·
  rw [if_neg (show ¬ isL (.mk false (hash (pkB (aG f l))) []) = true from Bool.false_ne_true)]
  show (if hash (pkB (aG f l)) = hash (pkB (aG f l)) then _ else _) = _
  rw [if_pos rfl, h1, h2, if_pos ⟨rfl, h4⟩]
  rfl
theorem Pj {f : Nat} {l : List Pr} (hg : jh l) (hl : l.isEmpty = false) (hf : ∀ x ∈ l, x.1.length < f) (q : List (List UInt8)) : nxt (.mk false (hash (pkB (aG f l))) []) (pkB (aG f l) :: q) = .ok (aG f l, q) := by
 obtain ⟨h1, h2, h3⟩ := Dc (f := f) hg
 have h4 := zi hg hl hf
 unfold nxt
 rw [if_neg (show ¬ isL (.mk false (hash (pkB (aG f l))) []) = true from Bool.false_ne_true)]
 show (if hash (pkB (aG f l)) = hash (pkB (aG f l)) then _ else _) = _
 rw [if_pos rfl, h1, h2, if_pos ⟨rfl, h4⟩]
theorem KC : ∀ (f g : Nat) (l : List Pr) (p : List UInt8) (q : List (List UInt8)), jh l → l.isEmpty = false → (∀ x ∈ l, x.1.length < f) → (∀ c ∈ p, c.toNat < 16) → p.length < g + 1 → DT g (aG f l) p (pfE f l p ++ q) = if q.length = 0 then (gtE l p, 0) else ([], 3)
 | 0, g, l, p, q, hg, hl, hf, hp, hpg => by
  cases l with
  | nil => cases hl
  | cons x r => exact absurd (hf x List.mem_cons_self) (Nat.not_lt_zero _)
 | f + 1, g, l, p, q, hg, hl, hf, hp, hpg => by
  unfold DT
  rw [pfE]
  rcases qB f l hg hl hf p hp with ⟨h1, h2, h3⟩ | ⟨l', p', h1, h2, h3, h4, h5, h6, h7, h8, _, _⟩
  ·
   rw [h1, h2, h3, if_neg Bool.false_ne_true]
   rfl
  ·
   rw [h1, h2, if_pos rfl]
   dsimp only
   obtain ⟨g', rfl⟩ : ∃ g', g = g' + 1 := ⟨g - 1, by omega⟩
   rw [qE, List.append_assoc, Rz h4 h3 h5]
   show DT g' (aG f l') p' (pfE f l' p' ++ q) = _
   rw [KC f g' l' p' q h4 h3 h5 (fun c hc => hp c (h8 c hc)) (by omega), h6]
theorem JJ : ∀ (f : Nat) (l : List Pr) (p : List UInt8), jh l → l.isEmpty = false → (∀ x ∈ l, x.1.length < f) → (∀ c ∈ p, c.toNat < 16) → ∀ u ∈ pfE f l p, u ∈ dF f l
 | 0, l, p, hg, hl, hf, hp, u, hu => by cases hu
 | f + 1, l, p, hg, hl, hf, hp, u, hu => by
  rw [pfE] at hu
  rcases qB f l hg hl hf p hp with ⟨h1, h2, h3⟩ | ⟨l', p', h1, h2, h3, h4, h5, h6, h7, h8, h9, _⟩
  ·
   rw [h1] at hu
   cases hu
  ·
   rw [h1] at hu
   refine h9 u ?_
   unfold kD
   rw [h3, if_neg Bool.false_ne_true]
   rcases List.mem_append.1 hu with hu | hu
   · exact List.mem_append.2 (.inr (by unfold hsh at hu; exact hu))
   · exact List.mem_append.2 (.inl (JJ f l' p' h4 h3 h5 (fun c hc => hp c (h8 c hc)) u hu))
def TR : Nat → List Pr → Tn → Prop
 | 0, _, _ => False
 | f + 1, l, t => match l with
  | [] => False
  | [x] => t = .leaf x.1 x.2
  | x :: y :: r =>
   if 0 < bD x.1 (y :: r) then ∃ k, t = .ext (x.1.take (bD x.1 (y :: r))) k ∧ TR f (bU (bD x.1 (y :: r)) (x :: y :: r)) k
   else ∃ ks, t = .br ks (iI (x :: y :: r)) ∧ ∀ d, d < 16 → if (aV d (x :: y :: r)).isEmpty then ks d = .nil else TR f (aV d (x :: y :: r)) (ks d)
theorem xY : ∀ (f : Nat) (l L : List Pr) (at_ : Nat), l.Perm (L.map (dr at_)) → jX at_ L → L ≠ [] → (∀ x ∈ L, x.1.length < at_ + f) → TR f l (bdF f L at_)
 | 0, l, L, at_, _, hR, hn, hf => by
  cases L with
  | nil => exact absurd rfl hn
  | cons x r =>
   have h1 := hf x List.mem_cons_self
   have h2 := hR.len x List.mem_cons_self
   omega
 | f + 1, l, L, at_, hp, hR, hn, hf => by
  match L, hn with
  | [X], _ =>
   rw [List.perm_singleton.1 hp, DY]
   rfl
  | X :: Y :: R, _ =>
   have hll := hp.length_eq
   rw [List.length_map] at hll
   match l, hll with
   | a :: b :: r, _ =>
    obtain ⟨M, hM⟩ : ∃ M, X :: Y :: R = M := ⟨_, rfl⟩
    have hM0 : X ∈ M := by rw [← hM]; exact List.mem_cons_self
    have hMl : 1 < M.length := by rw [← hM]; simp
    rw [hM] at hp hR hf ⊢
    have h00 : 0 < M.length := by omega
    have hfst : M[0] = X := by simp [← hM]
    have hcm := Gx hR h00 rfl hp
    have hmem : ∀ z ∈ a :: b :: r, ∃ x ∈ M, z = dr at_ x := fun z hz => by
     obtain ⟨x, hx, rfl⟩ := List.mem_map.1 (hp.mem_iff.1 hz)
     exact ⟨x, hx, rfl⟩
    rw [TR]
    by_cases hc : common (M[0].1.drop at_) (M[M.length - 1].1.drop at_) > 0
    ·
     rw [if_pos (by rw [hcm]; exact hc), hcm, Jj f at_ M hMl hc]
     have hR2 := hR.more h00 rfl
     have ht : a.1.take (common (M[0].1.drop at_) (M[M.length - 1].1.drop at_)) = (M[0].1.drop at_).take (common (M[0].1.drop at_) (M[M.length - 1].1.drop at_)) := by
      obtain ⟨x, hx, e⟩ := hmem a List.mem_cons_self
      rw [e]
      obtain ⟨i, hi, rfl⟩ := List.getElem_of_mem hx
      obtain ⟨c1, c2, c3⟩ := fA (M[0].1.drop at_) (M[M.length - 1].1.drop at_)
      exact (sandwich _ _ _ _ (hR.qm h00 hi (Nat.zero_le _)) (hR.qm hi (by omega) (by omega)) c1 c2).1
     have hrp : (bU (common (M[0].1.drop at_) (M[M.length - 1].1.drop at_)) (a :: b :: r)).Perm (M.map (dr (at_ + common (M[0].1.drop at_) (M[M.length - 1].1.drop at_)))) := by
      rw [← Qo]
      exact hp.map _
     rw [ht]
     generalize common (M[0].1.drop at_) (M[M.length - 1].1.drop at_) = c at *
     have hMn : M ≠ [] := fun e => by rw [e] at h00; exact absurd h00 (Nat.lt_irrefl _)
     have hlt := hf X hM0
     have hle := hR2.len X hM0
     obtain ⟨f', rfl⟩ : ∃ f', f = f' + 1 := ⟨f - 1, by omega⟩
     exact ⟨_, rfl, xY (f' + 1) _ M (at_ + c) hrp hR2 hMn fun x hx => by have := hf x hx; omega⟩
    ·
     rw [if_neg (by rw [hcm]; exact hc)]
     have kid : ∀ (d : Nat) (M' : List Pr), jX at_ M' → (∀ z ∈ M', at_ < z.1.length) → (∀ z ∈ M', z ∈ M) → M.filter (fun x => headD d (dr at_ x)) = M'.filter (fun z => (dQ at_ z).toNat == d) → (if (aV d (a :: b :: r)).isEmpty then bdF f (M'.filter fun z => (dQ at_ z).toNat == d) (at_ + 1) = .nil else TR f (aV d (a :: b :: r)) (bdF f (M'.filter fun z => (dQ at_ z).toNat == d) (at_ + 1))) := by
      intro d M' hR' hl' hsub hfe
      have hkp := FT (d := d) hp
      rw [hfe] at hkp
      by_cases hne : M'.filter (fun z => (dQ at_ z).toNat == d) = []
      ·
       rw [hne] at hkp ⊢
       rw [zQ, List.Perm.eq_nil hkp]
       rfl
      ·
       have hkn : (aV d (a :: b :: r)).isEmpty = false := by
        cases hk : aV d (a :: b :: r) with
        | nil =>
         rw [hk] at hkp
         exact absurd (List.map_eq_nil_iff.1 (List.Perm.eq_nil hkp.symm)) hne
        | cons _ _ => rfl
       have hex : ∃ z, z ∈ M'.filter (fun z => (dQ at_ z).toNat == d) := List.exists_mem_of_ne_nil _ hne
       obtain ⟨z, hz⟩ := hex
       have hz' := (List.mem_filter.1 hz).1
       have := hl' z hz'
       have := hf z (hsub z hz')
       obtain ⟨f', rfl⟩ : ∃ f', f = f' + 1 := ⟨f - 1, by omega⟩
       have ih := xY (f' + 1) _ _ (at_ + 1) hkp (Et hR' hl') hne fun x hx => by
        have := hf x (hsub x (List.mem_filter.1 hx).1)
        omega
       rw [if_neg (by rw [hkn]; decide)]
       exact ih
     by_cases h0 : (M[0].1.drop at_).length = 0
     ·
      rw [Jl f at_ M hMl hc h0]
      have hX : X.1.length ≤ at_ := by
       rw [hfst, List.length_drop] at h0
       omega
      have htl : M.tail = Y :: R := by rw [← hM]; rfl
      have hRX : jX at_ (X :: Y :: R) := by rw [hM]; exact hR
      have hlong : ∀ z ∈ Y :: R, at_ < z.1.length := fun z hz => hRX.longer hz
      have hRt : jX at_ (Y :: R) := hRX.sub (List.sublist_cons_self _ _)
      rw [htl]
      have hval : iI (a :: b :: r) = M[0].2 := by
       refine uU _ [] _ (fun z hz he => ?_) (.inr ?_)
       ·
        obtain ⟨x, hx, rfl⟩ := hmem z hz
        rw [← hM] at hx
        rcases List.mem_cons.1 hx with rfl | hx
        ·
         rw [hfst]
         rfl
        ·
         have := hlong x hx
         unfold dr at he
         dsimp only at he
         rw [List.isEmpty_iff, List.drop_eq_nil_iff] at he
         omega
       ·
        refine ⟨dr at_ X, hp.mem_iff.2 (List.mem_map.2 ⟨X, hM0, rfl⟩), ?_⟩
        unfold dr
        dsimp only
        rw [List.drop_eq_nil_of_le hX]
        rfl
      refine ⟨_, by rw [hval], fun d _ => ?_⟩
      refine kid d (Y :: R) hRt hlong (fun z hz => by rw [← hM]; exact List.mem_cons_of_mem _ hz) ?_
      rw [← hM, List.filter_cons_of_neg (by rw [BA hX]; decide)]
      exact List.filter_congr fun z hz => uF (hlong z hz)
     ·
      rw [Jk f at_ M hMl hc h0]
      have hX : at_ < X.1.length := by
       rw [hfst, List.length_drop] at h0
       omega
      have hlong : ∀ z ∈ M, at_ < z.1.length := zS hR h00 (by rw [hfst]; exact hX)
      have hval : iI (a :: b :: r) = [] := qN _ _ fun z hz => by
       obtain ⟨x, hx, rfl⟩ := hmem z hz
       have := hlong x hx
       unfold dr
       dsimp only
       rw [List.drop_eq_getElem_cons this]
       rfl
      refine ⟨_, by rw [hval], fun d _ => ?_⟩
      exact kid d M hR hlong (fun z hz => hz) (List.filter_congr fun z hz => uF (hlong z hz))
theorem lK {f : Nat} {l : List Pr} {t : Tn} (h : TR f l t) : t.isNil = false ∧ l.isEmpty = false := by
 cases f with
 | zero => exact h.elim
 | succ f =>
  match l with
  | [] => exact h.elim
  | [x] =>
   obtain rfl : t = _ := h
   exact ⟨rfl, rfl⟩
  | x :: y :: r =>
   rw [TR] at h
   split at h
   ·
    obtain ⟨k, rfl, _⟩ := h
    exact ⟨rfl, rfl⟩
   ·
    obtain ⟨ks, rfl, _⟩ := h
    exact ⟨rfl, rfl⟩
theorem xP : ∀ (f : Nat) (l : List Pr) (t : Tn), TR f l t → eu t = aG f l
 | 0, _, _, h => h.elim
 | f + 1, [], _, h => h.elim
 | f + 1, [x], t, h => by
  obtain rfl : t = _ := h
  rw [wM, aG]
 | f + 1, x :: y :: r, t, h => by
  rw [TR] at h
  rw [aG]
  split at h
  ·
   rename_i hc
   obtain ⟨k, rfl, hk⟩ := h
   rw [if_pos hc, zh, qV (lK hk).1, qX _ (lK hk).2, xP f _ k hk]
  ·
   rename_i hc
   obtain ⟨ks, rfl, hk⟩ := h
   rw [if_neg hc, vJ]
   refine congrArg (Raw.mk true []) (congrArg (· ++ [Raw.mk false (iI (x :: y :: r)) []]) (List.map_congr_left fun d hd => ?_))
   have := hk d (List.mem_range.1 hd)
   split at this
   ·
    rename_i he
    rw [this, oJ he]
    rfl
   ·
    rename_i he
    rw [qV (lK this).1, qX _ (lK this).2, xP f _ _ this]
def stepT : Tn → List UInt8 → Tn × List UInt8
 | .ext q k, p => if q = p.take q.length then (k, p.drop q.length) else (.nil, [])
 | .br ks _, c :: r => (ks c.toNat, r)
 | _, _ => (.nil, [])
theorem Jy {f : Nat} {l : List Pr} {t : Tn} (h : TR (f + 1) l t) (p : List UInt8) (hp : ∀ c ∈ p, c.toNat < 16) : (nxE l p = none ∧ (stepT t p).1 = .nil) ∨ ∃ l' p' t', nxE l p = some (l', p') ∧ stepT t p = (t', p') ∧ TR f l' t' := by
 match l with
 | [] => exact h.elim
 | [x] =>
  obtain rfl : t = _ := h
  exact .inl ⟨rfl, rfl⟩
 | x :: y :: r =>
  rw [TR] at h
  have hle : bD x.1 (y :: r) ≤ x.1.length := (jl x.1 (y :: r) x.1.length (Nat.le_refl _)).1
  have hln : (x.1.take (bD x.1 (y :: r))).length = bD x.1 (y :: r) := by rw [List.length_take]; omega
  by_cases hc : 0 < bD x.1 (y :: r)
  ·
   rw [if_pos hc] at h
   obtain ⟨k, rfl, hk⟩ := h
   rw [nxE, if_pos hc, stepT]
   have hcp := tC p (x.1.take (bD x.1 (y :: r)))
   by_cases hcm : common p (x.1.take (bD x.1 (y :: r))) < bD x.1 (y :: r)
   ·
    refine .inl ⟨by rw [if_pos hcm], ?_⟩
    rw [if_neg fun e => hcp.1 e (by rw [hln]; exact hcm)]
   ·
    refine .inr ⟨_, _, k, by rw [if_neg hcm], ?_, hk⟩
    rw [if_pos (hcp.2 (by rw [hln]; exact hcm)), hln]
  ·
   rw [if_neg hc] at h
   obtain ⟨ks, rfl, hk⟩ := h
   rw [nxE, if_neg hc]
   cases p with
   | nil => exact .inl ⟨rfl, rfl⟩
   | cons c q =>
    have hd := hk c.toNat (hp c List.mem_cons_self)
    rw [Pm]
    split at hd
    ·
     rename_i he
     rw [if_pos he]
     exact .inl ⟨rfl, hd⟩
    ·
     rename_i he
     rw [if_neg he]
     exact .inr ⟨_, _, ks c.toNat, rfl, rfl, hd⟩
def yN : Nat → Tn → List UInt8 → Bool → List (List UInt8)
 | 0, _, _, _ => []
 | g + 1, t, p, first => if t.isNil then [] else (if first || decide (32 ≤ (pkB (eu t)).length) then [pkB (eu t)] else []) ++ yN g (stepT t p).1 (stepT t p).2 false
theorem CY (g : Nat) (p : List UInt8) (b : Bool) : yN g .nil p b = [] := by
 cases g with
 | zero => rfl
 | succ g => rw [yN, if_pos (show Tn.nil.isNil = true from rfl)]
theorem O1 : ∀ (f g : Nat) (l : List Pr) (t : Tn) (p : List UInt8) (b : Bool), TR f l t → jh l → (∀ x ∈ l, x.1.length < f) → (∀ c ∈ p, c.toNat < 16) → p.length < g → yN g t p b = (if b then [pkB (aG f l)] else hsh (aG f l)) ++ pfE f l p
 | 0, g, l, t, p, b, h, _, _, _, _ => h.elim
 | f + 1, 0, l, t, p, b, _, _, _, _, h => absurd h (Nat.not_lt_zero _)
 | f + 1, g + 1, l, t, p, b, h, hg, hf, hp, hpg => by
  have hs := lK h
  rw [yN, if_neg (by rw [hs.1]; decide), xP _ _ _ h, pfE]
  congr 1
  ·
   unfold hsh
   cases b with
   | true => rfl
   | false =>
    rw [Bool.false_or, if_neg Bool.false_ne_true]
    by_cases h32 : (pkB (aG (f + 1) l)).length < 32
    · rw [if_pos h32, if_neg (by simp; omega)]
    · rw [if_neg h32, if_pos (by simp; omega)]
  ·
   rcases Jy h p hp with ⟨h1, h2⟩ | ⟨l', p', t', h1, h2, h3⟩
   · rw [h1, h2, CY]
   ·
    rw [h1, h2]
    rcases qB f l hg hs.2 hf p hp with ⟨e1, _⟩ | ⟨l2, p2, e1, _, _, e4, e5, _, e7, e8, _, _⟩
    · rw [h1] at e1; cases e1
    ·
     rw [h1] at e1
     injection e1 with e1
     obtain ⟨rfl, rfl⟩ := Prod.mk.inj e1
     exact O1 f g l' t' p' false h3 e4 e5 (fun c hc => hp c (e8 c hc)) (by omega)
theorem Cm {l : List Pr} (he : fP l = 0) (hn : l ≠ []) : TR 200 (l.map sp) (kT l) := by
 obtain ⟨_, hlg, hnd⟩ := lN he
 have hp : (l.map sp).Perm ((srt (l.map sp)).map (dr 0)) := by
  have h0 : (srt (l.map sp)).map (dr 0) = srt (l.map sp) := (List.map_congr_left fun x _ => rfl).trans (List.map_id _)
  rw [h0]
  exact (gX _).symm
 have hne : srt (l.map sp) ≠ [] := fun e => by
  have := (gX (l.map sp)).length_eq
  rw [e, List.length_map] at this
  exact hn (List.eq_nil_of_length_eq_zero this.symm)
 unfold kT
 exact xY 200 _ _ 0 hp (yF hnd) hne fun z hz => by
  obtain ⟨y, hy, rfl⟩ := List.mem_map.1 ((gX _).mem_iff.1 hz)
  have := iL hlg hy
  show (split y.1).length < _
  rw [dG]
  omega
theorem Ep {l : List Pr} (he : fP l = 0) (hn : l ≠ []) : fK l = hash (pkB (aG 200 (l.map sp))) := by
 have h := Cm he hn
 unfold fK sumT
 rw [if_pos he, (lK h).1, if_neg Bool.false_ne_true, xP _ _ _ h]
theorem IG {l : List Pr} (he : fP l = 0) : ∀ x ∈ l.map sp, x.1.length < 200 := fun x hx => by
 obtain ⟨y, hy, rfl⟩ := List.mem_map.1 hx
 have := ((Qk.1 he).2.1 y hy).1
 show (split y.1).length < _
 rw [dG]
 omega
def lq (l : List Pr) (key : List UInt8) : List (List UInt8) := if l.isEmpty then [] else pkB (aG 200 (l.map sp)) :: pfE 200 (l.map sp) (split key)
theorem vN : ∀ (f g : Nat) (l : List Pr), l.isEmpty = false → (∀ x ∈ l, x.1.length < f) → (∀ x ∈ l, x.1.length < g) → aG f l = aG g l ∧ dF f l = dF g l
 | 0, _, l, hl, hf, _ => by
  cases l with
  | nil => cases hl
  | cons x r => exact absurd (hf x List.mem_cons_self) (Nat.not_lt_zero _)
 | f + 1, 0, l, hl, _, hg => by
  cases l with
  | nil => cases hl
  | cons x r => exact absurd (hg x List.mem_cons_self) (Nat.not_lt_zero _)
 | f + 1, g + 1, [], hl, _, _ => by cases hl
 | f + 1, g + 1, [x], _, _, _ => ⟨by rw [aG, aG], by rw [dF, dF]⟩
 | f + 1, g + 1, x :: y :: r, hl, hf, hg => by
  have hle : bD x.1 (y :: r) ≤ x.1.length := (jl x.1 (y :: r) x.1.length (Nat.le_refl _)).1
  have hln : (x.1.take (bD x.1 (y :: r))).length = bD x.1 (y :: r) := by rw [List.length_take]; omega
  rw [aG, aG, dF, dF]
  by_cases hp : 0 < bD x.1 (y :: r)
  ·
   have hpre := DR x y r
   rw [if_pos hp, if_pos hp, if_pos hp, if_pos hp]
   have h1 := xK (p := x.1.take (bD x.1 (y :: r))) (f := f) (by omega) hf (by rw [hln]; exact hpre)
   have h2 := xK (p := x.1.take (bD x.1 (y :: r))) (f := g) (by omega) hg (by rw [hln]; exact hpre)
   rw [hln] at h1 h2
   obtain ⟨e1, e2⟩ := vN f g _ (show (bU (bD x.1 (y :: r)) (x :: y :: r)).isEmpty = false from rfl) h1 h2
   rw [e1, e2]
   exact ⟨rfl, rfl⟩
  ·
   rw [if_neg hp, if_neg hp, if_neg hp, if_neg hp]
   have hk : ∀ d, dZ (aV d (x :: y :: r)) (aG f (aV d (x :: y :: r))) = dZ (aV d (x :: y :: r)) (aG g (aV d (x :: y :: r))) ∧ kD (aV d (x :: y :: r)) (dF f (aV d (x :: y :: r))) (aG f (aV d (x :: y :: r))) = kD (aV d (x :: y :: r)) (dF g (aV d (x :: y :: r))) (aG g (aV d (x :: y :: r))) := fun d => by
    cases he : (aV d (x :: y :: r)).isEmpty with
    | true =>
     rw [oJ he, oJ he]
     unfold kD
     rw [he, if_pos rfl, if_pos rfl]
     exact ⟨rfl, rfl⟩
    | false =>
     obtain ⟨e1, e2⟩ := vN f g _ he (sU hf d) (sU hg d)
     rw [e1, e2]
     exact ⟨rfl, rfl⟩
   refine ⟨congrArg (Raw.mk true []) (congrArg (· ++ [Raw.mk false (iI (x :: y :: r)) []]) (List.map_congr_left fun d _ => (hk d).1)), congrArg List.flatten (List.map_congr_left fun d _ => (hk d).2)⟩
theorem vg : ∀ (f : Nat) (l : List Pr) (p : List UInt8) (A : List (List UInt8)) (b : List UInt8) (B : List (List UInt8)), jh l → l.isEmpty = false → (∀ x ∈ l, x.1.length < f) → (∀ c ∈ p, c.toNat < 16) → pfE f l p = A ++ b :: B → ∃ f' l' p', b = pkB (aG f' l') ∧ B = pfE f' l' p' ∧ jh l' ∧ l'.isEmpty = false ∧ (∀ x ∈ l', x.1.length < f') ∧ (∀ c ∈ p', c.toNat < 16) ∧ (∀ u ∈ dF f' l', u ∈ dF f l) ∧ b ∈ dF f l ∧ (∀ x ∈ l', ∃ y ∈ l, x.1.length < y.1.length)
 | 0, l, p, A, b, B, hg, hl, hf, hp, e => by
  cases l with
  | nil => cases hl
  | cons x r => exact absurd (hf x List.mem_cons_self) (Nat.not_lt_zero _)
 | f + 1, l, p, A, b, B, hg, hl, hf, hp, e => by
  rw [pfE] at e
  rcases qB f l hg hl hf p hp with ⟨h1, h2, h3⟩ | ⟨l', p', h1, h2, h3, h4, h5, h6, h7, h8, h9, h10⟩
  ·
   rw [h1] at e
   simp at e
  ·
   rw [h1] at e
   dsimp only at e
   have hp' : ∀ c ∈ p', c.toNat < 16 := fun c hc => hp c (h8 c hc)
   have hsub : ∀ u ∈ dF f l', u ∈ dF (f + 1) l := fun u hu' => h9 u (by
    unfold kD
    rw [h3, if_neg Bool.false_ne_true]
    exact List.mem_append.2 (.inl hu'))
   have deep : ∀ A b B, pfE f l' p' = A ++ b :: B → ∃ f' l' p', b = pkB (aG f' l') ∧ B = pfE f' l' p' ∧ jh l' ∧ l'.isEmpty = false ∧ (∀ x ∈ l', x.1.length < f') ∧ (∀ c ∈ p', c.toNat < 16) ∧ (∀ u ∈ dF f' l', u ∈ dF (f + 1) l) ∧ b ∈ dF (f + 1) l ∧ (∀ x ∈ l', ∃ y ∈ l, x.1.length < y.1.length) := fun A b B e => by
    obtain ⟨f2, l2, p2, a1, a2, a3, a4, a5, a6, a7, a8, a9⟩ := vg f l' p' A b B h4 h3 h5 hp' e
    refine ⟨f2, l2, p2, a1, a2, a3, a4, a5, a6, fun u hu => hsub u (a7 u hu), hsub b a8, fun x hx => ?_⟩
    obtain ⟨y, hy, hxy⟩ := a9 x hx
    obtain ⟨z, hz, hyz⟩ := h10 y hy
    exact ⟨z, hz, by omega⟩
   unfold hsh at e
   by_cases h32 : (pkB (aG f l')).length < 32
   ·
    rw [if_pos h32] at e
    exact deep A b B e
   ·
    rw [if_neg h32] at e
    cases A with
    | cons a A =>
     injection e with e1 e2
     exact deep A b B e2
    | nil =>
     injection e with e1 e2
     refine ⟨f, l', p', e1.symm, e2.symm, h4, h3, h5, hp', hsub, h9 b ?_, h10⟩
     unfold kD
     rw [h3, if_neg Bool.false_ne_true, if_neg h32]
     exact List.mem_append.2 (.inr (List.mem_singleton.2 e1.symm))
theorem MP {l : List Pr} (hl : l.isEmpty = false) (h : ∀ x ∈ l, ∃ y ∈ l, x.1.length < y.1.length) : False := by
 have key : ∀ n : Nat, ∃ y ∈ l, n ≤ y.1.length := fun n => by
  induction n with
  | zero =>
   cases l with
   | nil => cases hl
   | cons x r => exact ⟨x, List.mem_cons_self, Nat.zero_le _⟩
  | succ n ih =>
   obtain ⟨x, hx, hn⟩ := ih
   obtain ⟨y, hy, hxy⟩ := h x hx
   exact ⟨y, hy, by omega⟩
 have bd : ∀ m : List Pr, ∃ N, ∀ x ∈ m, x.1.length ≤ N := fun m => by
  induction m with
  | nil => exact ⟨0, fun x hx => by cases hx⟩
  | cons a m ih =>
   obtain ⟨N, hN⟩ := ih
   refine ⟨max N a.1.length, fun x hx => ?_⟩
   rcases List.mem_cons.1 hx with rfl | hx
   · omega
   ·
    have := hN x hx
    omega
 obtain ⟨N, hN⟩ := bd l
 obtain ⟨y, hy, hn⟩ := key (N + 1)
 have := hN y hy
 omega
theorem Gz {S : List Pr} (hS : Srt S) {f : Nat} {l : List Pr} {p : List UInt8} (hg : jh l) (hl : l.isEmpty = false) (hf : ∀ x ∈ l, x.1.length < f) (hp : ∀ c ∈ p, c.toNat < 16) (hu : ∀ u ∈ dF f l, (hash u, u) ∈ S) (hb : (hash (pkB (aG f l)), pkB (aG f l)) ∈ S) {c : List UInt8} (hc : c ∈ pfE f l p) : hash c ≠ hash (pkB (aG f l)) := fun e => by
 obtain ⟨A, B, hAB⟩ := List.append_of_mem hc
 obtain ⟨f', l', p', a1, a2, a3, a4, a5, a6, a7, a8, a9⟩ := vg f l p A c B hg hl hf hp hAB
 have h1 := hu c a8
 rw [e] at h1
 have h2 := yh hS h1 hb
 rw [a1] at h2
 have h3 := O5 (kS f' l' a3.toGoodL) (kS f l hg.toGoodL) h2
 have hlt : ∀ x ∈ l', x.1.length < f := fun x hx => by
  obtain ⟨y, hy, hxy⟩ := a9 x hx
  have := hf y hy
  omega
 obtain ⟨e1, e2⟩ := vN f' f l' a4 a5 hlt
 rw [e1] at h3
 have hcl : qM (dF f l) (dF f l') := fun u hu1 v hv e3 => by
  have b1 := hu u hu1
  have b2 := hu v (a7 v (by rw [e2]; exact hv))
  rw [e3] at b1
  exact yh hS b1 b2
 have h4 := yU f l l' hl a4 hf hlt hg.toGoodL a3.toGoodL hcl h3.symm
 exact MP hl fun x hx => a9 x (h4 x hx)
structure Sn (S : List Pr) (l : List Pr) : Prop where
 srt : Srt S
 ok : fP l = 0
 ne : l ≠ []
 all : ∀ u ∈ ni l, (hash u, u) ∈ S
section
variable {S l : List Pr} (h : Sn S l)
include h
theorem Sn.good : jh (l.map sp) ∧ (l.map sp).isEmpty = false ∧ ∀ x ∈ l.map sp, x.1.length < 200 := ⟨zo h.ok, by
 cases l with
 | nil => exact absurd rfl h.ne
 | cons _ _ => rfl, IG h.ok⟩
theorem Sn.strs : ∀ u ∈ dF 200 (l.map sp), (hash u, u) ∈ S := fun u hu => h.all u (by
 unfold ni
 rw [if_neg (by cases l with | nil => exact absurd rfl h.ne | cons _ _ => exact Bool.false_ne_true)]
 exact List.mem_cons_of_mem _ (List.mem_append.2 (.inl hu)))
theorem Sn.top : (hash (pkB (aG 200 (l.map sp))), pkB (aG 200 (l.map sp))) ∈ S := h.all _ (by
 unfold ni
 rw [if_neg (by cases l with | nil => exact absurd rfl h.ne | cons _ _ => exact Bool.false_ne_true)]
 exact List.mem_cons_of_mem _ (List.mem_append.2 (.inr (List.mem_singleton.2 rfl))))
theorem Sn.emp : (kE, [128]) ∈ S := by
 have := h.all [128] (by unfold ni; exact List.mem_cons_self)
 exact this
theorem Sn.root : fK l = hash (pkB (aG 200 (l.map sp))) := Ep h.ok h.ne
theorem Sn.Rj : fK l ≠ kE := fun e => by
 have h1 := h.top
 rw [← h.root, e] at h1
 have h2 := yh h.srt h1 h.emp
 obtain ⟨xs, hx⟩ := iV 199 (l.map sp)
 exact Uy (kS 200 _ h.good.1.toGoodL) hx h2
theorem Sn.chk (key : List UInt8) (q : List (List UInt8)) : qF (fK l) key q = chk 400 (.mk false (hash (pkB (aG 200 (l.map sp)))) []) (split key) q := by
 unfold qF
 rw [if_neg h.Rj, h.root]
theorem Sn.complete {key : List UInt8} (hk : key.length ≤ 70) (q : List (List UInt8)) : qF (fK l) key (lq l key ++ q) = if q.length = 0 then (gtE (l.map sp) (split key), 0) else ([], 3) := by
 obtain ⟨g1, g2, g3⟩ := h.good
 rw [h.chk, qE]
 unfold lq
 rw [if_neg (by cases l with | nil => exact absurd rfl h.ne | cons _ _ => exact Bool.false_ne_true), List.cons_append, Pj g1 g2 g3]
 exact KC 200 399 _ _ _ g1 g2 g3 (fun c hc => by have := iU key c hc; omega) (by rw [dG]; omega)
theorem Sn.next {key : List UInt8} {A : List (List UInt8)} {b c : List UInt8} {B : List (List UInt8)} (e : lq l key = A ++ b :: c :: B) : hash c ≠ hash b := by
 obtain ⟨g1, g2, g3⟩ := h.good
 have hp : ∀ c ∈ split key, c.toNat < 16 := fun c hc => by have := iU key c hc; omega
 unfold lq at e
 rw [if_neg (by cases l with | nil => exact absurd rfl h.ne | cons _ _ => exact Bool.false_ne_true)] at e
 cases A with
 | nil =>
  injection e with e1 e2
  rw [← e1]
  exact Gz h.srt g1 g2 g3 hp h.strs h.top (p := split key) (by rw [e2]; exact List.mem_cons_self)
 | cons a A =>
  injection e with e1 e2
  obtain ⟨f', l', p', a1, a2, a3, a4, a5, a6, a7, a8, a9⟩ := vg 200 _ _ A b (c :: B) g1 g2 g3 hp e2
  have hb := h.strs b a8
  rw [a1] at hb ⊢
  exact Gz h.srt a3 a4 a5 a6 (fun u hu => h.strs u (a7 u hu)) hb (p := p') (by rw [← a2]; exact List.mem_cons_self)
theorem Sn.mem (key : List UInt8) : ∀ u ∈ lq l key, (hash u, u) ∈ S := fun u hu => by
 obtain ⟨g1, g2, g3⟩ := h.good
 unfold lq at hu
 rw [if_neg (by cases l with | nil => exact absurd rfl h.ne | cons _ _ => exact Bool.false_ne_true)] at hu
 rcases List.mem_cons.1 hu with rfl | hu
 · exact h.top
 · exact h.strs u (JJ 200 _ _ g1 g2 g3 (fun c hc => by have := iU key c hc; omega) u hu)
end
end E
end Go.Proofs.YtiledgojbpmoiaaGreat
