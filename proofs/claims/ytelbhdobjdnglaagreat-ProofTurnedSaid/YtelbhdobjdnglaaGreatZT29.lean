/-
 Merged: lemmas of this claim.
 Conditions: none.
-/
import Derived.Test.YtelbhdobjdnglaaGreatZT26
import Derived.Test.YtelbhdobjdnglaaGreatZT28
import Derived.Test.YtelbhdobjdnglaaGreatZT0
namespace Go.Proofs.YtelbhdobjdnglaaGreat
set_option linter.unusedVariables false
open Go.RowKit Mono Rlp
namespace E
theorem UF (p : List UInt8) (a : Bool) (hp : ∀ x ∈ p, x.toNat ≤ 15) : split (ppk p a) = Go.Proofs.YtelbhdobjdnglaaGreat.hdr p a ++ p := by
 obtain ⟨m, hm⟩ := join_some (Go.Proofs.YtelbhdobjdnglaaGreat.hdr p a ++ p) (FU p a) fun x hx => by
  rcases XJ.1 hx with h | h
  · exact BM p a x h
  · exact hp x h
 unfold ppk
 rw [hm]
 exact sZ _ _ hm
theorem xU (p : List UInt8) (a : Bool) (hp : ∀ x ∈ p, x.toNat ≤ 15) : rdP (ppk p a) = some (p, a) := by
 have h := UF p a hp
 cases hb : ppk p a with
 | nil =>
  rw [hb] at h
  unfold Go.Proofs.YtelbhdobjdnglaaGreat.hdr at h
  split at h <;> simp [split] at h
 | cons c r =>
  rw [hb, qw] at h
  rw [rdP]
  unfold Go.Proofs.YtelbhdobjdnglaaGreat.hdr at h
  by_cases h1 : p.length % 2 = 1
  ·
   rw [if_pos h1] at h
   injection h with h2 h3
   rw [h2]
   cases a with
   | true =>
    rw [if_neg (by decide), if_pos (by decide), h3]
    rfl
   | false =>
    rw [if_neg (by decide), if_pos (by decide), h3]
    rfl
  ·
   rw [if_neg h1] at h
   injection h with h2 h3
   injection h3 with h3 h4
   rw [h2, h3, h4]
   cases a with
   | true =>
    rw [if_neg (by decide), if_neg (by decide), if_pos (by decide)]
    rfl
   | false =>
    rw [if_neg (by decide), if_neg (by decide), if_pos (by decide)]
    rfl
structure iV (l : List Pr) : Prop extends GoodL l where
 nd : (l.map (·.1)).Nodup
theorem FW {l : List Pr} (h : ji l = 0) : iV (l.map sp) where
 toGoodL := Sj h
 nd := by
  unfold ji at h
  split at h
  · cases h
  ·
   split at h
   · cases h
   ·
    split at h
    · assumption
    · cases h
theorem yX {α β : Type} {g : α → β} : ∀ {l : List α}, l.Nodup → (∀ x ∈ l, ∀ y ∈ l, g x = g y → x = y) → (l.map g).Nodup
 | [], _, _ => List.nodup_nil
 | x :: l, hn, h => by
  obtain ⟨h1, h2⟩ := Yy.1 hn
  refine Yy.2 ⟨fun hm => ?_, yX h2 fun a ha b hb => h a (Xw _ ha) b (Xw _ hb)⟩
  obtain ⟨y, hy, e⟩ := XA.1 hm
  exact h1 (h y (Xw _ hy) x List.mem_cons_self e ▸ hy)
theorem pI {l : List Pr} (h : iV l) (p : List UInt8) (hp : ∀ z ∈ l, z.1 = p ++ z.1.drop p.length) : iV (bW p.length l) where
 toGoodL := oH h.toGoodL _ p hp
 nd := by
  have e : (bW p.length l).map (·.1) = (l.map (·.1)).map (List.drop p.length) := by
   unfold bW
   rw [YJ, YJ]
   rfl
  rw [e]
  refine yX h.nd fun a ha b hb hab => ?_
  obtain ⟨x, hx, rfl⟩ := XA.1 ha
  obtain ⟨y, hy, rfl⟩ := XA.1 hb
  rw [hp x hx, hp y hy, hab]
theorem oJ {l : List Pr} (h : iV l) (d : Nat) : iV (aW d l) := by
 have hf : iV (l.filter (headD d)) := ⟨xq h.toGoodL _, (List.Sublist.map _ List.filter_sublist).nodup h.nd⟩
 exact pI hf [UInt8.ofNat d] fun z hz => by
  obtain ⟨c, t, e, hc⟩ := headD_cons (Yb.1 hz).2
  rw [e, ← hc, YO]
  rfl
def RH (l : List Pr) : List UInt8 → Option (List Pr × List UInt8)
 | [] => none
 | c :: t => if (aW c.toNat l).isEmpty then none else some (aW c.toNat l, t)
def nxE : List Pr → List UInt8 → Option (List Pr × List UInt8)
 | [], _ => none
 | [_], _ => none
 | x :: y :: r, p =>
  if 0 < bQ x.1 (y :: r) then
   if common p (x.1.take (bQ x.1 (y :: r))) < bQ x.1 (y :: r) then none else some (bW (bQ x.1 (y :: r)) (x :: y :: r), p.drop (bQ x.1 (y :: r)))
  else RH (x :: y :: r) p
inductive NdE (f : Nat) (l : List Pr) : Prop where
 | leaf (x : Pr) (h : l = [x]) (hx : ∀ q, nxE l q = none) (hU : bZ (f + 1) l = []) (hn : aB (f + 1) l = .mk true [] [.mk false (ppk x.1 true) [], .mk false x.2 []])
 | ext (p : List UInt8) (h0 : 0 < p.length) (hp : ∀ z ∈ l, z.1 = p ++ z.1.drop p.length) (hs : ∀ c ∈ p, ∃ z ∈ l, c ∈ z.1) (h2 : 2 ≤ l.length) (hz : ∀ c, ¬ ∀ z ∈ l, ∃ t, z.1 = p ++ c :: t) (hx : ∀ q, nxE l q = if common q p < p.length then none else some (bW p.length l, q.drop p.length)) (hn : aB (f + 1) l = .mk true [] [.mk false (ppk p false) [], dX (bW p.length l) (aB f (bW p.length l))]) (hU : bZ (f + 1) l = jG (bW p.length l) (bZ f (bW p.length l)) (aB f (bW p.length l)))
 | br (h2 : 2 ≤ l.length) (hz : ∀ c, ¬ ∀ z ∈ l, ∃ t, z.1 = c :: t) (hx : ∀ q, nxE l q = RH l q) (hn : aB (f + 1) l = .mk true [] ((List.range 16).map (fun d => dX (aW d l) (aB f (aW d l))) ++ [.mk false (iJ l) []])) (hU : bZ (f + 1) l = ((List.range 16).map fun d => jG (aW d l) (bZ f (aW d l)) (aB f (aW d l))).flatten)
theorem Vm (x y : Pr) (r : List Pr) (d : UInt8) : ¬ ∀ z ∈ x :: y :: r, ∃ t, z.1 = x.1.take (bQ x.1 (y :: r)) ++ d :: t := fun h => by
 obtain ⟨t, ht⟩ := h x List.mem_cons_self
 have hle : bQ x.1 (y :: r) ≤ x.1.length := (jO x.1 (y :: r) x.1.length (Nat.le_refl _)).1
 have hln : (x.1.take (bQ x.1 (y :: r))).length = bQ x.1 (y :: r) := by rw [List.length_take]; omega
 have hlx : bQ x.1 (y :: r) + 1 ≤ x.1.length := by
  have := congrArg List.length ht
  rw [List.length_append, List.length_cons, hln] at this
  omega
 have : bQ x.1 (y :: r) + 1 ≤ bQ x.1 (y :: r) := zU x.1 _ (y :: r) x.1.length hlx fun z hz => by
  obtain ⟨s, hs⟩ := h z (Xw _ hz)
  generalize hp : x.1.take (bQ x.1 (y :: r)) = p at *
  have e1 : x.1.take (p.length + 1) = p ++ [d] := by rw [ht, List.take_length_add_append]; rfl
  have e2 : z.1.take (p.length + 1) = p ++ [d] := by rw [hs, List.take_length_add_append]; rfl
  rw [← hln]
  refine sD _ _ _ (e1.trans e2.symm) (by omega) ?_
  rw [hs, List.length_append, List.length_cons]
  omega
 omega
theorem ndE (f : Nat) : ∀ l : List Pr, l.isEmpty = false → NdE f l
 | [x], _ => .leaf x rfl (fun _ => rfl) (by rw [bZ]) (by rw [aB])
 | x :: y :: r, _ => by
  have hmx := Vm x y r
  have hle : bQ x.1 (y :: r) ≤ x.1.length := (jO x.1 (y :: r) x.1.length (Nat.le_refl _)).1
  have hln : (x.1.take (bQ x.1 (y :: r))).length = bQ x.1 (y :: r) := by rw [List.length_take]; omega
  by_cases hp : 0 < bQ x.1 (y :: r)
  ·
   refine .ext (x.1.take (bQ x.1 (y :: r))) (by omega) ?_ (fun c hc => ⟨x, List.mem_cons_self, YD hc⟩) (by simp) hmx (fun q => by rw [hln, nxE, if_pos hp]) ?_ ?_
   ·
    rw [hln]
    exact DV x y r
   · rw [hln, aB, if_pos hp]
   · rw [hln, bZ, if_pos hp]
  ·
   have h0 : bQ x.1 (y :: r) = 0 := by omega
   rw [h0] at hmx
   refine .br (by simp) hmx (fun q => by rw [nxE, if_neg hp]) ?_ ?_
   · rw [aB, if_neg hp]
   · rw [bZ, if_neg hp]
theorem Ht {l : List Pr} {x : Raw} {xs : List Raw} (hx : x = .mk true [] xs) : some1 (dX l x) = !l.isEmpty := by
 unfold dX
 cases l.isEmpty with
 | true => rfl
 | false =>
  rw [if_neg Xv, nG]
  split
  · rw [hx]; rfl
  ·
   show (false || decide (0 < (hash _).length)) = true
   rw [fJ]
   rfl
theorem Uo {α : Type} {a b : α} {l : List α} (ha : a ∈ l) (hb : b ∈ l) (h : a ≠ b) : 2 ≤ l.length := by
 match l with
 | [] => cases ha
 | [c] =>
  rw [YF.1 ha, YF.1 hb] at h
  exact absurd rfl h
 | _ :: _ :: _ => simp
theorem IG {l : List Pr} (h : GoodL l) {z : Pr} (hz : z ∈ l) {c : UInt8} {t : List UInt8} (e : z.1 = c :: t) : c.toNat ∈ (List.range 16).filter fun d => !(aW d l).isEmpty := by
 have hc := h.nib z hz c (by rw [e]; exact List.mem_cons_self)
 refine Yb.2 ⟨Yu.2 (by omega), ?_⟩
 have : (t, z.2) ∈ aW c.toNat l := (x9 (by omega)).2 (by
  rw [YO, ← e]
  exact hz)
 rw [qg this]
 rfl
theorem Vs {l : List Pr} (h : iV l) (h2 : 2 ≤ l.length) (hz : ∀ c, ¬ ∀ z ∈ l, ∃ t, z.1 = c :: t) : 2 ≤ ((List.range 16).filter fun d => !(aW d l).isEmpty).length + (if 0 < (iJ l).length then 1 else 0) := by
 by_cases h0 : ∃ z ∈ l, z.1 = []
 ·
  obtain ⟨z, hzl, hz0⟩ := h0
  have hv : 0 < (iJ l).length := by
   rw [CS h.toGoodL hzl hz0]
   exact ZI.2 (h.some z hzl)
  rw [if_pos hv]
  have : ∃ y ∈ l, y.1 ≠ [] := Y1 fun hn => by
   have hall : ∀ y ∈ l, y.1 = [] := fun y hy => Y1 fun hne => hn ⟨y, hy, hne⟩
   match l, h2, h.nd, hall with
   | a :: b :: r, _, hnd, hall =>
    have h1 : a.1 ∉ (b :: r).map (·.1) := (Yy.1 hnd).1
    rw [hall a List.mem_cons_self] at h1
    exact h1 (by rw [X0, hall b (Xw _ List.mem_cons_self)]; exact List.mem_cons_self)
  obtain ⟨y, hy, hy0⟩ := this
  cases e : y.1 with
  | nil => exact absurd e hy0
  | cons c t =>
   have := List.length_pos_of_mem (IG h.toGoodL hy e)
   omega
 ·
  have hall : ∀ z ∈ l, ∃ c t, z.1 = c :: t := fun z hzl => by
   cases e : z.1 with
   | nil => exact absurd ⟨z, hzl, e⟩ h0
   | cons c t => exact ⟨c, t, rfl⟩
  have hx : ∃ x, x ∈ l := by
   match l, h2 with
   | a :: _, _ => exact ⟨a, List.mem_cons_self⟩
  obtain ⟨x, hx⟩ := hx
  obtain ⟨c, t, e⟩ := hall x hx
  have hn : ∃ y ∈ l, ∃ d s, y.1 = d :: s ∧ d ≠ c := Y1 fun hn => hz c fun y hy => by
   obtain ⟨d, s, e2⟩ := hall y hy
   by_cases hd : d = c
   · exact ⟨s, by rw [e2, hd]⟩
   · exact absurd ⟨y, hy, d, s, e2, hd⟩ hn
  obtain ⟨y, hy, d, s, e2, hd⟩ := hn
  have := Uo (IG h.toGoodL hx e) (IG h.toGoodL hy e2) fun e3 => hd (Yt.1 e3).symm
  omega
theorem xO (f : Nat) (l : List Pr) (hf : 1 ≤ f ∨ ∀ d, (aW d l).isEmpty = true) : ((((List.range 16).map fun d => dX (aW d l) (aB f (aW d l)))).filter some1).length = ((List.range 16).filter fun d => !(aW d l).isEmpty).length := by
 rw [List.filter_map, List.length_map]
 congr 1
 refine Zq fun d _ => ?_
 show some1 (dX (aW d l) (aB f (aW d l))) = _
 rcases hf with hf | hf
 ·
  obtain ⟨f', rfl⟩ : ∃ f', f = f' + 1 := ⟨f - 1, by omega⟩
  obtain ⟨xs, hxs⟩ := jc f' (aW d l)
  exact Ht hxs
 ·
  rw [dX, hf d]
  rfl
theorem rZ {l : List Pr} {f : Nat} {p : List UInt8} (h0 : 0 < p.length) (hl : ∀ x ∈ l, x.1.length < f + 1) (hp : ∀ z ∈ l, z.1 = p ++ z.1.drop p.length) : ∀ x ∈ bW p.length l, x.1.length < f := fun x hx => by
 obtain ⟨w, hw, rfl⟩ := XA.1 hx
 have h1 := hl w hw
 have h2 := congrArg List.length (hp w hw)
 rw [List.length_append] at h2
 show (w.1.drop p.length).length < f
 omega
theorem pG {l : List Pr} {f : Nat} (hl : ∀ x ∈ l, x.1.length < f + 1) (d : Nat) : ∀ x ∈ aW d l, x.1.length < f := fun x hx => by
 obtain ⟨w, hw, hh, rfl⟩ := oC hx
 have h1 := hl w hw
 have h2 := oG hh
 show (w.1.drop 1).length < f
 rw [Xx]
 omega
theorem JD {g f : Nat} {l : List Pr} {b : Bool} (hl : l.isEmpty = false ∨ b = true) (hg : GoodL l) (hN : l.isEmpty = false → (pkB (aB f l)).length < 32 → isN g (aB f l) = true) (hls : l.isEmpty = false → isL (aB f l) = true) : rfB (isN g) b (dX l (aB f l)) = true := by
 unfold dX
 cases he : l.isEmpty with
 | true =>
  rw [if_pos rfl]
  rcases hl with h | rfl
  · rw [h] at he; cases he
  · rfl
 | false =>
  rw [if_neg Xv, nG]
  split
  ·
   rename_i h32
   have h1 := hN he h32
   have h2 := hls he
   cases hx : aB f l with
   | mk yl yb yx =>
   rw [hx] at h1 h2 h32
   obtain rfl : yl = true := h2
   rw [uw, h1, decide_eq_true h32]
   rfl
  ·
   rw [rH, fJ]
   rfl
theorem FN : ∀ (f g : Nat) (l : List Pr), iV l → l.isEmpty = false → (∀ x ∈ l, x.1.length < f + 1) → E.dep (aB (f + 1) l) < g → isN g (aB (f + 1) l) = true
 | f, 0, l, _, _, _, h => absurd h (Yc _)
 | f, g + 1, l, hg, hl, hf, hd => by
  have kid : ∀ l' : List Pr, iV l' → l'.isEmpty = false → (∀ x ∈ l', x.1.length < f) → E.dep (aB f l') < g → isN g (aB f l') = true := fun l' hg' hl' hf' hd' => by
   cases f with
   | zero =>
    cases l' with
    | nil => cases hl'
    | cons x r => exact absurd (hf' x List.mem_cons_self) (Yc _)
   | succ f => exact FN f g l' hg' hl' hf' hd'
  have isl : ∀ l' : List Pr, (∀ x ∈ l', x.1.length < f) → l'.isEmpty = false → ∃ xs, aB f l' = .mk true [] xs := fun l' hf' hl' => by
   cases f with
   | zero =>
    cases l' with
    | nil => cases hl'
    | cons x r => exact absurd (hf' x List.mem_cons_self) (Yc _)
   | succ f => exact jc f l'
  have dref : ∀ (l' : List Pr) (x : Raw), l'.isEmpty = false → (pkB x).length < 32 → dX l' x = x := fun l' x h h2 => by
   unfold dX nG
   rw [h, if_neg Xv, if_pos h2]
  rcases ndE f l hl with ⟨x, rfl, _, _, hn⟩ | ⟨p, p0, hp, hs, h2, hz, _, hn, _⟩ | ⟨h2, hz, _, hn, _⟩
  ·
   rw [hn, isN]
   show (if 2 = 17 then _ else if 2 = 2 then _ else _) = true
   rw [if_neg (by decide), if_pos rfl]
   show prB _ (.mk false (ppk x.1 true) []) (.mk false x.2 []) = true
   unfold prB
   rw [show bts (.mk false (ppk x.1 true) []) = ppk x.1 true from rfl, xU _ _ (hg.nib x List.mem_cons_self)]
   have := ZI.2 (hg.some x List.mem_cons_self)
   show (!false && (!false && decide (0 < x.2.length))) = true
   rw [decide_eq_true this]
   rfl
  ·
   have gr := pI hg p hp
   have hlr : (bW p.length l).isEmpty = false := by
    cases l with
    | nil => cases hl
    | cons _ _ => rfl
   have hfr := rZ p0 hf hp
   rw [hn] at hd
   rw [hn, isN]
   show (if 2 = 17 then _ else if 2 = 2 then _ else _) = true
   rw [if_neg (by decide), if_pos rfl]
   show prB _ (.mk false (ppk p false) []) (dX (bW p.length l) (aB f (bW p.length l))) = true
   have hnb : ∀ x ∈ p, x.toNat ≤ 15 := fun c hc => by
    obtain ⟨z, hz, h3⟩ := hs c hc
    exact hg.nib z hz c h3
   have hrf : rfB (isN g) false (dX (bW p.length l) (aB f (bW p.length l))) = true := JD (.inl hlr) gr.toGoodL (fun _ h32 => kid _ gr hlr hfr (by
    have h3 := dref (bW p.length l) _ hlr h32
    rw [h3, E.dep] at hd
    have := vw (x := aB f (bW p.length l)) (xs := [.mk false (ppk p false) [], aB f (bW p.length l)]) (by simp)
    omega)) fun h => by
    obtain ⟨xs, e⟩ := isl _ hfr h
    rw [e]
    rfl
   have hsh : (isL (dX (bW p.length l) (aB f (bW p.length l))) && decide ((its (dX (bW p.length l) (aB f (bW p.length l)))).length = 2)) = false := by
    unfold dX nG
    rw [hlr, if_neg Xv]
    split
    ·
     obtain ⟨f', rfl⟩ : ∃ f', f = f' + 1 := by
      cases f with
      | zero =>
       cases l with
       | nil => cases hl
       | cons x r => exact absurd (hfr _ List.mem_cons_self) (Yc _)
      | succ f => exact ⟨f, rfl⟩
     rcases ndE f' (bW p.length l) hlr with ⟨x, h, _, _, _⟩ | ⟨q, q0, hq, _, _, _, _, _, _⟩ | ⟨_, _, _, hn2, _⟩
     ·
      have := congrArg List.length h
      rw [vS] at this
      simp at this
      omega
     ·
      exfalso
      cases q with
      | nil => simp at q0
      | cons c q =>
       refine hz c fun z hzl => ?_
       have h3 := hq _ (XA.2 ⟨z, hzl, rfl⟩)
       dsimp only at h3
       refine ⟨q ++ (z.1.drop p.length).drop (c :: q).length, ?_⟩
       have h4 := hp z hzl
       rw [h3] at h4
       exact h4
     ·
      rw [hn2]
      simp [its]
    · rfl
   unfold prB
   rw [show bts (.mk false (ppk p false) []) = ppk p false from rfl, xU _ _ hnb]
   dsimp only
   rw [hrf, hsh, decide_eq_true p0]
   rfl
  ·
   rw [hn] at hd
   rw [hn, isN]
   have hlen : (((List.range 16).map fun d => dX (aW d l) (aB f (aW d l))) ++ [Raw.mk false (iJ l) []]).length = 17 := by simp
   have htk : (((List.range 16).map fun d => dX (aW d l) (aB f (aW d l))) ++ [Raw.mk false (iJ l) []]).take 16 = (List.range 16).map fun d => dX (aW d l) (aB f (aW d l)) := Za (by simp)
   have h16 : (((List.range 16).map fun d => dX (aW d l) (aB f (aW d l))) ++ [Raw.mk false (iJ l) []]).getD 16 eF = .mk false (iJ l) [] := by
    rw [List.getD_eq_getElem?_getD, Yg (by simp)]
    simp
   rw [if_pos hlen]
   unfold brB
   rw [htk, h16]
   have hall : ((List.range 16).map fun d => dX (aW d l) (aB f (aW d l))).all (rfB (isN g) true) = true := X6.2 fun y hy => by
    obtain ⟨d, _, rfl⟩ := XA.1 hy
    refine JD (.inr rfl) (oI hg.toGoodL d) (fun hk h32 => kid _ (oJ hg d) hk (pG hf d) ?_) fun h => by
     obtain ⟨xs, e⟩ := isl _ (pG hf d) h
     rw [e]
     rfl
    have h3 := dref (aW d l) _ hk h32
    rw [E.dep] at hd
    have := vw (XJ.2 (.inl hy) : _ ∈ ((List.range 16).map fun d => dX (aW d l) (aB f (aW d l))) ++ [Raw.mk false (iJ l) []])
    rw [h3] at this
    omega
   rw [hall]
   have hc := Vs hg h2 hz
   rw [← xO f l (by
    cases f with
    | zero =>
     refine .inr fun d => ?_
     cases hk : aW d l with
     | nil => rfl
     | cons z _ => exact absurd (pG hf d z (by rw [hk]; exact List.mem_cons_self)) (Yc _)
    | succ f => exact .inl (by omega))] at hc
   rw [show bts (.mk false (iJ l) []) = iJ l from rfl, decide_eq_true hc]
   rfl
def gtE (l : List Pr) (p : List UInt8) : List UInt8 := match l.find? (fun x => x.1 == p) with
 | some x => x.2
 | none => []
theorem DF {l : List Pr} (h : (l.map (·.1)).Nodup) {x : Pr} (hx : x ∈ l) : gtE l x.1 = x.2 := by
 unfold gtE
 cases hf : l.find? (fun y => y.1 == x.1) with
 | none =>
  have := List.find?_eq_none.1 hf x hx
  simp at this
 | some y =>
  have h1 := List.find?_some hf
  have h2 := List.mem_of_find?_eq_some hf
  rw [J5 h y h2 x hx (by simpa using h1)]
theorem uS {l : List Pr} {p : List UInt8} (h : ∀ x ∈ l, x.1 ≠ p) : gtE l p = [] := by
 unfold gtE
 rw [List.find?_eq_none.2 fun x hx => by simpa using h x hx]
theorem JV {l m : List Pr} {p q : List UInt8} (hl : (l.map (·.1)).Nodup) (hm : (m.map (·.1)).Nodup) (h : ∀ v, (p, v) ∈ l ↔ (q, v) ∈ m) : gtE l p = gtE m q := by
 by_cases hx : ∃ x ∈ l, x.1 = p
 ·
  obtain ⟨⟨a, v⟩, hx, rfl⟩ := hx
  have h1 := DF hl hx
  have h2 := DF hm ((h v).1 hx)
  exact h1.trans h2.symm
 · rw [uS fun x hxl e => hx ⟨x, hxl, e⟩, uS fun y hy e => hx ⟨(p, y.2), (h y.2).2 (by rw [← e]; exact hy), rfl⟩]
theorem IQ {α : Type} {g : Nat → α} {a d : α} {c : Nat} (hc : c < 16) : ((List.range 16).map g ++ [a]).getD c d = g c := by
 rw [List.getD_eq_getElem?_getD, Yh (by simpa using hc), XK, YN hc]
 rfl
theorem oW {l : List Pr} {x : Raw} (h : l.isEmpty = true) : dX l x = .mk false [] [] := by
 unfold dX
 rw [if_pos h]
theorem Rt {f : Nat} {l : List Pr} (h : l.isEmpty = false) (hf : ∀ x ∈ l, x.1.length < f) : (!isL (dX l (aB f l)) && decide ((bts (dX l (aB f l))).length = 0)) = false := by
 unfold dX nG
 rw [h, if_neg Xv]
 split
 ·
  obtain ⟨f', rfl⟩ : ∃ f', f = f' + 1 := by
   cases f with
   | zero =>
    cases l with
    | nil => cases h
    | cons x r => exact absurd (hf x List.mem_cons_self) (Yc _)
   | succ f => exact ⟨f, rfl⟩
  obtain ⟨xs, e⟩ := jc f' l
  rw [e]
  rfl
 ·
  show (true && decide ((hash _).length = 0)) = false
  rw [fJ]
  rfl
theorem Kr (a y : Raw) (p : List UInt8) : dwn (.mk true [] [a, y]) p = match rdP (bts a) with
  | some (q, true) => if p = q then (eF, [], bts y, false) else (eF, [], [], false)
  | some (q, false) => if common p q < q.length then (eF, [], [], false) else (y, p.drop q.length, [], true)
  | none => if common p [] < ([] : List UInt8).length then (eF, [], [], false) else (y, p.drop 0, [], true) := by
 unfold dwn
 exact if_neg (show ¬ 2 = 17 by decide)
theorem Td (xs : List Raw) (h : xs.length = 17) : dwn (.mk true [] xs) [] = (eF, [], bts (xs.getD 16 eF), false) := by
 unfold dwn
 exact if_pos h
theorem Vj (xs : List Raw) (h : xs.length = 17) (c : UInt8) (r : List UInt8) : dwn (.mk true [] xs) (c :: r) = if !isL (xs.getD c.toNat eF) && decide ((bts (xs.getD c.toNat eF)).length = 0) then (eF, [], [], false) else (xs.getD c.toNat eF, r, [], true) := by
 unfold dwn
 exact if_pos h
theorem oK (f : Nat) (l : List Pr) (hg : iV l) (hl : l.isEmpty = false) (hf : ∀ x ∈ l, x.1.length < f + 1) (p : List UInt8) (hp : ∀ c ∈ p, c.toNat < 16) :
  (nxE l p = none ∧ (dwn (aB (f + 1) l) p).2.2.2 = false ∧ (dwn (aB (f + 1) l) p).2.2.1 = gtE l p) ∨
  (∃ l' p', nxE l p = some (l', p') ∧ dwn (aB (f + 1) l) p = (dX l' (aB f l'), p', [], true) ∧ l'.isEmpty = false ∧ iV l' ∧ (∀ x ∈ l', x.1.length < f) ∧ gtE l p = gtE l' p' ∧ p'.length < p.length ∧ (∀ c ∈ p', c ∈ p) ∧ (∀ u ∈ jG l' (bZ f l') (aB f l'), u ∈ bZ (f + 1) l) ∧ (∀ x ∈ l', ∃ y ∈ l, x.1.length < y.1.length)) := by
 rcases ndE f l hl with ⟨x, rfl, hx, _, hn⟩ | ⟨q, q0, hq, hs, h2, hz, hx, hn, hU⟩ | ⟨h2, hz, hx, hn, hU⟩
 ·
  refine .inl ⟨hx p, ?_⟩
  rw [hn, Kr, show bts (.mk false (ppk x.1 true) []) = ppk x.1 true from rfl, xU _ _ (hg.nib x List.mem_cons_self)]
  dsimp only
  by_cases he : p = x.1
  ·
   rw [if_pos he]
   refine ⟨rfl, ?_⟩
   rw [he, DF hg.nd List.mem_cons_self]
   rfl
  ·
   rw [if_neg he]
   refine ⟨rfl, ?_⟩
   rw [uS fun y hy e => he (by rw [← e, YF.1 hy])]
 ·
  have hnb : ∀ x ∈ q, x.toNat ≤ 15 := fun c hc => by
   obtain ⟨z, hz, h3⟩ := hs c hc
   exact hg.nib z hz c h3
  have gr := pI hg q hq
  have hlr : (bW q.length l).isEmpty = false := by
   cases l with
   | nil => cases hl
   | cons _ _ => rfl
  have hd : dwn (aB (f + 1) l) p = if common p q < q.length then (eF, [], [], false) else (dX (bW q.length l) (aB f (bW q.length l)), p.drop q.length, [], true) := by
   rw [hn, Kr, show bts (.mk false (ppk q false) []) = ppk q false from rfl, xU _ _ hnb]
  have hcp := zQ p q
  by_cases hc : common p q < q.length
  ·
   refine .inl ⟨by rw [hx, if_pos hc], ?_⟩
   rw [hd, if_pos hc]
   refine ⟨rfl, (uS fun y hy e => ?_).symm⟩
   refine hcp.1 ?_ hc
   have := hq y hy
   rw [← e, this, List.take_left]
  ·
   refine .inr ⟨_, _, by rw [hx, if_neg hc], by rw [hd, if_neg hc], hlr, gr, rZ q0 hf hq, ?_, ?_, fun c hc => Y2 hc, fun u hu => by rw [hU]; exact hu, fun x hx => ?_⟩
   ·
    have hpq := hcp.2 hc
    refine JV hg.nd gr.nd fun v => ⟨fun h => XA.2 ⟨_, h, rfl⟩, fun h => ?_⟩
    obtain ⟨z, hz, e⟩ := XA.1 h
    obtain ⟨e1, e2⟩ := Prod.mk.inj e
    have e3 := hq z hz
    rw [e1] at e3
    have e4 : z.1 = p := by
     rw [e3]
     conv => rhs; rw [← X7 q.length p, ← hpq]
    rw [← e4, ← e2]
    exact hz
   ·
    have := (eY p q).2.1
    rw [Xx]
    omega
   ·
    obtain ⟨w, hw, rfl⟩ := XA.1 hx
    refine ⟨w, hw, ?_⟩
    have h2 := congrArg List.length (hq w hw)
    rw [List.length_append] at h2
    show (w.1.drop q.length).length < w.1.length
    omega
 ·
  have hlen : (((List.range 16).map fun d => dX (aW d l) (aB f (aW d l))) ++ [Raw.mk false (iJ l) []]).length = 17 := by simp
  have h16 : (((List.range 16).map fun d => dX (aW d l) (aB f (aW d l))) ++ [Raw.mk false (iJ l) []]).getD 16 eF = .mk false (iJ l) [] := by
   rw [List.getD_eq_getElem?_getD, Yg (by simp)]
   simp
  cases p with
  | nil =>
   refine .inl ⟨hx _, ?_⟩
   rw [hn, Td _ hlen, h16]
   refine ⟨rfl, ?_⟩
   show iJ l = _
   by_cases h0 : ∃ z ∈ l, z.1 = []
   ·
    obtain ⟨z, hz, e⟩ := h0
    rw [CS hg.toGoodL hz e, ← DF hg.nd hz, e]
   ·
    rw [uS fun x hx e => h0 ⟨x, hx, e⟩]
    exact rD l [] fun x hx => by
     cases e : x.1 with
     | nil => exact absurd ⟨x, hx, e⟩ h0
     | cons _ _ => rfl
  | cons c t =>
   have hc := hp c List.mem_cons_self
   have hd : dwn (aB (f + 1) l) (c :: t) = if !isL (dX (aW c.toNat l) (aB f (aW c.toNat l))) && decide ((bts (dX (aW c.toNat l) (aB f (aW c.toNat l)))).length = 0) then (eF, [], [], false) else (dX (aW c.toNat l) (aB f (aW c.toNat l)), t, [], true) := by
    rw [hn, Vj _ hlen]
    rw [IQ (g := fun d => dX (aW d l) (aB f (aW d l))) hc]
   have hgk : gtE l (c :: t) = gtE (aW c.toNat l) t := JV hg.nd (oJ hg _).nd fun v => by
    have := x9 (d := c.toNat) (l := l) (t := t) (v := v) (by omega)
    rw [YO] at this
    exact this.symm
   cases hk : (aW c.toNat l).isEmpty with
   | true =>
    refine .inl ⟨by rw [hx, RH, if_pos hk], ?_⟩
    rw [hd, oW hk]
    refine ⟨rfl, ?_⟩
    rw [hgk, show aW c.toNat l = [] by simpa using hk]
    rfl
   | false =>
    refine .inr ⟨_, _, by rw [hx, RH, if_neg (by rw [hk]; decide)], by rw [hd, Rt hk (pG hf _), if_neg Xv], hk, oJ hg _, pG hf _, hgk, by simp, fun d hd => Xw _ hd, fun u hu => ?_, fun x hx => ?_⟩
    ·
     rw [hU]
     exact Zj.2 ⟨_, XA.2 ⟨c.toNat, Yu.2 hc, rfl⟩, hu⟩
    ·
     obtain ⟨w, hw, hh, rfl⟩ := oC hx
     have := oG hh
     refine ⟨w, hw, ?_⟩
     show (w.1.drop 1).length < _
     rw [Xx]
     omega
def hsh (x : Raw) : List (List UInt8) := if (pkB x).length < 32 then [] else [pkB x]
def pfE : Nat → List Pr → List UInt8 → List (List UInt8)
 | 0, _, _ => []
 | f + 1, l, p => match nxE l p with
  | none => []
  | some (l', p') => hsh (aB f l') ++ pfE f l' p'
theorem rX {f : Nat} {l : List Pr} (hg : iV l) : rdE (pkB (aB f l)) = 0 ∧ rdX (pkB (aB f l)) = aB f l ∧ Gd (aB f l) := by
 have hk := kX f l hg.toGoodL
 have h := yO hk.1
 rw [hk.2] at h
 rw [yR hk]
 unfold rdE rdX
 rw [h]
 exact ⟨rfl, rfl, ER h⟩
theorem tX {f : Nat} {l : List Pr} (hg : iV l) (hl : l.isEmpty = false) (hf : ∀ x ∈ l, x.1.length < f) : isN 40 (aB f l) = true := by
 obtain ⟨f', rfl⟩ : ∃ f', f = f' + 1 := by
  cases f with
  | zero =>
   cases l with
   | nil => cases hl
   | cons x r => exact absurd (hf x List.mem_cons_self) (Yc _)
  | succ f => exact ⟨f, rfl⟩
 exact FN f' 40 l hg hl hf (by have := (rX (f := f' + 1) hg).2.2.dep; omega)
theorem FP {f : Nat} {l : List Pr} (hl : l.isEmpty = false) (hf : ∀ x ∈ l, x.1.length < f) : isL (aB f l) = true := by
 cases f with
 | zero =>
  cases l with
  | nil => cases hl
  | cons x r => exact absurd (hf x List.mem_cons_self) (Yc _)
 | succ f =>
  obtain ⟨xs, e⟩ := jc f l
  rw [e]
  rfl
theorem JK {f : Nat} {l : List Pr} (hg : iV l) (hl : l.isEmpty = false) (hf : ∀ x ∈ l, x.1.length < f) (q : List (List UInt8)) : nxt (dX l (aB f l)) (hsh (aB f l) ++ q) = .ok (aB f l, q) := by
 obtain ⟨h1, h2, h3⟩ := rX (f := f) hg
 have h4 := tX hg hl hf
 have h5 := FP hl hf
 unfold dX nG hsh nxt
 rw [hl, if_neg Xv]
 split
 · rfl
 ·
  rw [if_neg (show ¬ isL (.mk false (hash (pkB (aB f l))) []) = true from Xv)]
  show (if hash (pkB (aB f l)) = hash (pkB (aB f l)) then _ else _) = _
  rw [if_pos rfl, h1, h2, if_pos ⟨rfl, h4⟩]
  rfl
theorem Fh {f : Nat} {l : List Pr} (hg : iV l) (hl : l.isEmpty = false) (hf : ∀ x ∈ l, x.1.length < f) (q : List (List UInt8)) : nxt (.mk false (hash (pkB (aB f l))) []) (pkB (aB f l) :: q) = .ok (aB f l, q) := by
 obtain ⟨h1, h2, h3⟩ := rX (f := f) hg
 have h4 := tX hg hl hf
 unfold nxt
 rw [if_neg (show ¬ isL (.mk false (hash (pkB (aB f l))) []) = true from Xv)]
 show (if hash (pkB (aB f l)) = hash (pkB (aB f l)) then _ else _) = _
 rw [if_pos rfl, h1, h2, if_pos ⟨rfl, h4⟩]
theorem KA : ∀ (f g : Nat) (l : List Pr) (p : List UInt8) (q : List (List UInt8)), iV l → l.isEmpty = false → (∀ x ∈ l, x.1.length < f) → (∀ c ∈ p, c.toNat < 16) → p.length < g + 1 → zV g (aB f l) p (pfE f l p ++ q) = if q.length = 0 then (gtE l p, 0) else ([], 3)
 | 0, g, l, p, q, hg, hl, hf, hp, hpg => by
  cases l with
  | nil => cases hl
  | cons x r => exact absurd (hf x List.mem_cons_self) (Yc _)
 | f + 1, g, l, p, q, hg, hl, hf, hp, hpg => by
  unfold zV
  rw [pfE]
  rcases oK f l hg hl hf p hp with ⟨h1, h2, h3⟩ | ⟨l', p', h1, h2, h3, h4, h5, h6, h7, h8, _, _⟩
  ·
   rw [h1, h2, h3, if_neg Xv]
   rfl
  ·
   rw [h1, h2, if_pos rfl]
   dsimp only
   obtain ⟨g', rfl⟩ : ∃ g', g = g' + 1 := ⟨g - 1, by omega⟩
   rw [kG, List.append_assoc, JK h4 h3 h5]
   show zV g' (aB f l') p' (pfE f l' p' ++ q) = _
   rw [KA f g' l' p' q h4 h3 h5 (fun c hc => hp c (h8 c hc)) (by omega), h6]
theorem DW : ∀ (f g : Nat) (l : List Pr) (p : List UInt8) (A : List (List UInt8)) (b : List UInt8) (B q : List (List UInt8)), iV l → l.isEmpty = false → (∀ x ∈ l, x.1.length < f) → (∀ c ∈ p, c.toNat < 16) → p.length < g + 1 → pfE f l p = A ++ b :: B → (∀ c t, q = c :: t → hash c ≠ hash b) → zV g (aB f l) p (A ++ q) = ([], 5)
 | 0, g, l, p, A, b, B, q, hg, hl, hf, hp, hpg, e, hq => by
  cases l with
  | nil => cases hl
  | cons x r => exact absurd (hf x List.mem_cons_self) (Yc _)
 | f + 1, g, l, p, A, b, B, q, hg, hl, hf, hp, hpg, e, hq => by
  unfold zV
  rw [pfE] at e
  rcases oK f l hg hl hf p hp with ⟨h1, h2, h3⟩ | ⟨l', p', h1, h2, h3, h4, h5, h6, h7, h8, _, _⟩
  ·
   rw [h1] at e
   simp at e
  ·
   rw [h1] at e
   dsimp only at e
   rw [h2, if_pos rfl]
   dsimp only
   obtain ⟨g', rfl⟩ : ∃ g', g = g' + 1 := ⟨g - 1, by omega⟩
   have hn := JK h4 h3 h5
   unfold hsh at e hn
   by_cases h32 : (pkB (aB f l')).length < 32
   ·
    rw [if_pos h32] at e hn
    rw [kG, show A ++ q = [] ++ (A ++ q) from rfl, hn]
    exact DW f g' l' p' A b B q h4 h3 h5 (fun c hc => hp c (h8 c hc)) (by omega) e hq
   ·
    rw [if_neg h32] at e hn
    cases A with
    | cons a A =>
     injection e with e1 e2
     rw [kG, Xr, ← e1, show pkB (aB f l') :: (A ++ q) = [pkB (aB f l')] ++ (A ++ q) from rfl, hn]
     exact DW f g' l' p' A b B q h4 h3 h5 (fun c hc => hp c (h8 c hc)) (by omega) e2 hq
    | nil =>
     injection e with e1 e2
     have hx : dX l' (aB f l') = .mk false (hash b) [] := by
      unfold dX nG
      rw [h3, if_neg Xv, if_neg h32, e1]
     rw [kG, hx]
     unfold nxt
     rw [if_neg (show ¬ isL (.mk false (hash b) []) = true from Xv)]
     cases q with
     | nil => rfl
     | cons c t =>
      dsimp only [List.nil_append]
      rw [if_neg (show ¬ hash c = bts (.mk false (hash b) []) from hq c t rfl)]
theorem JJ : ∀ (f : Nat) (l : List Pr) (p : List UInt8), iV l → l.isEmpty = false → (∀ x ∈ l, x.1.length < f) → (∀ c ∈ p, c.toNat < 16) → ∀ u ∈ pfE f l p, u ∈ bZ f l
 | 0, l, p, hg, hl, hf, hp, u, hu => by cases hu
 | f + 1, l, p, hg, hl, hf, hp, u, hu => by
  rw [pfE] at hu
  rcases oK f l hg hl hf p hp with ⟨h1, h2, h3⟩ | ⟨l', p', h1, h2, h3, h4, h5, h6, h7, h8, h9, _⟩
  ·
   rw [h1] at hu
   cases hu
  ·
   rw [h1] at hu
   refine h9 u ?_
   unfold jG
   rw [h3, if_neg Xv]
   rcases XJ.1 hu with hu | hu
   · exact XJ.2 (.inr (by unfold hsh at hu; exact hu))
   · exact XJ.2 (.inl (JJ f l' p' h4 h3 h5 (fun c hc => hp c (h8 c hc)) u hu))
def TR : Nat → List Pr → Tn → Prop
 | 0, _, _ => False
 | f + 1, l, t => match l with
  | [] => False
  | [x] => t = .leaf x.1 x.2
  | x :: y :: r =>
   if 0 < bQ x.1 (y :: r) then ∃ k, t = .ext (x.1.take (bQ x.1 (y :: r))) k ∧ TR f (bW (bQ x.1 (y :: r)) (x :: y :: r)) k
   else ∃ ks, t = .br ks (iJ (x :: y :: r)) ∧ ∀ d, d < 16 → if (aW d (x :: y :: r)).isEmpty then ks d = .nil else TR f (aW d (x :: y :: r)) (ks d)
theorem yu : ∀ (f : Nat) (l L : List Pr) (at_ : Nat), l.Perm (L.map (dr at_)) → lD at_ L → L ≠ [] → (∀ x ∈ L, x.1.length < at_ + f) → TR f l (bdF f L at_)
 | 0, l, L, at_, _, hR, hn, hf => by
  cases L with
  | nil => exact absurd rfl hn
  | cons x r =>
   have h1 := hf x List.mem_cons_self
   have h2 := hR.len x List.mem_cons_self
   omega
 | f + 1, l, L, at_, hp, hR, hn, hf => by
  match L, hn with
  | [X], _ =>
   rw [ZJ.1 hp, Jf]
   rfl
  | X :: Y :: R, _ =>
   have hll := hp.length_eq
   rw [List.length_map] at hll
   match l, hll with
   | a :: b :: r, _ =>
    obtain ⟨M, hM⟩ : ∃ M, X :: Y :: R = M := ⟨_, rfl⟩
    have hM0 : X ∈ M := by rw [← hM]; exact List.mem_cons_self
    have hMl : 1 < M.length := by rw [← hM]; simp
    rw [hM] at hp hR hf ⊢
    have h00 : 0 < M.length := by omega
    have hfst : M[0] = X := by simp [← hM]
    have hcm := Gx hR h00 rfl hp
    have hmem : ∀ z ∈ a :: b :: r, ∃ x ∈ M, z = dr at_ x := fun z hz => by
     obtain ⟨x, hx, rfl⟩ := XA.1 (hp.mem_iff.1 hz)
     exact ⟨x, hx, rfl⟩
    rw [TR]
    by_cases hc : common (M[0].1.drop at_) (M[M.length - 1].1.drop at_) > 0
    ·
     rw [if_pos (by rw [hcm]; exact hc), hcm, QA f at_ M hMl hc]
     have hR2 := hR.more h00 rfl
     have ht : a.1.take (common (M[0].1.drop at_) (M[M.length - 1].1.drop at_)) = (M[0].1.drop at_).take (common (M[0].1.drop at_) (M[M.length - 1].1.drop at_)) := by
      obtain ⟨x, hx, e⟩ := hmem a List.mem_cons_self
      rw [e]
      obtain ⟨i, hi, rfl⟩ := YR hx
      obtain ⟨c1, c2, c3⟩ := eY (M[0].1.drop at_) (M[M.length - 1].1.drop at_)
      exact (sandwich _ _ _ _ (hR.qJ h00 hi (XQ _)) (hR.qJ hi (by omega) (by omega)) c1 c2).1
     have hrp : (bW (common (M[0].1.drop at_) (M[M.length - 1].1.drop at_)) (a :: b :: r)).Perm (M.map (dr (at_ + common (M[0].1.drop at_) (M[M.length - 1].1.drop at_)))) := by
      rw [← Ql]
      exact hp.map _
     rw [ht]
     generalize common (M[0].1.drop at_) (M[M.length - 1].1.drop at_) = c at *
     have hMn : M ≠ [] := fun e => by rw [e] at h00; exact absurd h00 (Nat.lt_irrefl _)
     have hlt := hf X hM0
     have hle := hR2.len X hM0
     obtain ⟨f', rfl⟩ : ∃ f', f = f' + 1 := ⟨f - 1, by omega⟩
     exact ⟨_, rfl, yu (f' + 1) _ M (at_ + c) hrp hR2 hMn fun x hx => by have := hf x hx; omega⟩
    ·
     rw [if_neg (by rw [hcm]; exact hc)]
     have kid : ∀ (d : Nat) (M' : List Pr), lD at_ M' → (∀ z ∈ M', at_ < z.1.length) → (∀ z ∈ M', z ∈ M) → M.filter (fun x => headD d (dr at_ x)) = M'.filter (fun z => (kJ at_ z).toNat == d) → (if (aW d (a :: b :: r)).isEmpty then bdF f (M'.filter fun z => (kJ at_ z).toNat == d) (at_ + 1) = .nil else TR f (aW d (a :: b :: r)) (bdF f (M'.filter fun z => (kJ at_ z).toNat == d) (at_ + 1))) := by
      intro d M' hR' hl' hsub hfe
      have hkp := FK (d := d) hp
      rw [hfe] at hkp
      by_cases hne : M'.filter (fun z => (kJ at_ z).toNat == d) = []
      ·
       rw [hne] at hkp ⊢
       rw [Jg, Zw hkp]
       rfl
      ·
       have hkn : (aW d (a :: b :: r)).isEmpty = false := by
        cases hk : aW d (a :: b :: r) with
        | nil =>
         rw [hk] at hkp
         exact absurd (List.map_eq_nil_iff.1 (Zw hkp.symm)) hne
        | cons _ _ => rfl
       have hex : ∃ z, z ∈ M'.filter (fun z => (kJ at_ z).toNat == d) := List.exists_mem_of_ne_nil _ hne
       obtain ⟨z, hz⟩ := hex
       have hz' := (Yb.1 hz).1
       have := hl' z hz'
       have := hf z (hsub z hz')
       obtain ⟨f', rfl⟩ : ∃ f', f = f' + 1 := ⟨f - 1, by omega⟩
       have ih := yu (f' + 1) _ _ (at_ + 1) hkp (EG hR' hl') hne fun x hx => by
        have := hf x (hsub x (Yb.1 hx).1)
        omega
       rw [if_neg (by rw [hkn]; decide)]
       exact ih
     by_cases h0 : (M[0].1.drop at_).length = 0
     ·
      rw [QC f at_ M hMl hc h0]
      have hX : X.1.length ≤ at_ := by
       rw [hfst, Xx] at h0
       omega
      have htl : M.tail = Y :: R := by rw [← hM]; rfl
      have hRX : lD at_ (X :: Y :: R) := by rw [hM]; exact hR
      have hlong : ∀ z ∈ Y :: R, at_ < z.1.length := fun z hz => hRX.longer hz
      have hRt : lD at_ (Y :: R) := hRX.sub (Zo _ _)
      rw [htl]
      have hval : iJ (a :: b :: r) = M[0].2 := by
       refine vK _ [] _ (fun z hz he => ?_) (.inr ?_)
       ·
        obtain ⟨x, hx, rfl⟩ := hmem z hz
        rw [← hM] at hx
        rcases XB.1 hx with rfl | hx
        ·
         rw [hfst]
         rfl
        ·
         have := hlong x hx
         unfold dr at he
         dsimp only at he
         rw [List.isEmpty_iff, List.drop_eq_nil_iff] at he
         omega
       ·
        refine ⟨dr at_ X, hp.mem_iff.2 (XA.2 ⟨X, hM0, rfl⟩), ?_⟩
        unfold dr
        dsimp only
        rw [XP hX]
        rfl
      refine ⟨_, by rw [hval], fun d _ => ?_⟩
      refine kid d (Y :: R) hRt hlong (fun z hz => by rw [← hM]; exact Xw _ hz) ?_
      rw [← hM, Ye (by rw [BL hX]; decide)]
      exact Zq fun z hz => uP (hlong z hz)
     ·
      rw [QB f at_ M hMl hc h0]
      have hX : at_ < X.1.length := by
       rw [hfst, Xx] at h0
       omega
      have hlong : ∀ z ∈ M, at_ < z.1.length := GU hR h00 (by rw [hfst]; exact hX)
      have hval : iJ (a :: b :: r) = [] := rD _ _ fun z hz => by
       obtain ⟨x, hx, rfl⟩ := hmem z hz
       have := hlong x hx
       unfold dr
       dsimp only
       rw [XI this]
       rfl
      refine ⟨_, by rw [hval], fun d _ => ?_⟩
      exact kid d M hR hlong (fun z hz => hz) (Zq fun z hz => uP (hlong z hz))
theorem vH {f : Nat} {l : List Pr} {t : Tn} (h : TR f l t) : t.isNil = false ∧ l.isEmpty = false := by
 cases f with
 | zero => exact h.elim
 | succ f =>
  match l with
  | [] => exact h.elim
  | [x] =>
   obtain rfl : t = _ := h
   exact ⟨rfl, rfl⟩
  | x :: y :: r =>
   rw [TR] at h
   split at h
   ·
    obtain ⟨k, rfl, _⟩ := h
    exact ⟨rfl, rfl⟩
   ·
    obtain ⟨ks, rfl, _⟩ := h
    exact ⟨rfl, rfl⟩
theorem D9 : ∀ (f : Nat) (l : List Pr) (t : Tn), TR f l t → gK t = aB f l
 | 0, _, _, h => h.elim
 | f + 1, [], _, h => h.elim
 | f + 1, [x], t, h => by
  obtain rfl : t = _ := h
  rw [xg, aB]
 | f + 1, x :: y :: r, t, h => by
  rw [TR] at h
  rw [aB]
  split at h
  ·
   rename_i hc
   obtain ⟨k, rfl, hk⟩ := h
   rw [if_pos hc, zo, rM (vH hk).1, rP _ (vH hk).2, D9 f _ k hk]
  ·
   rename_i hc
   obtain ⟨ks, rfl, hk⟩ := h
   rw [if_neg hc, wB]
   refine congrArg (Raw.mk true []) (congrArg (· ++ [Raw.mk false (iJ (x :: y :: r)) []]) (Yq fun d hd => ?_))
   have := hk d (Yu.1 hd)
   split at this
   ·
    rename_i he
    rw [this, oW he]
    rfl
   ·
    rename_i he
    rw [rM (vH this).1, rP _ (vH this).2, D9 f _ _ this]
theorem Rh {l : List Pr} (he : ji l = 0) (hn : l ≠ []) : TR 200 (l.map sp) (sJ l) := by
 obtain ⟨_, hlg, hnd⟩ := lQ he
 have hp : (l.map sp).Perm ((srt (l.map sp)).map (dr 0)) := by
  have h0 : (srt (l.map sp)).map (dr 0) = srt (l.map sp) := (Yq fun x _ => rfl).trans (List.map_id _)
  rw [h0]
  exact (iF _).symm
 have hne : srt (l.map sp) ≠ [] := fun e => by
  have := (iF (l.map sp)).length_eq
  rw [e, List.length_map] at this
  exact hn (X5 this.symm)
 unfold sJ
 exact yu 200 _ _ 0 hp (EF hnd) hne fun z hz => by
  obtain ⟨y, hy, rfl⟩ := XA.1 ((iF _).mem_iff.1 hz)
  have := jf hlg hy
  show (split y.1).length < _
  rw [dB]
  omega
theorem Ez {l : List Pr} (he : ji l = 0) (hn : l ≠ []) : jM l = hash (pkB (aB 200 (l.map sp))) := by
 have h := Rh he hn
 unfold jM sumT
 rw [if_pos he, (vH h).1, if_neg Xv, D9 _ _ _ h]
theorem Pj {l : List Pr} (he : ji l = 0) : ∀ x ∈ l.map sp, x.1.length < 200 := fun x hx => by
 obtain ⟨y, hy, rfl⟩ := XA.1 hx
 have := ((Qe.1 he).2.1 y hy).1
 show (split y.1).length < _
 rw [dB]
 omega
def fH (l : List Pr) (key : List UInt8) : List (List UInt8) := if l.isEmpty then [] else pkB (aB 200 (l.map sp)) :: pfE 200 (l.map sp) (split key)
theorem wE : ∀ (f g : Nat) (l : List Pr), l.isEmpty = false → (∀ x ∈ l, x.1.length < f) → (∀ x ∈ l, x.1.length < g) → aB f l = aB g l ∧ bZ f l = bZ g l
 | 0, _, l, hl, hf, _ => by
  cases l with
  | nil => cases hl
  | cons x r => exact absurd (hf x List.mem_cons_self) (Yc _)
 | f + 1, 0, l, hl, _, hg => by
  cases l with
  | nil => cases hl
  | cons x r => exact absurd (hg x List.mem_cons_self) (Yc _)
 | f + 1, g + 1, [], hl, _, _ => by cases hl
 | f + 1, g + 1, [x], _, _, _ => ⟨by rw [aB, aB], by rw [bZ, bZ]⟩
 | f + 1, g + 1, x :: y :: r, hl, hf, hg => by
  have hle : bQ x.1 (y :: r) ≤ x.1.length := (jO x.1 (y :: r) x.1.length (Nat.le_refl _)).1
  have hln : (x.1.take (bQ x.1 (y :: r))).length = bQ x.1 (y :: r) := by rw [List.length_take]; omega
  rw [aB, aB, bZ, bZ]
  by_cases hp : 0 < bQ x.1 (y :: r)
  ·
   have hpre := DV x y r
   rw [if_pos hp, if_pos hp, if_pos hp, if_pos hp]
   have h1 := rZ (p := x.1.take (bQ x.1 (y :: r))) (f := f) (by omega) hf (by rw [hln]; exact hpre)
   have h2 := rZ (p := x.1.take (bQ x.1 (y :: r))) (f := g) (by omega) hg (by rw [hln]; exact hpre)
   rw [hln] at h1 h2
   obtain ⟨e1, e2⟩ := wE f g _ (show (bW (bQ x.1 (y :: r)) (x :: y :: r)).isEmpty = false from rfl) h1 h2
   rw [e1, e2]
   exact ⟨rfl, rfl⟩
  ·
   rw [if_neg hp, if_neg hp, if_neg hp, if_neg hp]
   have hk : ∀ d, dX (aW d (x :: y :: r)) (aB f (aW d (x :: y :: r))) = dX (aW d (x :: y :: r)) (aB g (aW d (x :: y :: r))) ∧ jG (aW d (x :: y :: r)) (bZ f (aW d (x :: y :: r))) (aB f (aW d (x :: y :: r))) = jG (aW d (x :: y :: r)) (bZ g (aW d (x :: y :: r))) (aB g (aW d (x :: y :: r))) := fun d => by
    cases he : (aW d (x :: y :: r)).isEmpty with
    | true =>
     rw [oW he, oW he]
     unfold jG
     rw [he, if_pos rfl, if_pos rfl]
     exact ⟨rfl, rfl⟩
    | false =>
     obtain ⟨e1, e2⟩ := wE f g _ he (pG hf d) (pG hg d)
     rw [e1, e2]
     exact ⟨rfl, rfl⟩
   refine ⟨congrArg (Raw.mk true []) (congrArg (· ++ [Raw.mk false (iJ (x :: y :: r)) []]) (Yq fun d _ => (hk d).1)), congrArg List.flatten (Yq fun d _ => (hk d).2)⟩
theorem vV : ∀ (f : Nat) (l : List Pr) (p : List UInt8) (A : List (List UInt8)) (b : List UInt8) (B : List (List UInt8)), iV l → l.isEmpty = false → (∀ x ∈ l, x.1.length < f) → (∀ c ∈ p, c.toNat < 16) → pfE f l p = A ++ b :: B → ∃ f' l' p', b = pkB (aB f' l') ∧ B = pfE f' l' p' ∧ iV l' ∧ l'.isEmpty = false ∧ (∀ x ∈ l', x.1.length < f') ∧ (∀ c ∈ p', c.toNat < 16) ∧ (∀ u ∈ bZ f' l', u ∈ bZ f l) ∧ b ∈ bZ f l ∧ (∀ x ∈ l', ∃ y ∈ l, x.1.length < y.1.length)
 | 0, l, p, A, b, B, hg, hl, hf, hp, e => by
  cases l with
  | nil => cases hl
  | cons x r => exact absurd (hf x List.mem_cons_self) (Yc _)
 | f + 1, l, p, A, b, B, hg, hl, hf, hp, e => by
  rw [pfE] at e
  rcases oK f l hg hl hf p hp with ⟨h1, h2, h3⟩ | ⟨l', p', h1, h2, h3, h4, h5, h6, h7, h8, h9, h10⟩
  ·
   rw [h1] at e
   simp at e
  ·
   rw [h1] at e
   dsimp only at e
   have hp' : ∀ c ∈ p', c.toNat < 16 := fun c hc => hp c (h8 c hc)
   have hsub : ∀ u ∈ bZ f l', u ∈ bZ (f + 1) l := fun u hu' => h9 u (by
    unfold jG
    rw [h3, if_neg Xv]
    exact XJ.2 (.inl hu'))
   have deep : ∀ A b B, pfE f l' p' = A ++ b :: B → ∃ f' l' p', b = pkB (aB f' l') ∧ B = pfE f' l' p' ∧ iV l' ∧ l'.isEmpty = false ∧ (∀ x ∈ l', x.1.length < f') ∧ (∀ c ∈ p', c.toNat < 16) ∧ (∀ u ∈ bZ f' l', u ∈ bZ (f + 1) l) ∧ b ∈ bZ (f + 1) l ∧ (∀ x ∈ l', ∃ y ∈ l, x.1.length < y.1.length) := fun A b B e => by
    obtain ⟨f2, l2, p2, a1, a2, a3, a4, a5, a6, a7, a8, a9⟩ := vV f l' p' A b B h4 h3 h5 hp' e
    refine ⟨f2, l2, p2, a1, a2, a3, a4, a5, a6, fun u hu => hsub u (a7 u hu), hsub b a8, fun x hx => ?_⟩
    obtain ⟨y, hy, hxy⟩ := a9 x hx
    obtain ⟨z, hz, hyz⟩ := h10 y hy
    exact ⟨z, hz, by omega⟩
   unfold hsh at e
   by_cases h32 : (pkB (aB f l')).length < 32
   ·
    rw [if_pos h32] at e
    exact deep A b B e
   ·
    rw [if_neg h32] at e
    cases A with
    | cons a A =>
     injection e with e1 e2
     exact deep A b B e2
    | nil =>
     injection e with e1 e2
     refine ⟨f, l', p', e1.symm, e2.symm, h4, h3, h5, hp', hsub, h9 b ?_, h10⟩
     unfold jG
     rw [h3, if_neg Xv, if_neg h32]
     exact XJ.2 (.inr (YF.2 e1.symm))
theorem MP {l : List Pr} (hl : l.isEmpty = false) (h : ∀ x ∈ l, ∃ y ∈ l, x.1.length < y.1.length) : False := by
 have key : ∀ n : Nat, ∃ y ∈ l, n ≤ y.1.length := fun n => by
  induction n with
  | zero =>
   cases l with
   | nil => cases hl
   | cons x r => exact ⟨x, List.mem_cons_self, XQ _⟩
  | succ n ih =>
   obtain ⟨x, hx, hn⟩ := ih
   obtain ⟨y, hy, hxy⟩ := h x hx
   exact ⟨y, hy, by omega⟩
 have bd : ∀ m : List Pr, ∃ N, ∀ x ∈ m, x.1.length ≤ N := fun m => by
  induction m with
  | nil => exact ⟨0, fun x hx => by cases hx⟩
  | cons a m ih =>
   obtain ⟨N, hN⟩ := ih
   refine ⟨max N a.1.length, fun x hx => ?_⟩
   rcases XB.1 hx with rfl | hx
   · omega
   ·
    have := hN x hx
    omega
 obtain ⟨N, hN⟩ := bd l
 obtain ⟨y, hy, hn⟩ := key (N + 1)
 have := hN y hy
 omega
theorem Gz {S : List Pr} (hS : Srt S) {f : Nat} {l : List Pr} {p : List UInt8} (hg : iV l) (hl : l.isEmpty = false) (hf : ∀ x ∈ l, x.1.length < f) (hp : ∀ c ∈ p, c.toNat < 16) (hu : ∀ u ∈ bZ f l, (hash u, u) ∈ S) (hb : (hash (pkB (aB f l)), pkB (aB f l)) ∈ S) {c : List UInt8} (hc : c ∈ pfE f l p) : hash c ≠ hash (pkB (aB f l)) := fun e => by
 obtain ⟨A, B, hAB⟩ := List.append_of_mem hc
 obtain ⟨f', l', p', a1, a2, a3, a4, a5, a6, a7, a8, a9⟩ := vV f l p A c B hg hl hf hp hAB
 have h1 := hu c a8
 rw [e] at h1
 have h2 := qp hS h1 hb
 rw [a1] at h2
 have h3 := OX (kX f' l' a3.toGoodL) (kX f l hg.toGoodL) h2
 have hlt : ∀ x ∈ l', x.1.length < f := fun x hx => by
  obtain ⟨y, hy, hxy⟩ := a9 x hx
  have := hf y hy
  omega
 obtain ⟨e1, e2⟩ := wE f' f l' a4 a5 hlt
 rw [e1] at h3
 have hcl : rC (bZ f l) (bZ f l') := fun u hu1 v hv e3 => by
  have b1 := hu u hu1
  have b2 := hu v (a7 v (by rw [e2]; exact hv))
  rw [e3] at b1
  exact qp hS b1 b2
 have h4 := yZ f l l' hl a4 hf hlt hg.toGoodL a3.toGoodL hcl h3.symm
 exact MP hl fun x hx => a9 x (h4 x hx)
structure Sn (S : List Pr) (l : List Pr) : Prop where
 srt : Srt S
 ok : ji l = 0
 ne : l ≠ []
 all : ∀ u ∈ wO l, (hash u, u) ∈ S
section
variable {S l : List Pr} (h : Sn S l)
include h
theorem Sn.good : iV (l.map sp) ∧ (l.map sp).isEmpty = false ∧ ∀ x ∈ l.map sp, x.1.length < 200 := ⟨FW h.ok, by
 cases l with
 | nil => exact absurd rfl h.ne
 | cons _ _ => rfl, Pj h.ok⟩
theorem Sn.strs : ∀ u ∈ bZ 200 (l.map sp), (hash u, u) ∈ S := fun u hu => h.all u (by
 unfold wO
 rw [if_neg (by cases l with | nil => exact absurd rfl h.ne | cons _ _ => exact Xv)]
 exact Xw _ (XJ.2 (.inl hu)))
theorem Sn.top : (hash (pkB (aB 200 (l.map sp))), pkB (aB 200 (l.map sp))) ∈ S := h.all _ (by
 unfold wO
 rw [if_neg (by cases l with | nil => exact absurd rfl h.ne | cons _ _ => exact Xv)]
 exact Xw _ (XJ.2 (.inr (YF.2 rfl))))
theorem Sn.emp : (lY, [128]) ∈ S := by
 have := h.all [128] (by unfold wO; exact List.mem_cons_self)
 exact this
theorem Sn.root : jM l = hash (pkB (aB 200 (l.map sp))) := Ez h.ok h.ne
theorem Sn.Rq : jM l ≠ lY := fun e => by
 have h1 := h.top
 rw [← h.root, e] at h1
 have h2 := qp h.srt h1 h.emp
 obtain ⟨xs, hx⟩ := jc 199 (l.map sp)
 exact UG (kX 200 _ h.good.1.toGoodL) hx h2
theorem Sn.chk (key : List UInt8) (q : List (List UInt8)) : xQ (jM l) key q = chk 400 (.mk false (hash (pkB (aB 200 (l.map sp)))) []) (split key) q := by
 unfold xQ
 rw [if_neg h.Rq, h.root]
theorem Sn.complete {key : List UInt8} (hk : key.length ≤ 70) (q : List (List UInt8)) : xQ (jM l) key (fH l key ++ q) = if q.length = 0 then (gtE (l.map sp) (split key), 0) else ([], 3) := by
 obtain ⟨g1, g2, g3⟩ := h.good
 rw [h.chk, kG]
 unfold fH
 rw [if_neg (by cases l with | nil => exact absurd rfl h.ne | cons _ _ => exact Xv), Xr, Fh g1 g2 g3]
 exact KA 200 399 _ _ _ g1 g2 g3 (fun c hc => by have := iG key c hc; omega) (by rw [dB]; omega)
theorem Sn.bad {key : List UInt8} (hk : key.length ≤ 70) {A : List (List UInt8)} {b : List UInt8} {B q : List (List UInt8)} (e : fH l key = A ++ b :: B) (hq : ∀ c t, q = c :: t → hash c ≠ hash b) : xQ (jM l) key (A ++ q) = ([], 5) := by
 obtain ⟨g1, g2, g3⟩ := h.good
 rw [h.chk, kG]
 unfold fH at e
 rw [if_neg (by cases l with | nil => exact absurd rfl h.ne | cons _ _ => exact Xv)] at e
 cases A with
 | cons a A =>
  injection e with e1 e2
  rw [Xr, ← e1, Fh g1 g2 g3]
  exact DW 200 399 _ _ A b B q g1 g2 g3 (fun c hc => by have := iG key c hc; omega) (by rw [dB]; omega) e2 hq
 | nil =>
  injection e with e1 e2
  rw [e1]
  unfold nxt
  rw [if_neg (show ¬ isL (.mk false (hash b) []) = true from Xv)]
  cases q with
  | nil => rfl
  | cons c t =>
   dsimp only [List.nil_append]
   rw [if_neg (show ¬ hash c = bts (.mk false (hash b) []) from hq c t rfl)]
theorem Sn.next {key : List UInt8} {A : List (List UInt8)} {b c : List UInt8} {B : List (List UInt8)} (e : fH l key = A ++ b :: c :: B) : hash c ≠ hash b := by
 obtain ⟨g1, g2, g3⟩ := h.good
 have hp : ∀ c ∈ split key, c.toNat < 16 := fun c hc => by have := iG key c hc; omega
 unfold fH at e
 rw [if_neg (by cases l with | nil => exact absurd rfl h.ne | cons _ _ => exact Xv)] at e
 cases A with
 | nil =>
  injection e with e1 e2
  rw [← e1]
  exact Gz h.srt g1 g2 g3 hp h.strs h.top (p := split key) (by rw [e2]; exact List.mem_cons_self)
 | cons a A =>
  injection e with e1 e2
  obtain ⟨f', l', p', a1, a2, a3, a4, a5, a6, a7, a8, a9⟩ := vV 200 _ _ A b (c :: B) g1 g2 g3 hp e2
  have hb := h.strs b a8
  rw [a1] at hb ⊢
  exact Gz h.srt a3 a4 a5 a6 (fun u hu => h.strs u (a7 u hu)) hb (p := p') (by rw [← a2]; exact List.mem_cons_self)
theorem Sn.mem (key : List UInt8) : ∀ u ∈ fH l key, (hash u, u) ∈ S := fun u hu => by
 obtain ⟨g1, g2, g3⟩ := h.good
 unfold fH at hu
 rw [if_neg (by cases l with | nil => exact absurd rfl h.ne | cons _ _ => exact Xv)] at hu
 rcases XB.1 hu with rfl | hu
 · exact h.top
 · exact h.strs u (JJ 200 _ _ g1 g2 g3 (fun c hc => by have := iG key c hc; omega) u hu)
end
end E
end Go.Proofs.YtelbhdobjdnglaaGreat
