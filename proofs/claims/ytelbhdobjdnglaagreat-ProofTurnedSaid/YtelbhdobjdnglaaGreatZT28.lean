/-
 Merged: lemmas of this claim.
 Conditions: none.
-/
import Derived.Test.YtelbhdobjdnglaaGreatZT21
import Derived.Test.YtelbhdobjdnglaaGreatZT12
import Derived.Test.YtelbhdobjdnglaaGreatZT18
import Derived.Test.YtelbhdobjdnglaaGreatZT0
namespace Go.Proofs.YtelbhdobjdnglaaGreat
set_option linter.unusedVariables false
open Go.RowKit Mono Rlp
namespace E
def dr (at_ : Nat) (x : Pr) : Pr := (x.1.drop at_, x.2)
theorem sD : ∀ (n : Nat) (a b : List UInt8), a.take n = b.take n → n ≤ a.length → n ≤ b.length → n ≤ common a b
 | 0, _, _, _, _, _ => XQ _
 | n + 1, [], b, _, h, _ => by simp at h
 | n + 1, _ :: _, [], _, _, h => by simp at h
 | n + 1, x :: a, y :: b, e, h1, h2 => by
  simp only [Xp, Zl] at e
  rw [common, if_pos e.1]
  have := sD n a b e.2 (by simpa using h1) (by simpa using h2)
  omega
theorem zU (p : List UInt8) (c : Nat) : ∀ (l : List Pr) (m : Nat), c ≤ m → (∀ x ∈ l, c ≤ common p x.1) → c ≤ l.foldl (fun n x => if common p x.1 < n then common p x.1 else n) m
 | [], m, h, _ => h
 | y :: l, m, h, hl => by
  rw [Yr]
  refine zU p c l _ ?_ fun x hx => hl x (Xw _ hx)
  split
  · exact hl y List.mem_cons_self
  · exact h
theorem Oh {a b : List UInt8} {n : Nat} (h : n ≤ common a b) : a.take n = b.take n ∧ n ≤ a.length ∧ n ≤ b.length := by
 obtain ⟨h1, h2, h3⟩ := eY a b
 refine ⟨?_, by omega, by omega⟩
 have := congrArg (List.take n) h1
 rwa [List.take_take, List.take_take, Zb h] at this
theorem Gx {at_ : Nat} {L l : List Pr} (hR : lD at_ L) (h0 : 0 < L.length) {a : Pr} {r : List Pr} (hl : l = a :: r) (hp : l.Perm (L.map (dr at_))) : bQ a.1 r = common (L[0].1.drop at_) (L[L.length - 1].1.drop at_) := by
 obtain ⟨c, hc⟩ : ∃ c, common (L[0].1.drop at_) (L[L.length - 1].1.drop at_) = c := ⟨_, rfl⟩
 rw [hc]
 obtain ⟨c1, c2, c3⟩ := eY (L[0].1.drop at_) (L[L.length - 1].1.drop at_)
 rw [hc] at c1 c2 c3
 have key : ∀ x ∈ L, (x.1.drop at_).take c = (L[0].1.drop at_).take c ∧ c ≤ (x.1.drop at_).length := fun x hx => by
  obtain ⟨i, hi, rfl⟩ := YR hx
  exact sandwich c _ _ _ (hR.qJ h0 hi (XQ _)) (hR.qJ hi (by omega) (by omega)) c1 c2
 have keyl : ∀ z ∈ l, z.1.take c = (L[0].1.drop at_).take c ∧ c ≤ z.1.length := fun z hz => by
  obtain ⟨x, hx, rfl⟩ := XA.1 (hp.mem_iff.1 hz)
  exact key x hx
 have ha := keyl a (by rw [hl]; exact List.mem_cons_self)
 have h1 : c ≤ bQ a.1 r := zU a.1 c r a.1.length ha.2 fun x hx => by
  have hx' := keyl x (by rw [hl]; exact Xw _ hx)
  exact sD c _ _ (ha.1.trans hx'.1.symm) ha.2 hx'.2
 have h2 := jO a.1 r a.1.length (Nat.le_refl _)
 change bQ a.1 r ≤ a.1.length ∧ ∀ x ∈ r, bQ a.1 r ≤ common a.1 x.1 at h2
 have h3 : ∀ z ∈ l, z.1.take (bQ a.1 r) = a.1.take (bQ a.1 r) ∧ bQ a.1 r ≤ z.1.length := fun z hz => by
  rw [hl] at hz
  rcases XB.1 hz with rfl | hz
  · exact ⟨rfl, h2.1⟩
  ·
   obtain ⟨t1, t2, t3⟩ := Oh (h2.2 z hz)
   exact ⟨t1.symm, t3⟩
 have hf : dr at_ L[0] ∈ l := hp.mem_iff.2 (XA.2 ⟨_, XW h0, rfl⟩)
 have hla : dr at_ L[L.length - 1] ∈ l := hp.mem_iff.2 (XA.2 ⟨_, XW (by omega), rfl⟩)
 have h4 := h3 _ hf
 have h5 := h3 _ hla
 have h6 := sD (bQ a.1 r) (L[0].1.drop at_) (L[L.length - 1].1.drop at_) (h4.1.trans h5.1.symm) h4.2 h5.2
 rw [hc] at h6
 omega
theorem D6 {f : Nat} {L : List Pr} {at_ : Nat} (h : L ≠ []) : (bdF (f + 1) L at_).isNil = false := by
 match L, h with
 | [x], _ => rfl
 | x :: y :: r, _ =>
  rw [bdF]
  split
  · rfl
  · split <;> rfl
theorem EG {at_ d : Nat} {L : List Pr} (h : lD at_ L) (hl : ∀ z ∈ L, at_ < z.1.length) : lD (at_ + 1) (L.filter fun z => (kJ at_ z).toNat == d) := by
 have hs := h.sub (List.filter_sublist (p := fun z : Pr => (kJ at_ z).toNat == d) (l := L))
 have hlg : ∀ z ∈ L.filter (fun z => (kJ at_ z).toNat == d), at_ < z.1.length := fun z hz => hl z (Yb.1 hz).1
 refine ⟨hs.ord, fun z hz => hlg z hz, fun x hx y hy => ?_, hs.nib⟩
 rw [List.take_add_one, List.take_add_one, hs.pre x hx y hy, Fq (hlg x hx), Fq (hlg y hy)]
 congr 1
 have h1 : (kJ at_ x).toNat = d := by simpa using (Yb.1 hx).2
 have h2 : (kJ at_ y).toNat = d := by simpa using (Yb.1 hy).2
 rw [Yt.1 (h1.trans h2.symm)]
theorem uP {at_ d : Nat} {x : Pr} (h : at_ < x.1.length) : headD d (dr at_ x) = ((kJ at_ x).toNat == d) := by
 unfold dr headD kJ
 dsimp only
 rw [XI h, List.getD_eq_getElem?_getD, List.getElem?_eq_getElem h]
 rfl
theorem BL {at_ d : Nat} {x : Pr} (h : x.1.length ≤ at_) : headD d (dr at_ x) = false := by
 unfold dr headD
 dsimp only
 rw [XP h]
theorem rD : ∀ (l : List Pr) (v : List UInt8), (∀ x ∈ l, x.1.isEmpty = false) → l.foldl (fun v x => if x.1.isEmpty then x.2 else v) v = v
 | [], v, _ => rfl
 | x :: l, v, h => by
  rw [Yr, if_neg (by rw [h x List.mem_cons_self]; decide)]
  exact rD l v fun y hy => h y (Xw _ hy)
theorem vK : ∀ (l : List Pr) (v w : List UInt8), (∀ x ∈ l, x.1.isEmpty = true → x.2 = w) → (v = w ∨ ∃ x ∈ l, x.1.isEmpty = true) → l.foldl (fun v x => if x.1.isEmpty then x.2 else v) v = w
 | [], v, w, _, h => by
  rcases h with h | ⟨x, hx, _⟩
  · exact h
  · cases hx
 | x :: l, v, w, h1, h2 => by
  rw [Yr]
  refine vK l _ w (fun y hy => h1 y (Xw _ hy)) ?_
  cases he : x.1.isEmpty with
  | true =>
   rw [if_pos rfl]
   exact .inl (h1 x List.mem_cons_self he)
  | false =>
   rw [if_neg (by decide)]
   rcases h2 with h2 | ⟨y, hy, h2⟩
   · exact .inl h2
   ·
    rcases XB.1 hy with rfl | hy
    ·
     rw [he] at h2
     cases h2
    · exact .inr ⟨y, hy, h2⟩
theorem Ql (n at_ : Nat) (L : List Pr) : bW n (L.map (dr at_)) = L.map (dr (at_ + n)) := by
 unfold bW
 rw [YJ]
 refine Yq fun x _ => ?_
 unfold dr
 dsimp only [Function.comp_apply]
 rw [Zt]
theorem FK {at_ d : Nat} {l L : List Pr} (hp : l.Perm (L.map (dr at_))) : (aW d l).Perm ((L.filter fun x => headD d (dr at_ x)).map (dr (at_ + 1))) := by
 have h1 : (l.filter (headD d)).Perm ((L.map (dr at_)).filter (headD d)) := hp.filter _
 rw [List.filter_map] at h1
 have h2 := h1.map (fun x : Pr => (x.1.drop 1, x.2))
 have h3 := Ql 1 at_ (L.filter fun x => headD d (dr at_ x))
 unfold bW at h3
 rw [← h3]
 exact h2
theorem xg (p v : List UInt8) : gK (.leaf p v) = .mk true [] [.mk false (ppk p true) [], .mk false v []] := rfl
theorem zo (p : List UInt8) (k : Tn) : gK (.ext p k) = .mk true [] [.mk false (ppk p false) [], mQ k] := rfl
theorem OM (x : Raw) : dX [] x = .mk false [] [] := rfl
theorem rP {l : List Pr} (x : Raw) (h : l.isEmpty = false) : dX l x = nG x := by
 unfold dX
 rw [h, if_neg (by decide)]
theorem LJ : mQ .nil = .mk false [] [] := rfl
theorem rM {t : Tn} (h : t.isNil = false) : mQ t = nG (gK t) := by
 unfold mQ
 rw [h, if_neg (by decide)]
theorem yY : ∀ (f : Nat) (l L : List Pr) (at_ : Nat), l.Perm (L.map (dr at_)) → lD at_ L → L ≠ [] → (∀ x ∈ L, x.1.length < at_ + f) → aB f l = gK (bdF f L at_)
 | 0, l, L, at_, _, hR, hn, hf => by
  cases L with
  | nil => exact absurd rfl hn
  | cons x r =>
   have h1 := hf x List.mem_cons_self
   have h2 := hR.len x List.mem_cons_self
   omega
 | f + 1, l, L, at_, hp, hR, hn, hf => by
  match L, hn with
  | [X], _ =>
   rw [ZJ.1 hp, Jf, aB, xg]
   rfl
  | X :: Y :: R, _ =>
   have hll := hp.length_eq
   rw [List.length_map] at hll
   match l, hll with
   | a :: b :: r, _ =>
    obtain ⟨M, hM⟩ : ∃ M, X :: Y :: R = M := ⟨_, rfl⟩
    have hM0 : X ∈ M := by rw [← hM]; exact List.mem_cons_self
    have hMl : 1 < M.length := by rw [← hM]; simp
    rw [hM] at hp hR hf ⊢
    have h00 : 0 < M.length := by omega
    have hfst : M[0] = X := by simp [← hM]
    have hcm := Gx hR h00 rfl hp
    have hmem : ∀ z ∈ a :: b :: r, ∃ x ∈ M, z = dr at_ x := fun z hz => by
     obtain ⟨x, hx, rfl⟩ := XA.1 (hp.mem_iff.1 hz)
     exact ⟨x, hx, rfl⟩
    rw [aB]
    by_cases hc : common (M[0].1.drop at_) (M[M.length - 1].1.drop at_) > 0
    ·
     rw [if_pos (by rw [hcm]; exact hc), hcm, QA f at_ M hMl hc]
     have hR2 := hR.more h00 rfl
     have ht : a.1.take (common (M[0].1.drop at_) (M[M.length - 1].1.drop at_)) = (M[0].1.drop at_).take (common (M[0].1.drop at_) (M[M.length - 1].1.drop at_)) := by
      obtain ⟨x, hx, e⟩ := hmem a List.mem_cons_self
      rw [e]
      obtain ⟨i, hi, rfl⟩ := YR hx
      obtain ⟨c1, c2, c3⟩ := eY (M[0].1.drop at_) (M[M.length - 1].1.drop at_)
      exact (sandwich _ _ _ _ (hR.qJ h00 hi (XQ _)) (hR.qJ hi (by omega) (by omega)) c1 c2).1
     have hrp : (bW (common (M[0].1.drop at_) (M[M.length - 1].1.drop at_)) (a :: b :: r)).Perm (M.map (dr (at_ + common (M[0].1.drop at_) (M[M.length - 1].1.drop at_)))) := by
      rw [← Ql]
      exact hp.map _
     rw [ht]
     generalize common (M[0].1.drop at_) (M[M.length - 1].1.drop at_) = c at *
     have hMn : M ≠ [] := fun e => by rw [e] at h00; exact absurd h00 (Nat.lt_irrefl _)
     have hlt := hf X hM0
     have hle := hR2.len X hM0
     obtain ⟨f', rfl⟩ : ∃ f', f = f' + 1 := ⟨f - 1, by omega⟩
     have ih := yY (f' + 1) _ M (at_ + c) hrp hR2 hMn fun x hx => by have := hf x hx; omega
     rw [ih, zo, rM (D6 hMn), rP _ (show (bW c (a :: b :: r)).isEmpty = false from rfl)]
    ·
     rw [if_neg (by rw [hcm]; exact hc)]
     have kid : ∀ (d : Nat) (M' : List Pr), lD at_ M' → (∀ z ∈ M', at_ < z.1.length) → (∀ z ∈ M', z ∈ M) → M.filter (fun x => headD d (dr at_ x)) = M'.filter (fun z => (kJ at_ z).toNat == d) → dX (aW d (a :: b :: r)) (aB f (aW d (a :: b :: r))) = mQ (bdF f (M'.filter fun z => (kJ at_ z).toNat == d) (at_ + 1)) := by
      intro d M' hR' hl' hsub hfe
      have hkp := FK (d := d) hp
      rw [hfe] at hkp
      by_cases hne : M'.filter (fun z => (kJ at_ z).toNat == d) = []
      ·
       rw [hne] at hkp ⊢
       rw [Jg, Zw hkp, OM, LJ]
      ·
       have hkn : (aW d (a :: b :: r)).isEmpty = false := by
        cases hk : aW d (a :: b :: r) with
        | nil =>
         rw [hk] at hkp
         exact absurd (List.map_eq_nil_iff.1 (Zw hkp.symm)) hne
        | cons _ _ => rfl
       have hex : ∃ z, z ∈ M'.filter (fun z => (kJ at_ z).toNat == d) := List.exists_mem_of_ne_nil _ hne
       obtain ⟨z, hz⟩ := hex
       have hz' := (Yb.1 hz).1
       have := hl' z hz'
       have := hf z (hsub z hz')
       obtain ⟨f', rfl⟩ : ∃ f', f = f' + 1 := ⟨f - 1, by omega⟩
       have ih := yY (f' + 1) _ _ (at_ + 1) hkp (EG hR' hl') hne fun x hx => by
        have := hf x (hsub x (Yb.1 hx).1)
        omega
       rw [ih, rP _ hkn, rM (D6 hne)]
     by_cases h0 : (M[0].1.drop at_).length = 0
     ·
      rw [QC f at_ M hMl hc h0]
      have hX : X.1.length ≤ at_ := by
       rw [hfst, Xx] at h0
       omega
      have htl : M.tail = Y :: R := by rw [← hM]; rfl
      have hRX : lD at_ (X :: Y :: R) := by rw [hM]; exact hR
      have hlong : ∀ z ∈ Y :: R, at_ < z.1.length := fun z hz => hRX.longer hz
      have hRt : lD at_ (Y :: R) := hRX.sub (Zo _ _)
      rw [htl, wB]
      refine congrArg (Raw.mk true []) ?_
      have hval : iJ (a :: b :: r) = M[0].2 := by
       refine vK _ [] _ (fun z hz he => ?_) (.inr ?_)
       ·
        obtain ⟨x, hx, rfl⟩ := hmem z hz
        rw [← hM] at hx
        rcases XB.1 hx with rfl | hx
        ·
         rw [hfst]
         rfl
        ·
         have := hlong x hx
         unfold dr at he
         dsimp only at he
         rw [List.isEmpty_iff, List.drop_eq_nil_iff] at he
         omega
       ·
        refine ⟨dr at_ X, hp.mem_iff.2 (XA.2 ⟨X, hM0, rfl⟩), ?_⟩
        unfold dr
        dsimp only
        rw [XP hX]
        rfl
      rw [hval]
      refine congrArg (· ++ [Raw.mk false M[0].2 []]) (Yq fun d _ => ?_)
      refine kid d (Y :: R) hRt hlong (fun z hz => by rw [← hM]; exact Xw _ hz) ?_
      rw [← hM, Ye (by rw [BL hX]; decide)]
      exact Zq fun z hz => uP (hlong z hz)
     ·
      rw [QB f at_ M hMl hc h0]
      have hX : at_ < X.1.length := by
       rw [hfst, Xx] at h0
       omega
      have hlong : ∀ z ∈ M, at_ < z.1.length := GU hR h00 (by rw [hfst]; exact hX)
      rw [wB]
      refine congrArg (Raw.mk true []) ?_
      have hval : iJ (a :: b :: r) = [] := rD _ _ fun z hz => by
       obtain ⟨x, hx, rfl⟩ := hmem z hz
       have := hlong x hx
       unfold dr
       dsimp only
       rw [XI this]
       rfl
      rw [hval]
      refine congrArg (· ++ [Raw.mk false [] []]) (Yq fun d _ => ?_)
      exact kid d M hR hlong (fun z hz => hz) (Zq fun z hz => uP (hlong z hz))
theorem OB (l : List Pr) : iH l = jM l := by
 unfold iH jM
 by_cases he : ji l = 0
 ·
  rw [if_neg (by rw [he]; decide), if_pos he]
  cases l with
  | nil =>
   rw [if_pos (show ([] : List Pr).isEmpty = true from rfl)]
   unfold sJ sumT
   rw [show srt (([] : List Pr).map sp) = [] from Zw (iF _), Jg, if_pos (show Tn.nil.isNil = true from rfl)]
  | cons x r =>
   rw [if_neg (show ¬ ((x :: r).isEmpty = true) from Xv)]
   obtain ⟨_, hlg, hnd⟩ := lQ he
   have hp : ((x :: r).map sp).Perm ((srt ((x :: r).map sp)).map (dr 0)) := by
    have h0 : (srt ((x :: r).map sp)).map (dr 0) = srt ((x :: r).map sp) := (Yq fun x _ => rfl).trans (List.map_id _)
    rw [h0]
    exact (iF _).symm
   have hne : srt ((x :: r).map sp) ≠ [] := fun e => by
    have := (iF ((x :: r).map sp)).length_eq
    rw [e] at this
    simp at this
   have h := yY 200 _ _ 0 hp (EF hnd) hne fun z hz => by
    obtain ⟨y, hy, rfl⟩ := XA.1 ((iF _).mem_iff.1 hz)
    have := jf hlg hy
    show (split y.1).length < _
    rw [dB]
    omega
   rw [h]
   unfold sJ sumT
   rw [D6 (f := 199) hne, if_neg (by decide)]
 · rw [if_pos he, if_neg he]
end E
end Go.Proofs.YtelbhdobjdnglaaGreat
namespace Go.Proofs.YtelbhdobjdnglaaGreat
theorem UK (x : UInt8) : (x >>> 4).toNat = x.toNat / 16 := by rw [Zp]; simp [Nat.shiftRight_eq_div_pow]
theorem UJ (x : UInt8) : (x &&& 15).toNat = x.toNat % 16 := by rw [UInt8.toNat_and]; exact Yo _ 4
theorem BF (x y : UInt8) (hx : x.toNat ≤ 15) (hy : y.toNat ≤ 15) : (x <<< 4 ||| y) >>> 4 = x ∧ (x <<< 4 ||| y) &&& 15 = y := by
 have h := O4 x.toNat y.toNat hx hy x y rfl rfl
 constructor
 ·
  apply Yt.1
  rw [UK, h]
  omega
 ·
  apply Yt.1
  rw [UJ, h]
  omega
theorem sZ : ∀ (p m : List UInt8), joinL p = some m → split m = p
 | [], m, h => by simp [joinL] at h; subst h; rfl
 | [_], m, h => by simp [joinL] at h
 | x :: y :: r, m, h => by
  rw [joinL] at h
  split at h
  ·
   rename_i hc
   cases hj : joinL r with
   | none => rw [hj] at h; simp at h
   | some t =>
    rw [hj] at h
    simp only [YI, XT] at h
    subst h
    have hs : split ((x <<< 4 ||| y) :: t) = ((x <<< 4 ||| y) >>> 4) :: ((x <<< 4 ||| y) &&& 15) :: split t := rfl
    rw [hs, (BF x y hc.1 hc.2).1, (BF x y hc.1 hc.2).2, sZ r t hj]
  · simp at h
theorem join_some : ∀ (p : List UInt8), p.length % 2 = 0 → (∀ x ∈ p, x.toNat ≤ 15) → ∃ m, joinL p = some m
 | [], _, _ => ⟨[], rfl⟩
 | [_], h, _ => by simp at h
 | x :: y :: r, h, hs => by
  obtain ⟨m, hm⟩ := join_some r (by simp at h; omega) fun z hz => hs z (by simp [hz])
  exact ⟨_, by rw [joinL, if_pos ⟨hs x (by simp), hs y (by simp)⟩, hm]; rfl⟩
theorem BM (p : List UInt8) (leaf : Bool) : ∀ x ∈ hdr p leaf, x.toNat ≤ 15 := by
 unfold hdr
 split <;> cases leaf <;> decide
theorem FU (p : List UInt8) (leaf : Bool) : (hdr p leaf ++ p).length % 2 = 0 := by
 unfold hdr
 split <;> simp <;> omega
end Go.Proofs.YtelbhdobjdnglaaGreat
namespace Go.Proofs.YtelbhdobjdnglaaGreat
set_option linter.unusedVariables false
open Go.RowKit Mono Rlp
namespace E
theorem FM : ∀ p : List UInt8, ((joinL p).getD []).length ≤ p.length / 2
 | [] => Nat.le_refl _
 | [_] => XQ _
 | x :: y :: r => by
  have ih := FM r
  rw [joinL]
  split
  ·
   cases h : joinL r with
   | none => simp
   | some m =>
    rw [h] at ih
    simp at ih ⊢
    omega
  · simp
theorem xW (p : List UInt8) (b : Bool) : (ppk p b).length ≤ p.length / 2 + 1 := by
 have h := FM (hdr p b ++ p)
 have h2 : (hdr p b).length ≤ 2 := by
  unfold hdr
  split <;> simp
 unfold ppk
 rw [List.length_append] at h
 omega
theorem xX {p q : List UInt8} {a b : Bool} (hp : ∀ x ∈ p, x.toNat ≤ 15) (hq : ∀ x ∈ q, x.toNat ≤ 15) (h : ppk p a = ppk q b) : p = q ∧ a = b := by
 have hs : ∀ (p : List UInt8) (a : Bool), (∀ x ∈ p, x.toNat ≤ 15) → split (ppk p a) = Go.Proofs.YtelbhdobjdnglaaGreat.hdr p a ++ p := fun p a hp => by
  obtain ⟨m, hm⟩ := join_some (Go.Proofs.YtelbhdobjdnglaaGreat.hdr p a ++ p) (FU p a) fun x hx => by
   rcases XJ.1 hx with h | h
   · exact BM p a x h
   · exact hp x h
  unfold ppk
  rw [hm]
  exact sZ _ _ hm
 have h1 := hs p a hp
 rw [h, hs q b hq] at h1
 unfold Go.Proofs.YtelbhdobjdnglaaGreat.hdr at h1
 by_cases e1 : p.length % 2 = 1 <;> by_cases e2 : q.length % 2 = 1 <;> cases a <;> cases b <;> simp [e1, e2] at h1 <;> simp [h1]
theorem oD (n b : Nat) : 1 ≤ (head n b).length := by
 unfold head
 split <;> simp
mutual
theorem Kv : ∀ (x : Raw) (m : Nat), dP x m ≤ (Rlp.E x).length
 | .mk false _ _, m => by rw [dP]; omega
 | .mk true _ xs, 0 => by
  rw [dP, Rlp.E, List.length_append]
  have := oD (Rlp.EL xs).length 192
  omega
 | .mk true _ xs, m + 1 => by
  rw [dP, Rlp.E, List.length_append]
  have h1 := oD (Rlp.EL xs).length 192
  have h2 := (maxD_le xs m 0 (Rlp.EL xs).length).2 ⟨XQ _, Gu xs m⟩
  omega
theorem Gu : ∀ (xs : List Raw) (m : Nat), ∀ x ∈ xs, dP x m ≤ (Rlp.EL xs).length
 | [], _, x, h => by cases h
 | y :: xs, m, x, h => by
  rw [Rlp.EL, List.length_append]
  rcases XB.1 h with e | h
  ·
   have := Kv y m
   rw [e]
   omega
  ·
   have := Gu xs m x h
   omega
end
def VH (x : Raw) (n : Nat) : Prop := dP x 31 ≤ 31 ∧ (Rlp.E x).length ≤ n ∧ norm x = x
def Aj (x : Raw) : Prop := packed x = some (Rlp.E x) ∧ norm x = x
theorem TL (l : List UInt8) (h : l.length ≤ 1048576) : (EB l).length ≤ l.length + 4 := by
 rw [oO]
 unfold szE szB
 have := jY 3 l.length (by omega)
 split
 · omega
 · split <;> omega
theorem lV (b : List UInt8) (h : b.length ≤ 1048576) : VH (.mk false b []) (b.length + 4) := ⟨by rw [dP]; omega, by rw [Rlp.E]; exact TL b h, by rw [norm]⟩
theorem yR {x : Raw} (h : Aj x) : pkB x = Rlp.E x := by
 unfold pkB
 rw [h.1]
 rfl
theorem SE {x : Raw} (h : Aj x) : VH (nG x) 36 := by
 unfold nG
 rw [yR h]
 split
 ·
  rename_i hlt
  exact ⟨Yi (Kv x 31) (by omega), by omega, h.2⟩
 ·
  have := lV (hash (Rlp.E x)) (by rw [fJ]; decide)
  rw [fJ] at this
  exact this
theorem Fp : ∀ xs : List Raw, (∀ x ∈ xs, norm x = x) → ou xs = xs
 | [], _ => by rw [ou]
 | x :: xs, h => by rw [ou, h x List.mem_cons_self, Fp xs fun y hy => h y (Xw _ hy)]
theorem xZ (xs : List Raw) (h1 : ∀ x ∈ xs, dP x 31 ≤ 31 ∧ norm x = x) (h2 : (Rlp.EL xs).length ≤ 2097152) : Aj (.mk true [] xs) := by
 refine ⟨vW ?_ ?_, by rw [norm, Fp xs fun x hx => (h1 x hx).2]⟩
 · exact Jn.NJ xs [] 31 31 fun x hx => (h1 x hx).1
 ·
  rw [Rlp.E, List.length_append, iZ]
  unfold szB
  have := jY 4 (Rlp.EL xs).length (by omega)
  simp only [most]
  split <;> omega
theorem QU (n : Nat) : ∀ xs : List Raw, (∀ x ∈ xs, (Rlp.E x).length ≤ n) → (Rlp.EL xs).length ≤ n * xs.length
 | [], _ => by simp [Rlp.EL]
 | x :: xs, h => by
  rw [Rlp.EL, List.length_append, List.length_cons, Nat.mul_succ]
  have h1 := h x List.mem_cons_self
  have h2 := QU n xs fun y hy => h y (Xw _ hy)
  omega
theorem zG {l : List Pr} {x : Raw} (h : Aj x) : VH (dX l x) 36 := by
 unfold dX
 split
 ·
  have := lV [] (by decide)
  exact ⟨this.1, Yi this.2.1 (by decide), this.2.2⟩
 · exact SE h
structure GoodL (l : List Pr) : Prop where
 nib : ∀ x ∈ l, ∀ c ∈ x.1, c.toNat ≤ 15
 len : ∀ x ∈ l, x.1.length ≤ 130
 val : ∀ x ∈ l, x.2.length ≤ 1048576
 some : ∀ x ∈ l, x.2 ≠ []
 fn : ∀ x ∈ l, ∀ y ∈ l, x.1 = y.1 → x = y
theorem rE : ∀ (l : List Pr) (v : List UInt8), (l.foldl (fun v x => if x.1.isEmpty then x.2 else v) v = v ∧ ∀ x ∈ l, x.1 ≠ []) ∨ ∃ x ∈ l, x.1 = [] ∧ l.foldl (fun v x => if x.1.isEmpty then x.2 else v) v = x.2
 | [], v => .inl ⟨rfl, fun x hx => by cases hx⟩
 | y :: l, v => by
  rw [Yr]
  rcases rE l (if y.1.isEmpty then y.2 else v) with ⟨h1, h2⟩ | ⟨x, hx, h1, h2⟩
  ·
   rw [h1]
   by_cases hy : y.1 = []
   ·
    refine .inr ⟨y, List.mem_cons_self, hy, ?_⟩
    rw [hy]
    rfl
   ·
    refine .inl ⟨?_, fun x hx => ?_⟩
    ·
     rw [if_neg]
     simpa using hy
    ·
     rcases XB.1 hx with rfl | hx
     · exact hy
     · exact h2 x hx
  · exact .inr ⟨x, Xw _ hx, h1, h2⟩
theorem Ei {l : List Pr} (h : GoodL l) : (iJ l).length ≤ 1048576 := by
 rcases rE l [] with ⟨h1, _⟩ | ⟨x, hx, _, h2⟩
 ·
  unfold iJ
  rw [h1]
  exact XQ _
 ·
  unfold iJ
  rw [h2]
  exact h.val x hx
theorem oH {l : List Pr} (h : GoodL l) (n : Nat) (p : List UInt8) (hp : ∀ z ∈ l, z.1 = p ++ z.1.drop n) : GoodL (bW n l) where
 nib x hx c hc := by
  obtain ⟨z, hz, rfl⟩ := XA.1 hx
  exact h.nib z hz c (Y2 hc)
 len x hx := by
  obtain ⟨z, hz, rfl⟩ := XA.1 hx
  have := h.len z hz
  show (z.1.drop n).length ≤ _
  rw [Xx]
  omega
 val x hx := by
  obtain ⟨z, hz, rfl⟩ := XA.1 hx
  exact h.val z hz
 some x hx := by
  obtain ⟨z, hz, rfl⟩ := XA.1 hx
  exact h.some z hz
 fn x hx y hy e := by
  obtain ⟨z, hz, rfl⟩ := XA.1 hx
  obtain ⟨w, hw, rfl⟩ := XA.1 hy
  have : z = w := h.fn z hz w hw (by rw [hp z hz, hp w hw]; exact congrArg _ e)
  rw [this]
theorem headD_cons {d : Nat} {z : Pr} (h : headD d z = true) : ∃ c t, z.1 = c :: t ∧ c.toNat = d := by
 unfold headD at h
 split at h
 · cases h
 ·
  rename_i c t e
  exact ⟨c, t, e, by simpa using h⟩
theorem xq {l : List Pr} (h : GoodL l) (q : Pr → Bool) : GoodL (l.filter q) where
 nib x hx := h.nib x (Yb.1 hx).1
 len x hx := h.len x (Yb.1 hx).1
 val x hx := h.val x (Yb.1 hx).1
 some x hx := h.some x (Yb.1 hx).1
 fn x hx y hy := h.fn x (Yb.1 hx).1 y (Yb.1 hy).1
theorem oI {l : List Pr} (h : GoodL l) (d : Nat) : GoodL (aW d l) := by
 refine oH (xq h (headD d)) 1 [UInt8.ofNat d] fun z hz => ?_
 obtain ⟨c, t, e, hc⟩ := headD_cons (Yb.1 hz).2
 rw [e, ← hc, YO]
 rfl
theorem DV (x y : Pr) (r : List Pr) : ∀ z ∈ x :: y :: r, z.1 = x.1.take (bQ x.1 (y :: r)) ++ z.1.drop (bQ x.1 (y :: r)) := fun z hz => by
 have hcm := jO x.1 (y :: r) x.1.length (Nat.le_refl _)
 have : z.1.take (bQ x.1 (y :: r)) = x.1.take (bQ x.1 (y :: r)) := by
  rcases XB.1 hz with rfl | hz
  · rfl
  ·
   have h1 : bQ x.1 (y :: r) ≤ common x.1 z.1 := hcm.2 z hz
   have h2 := (eY x.1 z.1).1
   have := congrArg (List.take (bQ x.1 (y :: r))) h2
   rw [List.take_take, List.take_take, Zb h1] at this
   exact this.symm
 rw [← this, X7]
theorem kX : ∀ (f : Nat) (l : List Pr), GoodL l → Aj (aB f l)
 | 0, _, _ => by
  rw [aB]
  exact ⟨vW (by rw [dP]; omega) (by rw [Rlp.E]; decide), by rw [norm]⟩
 | f + 1, [], _ => by rw [aB]; exact xZ [] (fun x hx => by cases hx) (by simp [Rlp.EL])
 | f + 1, [x], h => by
  rw [aB]
  have h1 := lV (ppk x.1 true) (by have := xW x.1 true; have := h.len x List.mem_cons_self; omega)
  have h2 := lV x.2 (h.val x List.mem_cons_self)
  have h3 := xW x.1 true
  have h4 := h.len x List.mem_cons_self
  have h5 := h.val x List.mem_cons_self
  refine xZ _ (fun y hy => ?_) ?_
  ·
   simp at hy
   rcases hy with rfl | rfl
   · exact ⟨h1.1, h1.2.2⟩
   · exact ⟨h2.1, h2.2.2⟩
  ·
   have a := h1.2.1
   have b := h2.2.1
   simp only [Rlp.EL, List.length_append, List.length_nil]
   omega
 | f + 1, x :: y :: r, h => by
  rw [aB]
  have hcm := jO x.1 (y :: r) x.1.length (Nat.le_refl _)
  change bQ x.1 (y :: r) ≤ x.1.length ∧ _ at hcm
  have h4 := h.len x List.mem_cons_self
  have hpre := DV x y r
  split
  ·
   have ih := kX f _ (oH h _ _ hpre)
   have h1 := lV (ppk (x.1.take (bQ x.1 (y :: r))) false) (by have := xW (x.1.take (bQ x.1 (y :: r))) false; rw [List.length_take] at this; omega)
   have h2 := zG (l := bW (bQ x.1 (y :: r)) (x :: y :: r)) ih
   have h3 := xW (x.1.take (bQ x.1 (y :: r))) false
   rw [List.length_take] at h3
   refine xZ _ (fun u hu => ?_) ?_
   ·
    simp at hu
    rcases hu with rfl | rfl
    · exact ⟨h1.1, h1.2.2⟩
    · exact ⟨h2.1, h2.2.2⟩
   ·
    have a := h1.2.1
    have b := h2.2.1
    simp only [Rlp.EL, List.length_append, List.length_nil]
    omega
  ·
   have ih : ∀ d, Aj (aB f (aW d (x :: y :: r))) := fun d => kX f _ (oI h d)
   have hv := lV (iJ (x :: y :: r)) (Ei h)
   have hvl := Ei h
   refine xZ _ (fun u hu => ?_) ?_
   ·
    rcases XJ.1 hu with hu | hu
    ·
     obtain ⟨d, _, rfl⟩ := XA.1 hu
     have := zG (l := aW d (x :: y :: r)) (ih d)
     exact ⟨this.1, this.2.2⟩
    ·
     obtain rfl : u = _ := by simpa using hu
     exact ⟨hv.1, hv.2.2⟩
   ·
    have h1 := QU 36 ((List.range 16).map fun d => dX (aW d (x :: y :: r)) (aB f (aW d (x :: y :: r)))) (fun u hu => by
     obtain ⟨d, _, rfl⟩ := XA.1 hu
     exact (zG (ih d)).2.1)
    rw [List.length_map, List.length_range] at h1
    rw [sG, List.length_append]
    have b := hv.2.1
    simp only [Rlp.EL, List.length_append, List.length_nil]
    omega
def rC (U V : List (List UInt8)) : Prop := ∀ u ∈ U, ∀ v ∈ V, hash u = hash v → u = v
theorem OX {x y : Raw} (hx : Aj x) (hy : Aj y) (h : pkB x = pkB y) : x = y := by
 rw [yR hx, yR hy] at h
 have h1 := yO hx.1
 have h2 := yO hy.1
 rw [h, h2, hx.2, hy.2] at h1
 injection h1 with h1
 exact h1.symm
theorem EP {l m : List Pr} {U V : List (List UInt8)} {x y : Raw} {xs ys : List Raw} (hx : Aj x) (hy : Aj y) (hxl : l.isEmpty = false → x = .mk true [] xs) (hyl : m.isEmpty = false → y = .mk true [] ys) (H : rC (jG l U x) (jG m V y)) (h : dX l x = dX m y) :
  (l.isEmpty = true ∧ m.isEmpty = true) ∨ (l.isEmpty = false ∧ m.isEmpty = false ∧ x = y) := by
 have hl32 : ∀ b : List UInt8, hash b ≠ [] := fun b e => by
  have := fJ b
  rw [e] at this
  cases this
 unfold rC jG at H
 unfold dX at h
 cases hl : l.isEmpty with
 | true =>
  rw [hl, if_pos rfl] at h
  cases hm : m.isEmpty with
  | true => exact .inl ⟨rfl, rfl⟩
  | false =>
   rw [hm, if_neg Xv] at h
   unfold nG at h
   split at h
   ·
    rw [hyl hm] at h
    injection h with h
    cases h
   ·
    injection h with _ h
    exact absurd h.symm (hl32 _)
 | false =>
  rw [hl, if_neg Xv] at h
  cases hm : m.isEmpty with
  | true =>
   rw [hm, if_pos rfl] at h
   unfold nG at h
   split at h
   ·
    rw [hxl hl] at h
    injection h with h
    cases h
   ·
    injection h with _ h
    exact absurd h (hl32 _)
  | false =>
   rw [hm, if_neg Xv] at h
   rw [hl, hm, if_neg Xv, if_neg Xv] at H
   refine .inr ⟨rfl, rfl, ?_⟩
   unfold nG at h
   split at h
   ·
    split at h
    · exact h
    ·
     rw [hxl hl] at h
     injection h with h
     cases h
   ·
    rename_i h1
    split at h
    ·
     rw [hyl hm] at h
     injection h with h
     cases h
    ·
     rename_i h2
     injection h with _ h
     exact OX hx hy (H _ (XJ.2 (.inr (by rw [if_neg h1]; exact YF.2 rfl))) _ (XJ.2 (.inr (by rw [if_neg h2]; exact YF.2 rfl))) h)
theorem EN {l m : List Pr} {U V : List (List UInt8)} {x y : Raw} (hl : l.isEmpty = false) (hm : m.isEmpty = false) (H : rC (jG l U x) (jG m V y)) : rC U V := fun u hu v hv e => by
 unfold rC jG at H
 rw [hl, hm, if_neg Xv, if_neg Xv] at H
 exact H u (XJ.2 (.inl hu)) v (XJ.2 (.inl hv)) e
inductive Xn (f : Nat) (l : List Pr) : Prop where
 | leaf (x : Pr) (h : l = [x]) (hn : aB (f + 1) l = .mk true [] [.mk false (ppk x.1 true) [], .mk false x.2 []])
 | ext (p : List UInt8) (h0 : 0 < p.length) (hp : ∀ z ∈ l, z.1 = p ++ z.1.drop p.length) (hs : ∀ c ∈ p, ∃ z ∈ l, c ∈ z.1) (hn : aB (f + 1) l = .mk true [] [.mk false (ppk p false) [], dX (bW p.length l) (aB f (bW p.length l))]) (hU : bZ (f + 1) l = jG (bW p.length l) (bZ f (bW p.length l)) (aB f (bW p.length l)))
 | br (hn : aB (f + 1) l = .mk true [] ((List.range 16).map (fun d => dX (aW d l) (aB f (aW d l))) ++ [.mk false (iJ l) []])) (hU : bZ (f + 1) l = ((List.range 16).map fun d => jG (aW d l) (bZ f (aW d l)) (aB f (aW d l))).flatten)
theorem UL (f : Nat) : ∀ l : List Pr, l.isEmpty = false → Xn f l
 | [x], _ => .leaf x rfl (by rw [aB])
 | x :: y :: r, _ => by
  by_cases hp : 0 < bQ x.1 (y :: r)
  ·
   have hle : bQ x.1 (y :: r) ≤ x.1.length := (jO x.1 (y :: r) x.1.length (Nat.le_refl _)).1
   have hln : (x.1.take (bQ x.1 (y :: r))).length = bQ x.1 (y :: r) := by rw [List.length_take]; omega
   refine .ext (x.1.take (bQ x.1 (y :: r))) (by omega) ?_ (fun c hc => ⟨x, List.mem_cons_self, YD hc⟩) ?_ ?_
   ·
    rw [hln]
    exact DV x y r
   · rw [hln, aB, if_pos hp]
   · rw [hln, bZ, if_pos hp]
  ·
   refine .br ?_ ?_
   · rw [aB, if_neg hp]
   · rw [bZ, if_neg hp]
theorem jc (f : Nat) (l : List Pr) : ∃ xs, aB (f + 1) l = .mk true [] xs := by
 cases hl : l.isEmpty with
 | true =>
  obtain rfl : l = [] := by simpa using hl
  exact ⟨_, by rw [aB]⟩
 | false =>
  rcases UL f l hl with ⟨x, _, h⟩ | ⟨p, _, _, _, h, _⟩ | ⟨h, _⟩ <;> exact ⟨_, h⟩
theorem CS {l : List Pr} (h : GoodL l) {z : Pr} (hz : z ∈ l) (h0 : z.1 = []) : iJ l = z.2 := by
 rcases rE l [] with ⟨_, h2⟩ | ⟨x, hx, h1, h2⟩
 · exact absurd h0 (h2 z hz)
 ·
  unfold iJ
  rw [h2, h.fn x hx z hz (by rw [h1, h0])]
theorem QZ {l : List Pr} (h : iJ l ≠ []) : ∃ z ∈ l, z.1 = [] ∧ z.2 = iJ l := by
 rcases rE l [] with ⟨h1, _⟩ | ⟨x, hx, h1, h2⟩
 · exact absurd h1 h
 · exact ⟨x, hx, h1, h2.symm⟩
theorem qg {d : Nat} {l : List Pr} {z : Pr} (h : z ∈ aW d l) : (aW d l).isEmpty = false := by
 cases hk : aW d l with
 | nil => rw [hk] at h; cases h
 | cons _ _ => rfl
theorem x9 {d : Nat} {l : List Pr} {t : List UInt8} {v : List UInt8} (hd : d < 256) : (t, v) ∈ aW d l ↔ (UInt8.ofNat d :: t, v) ∈ l := by
 constructor
 ·
  intro h
  obtain ⟨w, hw, hh, e⟩ := oC h
  obtain ⟨c, s, e1, e2⟩ := headD_cons hh
  injection e with e3 e4
  rw [e1, mP, Xq] at e3
  have : w = (UInt8.ofNat d :: t, v) := Prod.ext (by rw [e1, ← e2, YO, e3]) e4.symm
  rw [← this]
  exact hw
 ·
  intro h
  refine XA.2 ⟨_, Yb.2 ⟨h, ?_⟩, rfl⟩
  simp only [headD, YG]
  rw [Nat.mod_eq_of_lt hd]
  simp
theorem yZ : ∀ (f : Nat) (l m : List Pr), l.isEmpty = false → m.isEmpty = false → (∀ x ∈ l, x.1.length < f) → (∀ x ∈ m, x.1.length < f) → GoodL l → GoodL m → rC (bZ f l) (bZ f m) → aB f l = aB f m → ∀ z ∈ l, z ∈ m
 | 0, l, m, hl, _, hf, _, _, _, _, _ => by
  cases l with
  | nil => cases hl
  | cons x r => exact absurd (hf x List.mem_cons_self) (Yc _)
 | f + 1, l, m, hl, hm, hfl, hfm, gl, gm, H, h => by
  intro z hz
  rcases UL f l hl with ⟨x, h1, n1⟩ | ⟨p, p0, hp, ps, n1, u1⟩ | ⟨n1, u1⟩ <;> rcases UL f m hm with ⟨y, h2, n2⟩ | ⟨q, q0, hq, qs, n2, u2⟩ | ⟨n2, u2⟩ <;> rw [n1, n2] at h <;> injection h with _ _ h
  ·
   injection h with e1 e2
   injection e1 with _ e1
   injection e2 with e2
   injection e2 with _ e2
   subst h1 h2
   obtain ⟨e, _⟩ := xX (gl.nib x List.mem_cons_self) (gm.nib y List.mem_cons_self) e1
   obtain rfl : z = x := by simpa using hz
   rw [show z = y from Prod.ext e e2]
   exact List.mem_cons_self
  ·
   injection h with e1 e2
   injection e1 with _ e1
   subst h1
   obtain ⟨_, e⟩ := xX (gl.nib x List.mem_cons_self) (fun c hc => by obtain ⟨w, hw, h3⟩ := qs c hc; exact gm.nib w hw c h3) e1
   cases e
  ·
   have := congrArg List.length h
   simp at this
  ·
   injection h with e1 e2
   injection e1 with _ e1
   subst h2
   obtain ⟨_, e⟩ := xX (fun c hc => by obtain ⟨w, hw, h3⟩ := ps c hc; exact gl.nib w hw c h3) (gm.nib y List.mem_cons_self) e1
   cases e
  ·
   injection h with e1 e2
   injection e1 with _ e1
   injection e2 with e2
   obtain ⟨e, _⟩ := xX (fun c hc => by obtain ⟨w, hw, h3⟩ := ps c hc; exact gl.nib w hw c h3) (fun c hc => by obtain ⟨w, hw, h3⟩ := qs c hc; exact gm.nib w hw c h3) e1
   subst e
   rw [u1, u2] at H
   have gl' := oH gl _ _ hp
   have gm' := oH gm _ _ hq
   have hl' : (bW p.length l).isEmpty = false := by
    cases l with
    | nil => cases hl
    | cons _ _ => rfl
   have hm' : (bW p.length m).isEmpty = false := by
    cases m with
    | nil => cases hm
    | cons _ _ => rfl
   have hshort : ∀ (l : List Pr), (∀ x ∈ l, x.1.length < f + 1) → (∀ z ∈ l, z.1 = p ++ z.1.drop p.length) → ∀ x ∈ bW p.length l, x.1.length < f := fun l hfl hp x hx => by
    obtain ⟨w, hw, rfl⟩ := XA.1 hx
    have h1 := hfl w hw
    have h2 := congrArg List.length (hp w hw)
    rw [List.length_append] at h2
    show (w.1.drop p.length).length < f
    omega
   have hfl' := hshort l hfl hp
   have hfm' := hshort m hfm hq
   obtain ⟨f', rfl⟩ : ∃ f', f = f' + 1 := by
    cases hr : bW p.length l with
    | nil => rw [hr] at hl'; cases hl'
    | cons w _ =>
     have := hfl' w (by rw [hr]; exact List.mem_cons_self)
     exact ⟨f - 1, by omega⟩
   obtain ⟨xs, hxs⟩ := jc f' (bW p.length l)
   obtain ⟨ys, hys⟩ := jc f' (bW p.length m)
   rcases EP (kX _ _ gl') (kX _ _ gm') (fun _ => hxs) (fun _ => hys) H e2 with ⟨e, _⟩ | ⟨_, _, e⟩
   ·
    rw [hl'] at e
    cases e
   ·
    have ih := yZ (f' + 1) _ _ hl' hm' hfl' hfm' gl' gm' (EN hl' hm' H) e (z.1.drop p.length, z.2) (XA.2 ⟨z, hz, rfl⟩)
    obtain ⟨w, hw, e⟩ := XA.1 ih
    injection e with e3 e4
    rw [show z = w from Prod.ext (by rw [hp z hz, hq w hw, e3]) e4.symm]
    exact hw
  ·
   have := congrArg List.length h
   simp at this
  ·
   have := congrArg List.length h
   simp at this
  ·
   have := congrArg List.length h
   simp at this
  ·
   obtain ⟨hk, hv⟩ := List.append_inj h (by simp)
   injection hv with hv
   injection hv with _ hv
   obtain ⟨zp, zv⟩ := z
   cases zp with
   | nil =>
    have h1 := CS gl hz rfl
    have h2 := gl.some _ hz
    obtain ⟨w, hw, e1, e2⟩ := QZ (l := m) (by rw [← hv, h1]; exact h2)
    rw [show (([] : List UInt8), zv) = w from Prod.ext e1.symm (by rw [e2, ← hv, h1])]
    exact hw
   | cons c t =>
    have hc := gl.nib _ hz c List.mem_cons_self
    have hd : c.toNat ∈ List.range 16 := Yu.2 (by omega)
    have hkz : (t, zv) ∈ aW c.toNat l := (x9 (by omega)).2 (by rw [YO]; exact hz)
    have hl' := qg hkz
    have e2 := List.map_inj_left.1 hk c.toNat hd
    have H' : rC (jG (aW c.toNat l) (bZ f (aW c.toNat l)) (aB f (aW c.toNat l))) (jG (aW c.toNat m) (bZ f (aW c.toNat m)) (aB f (aW c.toNat m))) := fun u hu v hv e => H u (by rw [u1]; exact Zj.2 ⟨_, XA.2 ⟨_, hd, rfl⟩, hu⟩) v (by rw [u2]; exact Zj.2 ⟨_, XA.2 ⟨_, hd, rfl⟩, hv⟩) e
    have hshort : ∀ (l : List Pr), (∀ x ∈ l, x.1.length < f + 1) → ∀ x ∈ aW c.toNat l, x.1.length < f := fun l hfl x hx => by
     obtain ⟨w, hw, hh, rfl⟩ := oC hx
     have h1 := hfl w hw
     have h2 := oG hh
     show (w.1.drop 1).length < f
     rw [Xx]
     omega
    obtain ⟨f', rfl⟩ : ∃ f', f = f' + 1 := by
     have := hshort l hfl _ hkz
     exact ⟨f - 1, by omega⟩
    obtain ⟨xs, hxs⟩ := jc f' (aW c.toNat l)
    obtain ⟨ys, hys⟩ := jc f' (aW c.toNat m)
    rcases EP (kX _ _ (oI gl _)) (kX _ _ (oI gm _)) (fun _ => hxs) (fun _ => hys) H' e2 with ⟨e, _⟩ | ⟨_, hm', e⟩
    ·
     rw [hl'] at e
     cases e
    ·
     have ih := yZ (f' + 1) _ _ hl' hm' (hshort l hfl) (hshort m hfm) (oI gl _) (oI gm _) (EN hl' hm' H') e _ hkz
     have := (x9 (by omega)).1 ih
     rw [YO] at this
     exact this
theorem Qe {l : List Pr} : ji l = 0 ↔ l.length ≤ 100000 ∧ (∀ x ∈ l, x.1.length ≤ 64 ∧ x.2.length ≤ 1048576 ∧ x.2 ≠ []) ∧ (l.map (·.1)).Nodup := by
 have hnd : ((l.map sp).map (·.1)).Nodup ↔ (l.map (·.1)).Nodup := by
  have : (l.map sp).map (·.1) = (l.map (·.1)).map split := by rw [YJ, YJ]; rfl
  rw [this]
  unfold List.Nodup
  rw [Zg]
  constructor
  ·
   intro h
   exact h.imp fun h e => h (congrArg split e)
  ·
   intro h
   exact h.imp fun h e => h (oU _ _ e)
 unfold ji
 constructor
 ·
  intro h
  split at h
  · cases h
  ·
   rename_i h1
   split at h
   · cases h
   ·
    rename_i h2
    split at h
    ·
     rename_i h3
     have h1a : ¬ 100000 < l.length := fun e => h1 (.inl e)
     have h1b : l.any lg = false := by simpa using fun e => h1 (.inr e)
     refine ⟨by omega, fun x hx => ⟨(jf h1b hx).1, (jf h1b hx).2, fun e => h2 (Y5.2 ⟨x, hx, by rw [e]; rfl⟩)⟩, hnd.1 h3⟩
    · cases h
 ·
  rintro ⟨h1, h2, h3⟩
  rw [if_neg, if_neg, if_pos (hnd.2 h3)]
  ·
   intro h
   obtain ⟨x, hx, e⟩ := Y5.1 h
   exact (h2 x hx).2.2 (by simpa using e)
  ·
   rintro (h | h)
   · omega
   ·
    obtain ⟨x, hx, e⟩ := Y5.1 h
    have := h2 x hx
    unfold lg at e
    rcases ZK _ _ ▸ e with e | e
    ·
     have := of_decide_eq_true e
     omega
    ·
     have := of_decide_eq_true e
     omega
theorem J5 {l : List Pr} (h : (l.map (·.1)).Nodup) : ∀ x ∈ l, ∀ y ∈ l, x.1 = y.1 → x = y := by
 induction l with
 | nil => intro x hx; cases hx
 | cons z l ih =>
  rw [X0, Yy] at h
  intro x hx y hy e
  rcases XB.1 hx with ex | hx <;> rcases XB.1 hy with ey | hy
  · rw [ex, ey]
  · exact absurd (XA.2 ⟨y, hy, by rw [← e, ex]⟩) h.1
  · exact absurd (XA.2 ⟨x, hx, by rw [e, ey]⟩) h.1
  · exact ih h.2 x hx y hy e
theorem Sj {l : List Pr} (h : ji l = 0) : GoodL (l.map sp) := by
 obtain ⟨_, h2, h3⟩ := Qe.1 h
 have hf := J5 h3
 constructor
 ·
  intro x hx c hc
  obtain ⟨w, hw, rfl⟩ := XA.1 hx
  exact iG _ c hc
 ·
  intro x hx
  obtain ⟨w, hw, rfl⟩ := XA.1 hx
  have := (h2 w hw).1
  show (split w.1).length ≤ _
  rw [dB]
  omega
 ·
  intro x hx
  obtain ⟨w, hw, rfl⟩ := XA.1 hx
  exact (h2 w hw).2.1
 ·
  intro x hx
  obtain ⟨w, hw, rfl⟩ := XA.1 hx
  exact (h2 w hw).2.2
 ·
  intro x hx y hy e
  obtain ⟨w, hw, rfl⟩ := XA.1 hx
  obtain ⟨v, hv, rfl⟩ := XA.1 hy
  rw [hf w hw v hv (oU _ _ e)]
theorem qp {S : List Pr} (h : Srt S) {k a b : List UInt8} (ha : (k, a) ∈ S) (hb : (k, b) ∈ S) : a = b := by
 induction S with
 | nil => cases ha
 | cons z S ih =>
  obtain ⟨h1, h2⟩ := Yj.1 h
  have hirr : ∀ l : List UInt8, Op.bytesLess l l = true → False := fun l e => by
   rw [DY] at e
   exact List.lt_irrefl _ (of_decide_eq_true e)
  rcases XB.1 ha with ea | ha <;> rcases XB.1 hb with eb | hb
  ·
   rw [← ea] at eb
   injection eb with _ e
   exact e.symm
  ·
   have := h1 _ hb
   rw [← ea] at this
   exact (hirr _ this).elim
  ·
   have := h1 _ ha
   rw [← eb] at this
   exact (hirr _ this).elim
  · exact ih h2 ha hb
theorem UG {x : Raw} (h : Aj x) {xs : List Raw} (hx : x = .mk true [] xs) : pkB x ≠ [128] := fun e => by
 rw [yR h, hx] at e
 have h1 := congrArg List.length e
 rw [Rlp.E] at e h1
 rw [List.length_append, iZ] at h1
 unfold szB at h1
 simp only [Ym] at h1
 split at h1
 ·
  have h0 : Rlp.EL xs = [] := X5 (by omega)
  rw [h0] at e
  revert e
  decide +kernel
 · omega
end E
end Go.Proofs.YtelbhdobjdnglaaGreat
