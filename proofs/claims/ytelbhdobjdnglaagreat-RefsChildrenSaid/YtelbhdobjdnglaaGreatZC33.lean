/-
 Merged: lemmas of this claim.
 Conditions: none.
-/
import Derived.Test.YtelbhdobjdnglaaGreatZC32
import Derived.Test.YtelbhdobjdnglaaGreatZC25
import Derived.Test.YtelbhdobjdnglaaGreatZC18
import Derived.Test.YtelbhdobjdnglaaGreatZC15
import Derived.Test.YtelbhdobjdnglaaGreatZC14
import Derived.Test.YtelbhdobjdnglaaGreatZC2
import Derived.Test.YtelbhdobjdnglaaGreatZC31
import Derived.Test.YtelbhdobjdnglaaGreatZC0
namespace Go.Proofs.YtelbhdobjdnglaaGreat
set_option linter.unusedVariables false
open Go.RowKit Mono Rlp
namespace E
def dr (at_ : Nat) (x : Pr) : Pr := (x.1.drop at_, x.2)
theorem vX : ∀ (n : Nat) (a b : List UInt8), a.take n = b.take n → n ≤ a.length → n ≤ b.length → n ≤ common a b
 | 0, _, _, _, _, _ => Xo _
 | n + 1, [], b, _, h, _ => by simp at h
 | n + 1, _ :: _, [], _, _, h => by simp at h
 | n + 1, x :: a, y :: b, e, h1, h2 => by
  simp only [WH, Zn] at e
  rw [common, if_pos e.1]
  have := vX n a b e.2 (by simpa using h1) (by simpa using h2)
  omega
theorem GI (p : List UInt8) (c : Nat) : ∀ (l : List Pr) (m : Nat), c ≤ m → (∀ x ∈ l, c ≤ common p x.1) → c ≤ l.foldl (fun n x => if common p x.1 < n then common p x.1 else n) m
 | [], m, h, _ => h
 | y :: l, m, h, hl => by
  rw [XJ]
  refine GI p c l _ ?_ fun x hx => hl x (WZ _ hx)
  split
  · exact hl y WT
  · exact h
theorem Oa {a b : List UInt8} {n : Nat} (h : n ≤ common a b) : a.take n = b.take n ∧ n ≤ a.length ∧ n ≤ b.length := by
 obtain ⟨h1, h2, h3⟩ := jg a b
 refine ⟨?_, by omega, by omega⟩
 have := congrArg (List.take n) h1
 rwa [List.take_take, List.take_take, Y3 h] at this
theorem Qc {at_ : Nat} {L l : List Pr} (hR : nM at_ L) (h0 : 0 < L.length) {a : Pr} {r : List Pr} (hl : l = a :: r) (hp : l.Perm (L.map (dr at_))) : kX a.1 r = common (L[0].1.drop at_) (L[L.length - 1].1.drop at_) := by
 obtain ⟨c, hc⟩ : ∃ c, common (L[0].1.drop at_) (L[L.length - 1].1.drop at_) = c := ⟨_, rfl⟩
 rw [hc]
 obtain ⟨c1, c2, c3⟩ := jg (L[0].1.drop at_) (L[L.length - 1].1.drop at_)
 rw [hc] at c1 c2 c3
 have key : ∀ x ∈ L, (x.1.drop at_).take c = (L[0].1.drop at_).take c ∧ c ≤ (x.1.drop at_).length := fun x hx => by
  obtain ⟨i, hi, rfl⟩ := List.getElem_of_mem hx
  exact sandwich c _ _ _ (hR.vN h0 hi (Xo _)) (hR.vN hi (by omega) (by omega)) c1 c2
 have keyl : ∀ z ∈ l, z.1.take c = (L[0].1.drop at_).take c ∧ c ≤ z.1.length := fun z hz => by
  obtain ⟨x, hx, rfl⟩ := Xg.1 (hp.mem_iff.1 hz)
  exact key x hx
 have ha := keyl a (by rw [hl]; exact WT)
 have h1 : c ≤ kX a.1 r := GI a.1 c r a.1.length ha.2 fun x hx => by
  have hx' := keyl x (by rw [hl]; exact WZ _ hx)
  exact vX c _ _ (ha.1.trans hx'.1.symm) ha.2 hx'.2
 have h2 := zM a.1 r a.1.length (Nat.le_refl _)
 change kX a.1 r ≤ a.1.length ∧ ∀ x ∈ r, kX a.1 r ≤ common a.1 x.1 at h2
 have h3 : ∀ z ∈ l, z.1.take (kX a.1 r) = a.1.take (kX a.1 r) ∧ kX a.1 r ≤ z.1.length := fun z hz => by
  rw [hl] at hz
  rcases Xb.1 hz with rfl | hz
  · exact ⟨rfl, h2.1⟩
  ·
   obtain ⟨t1, t2, t3⟩ := Oa (h2.2 z hz)
   exact ⟨t1.symm, t3⟩
 have hf : dr at_ L[0] ∈ l := hp.mem_iff.2 (Xg.2 ⟨_, XH h0, rfl⟩)
 have hla : dr at_ L[L.length - 1] ∈ l := hp.mem_iff.2 (Xg.2 ⟨_, XH (by omega), rfl⟩)
 have h4 := h3 _ hf
 have h5 := h3 _ hla
 have h6 := vX (kX a.1 r) (L[0].1.drop at_) (L[L.length - 1].1.drop at_) (h4.1.trans h5.1.symm) h4.2 h5.2
 rw [hc] at h6
 omega
theorem Ee {f : Nat} {L : List Pr} {at_ : Nat} (h : L ≠ []) : (bdF (f + 1) L at_).isNil = false := by
 match L, h with
 | [x], _ => rfl
 | x :: y :: r, _ =>
  rw [bdF]
  split
  · rfl
  · split <;> rfl
theorem Ox {at_ d : Nat} {L : List Pr} (h : nM at_ L) (hl : ∀ z ∈ L, at_ < z.1.length) : nM (at_ + 1) (L.filter fun z => (lW at_ z).toNat == d) := by
 have hs := h.sub (List.filter_sublist (p := fun z : Pr => (lW at_ z).toNat == d) (l := L))
 have hlg : ∀ z ∈ L.filter (fun z => (lW at_ z).toNat == d), at_ < z.1.length := fun z hz => hl z (Yp.1 hz).1
 refine ⟨hs.ord, fun z hz => hlg z hz, fun x hx y hy => ?_, hs.nib⟩
 rw [List.take_add_one, List.take_add_one, hs.pre x hx y hy, FB (hlg x hx), FB (hlg y hy)]
 congr 1
 have h1 : (lW at_ x).toNat = d := by simpa using (Yp.1 hx).2
 have h2 : (lW at_ y).toNat = d := by simpa using (Yp.1 hy).2
 rw [XR.1 (h1.trans h2.symm)]
theorem FV {at_ d : Nat} {x : Pr} (h : at_ < x.1.length) : headD d (dr at_ x) = ((lW at_ x).toNat == d) := by
 unfold dr headD lW
 dsimp only
 rw [Xn h, List.getD_eq_getElem?_getD, List.getElem?_eq_getElem h]
 rfl
theorem MS {at_ d : Nat} {x : Pr} (h : x.1.length ≤ at_) : headD d (dr at_ x) = false := by
 unfold dr headD
 dsimp only
 rw [Xt h]
theorem AU : ∀ (l : List Pr) (v : List UInt8), (∀ x ∈ l, x.1.isEmpty = false) → l.foldl (fun v x => if x.1.isEmpty then x.2 else v) v = v
 | [], v, _ => rfl
 | x :: l, v, h => by
  rw [XJ, if_neg (by rw [h x WT]; decide)]
  exact AU l v fun y hy => h y (WZ _ hy)
theorem AQ : ∀ (l : List Pr) (v w : List UInt8), (∀ x ∈ l, x.1.isEmpty = true → x.2 = w) → (v = w ∨ ∃ x ∈ l, x.1.isEmpty = true) → l.foldl (fun v x => if x.1.isEmpty then x.2 else v) v = w
 | [], v, w, _, h => by
  rcases h with h | ⟨x, hx, _⟩
  · exact h
  · cases hx
 | x :: l, v, w, h1, h2 => by
  rw [XJ]
  refine AQ l _ w (fun y hy => h1 y (WZ _ hy)) ?_
  cases he : x.1.isEmpty with
  | true =>
   rw [if_pos rfl]
   exact .inl (h1 x WT he)
  | false =>
   rw [if_neg (by decide)]
   rcases h2 with h2 | ⟨y, hy, h2⟩
   · exact .inl h2
   ·
    rcases Xb.1 hy with rfl | hy
    ·
     rw [he] at h2
     cases h2
    · exact .inr ⟨y, hy, h2⟩
theorem TM (n at_ : Nat) (L : List Pr) : qy n (L.map (dr at_)) = L.map (dr (at_ + n)) := by
 unfold qy
 rw [XU]
 refine XL fun x _ => ?_
 unfold dr
 dsimp only [Function.comp_apply]
 rw [Yr]
theorem O1 {at_ d : Nat} {l L : List Pr} (hp : l.Perm (L.map (dr at_))) : (Am d l).Perm ((L.filter fun x => headD d (dr at_ x)).map (dr (at_ + 1))) := by
 have h1 : (l.filter (headD d)).Perm ((L.map (dr at_)).filter (headD d)) := hp.filter _
 rw [List.filter_map] at h1
 have h2 := h1.map (fun x : Pr => (x.1.drop 1, x.2))
 have h3 := TM 1 at_ (L.filter fun x => headD d (dr at_ x))
 unfold qy at h3
 rw [← h3]
 exact h2
theorem FQ (p v : List UInt8) : sJ (.leaf p v) = .mk true [] [.mk false (ppk p true) [], .mk false v []] := rfl
theorem IW (p : List UInt8) (k : Tn) : sJ (.ext p k) = .mk true [] [.mk false (ppk p false) [], Lj k] := rfl
theorem OA (x : Raw) : Lm [] x = .mk false [] [] := rfl
theorem Bo {l : List Pr} (x : Raw) (h : l.isEmpty = false) : Lm l x = Ll x := by
 unfold Lm
 rw [h, if_neg (by decide)]
theorem Lh : Lj .nil = .mk false [] [] := rfl
theorem Bl {t : Tn} (h : t.isNil = false) : Lj t = Ll (sJ t) := by
 unfold Lj
 rw [h, if_neg (by decide)]
theorem y5 : ∀ (f : Nat) (l L : List Pr) (at_ : Nat), l.Perm (L.map (dr at_)) → nM at_ L → L ≠ [] → (∀ x ∈ L, x.1.length < at_ + f) → iH f l = sJ (bdF f L at_)
 | 0, l, L, at_, _, hR, hn, hf => by
  cases L with
  | nil => exact absurd rfl hn
  | cons x r =>
   have h1 := hf x WT
   have h2 := hR.len x WT
   omega
 | f + 1, l, L, at_, hp, hR, hn, hf => by
  match L, hn with
  | [X], _ =>
   rw [Zk.1 hp, Qq, iH, FQ]
   rfl
  | X :: Y :: R, _ =>
   have hll := hp.length_eq
   rw [WY] at hll
   match l, hll with
   | a :: b :: r, _ =>
    obtain ⟨M, hM⟩ : ∃ M, X :: Y :: R = M := ⟨_, rfl⟩
    have hM0 : X ∈ M := by rw [← hM]; exact WT
    have hMl : 1 < M.length := by rw [← hM]; simp
    rw [hM] at hp hR hf ⊢
    have h00 : 0 < M.length := by omega
    have hfst : M[0] = X := by simp [← hM]
    have hcm := Qc hR h00 rfl hp
    have hmem : ∀ z ∈ a :: b :: r, ∃ x ∈ M, z = dr at_ x := fun z hz => by
     obtain ⟨x, hx, rfl⟩ := Xg.1 (hp.mem_iff.1 hz)
     exact ⟨x, hx, rfl⟩
    rw [iH]
    by_cases hc : common (M[0].1.drop at_) (M[M.length - 1].1.drop at_) > 0
    ·
     rw [if_pos (by rw [hcm]; exact hc), hcm, U5 f at_ M hMl hc]
     have hR2 := hR.more h00 rfl
     have ht : a.1.take (common (M[0].1.drop at_) (M[M.length - 1].1.drop at_)) = (M[0].1.drop at_).take (common (M[0].1.drop at_) (M[M.length - 1].1.drop at_)) := by
      obtain ⟨x, hx, e⟩ := hmem a WT
      rw [e]
      obtain ⟨i, hi, rfl⟩ := List.getElem_of_mem hx
      obtain ⟨c1, c2, c3⟩ := jg (M[0].1.drop at_) (M[M.length - 1].1.drop at_)
      exact (sandwich _ _ _ _ (hR.vN h00 hi (Xo _)) (hR.vN hi (by omega) (by omega)) c1 c2).1
     have hrp : (qy (common (M[0].1.drop at_) (M[M.length - 1].1.drop at_)) (a :: b :: r)).Perm (M.map (dr (at_ + common (M[0].1.drop at_) (M[M.length - 1].1.drop at_)))) := by
      rw [← TM]
      exact hp.map _
     rw [ht]
     generalize common (M[0].1.drop at_) (M[M.length - 1].1.drop at_) = c at *
     have hMn : M ≠ [] := fun e => by rw [e] at h00; exact absurd h00 (Nat.lt_irrefl _)
     have hlt := hf X hM0
     have hle := hR2.len X hM0
     obtain ⟨f', rfl⟩ : ∃ f', f = f' + 1 := ⟨f - 1, by omega⟩
     have ih := y5 (f' + 1) _ M (at_ + c) hrp hR2 hMn fun x hx => by have := hf x hx; omega
     rw [ih, IW, Bl (Ee hMn), Bo _ (show (qy c (a :: b :: r)).isEmpty = false from rfl)]
    ·
     rw [if_neg (by rw [hcm]; exact hc)]
     have kid : ∀ (d : Nat) (M' : List Pr), nM at_ M' → (∀ z ∈ M', at_ < z.1.length) → (∀ z ∈ M', z ∈ M) → M.filter (fun x => headD d (dr at_ x)) = M'.filter (fun z => (lW at_ z).toNat == d) → Lm (Am d (a :: b :: r)) (iH f (Am d (a :: b :: r))) = Lj (bdF f (M'.filter fun z => (lW at_ z).toNat == d) (at_ + 1)) := by
      intro d M' hR' hl' hsub hfe
      have hkp := O1 (d := d) hp
      rw [hfe] at hkp
      by_cases hne : M'.filter (fun z => (lW at_ z).toNat == d) = []
      ·
       rw [hne] at hkp ⊢
       rw [Qr, List.Perm.eq_nil hkp, OA, Lh]
      ·
       have hkn : (Am d (a :: b :: r)).isEmpty = false := by
        cases hk : Am d (a :: b :: r) with
        | nil =>
         rw [hk] at hkp
         exact absurd (List.map_eq_nil_iff.1 (List.Perm.eq_nil hkp.symm)) hne
        | cons _ _ => rfl
       have hex : ∃ z, z ∈ M'.filter (fun z => (lW at_ z).toNat == d) := List.exists_mem_of_ne_nil _ hne
       obtain ⟨z, hz⟩ := hex
       have hz' := (Yp.1 hz).1
       have := hl' z hz'
       have := hf z (hsub z hz')
       obtain ⟨f', rfl⟩ : ∃ f', f = f' + 1 := ⟨f - 1, by omega⟩
       have ih := y5 (f' + 1) _ _ (at_ + 1) hkp (Ox hR' hl') hne fun x hx => by
        have := hf x (hsub x (Yp.1 hx).1)
        omega
       rw [ih, Bo _ hkn, Bl (Ee hne)]
     by_cases h0 : (M[0].1.drop at_).length = 0
     ·
      rw [U7 f at_ M hMl hc h0]
      have hX : X.1.length ≤ at_ := by
       rw [hfst, W9] at h0
       omega
      have htl : M.tail = Y :: R := by rw [← hM]; rfl
      have hRX : nM at_ (X :: Y :: R) := by rw [hM]; exact hR
      have hlong : ∀ z ∈ Y :: R, at_ < z.1.length := fun z hz => hRX.longer hz
      have hRt : nM at_ (Y :: R) := hRX.sub (Y4 _ _)
      rw [htl, BU]
      refine congrArg (Raw.mk true []) ?_
      have hval : TU (a :: b :: r) = M[0].2 := by
       refine AQ _ [] _ (fun z hz he => ?_) (.inr ?_)
       ·
        obtain ⟨x, hx, rfl⟩ := hmem z hz
        rw [← hM] at hx
        rcases Xb.1 hx with rfl | hx
        ·
         rw [hfst]
         rfl
        ·
         have := hlong x hx
         unfold dr at he
         dsimp only at he
         rw [List.isEmpty_iff, List.drop_eq_nil_iff] at he
         omega
       ·
        refine ⟨dr at_ X, hp.mem_iff.2 (Xg.2 ⟨X, hM0, rfl⟩), ?_⟩
        unfold dr
        dsimp only
        rw [Xt hX]
        rfl
      rw [hval]
      refine congrArg (· ++ [Raw.mk false M[0].2 []]) (XL fun d _ => ?_)
      refine kid d (Y :: R) hRt hlong (fun z hz => by rw [← hM]; exact WZ _ hz) ?_
      rw [← hM, Ym (by rw [MS hX]; decide)]
      exact List.filter_congr fun z hz => FV (hlong z hz)
     ·
      rw [U6 f at_ M hMl hc h0]
      have hX : at_ < X.1.length := by
       rw [hfst, W9] at h0
       omega
      have hlong : ∀ z ∈ M, at_ < z.1.length := Qw hR h00 (by rw [hfst]; exact hX)
      rw [BU]
      refine congrArg (Raw.mk true []) ?_
      have hval : TU (a :: b :: r) = [] := AU _ _ fun z hz => by
       obtain ⟨x, hx, rfl⟩ := hmem z hz
       have := hlong x hx
       unfold dr
       dsimp only
       rw [Xn this]
       rfl
      rw [hval]
      refine congrArg (· ++ [Raw.mk false [] []]) (XL fun d _ => ?_)
      exact kid d M hR hlong (fun z hz => hz) (List.filter_congr fun z hz => FV (hlong z hz))
theorem Ol (l : List Pr) : EU l = JC l := by
 unfold EU JC
 by_cases he : qO l = 0
 ·
  rw [if_neg (by rw [he]; decide), if_pos he]
  cases l with
  | nil =>
   rw [if_pos (show ([] : List Pr).isEmpty = true from rfl)]
   unfold Ey sumT
   rw [show srt (([] : List Pr).map sp) = [] from List.Perm.eq_nil (lN _), Qr, if_pos (show Tn.nil.isNil = true from rfl)]
  | cons x r =>
   rw [if_neg (show ¬ ((x :: r).isEmpty = true) from Bool.false_ne_true)]
   obtain ⟨_, hlg, hnd⟩ := BF he
   have hp : ((x :: r).map sp).Perm ((srt ((x :: r).map sp)).map (dr 0)) := by
    have h0 : (srt ((x :: r).map sp)).map (dr 0) = srt ((x :: r).map sp) := (XL fun x _ => rfl).trans (List.map_id _)
    rw [h0]
    exact (lN _).symm
   have hne : srt ((x :: r).map sp) ≠ [] := fun e => by
    have := (lN ((x :: r).map sp)).length_eq
    rw [e] at this
    simp at this
   have h := y5 200 _ _ 0 hp (Ov hnd) hne fun z hz => by
    obtain ⟨y, hy, rfl⟩ := Xg.1 ((lN _).mem_iff.1 hz)
    have := Fz hlg hy
    show (split y.1).length < _
    rw [jO]
    omega
   rw [h]
   unfold Ey sumT
   rw [Ee (f := 199) hne, if_neg (by decide)]
 · rw [if_pos he, if_neg he]
end E
end Go.Proofs.YtelbhdobjdnglaaGreat
namespace Go.Proofs.YtelbhdobjdnglaaGreat.Kec
def ofN (n : Nat) : St := fun k => BitVec.ofNat 64 (n >>> (64 * k))
theorem chain (S : List Nat) (h : ∀ i, i < 24 → ∀ k, k < 25 → round (ofN (S.getD i 0)) (rc i) k = ofN (S.getD (i + 1) 0) k) : Same (perm (ofN (S.getD 0 0)) 24) (ofN (S.getD 24 0)) := by
 have : ∀ i, i ≤ 24 → Same (perm (ofN (S.getD 0 0)) i) (ofN (S.getD i 0)) := by
  intro i
  induction i with
  | zero => exact fun _ => Same.refl _
  | succ i ih => exact fun hi => (sU (ih (by omega)) (rc i)).trans (h i (by omega))
 exact this 24 (by omega)
theorem tq {a b : St} (h : Same a b) : ∀ k, Same (perm a k) (perm b k)
 | 0 => h
 | k + 1 => sU (tq h k) (rc k)
end Go.Proofs.YtelbhdobjdnglaaGreat.Kec
namespace Go.Proofs.YtelbhdobjdnglaaGreat.Kec
def eaS : List Nat := [0x80000000000000000000000000000000000000000000000000000000000000000000000000000000000000000000000000000000000000000000000000000000000000000000000000000000000000000000000000000000000000000000000000000000000000000000000000000000000000000000000000000000000000000000000000000180, 0x60020000200000000000001800000000600000002000000000020018000000000000000000000000000000000180000400000000000000600000000001000004000000000180006000000000000000400200000000000030300000000000004000000000000000300200000000000000300100000003000000000301000000000001000000000000008003010003000000000000000000000080018000000c0000000000000000001810000040000c0000000180000000000000000040000000180, 0x240238220608be65191cc4a8987931a905a1e0f01f8d1e40ac1400ca8070c5a491b1d4b815bc61484438350704e3480e1b165239699130f54a304180045aaa0a1d287e80e603422142167a3a8b39f8d18289c30619f183a2332e30300d438d708043d11880e0230e2115a00c0e76daf400f70a2293043c38e88a36846e14bb554fc78038c0820030824917c680149344eb1100f428960301065481be15033040e62b8000f9655814934c0969498481d04aab1200d1d1598ca1eda94a21c785281e48322010f207e2, 0xa0e393a41f9ba355a5b9dc355dbe9f895e97167cfd60654af7e8a9816c13c9395add1afa8597e255acd60c514b4b56d0f4ed04a481c505d1e573b60fc3c5e790ac9d46b5cae16ed82581f3c4fde6750c3fb0387983d78125cf360963d7419d7da337a963db5e5569fc8ff582a2b56176cab2a22a21ef4c6f5085f9943b9848d3645d5d005419ef7acafcebb3ec90f08a5583a58939a534a303c6553212d548d06e6a9a51a422cfcdda8753ae5708a0487376f45f672b17d2aaa0a063d7d9fb5892eef97b5e30a756, 0x2239e41387a6616243aec45ed243ea46810121ab4734dee82cc73cf10757b11e9ba79464a7d1ed645fd635487a6285682bd456e1bf710678f8f6bcaf7852c76be2eb9b3bf6c3c42cb023fbf1d82afe1ec43a65318fd5ba17fa9d27e5a677e3ad1a70b485dc616d3c341f96adbd4cf0f593e8b59c7ce459758dc776f108a2bc834577f851c792003fbbd2c077e944d7cbc304ad5e8ac19b2e3ad175fc9734dc9d6098cf6594883b705769df500abaa8333ef15dd558442b4da712c135767b0b37b6571f4bcafff638, 0x9097b287f0b3a60b8250d2a9cf9474cd5ded6e10bb6808084f15f20a8334d5b82823c50ff17456692f8c9a6ba14c33c072f882f192c4b3b2703d49145e18b3779e304e84a1d9213170737bf7824d33e48e00e4fc1afcc59dcba47cc2a6e391f672588f88c976171889a8131459e2ea2fcb323f3b9948e6cc36f9fd42bb73f831de9aa35448f4668bf8005bdda7dcc9375bf5965daca66e38684ca8bf71d4860f65e55c1af2b011c5bdf48083b7ac88b581b7e335762b894688ff73a8f6de63989f9724a944211ce6, 0xdf492c5e5d1450c5e7ec97aaf7a6698e97a4555f80301d21acc6d7b4a55c80f8ad9c05fb1f82f7cb82c163189d67f47b6efa279d6a0fafbb2df861f6019eeec51da10009bc5413a94212bd27170d064362e587697d11e7689c9eb51a2fda27af0edd667c48527b6c40c143217882d3626c4c9975a5226c3586d5cf5dba7b2754ac3eb6fca9f74014f11f746ed93bc65596408b97192a6e3c1563f516b7edd5a6f9f950d420cb18e502abdbae98169a215abb8218ddb2ef4e1aff93b62bb408ad4b9edd775044644a, 0x1e5394a5df5aae3d2e4ae2e2e1c7f6ad55422e3cd5764b250eb50d1e89142704952405b7e00aef9df33c0b9cf56e5b929658aa94551c9324952efba9b691329e6bae480cb817bdc24dba397e49249355209670e31be17fb37119719a1981f787e7dc1e9ce6267b458f0aea215b74eebc9347b2af52b4def4d9926323be883bf06fb7c3cee940099321f69d683442e8be05239c86cd987e6aa1785d7eeb924d9095fc76f380f3ff1eee5d9ad68dd22bc400f4c80ef1f1a4e9de1da48340bf879870ac9b87e0fea58b, 0x60c4f53f7e88e4cfdf8f6ddce49e2120c2dd528d36c154df7ab538041bc1146d680ea51e454c9264c9bad6acb1be68a7d2ff497829920ef9ab79162d08cbc565fd53e6244c188b12c76ebe51d7af18580350c846e97c9b935751765d4a7da4c7c28dde4b376953074380ec4468d7e5a812e6b38df772a9cddc35cf5d0474a452ac5cff184d01b208d6da3640adea1c70078da359bc6bf7995d5ddb8c8f28072831ca0ddb3c86d33a9fc504680c6358f93ca943ae28ca9c95abd1fd64bb9c1bf007464df921b37467, 0xe47622e379cd088cc923f3b9909f13008bf98090c82e50d0fb333c004b6f383965741feb870532395a01d3b0d4550db4b5d7d60748a8ca50ea33c33d5b93bd3812b4b07eaf82a6df4b674a1c04fe5ec933fce819737dbeafb400594139a8343fbe0a3c513534991764420026c5da60730446a7f9e2008c79ef128fbef847e0569b26930f65c3087a4e0a5fd451cfe1113a54c73d6c17b993bbdf1df8f4dbdb98ea6e0981d91137e78bf2a029b60b88f6b037704c7e1c7d1c7979721bd4ddd61c10e1b5dc6df83103, 0xe6db11d04403bd307d05509ca19f6951cfe9bff681094cf442d59a76c04fde9d7e85d12025d3cdb03ed17917d0eda320f2fe510072f28edd42ea3423daea37b939299bface9fcf472e15b67519e4d708c1a36b3ef2a32147c1782cd7bf346810941a29294181a5204b9e523d955ea18ce3d039f07d601fb6bd8aa4c286aef144afa46100b043a4179b00574274ea10102786920d1012f6eae40b3a04f9fa0dfa947be902ce1f0fc71083c2cb7c50c8a718c67a0594d6e943a727df161afdf8d31d5e5855a5b07998, 0xf5d60644c338d430b4d51ed487ca126628bab8d236ffaf24d6eee394e58be20b7bc30629830cad69cbdf6d4915562ec10be415bfad4e088215c593b3ae7a449d565b0b175cd11eafd32788913da5c8a38bb4a5f1c3eebd5c6f852740b9b3d6dabc01a7284e3a075a611b622bd61ad9b3ad3bfcbbeedda9c9418cfea7ab1ea6ddf239c89063af6de791f663e802ed97f574a945ff7e0fa047aded66c39e5ed8b849b1a31ead210bdd5d3aa28449efd62a8e6ca324274434566d8dbd038339edb3cee0290529cb549a, 0x2bd8f57b9f1031852dc5913f0719f645bfb57adc43cc2270be496f726be93b7ee3c607cf61f32c54fd532878cb53a182b440a0f245401d654e0a875bc60fee60201a1d0e365113ea51dd25b22fd158f54797911ec008c55ce478dfe2e639525b9dddb4859b104d9ec4a7399afd8d0c447776b79a07f8a6bc25ce52eb3e8ee4700011c5a834fa332b289652e9c670511ba13c7bb52744135cb59864c9d3bd788b6b760d7168e341fd760f767a4525ee2f1cf2f4de22080ca5c5e372db6f26d7f69274d3ed9e5067fb, 0xa12663eeeb003fc8fc902fe54f2e087aef1bbc4e9b45830b4bb3ac268d074677e94b932b6a08f980da8e895827fafa9fba355631ab7633d3efde417bb1ecea500344881124bd345ff9b9ddd85c6cbaa815452fe8338b22d298aa13118f5b6316f4747237fc866cef5ceae7a1550765d08fce04b9b48d4dd83ac910b56456014e2de8c358d534c246362218458b8495eea1d2d3f3f97efaf4079d353b2b941fe63d210ab033e8f16c1981318f931b675ca968d591a2afaec356623f7f15719c6eb88e85fb8ed7f5d3, 0xb9e34011563ba843889fa60564b96e93882b36dfac276728ce5e8c3fdc25dfea9683406bd811293aac37409304e2b05b3daa73aba824af7b4e271a6293318eac02fe4dcbbc2725197e8c9c1a1f6859995992d0cc71c8ec90b5805e740be8b353a850026db243b9de472582f05a4bf1e0e33480b419a60f2d432f14fd5e2dc22555651d931ee4c37906864edde924c5d52a0172f140db1525e7541b681323dc0e039a133efa7880cb5e41b90445847885ee8c3442a111cff1c630bce4fa4d7209bfd7068c065c0d88, 0x8548d407149596d406e92a8a2ecb21330f3c77fee8aaf571c5a66a7367eb8ef82d9e387a9e6d2d5579052f1f592b7050627c55421c5e12f9c4ae1271ee0d14607dcb24e05cefe77107ad78a0467bcdf1b3322eed1c8d5c62d6a51d1fd4778d99609061abcadc332c124ac9d0402fd51d73c8a8bef40af3bba806bfbea1ba8bf9e71dcbfc088bbbac1d705cd658f349ba7db8d4bc73224aeb08a4fca3f4de05253bf7d30a9655954b5be47193399621e11a38f88ef0ce3c55b53906605084b33bf64fb3a4a6adeb5d, 0xca3617a7c43442c86a871a24df1eb32056c97c7aed7c095342ff270893d10c0acd431fe96de30dda5813ab7970a1310e5ea78cbb8fd497ec3ca91d9b459c5fb5f2c43fb51e6eed8aa9d2aa16f249e81ea8132aa42e35e178f8d1a021cb6683bbc2ff1649c187b5dfbc6e6f19ea3930b8d7e8d333c94ac6f52a09136651ffbbc17bb0fcc07c6f7d775454d42b1df6e93b36aa89e592879aa29953cae1a88b5b2f109c57cdd01149341897142d912461f179faeb3d6e2b39e589868c214376b84c1ffd81075d634423, 0xf71e0f7834bd5f62d09e7199ce78ad1f443175d6255203ef93b16301ec0028c7454b91c8dcb3be7cf146397d38fbf141e7af8b12abc46ea07f0d4d14059e3a4f720f4e9d986f8f2d52470535fb27069ca7e4f21a3978acca232d7fa5d4f7c6a9ff0e80ebbcf966da2027c451d199c2aa37ae604fae75cb6db345a6d012f871a45e5f1086397a7f110ccf8f4c71da883124060025848a961b921900307a9e171720f97db03149f3996df0fc4b99395a68798750413e84fd42b8652e9d72603263b826e67726460f57, 0xaf63fc7653bddc65328c70bfe56b439fcc4f118aac4b15217a45f291ef43c7bc1beedc76837e17689c85a738dd7816d6ec83a24a7d5737c12a67f2a9d9d5d92726115371bac93c94dc333cab21a740ac1593ab96c7e3567c6f7d31c3811abdc0fe5587ce638dac7495c68fc1b5806544ca08e45803729173835fa40cce9bc4c7023e305cc3441768da1e02f0de958e4ca98af92465582dfe4421d1cc098ee8589ad023f5832c63617809e20ab4f656282fede69ddea3672a0a9e44c6ddcd87e614f2d4ca96d24d7a, 0xf27bea43bed4f94714a65fc988d91990add544301a6a3869476a3862cffe20f4fc7c81f7b6c588b21bb9fa843dda7a8f05d72f517c73eb352e1dda92f1dbe4c743db99bbe34c1d8ba8a6b360bf4f28c8b7f0af1153afc52ec49f5e448e190a7c307cbb851c5ccabc483db89ccaebc1081a0a8a8b9bf3e2036208b8113427a73c2112168f80fe4dce01f5cfed93efb580ceadce18fb2f61678bef3b7bea672e5cb24432a1f866168edd0dce5503f6d748fecdf8322fb64fb344c420f01fd3e776660c4c6fe35996f0, 0xd40f4b7847200828c0a613d2964bcd1f78a825453a6383ce216e332559697da69673b4ac959bfe1214049e77fcfaa8314123000c2f0bcf49410d4538c77e5dda9c42dc5cadaf947af0b39708c4eefb556f0ebef6a4afab00bf4393f2edbd7bb6a1d4f41de92b5a4d32f710ba89c6f7153cd75c1147d2838a277debd11977305f57e39b320ee8b6ccede2e57c03d80cc2026ebb3100a0a8c1da8839d01a98df76709315701ba0ed6be98942ded7f9a4ea7bb7390bdd056c7d903fcf9c40e49ff28e39b670eff2b56f, 0xee0544787dd4e18599251867980b1d452a0cf3615247ec4fb825007a42d7b27fddd1f7780be66802a31e5570e567c586e66b5a795bdebe8f65d606ff57697580410c5af197fd2f28fe4cbbf64f6b85e494b7ea44ff2dde1ce42789be8dca7e48b2b8642774a461d60930fc59d826b375a7ab5d6a6b7c35570d0f43bd4187e677244c6d95a7ecdb76f1cdfe8947d3161e2585315cb31760a54a2fb26475a7b01d1cbc435debb115321438e010fedffa8815a5d6ad3667960ee8879118c520ff6bd8e771143a9fb023, 0x536c2fd129946b92e55fdc949adbf8addb69bc492a84a796c5c0fc0168840931d7a814145bc1d3429f15996ba3276f33c6f9e3859a9a077b5477ceb06f6ec0b3658da8fa1064490c899a24c2cad945b124e5d4e4ae55ffe266ae5c3a99a2e428f56dc8edeadb3e4eb18f2056bc5702c7dcf829440ba38ae54125cdbf10ec90b906acbcbcb67bb4ade4145c51859efeaa0bebd326cb39bebbe24f15534dd29aed6ddc6ad80336ff2395ba931e862deb425903760ca667c937a23b8004e9070ffafb8a995c07308a25, 0x643da5edc63d215b7f2e6c7bb79dc4c1a9402766727b8b59b00899cac6ae2559da1a540434b0a6a9c724e0e7aff97dafa84760568d93206c66fdf15659279802e7dc9835e479d7775050ecd66768e8eb78ca16f29dd1cf8a13ceb1ae603eaf6e6af6215659d3020c1ab06be43f41d1cf6fbc6e16818fbf937978f46633b6f9c9b506e4892fbf9b270d251b451c27aadb12d37ab4b2c2036e1345cbc371849083522848a4cfefacff3a0c163237c17bdf823e7f0ed3bd0ef933398182d222a0298fcd2572748ef35a, 0x56db3f518f237f3f9a7f5ef7dcd7ed2bf72051e0eeb4827c61e0a6c7f80274d2cc7acc34cf01362227f151402aba31fd670d5078a2288496bd670349dcb6a5b47055a8558ef92038349ad316f75f5f7ee593186487a0cc7b6d93135b74fab5faef9b6d2997b479f9ac01167b7b5d86fb7e575e5cfa088096280ba513315a09b97456e960fec6dd273b151fb49843c62a7fbf54770eac2b9db9a4dfa32e4671946f2789526bdcb6fa21b463e3b52f6201c0ad6c991be0485b6ef8c092e64583ffa655cc1b171fe856]
theorem UR : ∀ i, i < 24 → ∀ k, k < 25 → round (ofN (eaS.getD i 0)) (rc i) k = ofN (eaS.getD (i + 1) 0) k := by decide +kernel
def P7 : List UInt8 := [128]
def P8 : List UInt8 := [86, 232, 31, 23, 27, 204, 85, 166, 255, 131, 69, 230, 146, 192, 248, 110, 91, 72, 224, 27, 153, 108, 173, 192, 1, 98, 47, 181, 227, 99, 180, 33]
theorem P6 : ∀ k, k < 25 → takeB (takeB (eH P7).1 (eH P7).2 1) 135 128 k = ofN (eaS.getD 0 0) k := by decide +kernel
theorem SQ : hash P7 = P8 := by
 unfold hash jD
 rw [BI ((tq P6 24).trans (chain eaS UR))]
 decide +kernel
def aaS : List Nat := [0x800000000000000000000000000000000000000000000000000000000000000000000000000000000000000000000000000000000000000000000000000000000000000000000000000000000000000000000000000000000000000000000000000000000000000000000000000000000000000000000000000000000000000000000131612082c4, 0x4c584820b1020000200000000002082c0c584833a7100000200000000000082c4000001316100000010000000001612082c400040130004c584820b100000000010000040001616cda8c20b10130000000000040020000260a083448d880000000000000000000262c24105882000000262c2410588362c2410588000001058900000262c2400000000000000083674b41058a62c24000000000000000808b4f0904171141200000121200082c50098b49041620000082c40000013161200000531612082c4, 0x5a87b76722c5db15bfc67a283368f6f098b61e4238e424912fe69b68fb3643544c85f5c767c4a1b89d14bf3778bc191c910cae77927399c5804f6fbe81e7954ab26f306530cfb53f57166f42e93ea0f6f5961c1b29b938ac68ee0981616fd70b22fc316d622a5257f2daac7748083e94b82e5bb3ffeb89cf6a6ea67bfb5fe51a63c8c3d129292dd2196ee9b1e0e93432c2a79116fc63dd09a49805e6874ed137a565ab40d98100f968cff42a83ff1ea1b1871ad3131c4ea397aea6055955ba61622ced72cd3ebdd2, 0x9dda54b306ea14295fe596b1602868294c27d4bb5440a91e32c5b525697ca424485ebf242aa5a4f1d107231b299ccc194be6b9325621b0a90b99ca426a3b2698f9bf24c2462754680c2fca12e0928a116197c9531fa2137cab6e46e4bd42511b3546b7f2340139f55cc3248013b9cfe48fe9cae3431ae86ce63b7f245090d313fcec9ec4efc70f028fb071870bfe9d8891e27dba8dfef7b39c90fb960203ff5b93a0e78e0a74372c849502371b34f717445a599f2aaa74e518346a47bde0226b2cdc00c0d3a529b4, 0xa4abe421162c696da7e704da23137924ce31d0290976e0204db82af9f8884b81b706140b731b3f0ac9d759d7887e6d4ee7d8cefbb2fa4d7fd98f8575b983cb541cd004058f918b9c272e4343151e8498ad01618b65089046b9d591a330fa59c9ea847cb18a471d14ecd58c382c3d79a6218a4944a52d9c7a6aa4732131c4b40e1b055247044ea1ee3fb56d91b6298bff3b2b71e06df908702a53a37f7ac2cb771f04ea1102c94349d0a72c528a0cfae8638c972916a2072d05eff1571bb990f0a0d2678d242e542b, 0xde91dab1807875602243be241b84d380385b9de5c302f8f88fe8dc0dc4026de9c11a7eed1a2182dfd6237c55012ba0097e84e5026973c4e146a8ac4b3ed9de53b5cae30956e82c6e9ab19c3382c989c25083a720629d519071dda599a22a18cfdc76d84a25b2d9b0178816a5f9f9d93b31e3d24f601abac2518956a081541d2040c904ffffabe69db0185479bdc1f87e7c73f9493d28ee3e4901be517134e619f110d0bd4bee7029e45a2ba48514a9641388f872620f37c5086d11a4e1dbd476117d4e6dbe95d67d, 0x97ca5df9e16b06caf84a17a6e13226ad2b991087a1b7df113e1ae3871155520a964afee540e04836a1d6a7f45546fb23fb4e36f6fea5020759e75a0791adc8aede1484e8420bb7121d1a029fd003848c61bc7840b36cab09d36e6e6aee636829a57fd9e70c1f309bedcd9d175b96815e70c4f54fb78d5b9b0ebfc6f9a41edbd4289290b8c44e69d5975bb73d357824d349645997601c8f9c0d1704ca4421d65c62c3c5ed4e93cccef3db8da44431ea34b7df0cbd84567afc18ccd7c6ab222052fdaf431d7cf42440, 0xe8f3b2e104a3208253a8c82a09dbe018e0843a3e31fbc5fd9174925d764d54c977ffbf9428bf4adad2787f1db2b59dde6d3258e44fb949e5bc40cf605c5f503fa1311beee376d5c2760b965fbff4c0755bb4ed06593054040d2906cabf71114d2fe50821eca6e08add91c01f75047cc3d9b5b0f7d53deef93ca0162d18ebd54bc50f2646f46c82c8b6447a36ed663a8cd1bdab7dfed9bc300f68610eb61a39f0658cab25a0dea6f98e7402cd090e3e4193ac565a10bc91cb15da6a512b68c85f1c81bf3d06d1630b, 0xd42d8dd7a584105bf651801af4455f0314baee9b176acbb469f0f0c6b08659b786e5ade90d1c864fc2344720dc557f4b39759845e8f5b2856a949fda36f3c6e4b020254789caefd9a29a7644fe61a49bd5bcb2c30fde302fc2008163fee439ed77434f712d4fcdd819a56a36900ee67e85990b316c999c58055458f64186f985e2453de8f5d1fb0d9319223b49993a6de33986cad4ddf680b9bf7d7ca38ba6eee394715a5258048a5612aa516f4e91b3f286ae942f1dfec653993b3824254e4df7f7f74921d7da24, 0xddaf2fc5e4484eccabae62feabc2bc71664426d88dacc8aa2eca3e9201e8340c2c286d3f29c890ce52a42f90f657b4bce841df0929e17e13b9c2a5f4dca5789312f51c4cf64a82a7c18d90d69c9ca64ce3e43ac3f21dcecf03fcf683e72713b478bd22934dd0792a49cf8834cf2ec4604b942b9ccab3399b50c13cfaaf7cffd86891f0c86358083d08f2ff2f454f9d52f619230c1fc637b6e4492d0ec76be3bf8d40340b8204bcd00f71a2ce2db0689f92456aaa0081702b3ec00dc373d7d84c333dd07377738d07, 0x9644b779eee469e5b3f530176144f5e907d6bb3bde1ad027241ae0d43f957a319be6ab1980dbe3fe46febeb2ce681157889aefb5f3a4ef0e3f4932c9f7fc557fb2382b82f74052ba08b5b63e3af5cedfda0954a6f6bb9cd9fc527a1a4dc2e8b5ec408d9452904d0c9e7209d3879e206d09331d5e7c2cbb727381f6c36b34466af91e4b2d8fe4087207c9bd8f478aa4f049a3f4f8d68d4a84baad333c8410bf5b99c58196cb3b80159f9d2a1eb2d6a2f3a4170853998a96702a647fc0645366207c136a4d8392500f, 0x5f9fe267c003eb60ef688e66f012fbeac58c62e106701e5b4de764c9abed907ff327701e6c1fcee584291e7d4e68c20b9861a626e04b3661b8caa0e2d39348b8d11c1bbcf704a4b14993f9554cbd37ba81e57722243ab0bcccdaa0f6a2fecf5da1299fac95954b9f941f695ce7e6c50b11720bdbce6cef2b45e72d7c359578b8b1daa09c603debc0b3702f8d95368f290d12225ee97fd8bcbdf80161e2172bfcb458cf4cd0a666d1047544483067d6af9ecfed9052e1d2494d52affdc0ee597e694f930e9c811897, 0x4d62d0ccdc05df7f480d6556d6fb2453bbfb4b02f0d1ad1948be930df7e2cde19c4ff3fe1e0246e8f49e4838138b57c7140da6391e0f649b7123963b589b497c45006d077b3b580b19c41b932263435f0162936a5572100b452e0443f1f54c5a17b2c02f89587d2dd1bf03c91821f1d836105ced7bc5873de354035dbfa8525e0b2d031a6819d994cb2aa3169b646fd8e1f3c0855fbde94f230bba9ca23d0d76fefa09fa7b9eb80609f68ef7041d91a8147d7bb295f3cd72741895820dc864edbcc9bb0f8fc673c, 0x546521da94bfd1c197d48664a7696648ee664f3801a10def2d520bc3c2dfb05073ac913bc2c5de98d780a9bf38446e871526fba0a7d76869c5cf6b81553e8af869fc2c97b5af9a2d88fe510a2eceda46bcfb9b75a1466aa83e82c9f3250f257af03d4e969541e4f8d928f82afd922c41ebc351eea7123fd9afa3c4fce7aead89cdb3c8d954e7e2dc2272b00a5d121e7bfe3f7ec2ee32409637d68c638149b82133808d36fdb06e728bd15ab47501a9a0ff8e527651f0f0eae813acc0f5fefa6a5f2e9d8f7dc1f93b, 0xe36cbd4fb19c0e65616ba4d92c22732e1f7f13dd8d83a4a4a4c674dabd7b1cb379390eeeb218835d1e9e96b38171d3c4d504cf1f03b1d1384971fbe169768071df797f4629f5990b5c34afd2b9c80fec024bdcfec0a39717789ba25201f6badd2deeb7a49afc24ea3f3d70e2059a270239d4f3a1ea4835ff16354cee92466e26d61b33a9db386359fd748e3a97668e4e2e11cc3399ca272ee837b2c35a9cb63501f9dff2a7b77fb922eeb5b56f82269e0dd2f63f080fe147622f792859656aa5678759f9c8250666, 0x868adb3436b33d4818446f88b9ae8dad9be6101e4eb13e5e1e5794ae34d692fd9c7329d29322a1190a38e12a7a429cc8718b963dea155bf66829bb93fe83eee3500133c91398b17784c199949cb81591e8c993d410ac80974bbe79d42d9d88287496d2c760046e4c7a9ff684546e48e14bd51f2af1095db1ae7e08553d305467d9ceacf913bf728222f05ba8480509978b81cde1802adc775419ddf3d3912421816639d21156cfed0964b5cca518d5046b8c58aad772ad9cab64cffe4b2ba2825e01b12d2af906d1, 0xecca9e32b6f7f703810d2182bc4c41c181f5f6647477406da34897f894d6459e2ab2a67b9d94a09b454afe267a32bca27fd26ad880434dc4ab061f1104cfe6dc7aea38c3f22e2c7c97b586385adb43bd5bd6432c8bb8bda098deaa2c10f6af164c05128f1227e846ca34b7686d2bffbcd9a2b13e34a0b93e6b12aa6accf4fb05a9493322819575ac037788fee7e46a804ed7d663a017f4fde182eb384e986ff1b3450c1311e7d12e91d226eeacc52b6b1440d4393d9642c9bb8c94adcded1ca7b97bc6990a90953b, 0x525dd17603a862c5cf653460497f9701df186923f8673732a381510f4b0e52dc1feeb1c4a6da34fb23a43b8c3d24fcaed62430b87133787f8497f1a856484cd7d82cfd72c02d8419a6ef09e6eeeb7c4e7b4b2f42a2f83da2e9d7e5004100107335398641fb991c8b6b8ce4f4a3bb0976cc97c4174fe0d21b4fd18895c6356bba683403eea00c8687e28da23a16c5f0d17ea87da0de5cd510834b5d531be1005ce5d97f34d09cb0d8f6e10eb069eb4718eb6320bbff1f8318ad15b750828c06629c8ab64d31af0482, 0x9f3efac0782316882c3ac9315afe732ea79adaacf2f74da4f387097fc30cff287906fef3ea727cbb6bef5b8614e6bb72557e25ba5c80494b09ac6b9ff299830dce84176a4086f74500f16504e080add778a7505d072cecb14bb97d56186dde91e5d7afe2409fd71c6d960394468045be83a79db2ae88d0b8d850665aed2c284a426777bd4a590589e0a797a3d8cbb1cda212b20e9e9f11f4d4a6dfcfec6c576740cbd70fb42c723da31b1c13f23c049b7f8bd35d1ee85550b632e1064c37c8b8324090f7412a426e, 0x527f716518406af6fc3fa1322c5931fa9390268c37182c5824f031644f343d45360f1cc5f161809872d76f1710b9f6bb68f8c40b636ff449fdfbf018e63cc1d21c0652b79a131d32d3f99cfb69fdf7bc4efc9c595ac4318402332fa0696f62e9477a0a7291edcd4bc44a76e0892985400d88b0439318146724a19e1a153421cee22b6f91bd89c4a3f986877dd911178cef0cba2e452b23d31111c9ad2de4d86aa4a2f35bd6c594f4ea72fcb04b776d3780c273383c2c709e0ec20173a7a3c4812fc73dab548ad038, 0x84fb125ebdf97c9dae74086967e911adafc25dfc8e7ed766bb462cce585e2d1387a4fbbc89b02ffde30804b56af35eb578ecedac705aef9abff73c5ad2dcfcf4644c9061827818c8e9680a0693aab51b7aee6a4f09797e46b3f513ec76e1649391e20a98b9c1b0569c6c1b5f670597675992e97344fc2ed8775233de50b7b2457b03dc08a91f4eac9971d919bce48e2c362a43f920041dc6441aa305aac828ecc088accae37fba27cc9a4605ff48447ac97d03638b93451df5e69d0a5f5a7c45bf41c362040043a, 0x953a0d8f1276158717cc1c28ffeaf437d13b87d38093b976bed392950e0545e41ab8fac8201d2e8997a24a024cde681ce4f09a3d43f8a7d5e6827e0e64fc37164be07b7eff8832736d9a17ca57b77614fa07b9347d66bc8d9e219c0a5abe03b8d98db047a9667c29f6adedc010d8b440fa4880d62d4dc076cd1484ba72c721e5dc2e96137d1c43bc7a11fd8a549e6e1e2a6b87fa35cbbc0c70f652bcc25c8c63141ecffa05419958f651d2757451f975db85c250d15def8226736679b6d9ce0598c5a4af9ed0a817, 0x1a63874b6760fa64644866269cc4c7143b3401738840598e5f205441d41c2561b6a666f8f0562250b4930001d8bf3031588a54ea0db77ee0767b191d0db55426283983e4c6a0e295bd71a04fb5d3691255afd768d6fa011cdb73d5b9e8fe9b7b70f1cb4665255583d7eb00d3ce5819a698c0eb7a73686e604e9633d107a2fbb3dc685231498a09422480da3dea7621bf1df11b192505005e5346577ba7ff7ffc913c39510082ce19d7a5b642e4c83f7018dc82d67e4a60adaf53e907af9ec57336d9d8c65e571204, 0x23f596cdd1155d72054a375a690afa66f7778aafe34d42cedeca256653508ed6759d2264c06295a2ab25045d900053218d6e432a3f93d6bdf8d497f395a819885563161d132536f738c2bbfa880a83fdd02a8cb3ccf65b84da53d7d2e8b41d877ca83ada0824359e087992059755e6dac0bc99191a256eb25d178605ccf00a42b3c7c216b7c88c8b889fdc05c4a9129c7064fddde9f6b3b4d049fdb8fdf3d8c431082d421d9926e34b306aa7c3c6c85593373c9ad3581a54cb2fec8aca4cf030169cd9e419add6de, 0x12be6f2e1f9e1401c481ea7b00bcb1716b8fe072bf674bb13bd95d3fe32b6646ff8b86e52ca532ba1a0532938a29a6eebd263fde07bf4bb622e3b3cc117012001cc5fcfb3f3bc05315fee6f0f82f15779c4fd55b59a9e90eebf6f1b2019d595712782753af96f6dc88185acd1d3030baa4ddadd5bef8d38a995d0f851230251eb1a639a8d31b068b292be5615cb959c09a92b7db21e09996405e65eec8bcec37758a6fe46027cf4edd39f6fbc42190cde61d298dada0a44549f6e8c11562484055470cdba497b659]
theorem Vb : ∀ i, i < 24 → ∀ k, k < 25 → round (ofN (aaS.getD i 0)) (rc i) k = ofN (aaS.getD (i + 1) 0) k := by decide +kernel
def Qz : List UInt8 := [196, 130, 32, 97, 49]
def QA : List UInt8 := [89, 182, 151, 164, 219, 12, 71, 85, 64, 72, 98, 21, 193, 232, 246, 73, 69, 164, 160, 173, 141, 41, 29, 230, 205, 144, 33, 196, 251, 246, 57, 221]
theorem Qy : ∀ k, k < 25 → takeB (takeB (eH Qz).1 (eH Qz).2 1) 135 128 k = ofN (aaS.getD 0 0) k := by decide +kernel
theorem Tc : hash Qz = QA := by
 unfold hash jD
 rw [BI ((tq Qy 24).trans (chain aaS Vb))]
 decide +kernel
end Go.Proofs.YtelbhdobjdnglaaGreat.Kec
namespace Go.Proofs.YtelbhdobjdnglaaGreat
set_option linter.unusedVariables false
open Go.RowKit Mono Rlp
namespace E
section
variable {N : Nat} {X : Cx N} {ops : Array Oper} {Q : Exit → Act → World → Prop} {l : List Oper} {rs : List (Tmp × R)} {os : List Obj} {fs : List (Value × D)}
theorem GZ {t u ty ty' n : Nat} {pos pos' : String} {af af' : Array Edge} {parts : Array (Nat × Operand)} (bl : List UInt8) (hp : (parts.toList.map fun x => x.2) = bl.map fun b => Operand.const (bv b)) (hb : ∀ (a : Act) (w : World), (execOp a.eval ⟨some t, .buildSlice 38 n parts, ty, pos, af, none⟩).run Tryz.prog w = .ok (.value (.slice (some ⟨w.heap.size, 0, none⟩) n n)) (w.alloc (.cells (bvs bl).toArray 5))) (hn : n = bl.length) (hm : n ≤ 1000) (hN : Nat.blt t N = true) (hN2 : Nat.blt u N = true) (kk : EL X ops Q l ⟨(u, .val (.bs bl)) :: (t, .any) :: rs, os, fs⟩) : EL X ops Q (⟨some t, .buildSlice 38 n parts, ty, pos, af, none⟩ :: ⟨some u, .convert 38 38 (.tmp t), ty', pos', af', none⟩ :: l) ⟨rs, os, fs⟩ := by
 constructor
 intro a w ha
 have hg1 := au w (.cells (bvs bl).toArray 5)
 have hg2 := au w (.cells (bvs bl).toArray 5 ((bvs bl).toArray.size, (bvs bl).toArray.size + 1))
 have hd1 : ∀ x, some t = some x → x < N := fun x hx => by cases hx; simpa using hN
 have hd2 : ∀ x, some u = some x → x < N := fun x hx => by cases hx; simpa using hN2
 have a1 := (ha.gr hg1).put (d := some t) (r := .val (.v (.slice (some ⟨w.heap.size, 0, none⟩) n n))) hd1 (iD rfl)
 have e2 := gW (a1.kn fun _ => True) (x := .tmp t) (y := .slice (some ⟨w.heap.size, 0, none⟩) n n) (by simp [ev, St.put, look]) (fun _ _ => trivial)
 have hh : (w.alloc (.cells (bvs bl).toArray 5 ((bvs bl).toArray.size, (bvs bl).toArray.size + 1))).heap[w.heap.size]? = some (.cells (bvs bl).toArray 5 ((bvs bl).toArray.size, (bvs bl).toArray.size + 1)) := (X8 w _).1
 have hs : w.heap.size < (w.alloc (.cells (bvs bl).toArray 5 ((bvs bl).toArray.size, (bvs bl).toArray.size + 1))).heap.size := by simp
 have hrd : bU (more (X.ok os w) w (w.alloc (.cells (bvs bl).toArray 5 ((bvs bl).toArray.size, (bvs bl).toArray.size + 1)))) (w.alloc (.cells (bvs bl).toArray 5 ((bvs bl).toArray.size, (bvs bl).toArray.size + 1))) (.val (.bs bl)) (.slice (some ⟨w.heap.size, 0, none⟩) n n) := by
  subst hn
  refine Qk ⟨_, _, rfl, Nat.le_refl _, by simp only [maxLen]; omega, fun _ => ⟨w.heap.size, 0, rfl, ⟨.inr (Nat.le_refl _), hs⟩, fun j x hx => ?_⟩⟩
  rw [Xj, cell_of_row _ _ j _ _ _ hh]
  simpa using hx
 have hr2 : (execOp (a.put (some t) (.slice (some ⟨w.heap.size, 0, none⟩) n n)).eval ⟨some u, .convert 38 38 (.tmp t), ty', pos', af', none⟩).run Tryz.prog (w.alloc (.cells (bvs bl).toArray 5)) = .ok (.value (.slice (some ⟨w.heap.size, 0, none⟩) n n)) (w.alloc (.cells (bvs bl).toArray 5 ((bvs bl).toArray.size, (bvs bl).toArray.size + 1))) := by
  unfold execOp
  simp only [e2, WX, Jf, WV, Xc]
 unfold wpList
 rw [if_pos (by rfl)]
 refine .inl ?_
 unfold Oper.wp
 rw [hb a w]
 show wpList Tryz.prog ops Q (_ :: l) (a.put (some t) (.slice (some ⟨w.heap.size, 0, none⟩) n n)) (w.alloc (.cells (bvs bl).toArray 5))
 unfold wpList
 rw [if_pos (by rfl)]
 refine .inl ?_
 unfold Oper.wp
 rw [hr2]
 exact kk.go _ _ (((ha.gr hg2).put (d := some t) (r := .any) hd1 trivial).put (d := some u) (r := .val (.bs bl)) hd2 (hrd.mono (fun b hb => rH ha.mem hg2 hb) fun _ _ => rfl))
end
def l8 : List Pr := [([97], [49])]
def b8 : List UInt8 := [196, 130, 32, 97, 49]
theorem TJ : qO l8 = 0 := by decide +kernel
theorem Vo : Ey l8 = .leaf (split [97]) [49] := by
 unfold Ey l8
 rw [show srt (([([97], [49])] : List Pr).map sp) = [sp ([97], [49])] from Zk.1 (lN _), Qq]
 rfl
theorem pk8 : pkB (sJ (.leaf (split [97]) [49])) = b8 := by decide +kernel
theorem Vu : JC l8 = hash b8 := by
 unfold JC sumT
 rw [if_pos TJ, Vo, pk8]
 exact if_neg Bool.false_ne_true
end E
end Go.Proofs.YtelbhdobjdnglaaGreat
