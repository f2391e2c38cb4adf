/-
 Merged: lemmas of this claim.
 Conditions: none.
-/
import Derived.Test.YtaoicebcdmpemaaGreatZB10
import Derived.Test.YtaoicebcdmpemaaGreatZB15
import Derived.Test.YtaoicebcdmpemaaGreatZB16
import Derived.Test.YtaoicebcdmpemaaGreatZB11
import Derived.Test.YtaoicebcdmpemaaGreatZB6
import Derived.Test.YtaoicebcdmpemaaGreatZB7
import Derived.Test.YtaoicebcdmpemaaGreatZB14
import Derived.Test.YtaoicebcdmpemaaGreatZB2
import Derived.Test.YtaoicebcdmpemaaGreatZB0
namespace Go.Proofs.YtaoicebcdmpemaaGreat
set_option linter.unusedVariables false
set_option maxRecDepth 20000
set_option maxHeartbeats 16000000
open Go.RowKit Mono Rlp
namespace E
theorem Cb (l : List UInt8) (hl : l.length ≤ 140737488355328) : Fn 96 [.bs l] (· = .val (.bs l)) := ⟨fun ok w xs hok hr => by
 obtain ⟨v, rfl, h⟩ := mP hr
 refine (mF v l w (jU hok h) hl).mono ?_
 rintro e w' ⟨v', rfl, hg, ho⟩
 exact ⟨hg, _, _, rfl, rfl, uh ho⟩⟩
theorem oN : ∀ args w, (callFunc 95 args).run Tryz.prog w = .ok (.enter 95 args) w := enters_of Tryz.func95 (by kernel_rfl) rfl
theorem CW (m c : Nat) (es : List Ent) (bf : List UInt8 → List UInt8) (hb : ∀ k ∈ es.map (·.2.1), aX es k = some (.bs (bf k))) (hbl : ∀ k, (bf k).length ≤ 140737488355328) (hl : es.length ≤ 1000000000) :
  FnM 54 [.v (.map (some m))] [.map m 32 c es] (fun r os' => r = .val (.sl 33 ((sortL (es.map (·.2.1))).map fun k => dNd (k, bf k))) ∧ os' = [.map m 32 c es]) := by
 have h1 := qy m
 have h2 := fun gk => lQ 95 vg oN gk m c es (by omega)
 have hKm : ∀ k ∈ sortL (es.map (·.2.1)), aX es k = some (.bs (bf k)) := fun k hk => hb k ((dV _).mem_iff.1 hk)
 have hKl : (sortL (es.map (·.2.1))).length ≤ 1000000000 := by rw [(dV _).length_eq, Kv]; exact hl
 generalize sortL (es.map (·.2.1)) = K at h2 hKm hKl ⊢
 have hml : (K.map (D.arr 32)).length = K.length := Kv _
 refine FnM.walk 25 Tryz.func54 rfl Tryz.ntmps54 (by simp) fun X => ?_
 repeat
  (first
   | (refine aO (os := []) h1 (kk := ?_); rintro _ _ ⟨gk, rfl, rfl⟩; simp only [Ko, J8])
   | (refine stp ?_; intros))
 refine aO (os := [.var gk 88 (.v (.map (some m))), .map m 32 c es]) (h2 gk) (kk := ?_)
 rintro _ _ ⟨v, rfl, rfl⟩
 simp only [Ko, J8]
 refine EL.le (Le.freeze (pre := []) rfl) ?_
 refine EL.le (Le.refine (t := 8) (d' := .sl 32 (K.map (D.arr 32))) rfl (Rf.fact Kt rfl)) ?_
 simp only [J8]
 repeat (refine stp ?_; intros)
 refine EC.le (Le.row 43 33) ?_
 refine EC.loop (ι := {x : Nat × Value // x.1 ≤ K.length})
  (fun x => ⟨[(10, .val (.v (.int .i64 (x.1.1 : Int)))), (9, .val (.v (.int .i64 ((K.map (D.arr 32)).length : Int)))), (8, .val (.sl 32 (K.map (D.arr 32)))), (3, .val (.v x.1.2)), (0, .val (.v (.map (some m))))], [.row x.1.2 43 33 ((K.take x.1.1).map fun k => dNd (k, bf k)), .map m 32 c es], []⟩)
  (fun x => K.length - x.1.1) ⟨(0, .slice none 0 0), Lm _⟩ ?_ ?_
 · exact Le.kp
 rintro ⟨⟨i, rv⟩, hi⟩
 dsimp only at hi ⊢
 by_cases hlt : i < K.length
 ·
  have hd : (K.map (D.arr 32))[i]? = some (D.arr 32 K[i]) := by rw [List.getElem?_map, List.getElem?_eq_getElem hlt]; rfl
  have hget : (aX es K[i]).getD (.v (.slice none 0 0)) = .bs (bf K[i]) := by rw [hKm _ (LH hlt)]; rfl
  have hcl := Cb (bf K[i]) (hbl _)
  have hl3 : ((K.take i).map fun k => dNd (k, bf k)).length = i := by rw [Kv, L6]; omega
  have htk : (K.take (i + 1)).map (fun k => dNd (k, bf k)) = (K.take i).map (fun k => dNd (k, bf k)) ++ [dNd (K[i], bf K[i])] := by rw [KF hlt, LG]; rfl
  unfold dNd at htk
  dsimp only at htk
  repeat (refine stp ?_; intros)
  refine EC.le (Le.pick [1, 0, 2] [_, _, _] rfl (by decide) rfl) ?_
  refine EC.mD 9 [0, 1, 2, 3, 4, 5, 6] [7, 8] [_] _ (by kernel_rfl) (by kernel_rfl) rfl ?_
  simp only [bI, Lp, LQ, KT, KZ]
  repeat
   (first
    | (apply vN; exact hget; rfl; (first | exact I0 | exact I1 | exact I2 | exact I3); iterate 5 rfl)
    | (refine bP (hcl) (kk := ?_)) | (refine sth ?_; intros))
  refine EM.nil ?_
  repeat (first | rw [Ko] | rw [J8])
  refine CH.cut 1 ?_
  simp only [J5, J9, J4, J7]
  repeat (refine sth ?_; intros)
  refine EM.nil ?_
  repeat (first | rw [Ko] | rw [J8])
  refine CH.mut (os := [_]) (rest := []) rfl rfl (eG rfl rfl rfl rfl rfl ?_) ?_
  ·
   rw [hl3]
   constructor <;> (simp; omega)
  rintro _ _ ⟨sv', rfl, rfl⟩
  try simp only [St.put]
  repeat (first | rw [Ko] | rw [J8])
  refine CH.nil ?_
  try simp only [J4, J7]
  repeat (refine stp ?_; intros)
  refine EK.again ⟨(i + 1, sv'), hlt⟩ (by dsimp only; omega) ?_
  dsimp only
  unfold dNd
  rw [htk]
  simp only [Ls]
  exact Le.kp
 ·
  obtain rfl : i = K.length := by omega
  rw [L8]
  refine EC.le (Le.freeze (pre := []) rfl) ?_
  simp only [J8]
  repeat (refine stp ?_; intros)
  exact EK.nJ [.map m 32 c es] rfl rfl (RL.cons (Rf.fact Kt rfl) RL.nil) (by (repeat first | exact Kr _ | apply List.Sublist.cons_cons | apply List.Sublist.cons)) ⟨rfl, rfl⟩
theorem nK {ok : Nat → Prop} {w : World} : ∀ (l : List UInt8) (rows : List (List Value)), ah ok w 1 (l.map fun b => D.v (bv b)) rows → rows.flatten = bvs l
 | [], rows, h => by
  rw [KU, ah] at h
  subst h
  rfl
 | b :: l, rows, h => by
  rw [KD, ah] at h
  obtain ⟨r, rest, rfl, _, h2, h3⟩ := h
  rw [Reads] at h2
  rw [KG, nK l rest h3, h2.2]
  rfl
section
variable {N : Nat} {X : Cx N} {rs : List (Tmp × R)} {os : List Obj} {fs : List (Value × D)}
theorem Le.obj {o o' : Obj} (hb : o.blk = o'.blk) (h : ∀ (base ok : Nat → Prop) (w : World), (∀ f ∈ fs, Reads ok w f.2 [f.1]) → o.At base ok w → o'.At base ok w) : Le X ⟨rs, o :: os, fs⟩ ⟨rs, o' :: os, fs⟩ := fun a w ha => by
 have hok : ∀ b, X.ok (o :: os) w b ↔ X.ok (o' :: os) w b := fun b => ⟨fun h1 => ⟨h1.1, h1.2.1, fun p hp => by
  rcases Kz.1 hp with rfl | hp
  ·
   rw [← hb]
   exact h1.2.2 o Kt
  · exact h1.2.2 p (KC _ hp)⟩, fun h1 => ⟨h1.1, h1.2.1, fun p hp => by
  rcases Kz.1 hp with rfl | hp
  ·
   rw [hb]
   exact h1.2.2 o' Kt
  · exact h1.2.2 p (KC _ hp)⟩⟩
 have hap := KR.1 ha.mem.apart
 have hf : ∀ f ∈ fs, Reads (X.ok (o' :: os) w) w f.2 [f.1] := fun f hf => Reads.mono (fun b hb => (hok b).1 hb) (fun _ _ => rfl) _ _ (ha.mem.fact f hf)
 refine ⟨⟨ha.mem.gr, KR.2 ⟨fun p hp b e => hap.1 p hp b (hb.trans e), hap.2⟩, fun p hp => ?_, hf⟩, fun t' r hr => (ha.regs t' r hr).mono (fun b hb => (hok b).1 hb) fun _ _ => rfl, ha.size, ha.defers⟩
 rcases Kz.1 hp with rfl | hp
 · exact h _ _ w hf ((ha.mem.at_ o Kt).move (fun b hb => (hok b).1 hb) (fun _ _ => rfl) fun _ _ => rfl)
 · exact (ha.mem.at_ p (KC _ hp)).move (fun b hb => (hok b).1 hb) (fun _ _ => rfl) fun _ _ => rfl
end
def bvD (l : List UInt8) : List D := l.map fun b => .v (bv b)
theorem tX {ok : Nat → Prop} {w : World} : ∀ (l : List UInt8), ∃ rows : List (List Value), rows.flatten = bvs l ∧ ah ok w 1 (bvD l) rows
 | [] => ⟨[], rfl, by show ah ok w 1 [] []; rw [ah]⟩
 | b :: l => by
  obtain ⟨rows, h1, h2⟩ := tX (ok := ok) (w := w) l
  refine ⟨[bv b] :: rows, by rw [KG, h1]; rfl, ?_⟩
  show ah ok w 1 (.v (bv b) :: bvD l) _
  rw [ah]
  exact ⟨_, _, rfl, rfl, by rw [Reads]; exact ⟨rfl, rfl⟩, h2⟩
theorem Le.Jw {N : Nat} {X : Cx N} {rs : List (Tmp × R)} {os : List Obj} {fs : List (Value × D)} {v : Value} {l : List UInt8} : Le X ⟨rs, os, (v, .sl 1 (bvD l)) :: fs⟩ ⟨rs, os, (v, .bs l) :: fs⟩ := fun a w h => by
 refine ⟨⟨h.mem.gr, h.mem.apart, h.mem.at_, fun f hf => ?_⟩, h.regs, h.size, h.defers⟩
 rcases Kz.1 hf with rfl | hf
 ·
  have h1 := h.mem.fact _ Kt
  rw [Reads] at h1
  rw [Reads]
  obtain ⟨A, c, rows, e, g1, g2, g3, g4, g5⟩ := h1
  have hl2 : (bvD l).length = l.length := Kv _
  rw [hl2] at e g1 g3
  refine ⟨_, rfl, A, c, List.singleton_inj.1 e, g1, g2, ?_⟩
  rw [← nK l rows g5]
  exact g4
 · exact h.mem.fact f (KC _ hf)
theorem Ii (l : List UInt8) (hl : l.length ≤ 140737488355328) : FnM 96 [.bs l] [] (fun r os' => ∃ v, r = .val (.v v) ∧ os' = [.row v 5 1 (bvD l)]) := ⟨fun ok w xs hok hown hr => by
 obtain ⟨v, rfl, h⟩ := mP hr
 refine (mF v l w (jU hok h) hl).mono ?_
 rintro e w' ⟨u, rfl, hg, ho⟩
 refine ⟨u, .val (.v u), [.row u 5 1 (bvD l)], rfl, ⟨u, rfl, rfl⟩, ⟨.of hg, List.pairwise_singleton _ _, fun o ho' => ?_⟩, ay.2 ⟨nS ho, rfl⟩⟩
 obtain rfl := List.mem_singleton.1 ho'
 obtain ⟨rows, e1, e2⟩ := tX (ok := okM ok [] w [.row u 5 1 (bvD l)] w') (w := w') l
 exact ⟨rows, ⟨by rw [e1, show (bvD l).length = l.length from Kv _]; exact nT ho, fun b hb => .inr (eX ho b hb)⟩, e2⟩⟩
abbrev nel (p : Pr × Value) : D := .tup [.arr 32 p.1.1, .v p.2]
abbrev brO (p : Pr × Value) : Obj := .row p.2 5 1 (bvD p.1.2)
theorem GL (A U V M : Obj) (l : List Obj) : (A :: U :: V :: M :: l).Perm (V :: A :: M :: (l ++ [U])) :=
 (((List.Perm.swap _ _ _).trans ((List.Perm.swap _ _ _).cons _)).cons A).trans ((List.Perm.swap _ _ _).trans (((MN (l₁ := [U]) (l₂ := l)).cons M |>.cons A).cons V))
theorem E5 (m c : Nat) (es : List Ent) (bf : List UInt8 → List UInt8) (hb : ∀ k ∈ es.map (·.2.1), aX es k = some (.bs (bf k))) (hbl : ∀ k, (bf k).length ≤ 140737488355328) (hl : es.length ≤ 1000000000) :
  FnM 54 [.v (.map (some m))] [.map m 32 c es] (fun r os' => ∃ (nv : Value) (P : List (Pr × Value)), r = .val (.v nv) ∧ P.map (·.1) = (sortL (es.map (·.2.1))).map (fun k => (k, bf k)) ∧ os' = .row nv 43 33 (P.map nel) :: .map m 32 c es :: P.map brO) := by
 have h1 := qy m
 have h2 := fun gk => lQ 95 vg oN gk m c es (by omega)
 have hKm : ∀ k ∈ sortL (es.map (·.2.1)), aX es k = some (.bs (bf k)) := fun k hk => hb k ((dV _).mem_iff.1 hk)
 have hKl : (sortL (es.map (·.2.1))).length ≤ 1000000000 := by rw [(dV _).length_eq, Kv]; exact hl
 generalize sortL (es.map (·.2.1)) = K at h2 hKm hKl ⊢
 have hml : (K.map (D.arr 32)).length = K.length := Kv _
 refine FnM.walk 25 Tryz.func54 rfl Tryz.ntmps54 (by simp) fun X => ?_
 repeat
  (first
   | (refine aO (os := []) h1 (kk := ?_); rintro _ _ ⟨gk, rfl, rfl⟩; simp only [Ko, J8])
   | (refine stp ?_; intros))
 refine aO (os := [.var gk 88 (.v (.map (some m))), .map m 32 c es]) (h2 gk) (kk := ?_)
 rintro _ _ ⟨v, rfl, rfl⟩
 simp only [Ko, J8]
 refine EL.le (Le.freeze (pre := []) rfl) ?_
 refine EL.le (Le.refine (t := 8) (d' := .sl 32 (K.map (D.arr 32))) rfl (Rf.fact Kt rfl)) ?_
 simp only [J8]
 repeat (refine stp ?_; intros)
 refine EC.le (Le.row 43 33) ?_
 refine EC.loop (ι := {x : Nat × Value × List (Pr × Value) // x.1 ≤ K.length ∧ x.2.2.map (·.1) = (K.take x.1).map fun k => (k, bf k)})
  (fun x => ⟨[(10, .val (.v (.int .i64 (x.1.1 : Int)))), (9, .val (.v (.int .i64 ((K.map (D.arr 32)).length : Int)))), (8, .val (.sl 32 (K.map (D.arr 32)))), (3, .val (.v x.1.2.1)), (0, .val (.v (.map (some m))))], .row x.1.2.1 43 33 (x.1.2.2.map nel) :: .map m 32 c es :: x.1.2.2.map brO, []⟩)
  (fun x => K.length - x.1.1) ⟨(0, .slice none 0 0, []), Lm _, rfl⟩ ?_ ?_
 · exact Le.kp
 rintro ⟨⟨i, rv, P⟩, hi, hP⟩
 dsimp only at hi hP ⊢
 by_cases hlt : i < K.length
 ·
  have hd : (K.map (D.arr 32))[i]? = some (D.arr 32 K[i]) := by rw [List.getElem?_map, List.getElem?_eq_getElem hlt]; rfl
  have hget : (aX es K[i]).getD (.v (.slice none 0 0)) = .bs (bf K[i]) := by rw [hKm _ (LH hlt)]; rfl
  have hcl : FnM 96 [.bs (bf K[i])] [.row rv 43 33 (P.map nel)] (fun r os' => ∃ u, r = .val (.v u) ∧ os' = [.row rv 43 33 (P.map nel), .row u 5 1 (bvD (bf K[i]))]) :=
   ((Ii (bf K[i]) (hbl _)).frame [.row rv 43 33 (P.map nel)]).out fun r os' ⟨_, ⟨u, e1, e2⟩, e3⟩ => ⟨_, by rw [e3, e2]; exact List.Perm.swap _ _ _, u, e1, rfl⟩
  have hPl : (P.map nel).length = i := by
   have := congrArg List.length hP
   simp only [Kv, L6] at this
   rw [Kv]
   omega
  have hP2 : ∀ u, (P ++ [((K[i], bf K[i]), u)]).map (fun y : Pr × Value => y.1) = (K.take (i + 1)).map fun k => (k, bf k) := fun u => by rw [LG, hP, KF hlt, LG]; rfl
  generalize K[i] = x at *
  repeat (refine stp ?_; intros)
  refine EC.le (Le.perm (List.Perm.swap _ _ _)) ?_
  refine EC.mD 9 [0, 1, 2, 3, 4] [5, 6, 7, 8] [_] _ (by kernel_rfl) (by kernel_rfl) rfl ?_
  simp only [bI, Lp, LQ, KT, KZ]
  repeat
   (first
    | (apply vN; exact hget; rfl; (first | exact I0 | exact I1 | exact I2 | exact I3); iterate 5 rfl) | (refine sth ?_; intros))
  refine EM.nil ?_
  repeat (first | rw [Ko] | rw [J8])
  refine CH.vk (os := [_]) (rest := []) hcl (k := ?_)
  rintro _ _ ⟨u, rfl, rfl⟩
  try simp only [St.put]
  repeat (first | rw [Ko] | rw [J8])
  refine CH.cut 2 ?_
  simp only [J5, J9, J4, J7]
  repeat (refine sth ?_; intros)
  refine EM.nil ?_
  repeat (first | rw [Ko] | rw [J8])
  refine CH.mut (os := [_]) (rest := [_]) rfl rfl (eG rfl rfl rfl rfl rfl ?_) ?_
  ·
   rw [hPl]
   constructor <;> (simp; omega)
  rintro _ _ ⟨sv', rfl, rfl⟩
  try simp only [St.put]
  repeat (first | rw [Ko] | rw [J8])
  refine CH.nil ?_
  try simp only [J4, J7]
  repeat (refine stp ?_; intros)
  rename_i g5
  refine EK.le (Le.perm (os' := .var g5 36 (.arr 32 x) :: .row sv' 43 33 ((P ++ [((x, bf x), u)]).map nel) :: .map m 32 c es :: (P ++ [((x, bf x), u)]).map brO) ?_) ?_
  ·
   rw [LG, LG]
   exact GL _ _ _ _ _
  refine EK.again ⟨(i + 1, sv', P ++ [((x, bf x), u)]), hlt, hP2 u⟩ (by dsimp only; omega) ?_
  simp only [Ls]
  exact (Le.keep (by repeat first | exact trivial | refine ⟨rfl, ?_⟩) (by repeat first | exact Lc _ | apply List.Sublist.cons_cons | apply List.Sublist.cons) (by simp))
 ·
  obtain rfl : i = K.length := by omega
  rw [L8] at hP
  repeat (refine stp ?_; intros)
  exact EK.aY _ rfl rfl (Lc _) ⟨rv, P, rfl, hP, rfl⟩
def Srt (S : List Pr) : Prop := S.Pairwise fun a b => Op.bytesLess a.1 b.1 = true
theorem kG (x : Pr) : ∀ (S : List Pr) (y : Pr), y ∈ eu x S → y = x ∨ y ∈ S
 | [], y, h => .inl (by simpa [eu] using h)
 | z :: S, y, h => by
  rw [eu] at h
  split at h
  ·
   rcases Kz.1 h with rfl | h
   · exact .inr Kt
   ·
    rcases kG x S y h with h | h
    · exact .inl h
    · exact .inr (KC _ h)
  ·
   split at h
   · exact .inr h
   ·
    rcases Kz.1 h with rfl | h
    · exact .inl rfl
    · exact .inr h
theorem Dh {a b c : List UInt8} (h1 : Op.bytesLess a b = true) (h2 : Op.bytesLess b c = true) : Op.bytesLess a c = true := by
 rw [o7] at *
 simp only [decide_eq_true_eq] at *
 exact List.lt_trans h1 h2
theorem Io {a b : List UInt8} (h1 : Op.bytesLess a b = false) (h2 : (a == b) = false) : Op.bytesLess b a = true := by
 rw [o7] at *
 simp only [decide_eq_true_eq, decide_eq_false_iff_not] at *
 rcases List.le_total a b with h | h
 · exact absurd (List.le_antisymm h (List.not_lt.1 h1)) (by simpa using h2)
 · exact Classical.byContradiction fun hn => absurd (List.le_antisymm (List.not_lt.1 hn) h) (by simpa using h2)
theorem tZ (x : Pr) : ∀ (S : List Pr), Srt S → Srt (eu x S)
 | [], _ => by unfold Srt; simp [eu]
 | z :: S, h => by
  obtain ⟨h1, h2⟩ := KR.1 h
  rw [eu]
  split
  ·
   rename_i hz
   refine KR.2 ⟨fun y hy => ?_, tZ x S h2⟩
   rcases kG x S y hy with rfl | hy
   · exact hz
   · exact h1 y hy
  ·
   rename_i hz
   split
   · exact h
   ·
    rename_i hq
    refine KR.2 ⟨fun y hy => ?_, h⟩
    have hxz := Io (by simpa using hz) (by simpa using hq)
    rcases Kz.1 hy with rfl | hy
    · exact hxz
    · exact Dh hxz (h1 y hy)
theorem blI (a : List UInt8) : Op.bytesLess a a = false := by
 rw [o7]
 exact decide_eq_false (List.lt_irrefl a)
theorem iF {w b : List UInt8} : ∀ {L : List Pr}, aW L w = some b → ∃ x ∈ L, x.1 = w ∧ x.2 = b
 | [], h => by cases h
 | x :: L, h => by
  rw [aW] at h
  split at h
  ·
   rename_i e
   exact ⟨x, Kt, by simpa using e, by simpa using h⟩
  ·
   obtain ⟨y, h1, h2⟩ := iF h
   exact ⟨y, KC _ h1, h2⟩
theorem oK {w : List UInt8} : ∀ {L : List Pr}, aW L w = none → ∀ x ∈ L, x.1 ≠ w
 | [], h, x, hx => by cases hx
 | y :: L, h, x, hx => by
  rw [aW] at h
  split at h
  · cases h
  ·
   rename_i e
   rcases Kz.1 hx with rfl | hx
   · simpa using e
   · exact oK h x hx
theorem gV (w : List UInt8) : ∀ (L : List Pr), jh L w = (aW L w).isSome
 | [] => rfl
 | x :: L => by
  have ih := gV w L
  unfold jh at ih ⊢
  rw [List.any_cons, aW, ih]
  cases x.1 == w <;> rfl
theorem zQ {L : List Pr} (h : Srt L) {x : Pr} (hx : x ∈ L) : aW L x.1 = some x.2 := by
 induction L with
 | nil => cases hx
 | cons y L ih =>
  obtain ⟨h1, h2⟩ := KR.1 h
  rw [aW]
  rcases Kz.1 hx with rfl | hx
  · rw [if_pos (by simp)]
  ·
   have hlt := h1 x hx
   rw [if_neg (fun e => by
    rw [eq_of_beq e, blI] at hlt
    cases hlt), ih h2 hx]
theorem yj {x : Pr} : ∀ {L : List Pr}, Srt L → (aW L x.1).isSome = true → eu x L = L
 | [], _, h => by cases h
 | y :: L, hs, h => by
  obtain ⟨h1, h2⟩ := KR.1 hs
  rw [aW] at h
  rw [eu]
  split at h
  ·
   rename_i e
   have hne : Op.bytesLess y.1 x.1 = false := by
    rw [eq_of_beq e, blI]
   rw [hne, if_neg Ll, if_pos e]
  ·
   obtain ⟨b, hb⟩ := Option.isSome_iff_exists.1 h
   obtain ⟨z, hz, e1, _⟩ := iF hb
   have hlt := h1 z hz
   rw [e1] at hlt
   rw [hlt, if_pos rfl, yj h2 h]
theorem uf {x : Pr} : ∀ {L : List Pr}, aW L x.1 = none → (eu x L).length = L.length + 1 ∧ ∀ w, aW (eu x L) w = if x.1 = w then some x.2 else aW L w
 | [], _ => ⟨rfl, fun w => by
  simp [eu, aW]⟩
 | y :: L, h => by
  have hne := oK h y Kt
  rw [aW] at h
  split at h
  · cases h
  ·
   obtain ⟨h1, h2⟩ := uf (x := x) h
   rw [eu]
   split
   ·
    refine ⟨by rw [KN, h1, KN], fun w => ?_⟩
    rw [aW, aW, h2 w]
    by_cases e : x.1 = w
    · rw [if_neg (by rw [← e]; simpa using hne), if_pos e, if_pos e]
    · rw [if_neg e, if_neg e]
   ·
    refine ⟨rfl, fun w => ?_⟩
    rw [aW]
    by_cases e : x.1 = w
    · rw [if_pos (by simpa using e), if_pos e]
    · rw [if_neg (by simpa using e), if_neg e]
theorem kS (h : List UInt8) : ∀ (L : List Pr), (jo L h).Sublist L
 | [] => Lc _
 | x :: L => by
  rw [jo]
  split
  · exact MH _ _
  · exact (kS h L).cons_cons _
theorem qN {h : List UInt8} : ∀ {L : List Pr}, Srt L → ∀ w, aW (jo L h) w = if h = w then none else aW L w
 | [], _, w => by simp [jo, aW]
 | x :: L, hs, w => by
  obtain ⟨h1, h2⟩ := KR.1 hs
  have ih := qN (h := h) h2 w
  rw [jo]
  split
  ·
   rename_i e
   by_cases e2 : h = w
   ·
    rw [if_pos e2]
    cases hf : aW L w with
    | none => rfl
    | some b =>
     obtain ⟨z, hz, e3, _⟩ := iF hf
     have hlt := h1 z hz
     rw [e3, ← e2, eq_of_beq e, blI] at hlt
     cases hlt
   · rw [if_neg e2, aW, if_neg (by rw [eq_of_beq e]; simpa using e2)]
  ·
   rename_i e
   rw [aW, aW, ih]
   by_cases e2 : h = w
   · rw [if_pos e2, if_pos e2, if_neg (by rw [← e2]; simpa using e)]
   · rw [if_neg e2, if_neg e2]
theorem oP {h : List UInt8} : ∀ {L : List Pr}, (jo L h).length = L.length - (if jh L h then 1 else 0)
 | [] => rfl
 | x :: L => by
  have ih := oP (h := h) (L := L)
  rw [jo]
  have hh : jh (x :: L) h = ((x.1 == h) || jh L h) := by unfold jh; rw [List.any_cons]
  rw [hh]
  cases e : x.1 == h with
  | true => simp
  | false =>
   rw [if_neg Ll, Bool.false_or, KN, ih, KN]
   cases hq : jh L h with
   | false => simp
   | true =>
    have : 0 < L.length := by
     cases L with
     | nil => cases hq
     | cons => simp
    simp
    omega
structure Sm (es : List Ent) (L : List Pr) : Prop where
 keys : (es.map (·.2.1)).Nodup
 get : ∀ w, aX es w = (aW L w).map D.bs
 srt : Srt L
 len : ∀ x ∈ L, x.1.length = 32
 bl : ∀ x ∈ L, x.2.length ≤ 140737488355328
 ln : es.length = L.length
theorem Sm.nil : Sm [] [] := ⟨by simp, fun w => rfl, List.Pairwise.nil, fun x hx => (by cases hx), fun x hx => (by cases hx), rfl⟩
theorem Sm.has {es : List Ent} {L : List Pr} (h : Sm es L) (w : List UInt8) : dw es w = jh L w := by
 rw [eH, h.get, gV]
 cases aW L w <;> rfl
theorem Bl {es : List Ent} {k : List UInt8} : k ∈ es.map (·.2.1) ↔ dw es k = true := by
 induction es with
 | nil => simp [dw]
 | cons x es ih =>
  rw [KD, Kz, ih]
  unfold dw
  rw [List.any_cons, Bool.or_eq_true, beq_iff_eq]
  exact or_congr_left eq_comm
theorem uY (w : List UInt8) : ∀ es : List Ent, (fO es w).length = es.length - (if dw es w then 1 else 0)
 | [] => rfl
 | x :: es => by
  have ih := uY w es
  have hh : dw (x :: es) w = ((x.2.1 == w) || dw es w) := by unfold dw; rw [List.any_cons]
  rw [fO, hh]
  cases e : x.2.1 == w with
  | true => simp
  | false =>
   rw [if_neg Ll, Bool.false_or, KN, ih, KN]
   cases hq : dw es w with
   | false => simp
   | true =>
    have : 0 < es.length := by
     cases es with
     | nil => cases hq
     | cons => simp
    simp
    omega
theorem Sm.put {c : Nat} {es : List Ent} {L : List Pr} {x : Pr} (h : Sm es L) (hx : x.1.length = 32) (hb : x.2.length ≤ 140737488355328) : Sm (fM (c, es) x).2 (eu x L) := by
 unfold fM
 cases hh : dw es x.1 with
 | true =>
  rw [if_pos rfl, yj h.srt (by rw [← gV, ← h.has, hh])]
  exact h
 | false =>
  rw [if_neg Ll]
  dsimp only
  have hf : aW L x.1 = none := by
   rw [h.has, gV] at hh
   exact Option.not_isSome_iff_eq_none.1 (by rw [hh]; exact Ll)
  obtain ⟨p1, p2⟩ := uf hf
  have e : kJ c es x.1 (.bs x.2) = es ++ [(c, x.1, .bs x.2)] := by
   unfold kJ
   rw [hh, if_neg Ll]
  refine ⟨?_, fun w => ?_, tZ x L h.srt, fun y hy => ?_, fun y hy => ?_, ?_⟩
  ·
   rw [e, LG]
   refine MW.2 ⟨h.keys, by simp, fun a ha b hb e => ?_⟩
   have := List.mem_singleton.1 hb
   rw [e, this] at ha
   rw [Bl.1 ha] at hh
   cases hh
  ·
   rw [zG, p2, h.get]
   split <;> rfl
  ·
   rcases kG x L y hy with rfl | hy
   · exact hx
   · exact h.len y hy
  ·
   rcases kG x L y hy with rfl | hy
   · exact hb
   · exact h.bl y hy
  ·
   rw [e, List.length_append, p1, h.ln]
   rfl
theorem Sm.puts : ∀ (l : List Pr) {c : Nat} {es : List Ent} {L : List Pr}, Sm es L → (∀ x ∈ l, x.1.length = 32 ∧ x.2.length ≤ 140737488355328) → Sm (l.foldl fM (c, es)).2 (l.foldl jH L)
 | [], _, _, _, h, _ => h
 | x :: l, c, es, L, h, hx => by
  have h1 := hx x Kt
  rw [Ld, Ld]
  exact Sm.puts l (c := (fM (c, es) x).1) (h.put h1.1 h1.2) fun y hy => hx y (KC _ hy)
theorem Sm.del {es : List Ent} {L : List Pr} (h : Sm es L) (w : List UInt8) : Sm (fO es w) (jo L w) :=
 ⟨h.keys.sublist ((jq es w).map _), fun k => by
  rw [qC es w k h.keys, qN h.srt, h.get]
  split <;> rfl, h.srt.sublist (kS w L), fun x hx => h.len x ((kS w L).subset hx), fun x hx => h.bl x ((kS w L).subset hx), by rw [uY, oP, h.has, h.ln]⟩
def bfL (L : List Pr) (k : List UInt8) : List UInt8 := (aW L k).getD []
theorem Sm.list {es : List Ent} {L : List Pr} (h : Sm es L) : (sortL (es.map (·.2.1))).map (fun k => (k, bfL L k)) = L := by
 have hnd : (L.map (·.1)).Nodup := by
  unfold List.Nodup
  rw [List.pairwise_map]
  refine h.srt.imp fun {a b} hab e => ?_
  rw [e, blI] at hab
  cases hab
 have hp : (L.map (·.1)).Perm (es.map (·.2.1)) := (List.perm_ext_iff_of_nodup hnd h.keys).2 fun k => by
  rw [Bl, h.has]
  unfold jh
  simp only [KI, List.any_eq_true, beq_iff_eq]
 have hs : (L.map (·.1)).Pairwise (· ≤ ·) := by
  rw [List.pairwise_map]
  refine h.srt.imp fun {a b} hab => ?_
  rw [o7] at hab
  exact List.le_of_lt (by simpa using hab)
 rw [← tu hp hs, LU]
 refine (MF fun x hx => ?_).trans (List.map_id L)
 show (x.1, bfL L x.1) = x
 unfold bfL
 rw [zQ h.srt hx]
 rfl
theorem Sm.bf {es : List Ent} {L : List Pr} (h : Sm es L) : (∀ k ∈ es.map (·.2.1), aX es k = some (.bs (bfL L k))) ∧ ∀ k, (bfL L k).length ≤ 140737488355328 := by
 refine ⟨fun k hk => ?_, fun k => ?_⟩
 ·
  have h1 := Bl.1 hk
  rw [eH, h.get] at h1
  rw [h.get]
  unfold bfL
  cases hf : aW L k with
  | none => rw [hf] at h1; cases h1
  | some b => rfl
 ·
  unfold bfL
  cases hf : aW L k with
  | none => exact Lm _
  | some b =>
   obtain ⟨x, hx, _, rfl⟩ := iF hf
   exact h.bl x hx
theorem aj.Gg {ok : Nat → Prop} {w : World} {F : List (Value × D)} (hF : ∀ f ∈ F, Reads ok w f.2 [f.1]) {z : Nat} : ∀ (ds ds' : List D) (rows : List (List Value)), aj F ds ds' → ah ok w z ds rows → ah ok w z ds' rows
 | [], l, rows, h, hr => by rw [aj] at h; subst h; exact hr
 | d :: ds, l, rows, h, hr => by
  rw [aj] at h
  obtain ⟨d', ds', rfl, h1, h2⟩ := h
  rw [ah] at hr ⊢
  obtain ⟨r, rest, rfl, h3, h4, h5⟩ := hr
  exact ⟨r, rest, rfl, h3, (Refine.reads hF d d' r h1 h4).1, aj.Gg hF ds ds' rest h2 h5⟩
section
variable {N : Nat} {X : Cx N} {S S' : St} {ops : Array Oper} {o : Oper} {Q : Exit → Act → World → Prop} {l : List Oper}
theorem EL.borrow {x : Value} (h : Le X S S') (hg : guardOf ops S o = some true) (hd : ∀ t, o.dst = some t → t < N) (hO : ig ops S' o (· = .val (.v x))) (k : EL X ops Q l (S.put o.dst (.val (.v x)))) : EL X ops Q (o :: l) S := by
 constructor
 intro a w ha
 have h1 := hO _ _ a w ((h a w ha).kn _)
 unfold wpList
 rw [if_pos (bK ha hg)]
 refine .inl ?_
 unfold Oper.wp
 generalize (execOp a.eval o).run Tryz.prog w = res at *
 have hnext : ∀ v w', Gr w w' → (∃ r, r = .val (.v x) ∧ aC (more (X.ok S'.objs w) w w') w' r v) → wpList Tryz.prog ops Q l (a.put o.dst v) w' := fun v w' hgr ⟨r, hr, hv⟩ => by
  subst hr
  exact k.go _ _ ((ha.gr hgr).put hd (ay.2 (ay.1 hv)))
 cases res with
 | ok x w' =>
  cases x <;> simp only [bJ] at h1 <;> simp only [Oper.upon]
  case value v => exact hnext _ _ h1.1 h1.2
  case skip => exact hnext _ _ h1.1 h1.2
  case enter g args =>
   obtain ⟨hgr, hc⟩ := h1
   refine hc.mono fun e w'' ⟨v, he, hg', hv⟩ => ?_
   subst he
   exact hnext _ _ (hgr.trans hg') hv
 | halt x w' => simp only [bJ] at h1
end
section
variable {N : Nat} {X : Cx N} {rs : List (Tmp × R)} {os : List Obj} {fs : List (Value × D)}
def EJ (P : List (Pr × Value)) (fs : List (Value × D)) : List (Value × D) := P.foldl (fun fs p => (p.2, .bs p.1.2) :: fs) fs
theorem yI : ∀ (P : List (Pr × Value)) (fs : List (Value × D)), (∀ f ∈ fs, f ∈ EJ P fs) ∧ ∀ p ∈ P, (p.2, D.bs p.1.2) ∈ EJ P fs
 | [], fs => ⟨fun f h => h, fun p h => by cases h⟩
 | q :: P, fs => by
  obtain ⟨h1, h2⟩ := yI P ((q.2, .bs q.1.2) :: fs)
  refine ⟨fun f h => h1 f (KC _ h), fun p hp => ?_⟩
  rcases Kz.1 hp with rfl | hp
  · exact h1 _ Kt
  · exact h2 p hp
theorem Le.Df : ∀ (P : List (Pr × Value)) (pre : List Obj) (fs : List (Value × D)), Le X ⟨rs, pre ++ P.map brO, fs⟩ ⟨rs, pre, EJ P fs⟩
 | [], pre, fs => by
  rw [KU, MS]
  exact Le.refl _ _
 | p :: P, pre, fs => ((Le.freeze (pre := pre) rfl).trans Le.Jw).trans (Le.Df P pre _)
theorem GY {P : List (Pr × Value)} {F : List (Value × D)} (h : ∀ p ∈ P, (p.2, D.bs p.1.2) ∈ F) : aj F (P.map nel) ((P.map (·.1)).map dNd) := by
 induction P with
 | nil => exact RL.nil
 | cons p P ih => exact RL.cons (Rf.tup (RL.cons Rf.same (RL.cons (Rf.fact (h p Kt) rfl) RL.nil))) (ih fun q hq => h q (KC _ hq))
theorem Le.GX {nv : Value} {P : List (Pr × Value)} {mid : List Obj} : Le X ⟨rs, .row nv 43 33 (P.map nel) :: (mid ++ P.map brO), fs⟩ ⟨rs, mid, (nv, .sl 33 ((P.map (·.1)).map dNd)) :: EJ P fs⟩ :=
 ((Le.Df P (.row nv 43 33 (P.map nel) :: mid) fs).trans (Le.obj (o' := .row nv 43 33 ((P.map (·.1)).map dNd)) rfl fun base ok w hf ⟨rows, h1, h2⟩ => by
  exact ⟨rows, by rw [show ((P.map (·.1)).map dNd).length = (P.map nel).length by simp only [Kv]]; exact h1, aj.Gg hf _ _ _ (GY (yI P fs).2) h2⟩)).trans (Le.freeze (pre := []) rfl)
end
theorem zS (s m c : Nat) (es : List Ent) (L : List Pr) (h : Sm es L) (hl : L.length ≤ 1000000000) : FnM 28 [.v (ptr s)] [nsO s m, .map m 32 c es] (fun r os' => r = .val (.sl 33 (L.map dNd)) ∧ os' = [nsO s m, .map m 32 c es]) := by
 have hF := CW m c es (bfL L) h.bf.1 h.bf.2 (by rw [h.ln]; exact hl)
 have e : (sortL (es.map (·.2.1))).map (fun k => dNd (k, bfL L k)) = L.map dNd := by
  rw [← congrArg (List.map dNd) h.list, LU]
  rfl
 rw [e] at hF
 refine FnM.walk 8 Tryz.func28 rfl Tryz.ntmps28 (by simp) fun X => ?_
 repeat (refine stp ?_; intros)
 refine EL.le (Le.pick [1, 0] [_, _] rfl (by decide) rfl) ?_
 refine aO (os := [_]) hF (kk := ?_)
 rintro _ _ ⟨rfl, rfl⟩
 repeat (refine stp ?_; intros)
 refine EK.le (Le.pick [1, 0] [_, _] rfl (by decide) rfl) ?_
 exact EK.aY [_, _] rfl rfl (by (repeat first | exact Kr _ | apply List.Sublist.cons_cons | apply List.Sublist.cons)) ⟨rfl, rfl⟩
theorem xG (s m c : Nat) (es : List Ent) (L : List Pr) (h : Sm es L) (hl : L.length ≤ 1000000000) : FnM 28 [.v (ptr s)] [nsO s m, .map m 32 c es] (fun r os' => ∃ (nv : Value) (P : List (Pr × Value)), r = .val (.v nv) ∧ P.map (·.1) = L ∧ os' = .row nv 43 33 (P.map nel) :: nsO s m :: .map m 32 c es :: P.map brO) := by
 have hF := E5 m c es (bfL L) h.bf.1 h.bf.2 (by rw [h.ln]; exact hl)
 rw [h.list] at hF
 refine FnM.walk 8 Tryz.func28 rfl Tryz.ntmps28 (by simp) fun X => ?_
 repeat (refine stp ?_; intros)
 refine EL.le (Le.pick [1, 0] [_, _] rfl (by decide) rfl) ?_
 refine aO (os := [_]) hF (kk := ?_)
 rintro _ _ ⟨nv, P, rfl, hP, rfl⟩
 repeat (refine stp ?_; intros)
 refine EK.le (Le.perm (os' := .row nv 43 33 (P.map nel) :: nsO s m :: .map m 32 c es :: P.map brO) (by rw [Ko]; exact (MN (l₁ := .map m 32 c es :: P.map brO) (l₂ := [nsO s m])).cons _)) ?_
 exact EK.aY _ rfl rfl (Lc _) ⟨nv, P, rfl, hP, rfl⟩
theorem CY (l m : List UInt8) : Fn 104 [.bs l, .bs m] (· = .val (.v (.bool (l == m)))) := by
 have hb := (fK l m).1
 refine Fn.walk 10 Tryz.func104 rfl Tryz.ntmps104 (by simp) fun X => ?_
 repeat
  (first
   | (refine mJ (hrun := hb) (kk := ?_)) | (refine stp ?_; intros))
 exact EK.yZ rfl rfl rfl
theorem uU (l : List UInt8) : Fn 104 [.bs l, .bs l] (· = .val (.v (.bool true))) := by
 have h := CY l l
 rwa [beq_self_eq_true] at h
theorem Cj (t s f c : Nat) (p v : List UInt8) : FnM 65 [.v (ptr t), .v .nilIface, .bs p, .bs v] [ntO t s (.v .nilIface) f, .it f (.map #[] c)] (fun r os' => r = .val (dT (.leaf p v)) ∧ ∃ es, os' = [ntO t s (.v .nilIface) f, .it f (.map es (c + 1))]) := by
 have hL := kQ (ptr t) .nil (.inl rfl)
 rw [dT] at hL
 refine FnM.walk 188 Tryz.func65 rfl Tryz.ntmps65 (by simp) fun X => ?_
 repeat
  (first
   | (refine bG (hL) (kk := ?_)) | (refine stp ?_; intros))
 refine aO (os := [_, _]) (CG t s f c p v) (kk := ?_)
 rintro _ _ ⟨rfl, es, rfl⟩
 repeat (refine stp ?_; intros)
 exact EK.aY [_, _] rfl rfl (by (repeat first | exact Kr _ | apply List.Sublist.cons_cons | apply List.Sublist.cons)) ⟨rfl, es, rfl⟩
theorem CP (x : Value) (t : Tn) (p : List UInt8) (h : t = .nil ∨ ∃ v, t = .leaf p v) : Fn 64 [.v x, dT t, .bs p] (· = .val (.v .nilIface)) := by
 have hL := kQ x t (h.imp id fun ⟨v, h⟩ => ⟨p, v, h⟩)
 have hE := uU p
 refine FnM.toFn ?_
 refine FnM.walk 122 Tryz.func64 rfl Tryz.ntmps64 (by simp) fun X => ?_
 rcases h with rfl | ⟨v, rfl⟩
 ·
  rw [dT] at hL ⊢
  repeat
   (first
    | (refine bG (hL) (kk := ?_)) | (refine stp ?_; intros))
  exact EK.aY [] rfl rfl (Kr _) ⟨rfl, rfl⟩
 ·
  rw [dT] at hL ⊢
  repeat
   (first
    | (refine bG (hL) (kk := ?_)) | (refine bG (hE) (kk := ?_)) | (refine stp ?_; intros))
  exact EK.aY [] rfl rfl (Kr _) ⟨rfl, rfl⟩
theorem CO (x : Value) (p : List UInt8) : Fn 68 [.v x, .v .nilIface, .bs p] (· = .val (.bs [])) := by
 have hL := kQ x .nil (.inl rfl)
 rw [dT] at hL
 refine FnM.toFn ?_
 refine FnM.walk 70 Tryz.func68 rfl Tryz.ntmps68 (by simp) fun X => ?_
 repeat
  (first
   | (refine bG (hL) (kk := ?_)) | (refine stp ?_; intros))
 exact EK.nJ [] rfl rfl (RL.cons Rf.bs0 RL.nil) (Kr _) ⟨rfl, rfl⟩
theorem CJ (x : Value) (p v : List UInt8) : Fn 68 [.v x, dT (.leaf p v), .bs p] (· = .val (.bs v)) := by
 have hL := kQ x (.leaf p v) (.inr ⟨p, v, rfl⟩)
 have hE := uU p
 refine FnM.toFn ?_
 refine FnM.walk 70 Tryz.func68 rfl Tryz.ntmps68 (by simp) fun X => ?_
 rw [dT] at hL ⊢
 repeat
  (first
   | (refine bG (hL) (kk := ?_)) | (refine bG (hE) (kk := ?_)) | (refine stp ?_; intros))
 exact EK.aY [] rfl rfl (Kr _) ⟨rfl, rfl⟩
abbrev vbO (a : Nat) (v : List UInt8) : Obj := .var a 41 (.bs v)
abbrev vtO (b t : Nat) : Obj := .var b 51 (.v (ptr t))
theorem EW (a b d t s f : Nat) (u : Tn) (p : List UInt8) (h : u = .nil ∨ ∃ v, u = .leaf p v) : FnM 63 ([ptr a, ptr b, ptr d].map .v) [vbO a [], vtO b t, vbO d p, ntO t s (dT u) f] (fun r os' => r = .tpl [] ∧ os' = [vbO a [], vtO b t, vbO d p, ntO t s (.v .nilIface) f]) := by
 have hD := CP (ptr t) u p h
 simp only [KD, KU]
 refine FnM.walk 28 Tryz.func63 rfl Tryz.ntmps63 (by simp) fun X => ?_
 rcases h with rfl | ⟨v, rfl⟩
 ·
  rw [dT] at hD ⊢
  repeat (refine stp ?_; intros)
  refine EC.draw 8 (by kernel_rfl) ?_
  simp only [J5, J9, J4, J7]
  repeat
   (first
    | (refine bP (hD) (kk := ?_)) | (refine sth ?_; intros))
  repeat (refine stp ?_; intros)
  exact EK.wC [vbO a [], vtO b t, vbO d p, ntO t s (.v .nilIface) f] rfl (by (repeat first | exact Kr _ | apply List.Sublist.cons_cons | apply List.Sublist.cons)) ⟨rfl, rfl⟩
 ·
  rw [dT] at hD ⊢
  repeat (refine stp ?_; intros)
  refine EC.draw 8 (by kernel_rfl) ?_
  simp only [J5, J9, J4, J7]
  repeat
   (first
    | (refine bP (hD) (kk := ?_)) | (refine sth ?_; intros))
  repeat (refine stp ?_; intros)
  exact EK.wC [vbO a [], vtO b t, vbO d p, ntO t s (.v .nilIface) f] rfl (by (repeat first | exact Kr _ | apply List.Sublist.cons_cons | apply List.Sublist.cons)) ⟨rfl, rfl⟩
theorem EU (a b d t s f c : Nat) (p v : List UInt8) (hv : 0 < v.length) (hl : v.length ≤ 140737488355328) : FnM 63 ([ptr a, ptr b, ptr d].map .v) [vbO a v, vtO b t, vbO d p, ntO t s (.v .nilIface) f, .it f (.map #[] c)] (fun r os' => r = .tpl [] ∧ ∃ es, os' = [vbO a v, vtO b t, vbO d p, ntO t s (dT (.leaf p v)) f, .it f (.map es (c + 1))]) := by
 have hC := mW v hl
 have hc0 : kT .eql (v.length : Int) 0 = some false := by
  simp only [kT, MB, beq_eq_false_iff_ne]
  omega
 simp only [KD, KU]
 refine FnM.walk 28 Tryz.func63 rfl Tryz.ntmps63 (by simp) fun X => ?_
 repeat
  (first
   | (apply qU (b := false); (iterate 2 rfl); exact hc0; iterate 2 rfl) | (refine stp ?_; intros))
 refine EC.le (Le.pick [3, 4, 0, 1, 2] [_, _, _, _, _] rfl (by decide) rfl) ?_
 refine EC.mD 10 [0, 1, 2, 3, 4, 6, 7, 8] [5, 9] [_, _] _ (by kernel_rfl) (by kernel_rfl) rfl ?_
 simp only [bI, Lp, LQ, KT, KZ]
 repeat
  (first
   | (refine bP (hC) (kk := ?_)) | (refine sth ?_; intros))
 refine EM.nil ?_
 repeat (first | rw [Ko] | rw [J8])
 refine CH.cut 1 ?_
 simp only [J5, J9, J4, J7]
 repeat (refine sth ?_; intros)
 refine EM.nil ?_
 repeat (first | rw [Ko] | rw [J8])
 refine CH.vk (os := [_, _]) (rest := []) (Cj t s f c p v) (k := ?_)
 rintro _ _ ⟨rfl, es, rfl⟩
 try simp only [St.put]
 repeat (first | rw [Ko] | rw [J8])
 refine CH.nil ?_
 try simp only [J4, J7]
 rw [dT]
 repeat (refine stp ?_; intros)
 refine EK.le (Le.pick [2, 3, 4, 0, 1] [_, _, _, _, _] rfl (by decide) rfl) ?_
 exact EK.wE [vbO a v, vtO b t, vbO d p, _, _] rfl (by (repeat first | exact Kr _ | apply List.Sublist.cons_cons | apply List.Sublist.cons)) ⟨rfl, es, rfl⟩
theorem Ic (a b d t s f : Nat) (u : Tn) (k v : List UInt8) (hk : k.length ≤ 64) (h : u = .nil ∧ v = [] ∨ u = .leaf (split k) v) (hl : v.length ≤ 140737488355328) : FnM 67 ([ptr b, ptr a, ptr d].map .v) [vbO a k, vtO b t, .var d 41 (.v (.slice none 0 0)), ntO t s (dT u) f] (fun r os' => r = .tpl [] ∧ os' = [vbO a k, vtO b t, vbO d v, ntO t s (dT u) f]) := by
 have hC := mW v hl
 have hS := oL k (by omega)
 simp only [KD, KU]
 refine FnM.walk 12 Tryz.func67 rfl Tryz.ntmps67 (by simp) fun X => ?_
 rcases h with ⟨rfl, rfl⟩ | rfl
 ·
  have hG := CO (ptr t) (split k)
  rw [dT] at *
  repeat (refine stp ?_; intros)
  refine EC.draw 9 (by kernel_rfl) ?_
  simp only [J5, J9, J4, J7]
  repeat
   (first
    | (refine bP (hS) (kk := ?_)) | (refine bP (hG) (kk := ?_))
    | (refine bP (hC) (kk := ?_)) | (refine sth ?_; intros))
  repeat (refine stp ?_; intros)
  exact EK.wE [vbO a k, vtO b t, _, _] rfl (by (repeat first | exact Kr _ | apply List.Sublist.cons_cons | apply List.Sublist.cons)) ⟨rfl, rfl⟩
 ·
  have hG := CJ (ptr t) (split k) v
  rw [dT] at *
  repeat (refine stp ?_; intros)
  refine EC.draw 9 (by kernel_rfl) ?_
  simp only [J5, J9, J4, J7]
  repeat
   (first
    | (refine bP (hS) (kk := ?_)) | (refine bP (hG) (kk := ?_))
    | (refine bP (hC) (kk := ?_)) | (refine sth ?_; intros))
  repeat (refine stp ?_; intros)
  exact EK.wE [vbO a k, vtO b t, _, _] rfl (by (repeat first | exact Kr _ | apply List.Sublist.cons_cons | apply List.Sublist.cons)) ⟨rfl, rfl⟩
theorem cap3 {x y z : Value} (h1 : x.oneCell' = true) (h2 : y.oneCell' = true) (h3 : z.oneCell' = true) : ∀ v ∈ [x, y, z], v.oneCell' = true := by
 intro v hv
 simp only [Kz, List.not_mem_nil, or_false] at hv
 rcases hv with rfl | rfl | rfl
 · exact h1
 · exact h2
 · exact h3
theorem EO (t s f : Nat) (u : Tn) (k : List UInt8) (hL : lg (k, []) = false) (hu : u = .nil ∨ ∃ v, u = .leaf (split k) v) : FnM 21 [.v (ptr t), .bs k, .bs []] [ntO t s (dT u) f] (fun r os' => r = .val (.v (.int .i64 0)) ∧ os' = [ntO t s (.v .nilIface) f]) := by
 have h1 := xH (k, [])
 rw [hL] at h1
 have hk : k.length ≤ 64 := by
  unfold lg at hL
  simp at hL
  omega
 have hS := oL k (by omega)
 refine FnM.walk 15 Tryz.func21 rfl Tryz.ntmps21 (by simp) fun X => ?_
 repeat
  (first
   | (refine bG (h1) (kk := ?_)) | (refine bG (hS) (kk := ?_)) | (refine stp ?_; intros))
 rename_i gb ga gd
 refine EL.le (Le.pick [1, 2, 0, 3] [_, _, _, _] rfl (by decide) rfl) ?_
 refine aO (os := [_, _, _, _]) (sD (EW ga gb gd t s f u (split k) hu) (cap3 rfl rfl rfl) (by intro _ _; simp [go_sem])) (kk := ?_)
 rintro _ _ ⟨rfl, rfl, rfl⟩
 repeat (refine stp ?_; intros)
 exact EK.aY [ntO t s (.v .nilIface) f] rfl rfl (by (repeat first | exact Kr _ | apply List.Sublist.cons_cons | apply List.Sublist.cons)) ⟨rfl, rfl⟩
theorem EN (t s f c : Nat) (k v : List UInt8) (hL : lg (k, v) = false) (hv : 0 < v.length) : FnM 21 [.v (ptr t), .bs k, .bs v] [ntO t s (.v .nilIface) f, .it f (.map #[] c)] (fun r os' => r = .val (.v (.int .i64 0)) ∧ ∃ es, os' = [ntO t s (dT (.leaf (split k) v)) f, .it f (.map es (c + 1))]) := by
 have h1 := xH (k, v)
 rw [hL] at h1
 have hk : k.length ≤ 64 ∧ v.length ≤ 1048576 := by
  unfold lg at hL
  simp at hL
  omega
 have hS := oL k (by omega)
 refine FnM.walk 15 Tryz.func21 rfl Tryz.ntmps21 (by simp) fun X => ?_
 repeat
  (first
   | (refine bG (h1) (kk := ?_)) | (refine bG (hS) (kk := ?_)) | (refine stp ?_; intros))
 rename_i gb ga gd
 refine EL.le (Le.pick [1, 2, 0, 3, 4] [_, _, _, _, _] rfl (by decide) rfl) ?_
 refine aO (os := [_, _, _, _, _]) (sD (EU ga gb gd t s f c (split k) v hv (by omega)) (cap3 rfl rfl rfl) (by intro _ _; simp [go_sem])) (kk := ?_)
 rintro _ _ ⟨rfl, es, rfl⟩
 rw [dT]
 repeat (refine stp ?_; intros)
 exact EK.aY [_, _] rfl rfl (by (repeat first | exact Kr _ | apply List.Sublist.cons_cons | apply List.Sublist.cons)) ⟨rfl, es, rfl⟩
theorem H9 (t s f : Nat) (u : Tn) (k v : List UInt8) (hL : lg (k, []) = false) (hu : u = .nil ∧ v = [] ∨ u = .leaf (split k) v) (hl : v.length ≤ 140737488355328) : FnM 22 [.v (ptr t), .bs k] [ntO t s (dT u) f] (fun r os' => r = .tpl [.bs v, .v (.int .i64 0)] ∧ os' = [ntO t s (dT u) f]) := by
 have h1 := xH (k, [])
 rw [hL] at h1
 have hk : k.length ≤ 64 := by
  unfold lg at hL
  simp at hL
  omega
 refine FnM.walk 14 Tryz.func22 rfl Tryz.ntmps22 (by simp) fun X => ?_
 repeat
  (first
   | (refine bG (h1) (kk := ?_)) | (refine stp ?_; intros))
 rename_i gb ga gd
 refine EL.le (Le.pick [1, 2, 0, 3] [_, _, _, _] rfl (by decide) rfl) ?_
 refine aO (os := [_, _, _, _]) (sD (Ic ga gb gd t s f u k v hk hu hl) (cap3 rfl rfl rfl) (by intro _ _; simp [go_sem])) (kk := ?_)
 rintro _ _ ⟨rfl, rfl, rfl⟩
 repeat (refine stp ?_; intros)
 exact EK.iC [ntO t s (dT u) f] rfl rfl rfl (aj.refl _ _) (by (repeat first | exact Kr _ | apply List.Sublist.cons_cons | apply List.Sublist.cons)) ⟨rfl, rfl⟩
section
variable {N : Nat} {X : Cx N} {ops : Array Oper} {Q : Exit → Act → World → Prop} {l : List Oper} {rs : List (Tmp × R)} {os : List Obj} {fs : List (Value × D)}
theorem gX {t u ty ty' n : Nat} {pos pos' : String} {af af' : Array Edge} {parts : Array (Nat × Operand)} (bl : List UInt8) (hp : (parts.toList.map fun x => x.2) = bl.map fun b => Operand.const (bv b)) (hb : ∀ (a : Act) (w : World), (execOp a.eval ⟨some t, .buildSlice 41 n parts, ty, pos, af, none⟩).run Tryz.prog w = .ok (.value (.slice (some ⟨w.heap.size, 0, none⟩) n n)) (w.alloc (.cells (bvs bl).toArray 5))) (hn : n = bl.length) (hm : n ≤ 1000) (hN : Nat.blt t N = true) (hN2 : Nat.blt u N = true) (kk : EL X ops Q l ⟨(u, .val (.bs bl)) :: (t, .any) :: rs, os, fs⟩) : EL X ops Q (⟨some t, .buildSlice 41 n parts, ty, pos, af, none⟩ :: ⟨some u, .convert 41 41 (.tmp t), ty', pos', af', none⟩ :: l) ⟨rs, os, fs⟩ := by
 constructor
 intro a w ha
 have hg1 := aH w (.cells (bvs bl).toArray 5)
 have hg2 := aH w (.cells (bvs bl).toArray 5 ((bvs bl).toArray.size, (bvs bl).toArray.size + 1))
 have hd1 : ∀ x, some t = some x → x < N := fun x hx => by cases hx; simpa using hN
 have hd2 : ∀ x, some u = some x → x < N := fun x hx => by cases hx; simpa using hN2
 have a1 := (ha.gr hg1).put (d := some t) (r := .val (.v (.slice (some ⟨w.heap.size, 0, none⟩) n n))) hd1 (dM rfl)
 have e2 := dh (a1.kn fun _ => True) (x := .tmp t) (y := .slice (some ⟨w.heap.size, 0, none⟩) n n) (by simp [ev, St.put, look]) (fun _ _ => trivial)
 have hh : (w.alloc (.cells (bvs bl).toArray 5 ((bvs bl).toArray.size, (bvs bl).toArray.size + 1))).heap[w.heap.size]? = some (.cells (bvs bl).toArray 5 ((bvs bl).toArray.size, (bvs bl).toArray.size + 1)) := (Mc w _).1
 have hs : w.heap.size < (w.alloc (.cells (bvs bl).toArray 5 ((bvs bl).toArray.size, (bvs bl).toArray.size + 1))).heap.size := by simp
 have hrd : aC (more (X.ok os w) w (w.alloc (.cells (bvs bl).toArray 5 ((bvs bl).toArray.size, (bvs bl).toArray.size + 1)))) (w.alloc (.cells (bvs bl).toArray 5 ((bvs bl).toArray.size, (bvs bl).toArray.size + 1))) (.val (.bs bl)) (.slice (some ⟨w.heap.size, 0, none⟩) n n) := by
  subst hn
  refine Jz ⟨_, _, rfl, Nat.le_refl _, by simp only [maxLen]; omega, fun _ => ⟨w.heap.size, 0, rfl, ⟨.inr (Nat.le_refl _), hs⟩, fun j x hx => ?_⟩⟩
  rw [KJ, cell_of_row _ _ j _ _ _ hh]
  simpa using hx
 have hr2 : (execOp (a.put (some t) (.slice (some ⟨w.heap.size, 0, none⟩) n n)).eval ⟨some u, .convert 41 41 (.tmp t), ty', pos', af', none⟩).run Tryz.prog (w.alloc (.cells (bvs bl).toArray 5)) = .ok (.value (.slice (some ⟨w.heap.size, 0, none⟩) n n)) (w.alloc (.cells (bvs bl).toArray 5 ((bvs bl).toArray.size, (bvs bl).toArray.size + 1))) := by
  unfold execOp
  simp only [e2, Kq, xI, J6, Ku]
 unfold wpList
 rw [if_pos (by rfl)]
 refine .inl ?_
 unfold Oper.wp
 rw [hb a w]
 show wpList Tryz.prog ops Q (_ :: l) (a.put (some t) (.slice (some ⟨w.heap.size, 0, none⟩) n n)) (w.alloc (.cells (bvs bl).toArray 5))
 unfold wpList
 rw [if_pos (by rfl)]
 refine .inl ?_
 unfold Oper.wp
 rw [hr2]
 exact kk.go _ _ (((ha.gr hg2).put (d := some t) (r := .any) hd1 trivial).put (d := some u) (r := .val (.bs bl)) hd2 (hrd.mono (fun b hb => mV ha.mem hg2 hb) fun _ _ => rfl))
end
theorem EK.AP {N : Nat} {X : Cx N} {S : St} {fn : Func} {Φ : R → List Obj → Prop} {p u : Tmp} {g ty : Nat} {t : TypeId} {d d' e e' : D} (i : Nat) (os' : List Obj) (hres : fn.results = #[.cell p ty, .tmp u]) (hl : look S.regs p = some (.val (.v (.pointer (some ⟨g, 0, none⟩))))) (hi : S.objs[i]? = some (.var g t d)) (hT : assoc tyL ty = some (d.size, d.agg)) (hu : look S.regs u = some (.val e)) (hR : aj S.facts [d] [d']) (hR2 : aj S.facts [e] [e']) (ho : os'.Sublist S.objs) (hΦ : Φ (.tpl [d', e']) os') : EK X (bodyPost Tryz.prog fn (jZ X Φ) .ret) S := by
 constructor
 intro a w ha
 obtain ⟨x, h1, h2⟩ := nG ha.mem hi (tyI hT)
 have hp := (ay.1 (ha.regs p _ hl)).2
 have hp' : a.tmps[p]?.getD undef = .pointer (some ⟨g, 0, none⟩) := by simpa using hp
 have h3 : aC (X.ok S.objs w) w (.tpl [d', e']) (.tuple #[x, a.tmps.getD u undef]) := ⟨[x, a.tmps.getD u undef], rfl, _, _, rfl, Refine1.gJ ha.mem.fact hR h2, _, _, rfl, Refine1.gJ ha.mem.fact hR2 (ha.regs u _ hu), rfl⟩
 refine bodyPost_ret (v := .tuple #[x, a.tmps.getD u undef]) ?_ ha.defers ⟨_, _, os', rfl, hΦ, ha.mem.less ho (fun f hf => by cases hf), h3.mono (fun b hb => kK ho hb) fun _ _ => rfl⟩
 simp [results, hres, hp', asAddr, h1]
theorem Ia (n : Int) : Fn 23 [.v (.int .i64 n)] (· = .val (.v (.int .i64 n))) := by
 refine Fn.walk 4 Tryz.func23 rfl Tryz.ntmps23 (by simp) fun X => ?_
 repeat (refine stp ?_; intros)
 exact EK.yZ rfl rfl rfl
theorem Ie : Fn 71 [.v .nilIface] (· = .val (.arr 32 jc)) := by
 have hE := qM
 refine FnM.toFn ?_
 refine FnM.walk 19 Tryz.func71 rfl Tryz.ntmps71 (by simp) fun X => ?_
 generalize jc = r0 at *
 repeat
  (first
   | (refine bG (hE) (kk := ?_)) | (refine mJ (hrun := vC) (kk := ?_)) | (refine stp ?_; intros))
 exact EK.yg 0 [] rfl rfl rfl rfl (aj.refl _ _) (Kr _) ⟨rfl, rfl⟩
theorem zT (x : Value) (b : Bool) (m : Nat) : Fn 70 [.v x, .v .nilIface, .v (.bool b), .v (.map (some m))] (· = .tpl []) := by
 refine FnM.toFn ?_
 refine FnM.walk 62 Tryz.func70 rfl Tryz.ntmps70 (by simp) fun X => ?_
 repeat
  (first
   | (refine mJ (hrun := vC) (kk := ?_)) | (refine stp ?_; intros))
 exact EK.wC [] rfl (Kr _) ⟨rfl, rfl⟩
theorem zV (t s f c : Nat) (es : Array MapEntry) : FnM 26 [.v (ptr t)] [ntO t s (.v .nilIface) f, .it f (.map es c)] (fun r os' => r = .tpl [.arr 32 jc, .sl 33 []] ∧ os' = [ntO t s (.v .nilIface) f, .it f (.map #[] c)]) := by
 have hS := Ie
 refine FnM.walk 24 Tryz.func26 rfl Tryz.ntmps26 (by simp) fun X => ?_
 generalize jc = r0 at *
 repeat
  (first
   | (apply jE; (iterate 3 rfl); intro m) | (refine bG (zT _ _ _) (kk := ?_)) | (refine stp ?_; intros))
 rename_i m
 have hNo := CW m 0 [] (fun _ => []) (fun k hk => by cases hk) (fun _ => by decide) (by decide)
 rw [show sortL (([] : List Ent).map (·.2.1)) = [] from List.perm_nil.1 (dV _)] at hNo
 refine EL.le (Le.pick [3, 0, 1, 2] [_, _, _, _] rfl (by decide) rfl) ?_
 refine EL.mut (os := [_]) (rest := [_, _, _]) rfl (fun _ h => by cases h) (Bh rfl rfl Tryz.underlying117) ?_
 rintro _ _ ⟨rfl, rfl⟩
 simp only [St.put, Ko, J8]
 repeat
  (first
   | (refine bG (hS) (kk := ?_)) | (refine stp ?_; intros))
 refine EL.le (Le.pick [1, 0, 2, 3] [_, _, _, _] rfl (by decide) rfl) ?_
 refine aO (os := [_]) hNo (kk := ?_)
 rintro _ _ ⟨rfl, rfl⟩
 repeat (refine stp ?_; intros)
 refine EK.le (Le.pick [2, 3, 1, 0] [_, _, _, _] rfl (by decide) rfl) ?_
 exact EK.AP 0 [_, _] rfl rfl rfl rfl rfl (aj.refl _ _) (aj.refl _ _) (by (repeat first | exact Kr _ | apply List.Sublist.cons_cons | apply List.Sublist.cons)) ⟨rfl, rfl⟩
theorem CV : Fn 18 [] (· = .val (.v (.bool true))) := by
 have n0 := Ia 0
 have hE := Ci
 have hw := (gW jc jc).1
 have s2 := (fK [49] [49]).1
 rw [beq_self_eq_true] at s2 hw
 have hCm := fun t s f c es => zV t s f c es
 generalize jc = r0 at *
 refine FnM.toFn ?_
 refine FnM.walk 66 Tryz.func18 rfl Tryz.ntmps18 (by simp) fun X => ?_
 repeat (refine stp ?_; intros)
 refine aO (os := []) EX (kk := ?_)
 rintro _ _ ⟨s, m, rfl, rfl⟩
 simp only [Ko, J8]
 repeat (refine stp ?_; intros)
 refine aO (os := []) (Cm s) (kk := ?_)
 rintro _ _ ⟨t, f, rfl, rfl⟩
 simp only [Ko, J8]
 repeat
  (first
   | (refine bG (n0) (kk := ?_))
   | (apply mJ; (iterate 2 rfl); exact (sK (T := 51) (by kernel_rfl) (some ⟨t, 0, none⟩)).1; iterate 2 rfl)
   | (apply mJ; (iterate 2 rfl); exact (sK (T := 49) (by kernel_rfl) (some ⟨s, 0, none⟩)).1; iterate 2 rfl)
   | (apply gX [97]; rfl; (focus (intro a w; kernel_rfl)); rfl; decide; rfl; rfl)
   | (apply gX [49]; rfl; (focus (intro a w; kernel_rfl)); rfl; decide; rfl; rfl) | (refine stp ?_; intros))
 refine aO (os := [_, _]) (EN t s f 0 [97] [49] rfl (by decide)) (kk := ?_)
 rintro _ _ ⟨rfl, es, rfl⟩
 repeat
  (first
   | (apply gX [97]; rfl; (focus (intro a w; kernel_rfl)); rfl; decide; rfl; rfl)
   | (apply gX [49]; rfl; (focus (intro a w; kernel_rfl)); rfl; decide; rfl; rfl) | (refine stp ?_; intros))
 refine aO (os := [_]) (H9 t s f (.leaf (split [97]) [49]) [97] [49] rfl (.inr rfl) (by decide)) (kk := ?_)
 rintro _ _ ⟨rfl, rfl⟩
 repeat
  (first
   | (apply gX [97]; rfl; (focus (intro a w; kernel_rfl)); rfl; decide; rfl; rfl)
   | (apply gX [49]; rfl; (focus (intro a w; kernel_rfl)); rfl; decide; rfl; rfl) | (refine stp ?_; intros))
 refine aO (os := [_]) (EO t s f (.leaf (split [97]) [49]) [97] rfl (.inr ⟨[49], rfl⟩)) rfl rfl (RL.cons Rf.same (RL.cons Rf.same (RL.cons Rf.bs0 RL.nil))) (by intro _ _; simp [go_sem]) rfl rfl ?_
 rintro _ _ ⟨rfl, rfl⟩
 repeat (refine stp ?_; intros)
 refine aO (os := [_, _]) (hCm t s f 1 es) (kk := ?_)
 rintro _ _ ⟨rfl, rfl⟩
 repeat (refine stp ?_; intros)
 refine EC.draw 11 (by kernel_rfl) ?_
 simp only [J5, J9, J4, J7]
 repeat
  (first
   | (refine bP (n0) (kk := ?_)) | (refine dR (hrun := s2) (kk := ?_))
   | (refine bP (hE) (kk := ?_)) | (refine dR (hrun := hw) (kk := ?_)) | (refine sth ?_; intros))
 repeat
  (first
   | (refine bG (n0) (kk := ?_)) | (refine mJ (hrun := s2) (kk := ?_))
   | (refine bG (hE) (kk := ?_)) | (refine mJ (hrun := hw) (kk := ?_)) | (refine stp ?_; intros))
 exact EK.aY [] rfl rfl (Kr _) ⟨rfl, rfl⟩
end E
end Go.Proofs.YtaoicebcdmpemaaGreat
