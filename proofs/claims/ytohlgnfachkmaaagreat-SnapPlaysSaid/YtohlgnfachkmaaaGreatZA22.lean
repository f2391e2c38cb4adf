/-
 Merged: lemmas of this claim.
 Conditions: none.
-/
import Derived.Test.YtohlgnfachkmaaaGreatZA11
import Derived.Test.YtohlgnfachkmaaaGreatZA13
import Derived.Test.YtohlgnfachkmaaaGreatZA21
import Derived.Test.YtohlgnfachkmaaaGreatZA0
namespace Go.Proofs.YtohlgnfachkmaaaGreat
set_option linter.unusedVariables false
set_option maxRecDepth 20000
set_option maxHeartbeats 8000000
open Go.RowKit Mono Rlp
namespace E
theorem jG (a b : List (List UInt8)) (hal : a.length ≤ 1099511627776) : Fn 15 [.sl 32 (a.map (D.arr 32)), .sl 32 (b.map (D.arr 32))] (· = .val (.v (.bool (a == b)))) := by
 have ha : (a.map (D.arr 32)).length = a.length := Lc _
 have hb : (b.map (D.arr 32)).length = b.length := Lc _
 refine FnM.toFn ?_
 refine FnM.walk 26 Tryz.func15 rfl Tryz.ntmps15 (by simp) fun X => ?_
 by_cases hl : a.length = b.length
 ·
  have hc : oW .neq ((a.map (D.arr 32)).length : Int) ((b.map (D.arr 32)).length : Int) = some false := by
   rw [ha, hb, hl]
   simp [oW]
  repeat
   (first
    | (apply xZ (b := false); (iterate 2 rfl); exact hc; iterate 2 rfl) | (refine stp ?_; intros))
  refine EC.loop (ι := {i : Nat // i ≤ a.length ∧ a.take i = b.take i})
   (fun i => ⟨[(5, .val (.v (.int .i64 (i.1 : Int)))), (1, .val (.sl 32 (b.map (D.arr 32)))), (0, .val (.sl 32 (a.map (D.arr 32))))], [], []⟩)
   (fun i => a.length - i.1) ⟨0, LH _, rfl⟩ ?_ ?_
  · exact Le.kp
  rintro ⟨i, hi, heq⟩
  dsimp only at hi heq ⊢
  by_cases hlt : i < a.length
  ·
   have hib : i < b.length := by omega
   have hda : (a.map (D.arr 32))[i]? = some (.arr 32 a[i]) := by rw [Ls, La hlt]; rfl
   have hdb : (b.map (D.arr 32))[i]? = some (.arr 32 b[i]) := by rw [Ls, La hib]; rfl
   have hw := (aP a[i] b[i]).2
   by_cases he : a[i] = b[i]
   ·
    rw [show (a[i] != b[i]) = false by simp [he]] at hw
    have heq2 : a.take (i + 1) = b.take (i + 1) := by rw [Lm hlt, Lm hib, heq, he]
    repeat (refine stp ?_; intros)
    refine EC.draw 9 (by kernel_rfl) ?_
    simp only [KQ, KX, KP, KR]
    repeat
     (first
      | (refine bM (hrun := hw) (kk := ?_))
      | (apply mZ (d := .arr 32 a[i]); (iterate 4 rfl); exact ⟨by omega, by rw [L8]; exact hda⟩; iterate 2 rfl)
      | (apply mZ (d := .arr 32 b[i]); (iterate 4 rfl); exact ⟨by omega, by rw [L8]; exact hdb⟩; iterate 2 rfl) | (refine sth ?_; intros))
    repeat (refine stp ?_; intros)
    refine EK.again ⟨i + 1, hlt, heq2⟩ (by dsimp only; omega) ?_
    simp only [LK]
    exact Le.kp
   ·
    rw [show (a[i] != b[i]) = true by simp [he]] at hw
    have hne : (a == b) = false := beq_eq_false_iff_ne.2 fun e => he (by subst e; rfl)
    rw [hne]
    repeat (refine stp ?_; intros)
    refine EC.draw 9 (by kernel_rfl) ?_
    simp only [KQ, KX, KP, KR]
    repeat
     (first
      | (refine bM (hrun := hw) (kk := ?_))
      | (apply mZ (d := .arr 32 a[i]); (iterate 4 rfl); exact ⟨by omega, by rw [L8]; exact hda⟩; iterate 2 rfl)
      | (apply mZ (d := .arr 32 b[i]); (iterate 4 rfl); exact ⟨by omega, by rw [L8]; exact hdb⟩; iterate 2 rfl) | (refine sth ?_; intros))
    repeat (refine stp ?_; intros)
    exact EK.aI [] rfl rfl (KZ _) ⟨rfl, rfl⟩
  ·
   have hie : i = a.length := by omega
   have hab : a = b := by
    have h := heq
    rw [hie, L9, hl, L9] at h
    exact h
   rw [show (a == b) = true by simp [hab]]
   repeat (refine stp ?_; intros)
   exact EK.aI [] rfl rfl (KZ _) ⟨rfl, rfl⟩
 ·
  have hc : oW .neq ((a.map (D.arr 32)).length : Int) ((b.map (D.arr 32)).length : Int) = some true := by
   rw [ha, hb]
   have : (a.length : Int) ≠ (b.length : Int) := by omega
   simp [oW, this]
  have hne : (a == b) = false := beq_eq_false_iff_ne.2 fun e => hl (by rw [e])
  rw [hne]
  repeat
   (first
    | (apply xZ (b := true); (iterate 2 rfl); exact hc; iterate 2 rfl) | (refine stp ?_; intros))
  exact EK.aI [] rfl rfl (KZ _) ⟨rfl, rfl⟩
end E
end Go.Proofs.YtohlgnfachkmaaaGreat
namespace Go.Proofs.YtohlgnfachkmaaaGreat
set_option linter.unusedVariables false
set_option maxRecDepth 20000
set_option maxHeartbeats 8000000
open Go.RowKit Mono Rlp Wd Go.Sort
namespace E
abbrev rtO (g : Nat) (base : List UInt8) (v : Value) : Obj := .var g 69 (.tup [.arr 32 base, .v v])
abbrev rlO (v : Value) (ls : List Ly) : Obj := .row v 95 65 (ls.map dLy)
def KL (ls : List Ly) (id : List UInt8) (k : Int) : Prop := (k = -1 ∧ id ∉ ls.map Ly.id) ∨ ∃ (n : Nat) (x : Ly), k = (n : Int) ∧ ls[n]? = some x ∧ x.id = id
section
variable {g : Nat} {base : List UInt8} {v : Value}
theorem jZ (ls : List Ly) (hll : ls.length ≤ 1000000) (id : List UInt8) : FnM 39 [.v (ptr g), .arr 32 id] [rtO g base v, rlO v ls] (fun r os' => (∃ k : Int, KL ls id k ∧ r = .val (.v (.int .i64 k))) ∧ os' = [rtO g base v, rlO v ls]) := by
 have hml : (ls.map dLy).length = ls.length := Lc _
 refine FnM.walk 26 Tryz.func39 rfl Tryz.ntmps39 (by simp) fun X => ?_
 repeat (refine stp ?_; intros)
 rename_i g3
 refine EC.loop (ι := {i : Nat // i ≤ ls.length ∧ ∀ x ∈ ls.take i, x.id ≠ id})
  (fun i => ⟨[(5, .val (.v (.int .i64 (i.1 : Int)))), (3, .val (.v (ptr g3))), (0, .val (.v (ptr g)))], [.var g3 23 (.arr 32 id), rtO g base v, rlO v ls], []⟩)
  (fun i => ls.length - i.1) ⟨0, LH _, fun x hx => by simp at hx⟩ ?_ ?_
 · exact Le.kp
 rintro ⟨i, hi, hne⟩
 dsimp only at hi hne ⊢
 by_cases hlt : i < ls.length
 ·
  have hx : ls[i]? = some ls[i] := La hlt
  have hd : (ls.map dLy)[i]? = some (dLy ls[i]) := by rw [Ls, hx]; rfl
  have htk : ls.take (i + 1) = ls.take i ++ [ls[i]] := Lm hlt
  generalize ls[i] = x at hx hd htk
  have hb := (aP x.id id).1
  by_cases he : x.id = id
  ·
   rw [show (x.id == id) = true by simp [he]] at hb
   repeat (refine stp ?_; intros)
   refine EC.draw 10 (by kernel_rfl) ?_
   simp only [KQ, KX, KP, KR]
   repeat
    (first
     | (refine bM (hrun := hb) (kk := ?_)) | (apply aB (k := i) (off := 0) (d := dLy x); rfl; exact I2; exact ⟨by simp, hd⟩; iterate 4 rfl)
     | (refine sth ?_; intros))
   repeat (refine stp ?_; intros)
   exact EK.aI [rtO g base v, rlO v ls] rfl rfl (by (repeat first | exact KZ _ | apply List.Sublist.cons_cons | apply List.Sublist.cons)) ⟨⟨_, .inr ⟨i, x, rfl, hx, he⟩, rfl⟩, rfl⟩
  ·
   rw [show (x.id == id) = false by simp [he]] at hb
   repeat (refine stp ?_; intros)
   refine EC.draw 10 (by kernel_rfl) ?_
   simp only [KQ, KX, KP, KR]
   repeat
    (first
     | (refine bM (hrun := hb) (kk := ?_)) | (apply aB (k := i) (off := 0) (d := dLy x); rfl; exact I2; exact ⟨by simp, hd⟩; iterate 4 rfl)
     | (refine sth ?_; intros))
   repeat (refine stp ?_; intros)
   refine EK.again ⟨i + 1, hlt, fun y hy => ?_⟩ (by dsimp only; omega) ?_
   ·
    rw [htk] at hy
    rcases LP.1 hy with hy | hy
    · exact hne y hy
    ·
     obtain rfl : y = x := by simpa using hy
     exact he
   simp only [LK]
   exact Le.kp
 ·
  have hiE : i = ls.length := by omega
  subst hiE
  rw [L9] at hne
  repeat (refine stp ?_; intros)
  exact EK.aI [rtO g base v, rlO v ls] rfl rfl (by (repeat first | exact KZ _ | apply List.Sublist.cons_cons | apply List.Sublist.cons)) ⟨⟨_, .inl ⟨rfl, fun hm => by obtain ⟨x, hx, e⟩ := Ll.1 hm; exact hne x hx e⟩, rfl⟩, rfl⟩
theorem Au {ls : List Ly} (hll : ls.length ≤ 1000000) (hn : (ls.map Ly.id).Nodup) {x : Ly} (hx : x ∈ ls) : FnM 17 [.v (ptr g), .arr 32 x.id] [rtO g base v, rlO v ls] (fun r os' => r = .tpl [.sl 55 (x.L.map ak), .v (.int .i64 0)] ∧ os' = [rtO g base v, rlO v ls]) := by
 have hml : (ls.map dLy).length = ls.length := Lc _
 have hf := jZ (g := g) (base := base) (v := v) ls hll x.id
 refine FnM.walk 20 Tryz.func17 rfl Tryz.ntmps17 (by simp) fun X => ?_
 repeat (refine stp ?_; intros)
 rename_i g3
 refine EL.le (Le.pick [1, 2, 0] [_, _, _] rfl (by decide) rfl) ?_
 refine aH (os := [rtO g base v, rlO v ls]) hf (kk := ?_)
 rintro _ _ ⟨⟨k, hk, rfl⟩, rfl⟩
 simp only [KN, KO]
 rcases hk with ⟨_, hk⟩ | ⟨n, y, rfl, hy, he⟩
 · exact absurd (Ll.2 ⟨x, hx, rfl⟩) hk
 obtain rfl : y = x := yQ hn (LC hy) hx he
 have hd : (ls.map dLy)[n]? = some (dLy y) := by rw [Ls, hy]; rfl
 have hnl : n < ls.length := (Lp.1 hy).1
 repeat
  (first
   | (apply bn (k := n) (off := 64) (d := dLy y); rfl; exact I1; exact ⟨by simp, hd⟩; iterate 4 rfl) | (refine stp ?_; intros))
 exact EK.fO [rtO g base v, rlO v ls] rfl rfl rfl (ah.refl _ _) (by (repeat first | exact KZ _ | apply List.Sublist.cons_cons | apply List.Sublist.cons)) ⟨rfl, rfl⟩
theorem Aw {ls : List Ly} (hll : ls.length ≤ 1000000) {id : List UInt8} (hx : id ∉ ls.map Ly.id) : FnM 17 [.v (ptr g), .arr 32 id] [rtO g base v, rlO v ls] (fun r os' => r = .tpl [.sl 55 [], .v (.int .i64 6)] ∧ os' = [rtO g base v, rlO v ls]) := by
 have hf := jZ (g := g) (base := base) (v := v) ls hll id
 refine FnM.walk 20 Tryz.func17 rfl Tryz.ntmps17 (by simp) fun X => ?_
 repeat (refine stp ?_; intros)
 rename_i g3
 refine EL.le (Le.pick [1, 2, 0] [_, _, _] rfl (by decide) rfl) ?_
 refine aH (os := [rtO g base v, rlO v ls]) hf (kk := ?_)
 rintro _ _ ⟨⟨k, hk, rfl⟩, rfl⟩
 simp only [KN, KO]
 rcases hk with ⟨rfl, _⟩ | ⟨n, y, rfl, hy, he⟩
 ·
  skip
  repeat (refine stp ?_; intros)
  refine EK.fO [rtO g base v, rlO v ls] rfl rfl rfl ?_ (by (repeat first | exact KZ _ | apply List.Sublist.cons_cons | apply List.Sublist.cons)) ⟨rfl, rfl⟩
  (exact RL.a)
 · exact absurd (Ll.2 ⟨y, LC hy, he⟩) hx
end
theorem qB {A B : List (List UInt8)} {w : List UInt8} (hs : (A ++ B).Pairwise (· ≤ ·)) (hB : ∀ b ∈ B, w < b) (hA : ∀ a ∈ A, a ≤ w) : (A ++ w :: B).Pairwise (· ≤ ·) := by
 obtain ⟨h1, h2, h3⟩ := LX.1 hs
 refine LX.2 ⟨h1, Mc.2 ⟨fun b hb => List.le_of_lt (hB b hb), h2⟩, fun a ha b hb => ?_⟩
 rcases Lj.1 hb with rfl | hb
 · exact hA a ha
 · exact h3 a ha b hb
theorem JL {u : Value} (xs : List (List UInt8)) (hs : xs.Pairwise (· ≤ ·)) (w : List UInt8) (hl : xs.length ≤ 1000000) : FnM 44 [.v u, .arr 32 w] [.row u 23 32 (xs.map (D.arr 32))] (fun r os' => ∃ (u' : Value) (ys : List (List UInt8)), ys.Perm (w :: xs) ∧ ys.Pairwise (· ≤ ·) ∧ r = .val (.v u') ∧ os' = [.row u' 23 32 (ys.map (D.arr 32))]) := by
 have hml : (xs.map (D.arr 32)).length = xs.length := Lc _
 refine FnM.walk 46 Tryz.func44 rfl Tryz.ntmps44 (by simp) fun X => ?_
 repeat (refine stp ?_; intros)
 rename_i g3 u'
 dsimp only
 have hl2 : (xs.map (D.arr 32) ++ [D.arr 32 w]).length = xs.length + 1 := by simp
 repeat (refine stp ?_; intros)
 rw [show ((xs.map (D.arr 32) ++ [D.arr 32 w]).length : Int) - 1 = (xs.length : Int) by simp]
 refine EC.loop (ι := {x : List (List UInt8) × List (List UInt8) // xs = x.1 ++ x.2 ∧ ∀ b ∈ x.2, w < b})
  (fun x => ⟨[(5, .val (.v (.int .i64 (x.1.1.length : Int)))), (0, .val (.v u'))], [.var g3 23 (.arr 32 w), .row u' 23 32 ((x.1.1 ++ w :: x.1.2).map (D.arr 32))], []⟩)
  (fun x => x.1.1.length) ⟨(xs, []), by simp, fun b hb => by simp at hb⟩ ?_ ?_
 ·
  rw [show xs.map (D.arr 32) ++ [D.arr 32 w] = (xs ++ w :: []).map (D.arr 32) by simp]
  exact Le.kp
 rintro ⟨⟨A, B⟩, hAB, hB⟩
 dsimp only at hAB hB ⊢
 have hA0 : A = [] ∨ ∃ A' a, A = A' ++ [a] := by
  rcases List.eq_nil_or_concat A with h | ⟨A', a, h⟩
  · exact .inl h
  · exact .inr ⟨A', a, by rw [h, List.concat_eq_append]⟩
 rcases hA0 with rfl | ⟨A, a, rfl⟩
 ·
  skip
  repeat (refine stp ?_; intros)
  refine EC.draw 13 (by kernel_rfl) ?_
  simp only [KQ, KX, KP, KR]
  repeat (refine sth ?_; intros)
  repeat (refine stp ?_; intros)
  refine EK.aI [.row u' 23 32 (([] ++ w :: B).map (D.arr 32))] rfl rfl (by (repeat first | exact KZ _ | apply List.Sublist.cons_cons | apply List.Sublist.cons)) ⟨u', w :: B, ?_, qB (A := []) (by rw [← hAB]; exact hs) hB (fun a ha => by cases ha), rfl, rfl⟩
  rw [hAB]
  exact List.Perm.refl _
 obtain ⟨n, hn⟩ : ∃ n, A.length = n := ⟨_, rfl⟩
 rw [show ((A ++ [a]).length : Int) = (n : Int) + 1 by simp [hn]]
 have hx : (A ++ [a]) ++ w :: B = A ++ a :: w :: B := by simp
 rw [hx]
 have hlen : ((A ++ a :: w :: B).map (D.arr 32)).length = n + 2 + B.length := by simp [hn]; omega
 have hxl : xs.length = n + 1 + B.length := by rw [hAB]; simp [hn]; omega
 have hd0 : ((A ++ a :: w :: B).map (D.arr 32))[n]? = some (.arr 32 a) := by rw [← hn]; simp
 have hd1 : ((A ++ a :: w :: B).map (D.arr 32))[n + 1]? = some (.arr 32 w) := by rw [← hn]; simp
 have hs1 : ((A ++ a :: w :: B).map (D.arr 32)).set (n + 1) (.arr 32 a) = (A ++ a :: a :: B).map (D.arr 32) := by rw [← hn]; simp
 have hd2 : ((A ++ a :: a :: B).map (D.arr 32))[n]? = some (.arr 32 a) := by rw [← hn]; simp
 have hs2 : ((A ++ a :: a :: B).map (D.arr 32)).set n (.arr 32 w) = (A ++ w :: a :: B).map (D.arr 32) := by rw [← hn]; simp
 have hlen2 : ((A ++ a :: a :: B).map (D.arr 32)).length = n + 2 + B.length := by simp [hn]; omega
 have hb := pz w a
 by_cases hlt : w < a
 ·
  rw [DC hlt] at hb
  generalize hL0 : (A ++ a :: w :: B).map (D.arr 32) = L0 at hlen hd0 hd1 hs1
  generalize hL1 : (A ++ a :: a :: B).map (D.arr 32) = L1 at hs1 hd2 hs2 hlen2
  repeat (refine stp ?_; intros)
  refine EC.draw 13 (by kernel_rfl) ?_
  simp only [KQ, KX, KP, KR]
  repeat
   (first
    | (refine dB (hb) (kk := ?_))
    | (apply aB (k := n + 1) (off := 0) (d := .arr 32 w); rfl; exact I1; exact ⟨by omega, hd1⟩; iterate 4 rfl)
    | (apply aB (k := n) (off := 0) (d := .arr 32 a); rfl; exact I1; exact ⟨by omega, hd0⟩; iterate 4 rfl) | (refine sth ?_; intros))
  repeat (refine stp ?_; intros)
  refine EC.le (Le.pick [1, 0] [_, _] rfl (by decide) rfl) ?_
  have hAB2 : xs = A ++ a :: B := by rw [hAB]; simp
  have hB2 : ∀ b ∈ a :: B, w < b := fun b hb => by
   rcases Lj.1 hb with rfl | hb
   · exact hlt
   · exact hB b hb
  refine EC.Iz 16 [0, 1, 2, 3, 4, 5, 6, 7, 10, 11] [8, 9, 12, 13, 14, 15] [_] _ (by kernel_rfl) (by kernel_rfl) rfl ?_
  simp only [au, KW, KY, KT, KU]
  repeat (refine sth ?_; intros)
  refine EM.nil ?_
  repeat (first | rw [KN] | rw [KO])
  refine CT.pick [8, 12] (by kernel_rfl) fun k hk => ?_
  rcases (show k = 8 ∨ k = 12 by simpa using hk) with rfl | rfl
  all_goals clear hk
  ·
   skip
   simp only [au, KW, KY, KT, KU]
   refine CH.cut 1 ?_
   simp only [KQ, KX, KP, KR]
   repeat (refine sth ?_; intros)
   refine EM.nil ?_
   repeat (first | rw [KN] | rw [KO])
   refine CH.nil ?_
   refine CT.pick [9, 12] (by kernel_rfl) fun k hk => ?_
   rcases (show k = 9 ∨ k = 12 by simpa using hk) with rfl | rfl
   all_goals clear hk
   ·
    skip
    simp only [au, KW, KY, KT, KU]
    refine CH.cut 1 ?_
    simp only [KQ, KX, KP, KR]
    repeat
     (first
      | (apply aB (k := n + 1) (off := 0) (d := .arr 32 w); rfl; exact I0; exact ⟨by omega, hd1⟩; iterate 4 rfl)
      | (apply aB (k := n) (off := 0) (d := .arr 32 a); rfl; exact I0; exact ⟨by omega, hd0⟩; iterate 4 rfl) | (refine sth ?_; intros))
    refine EM.nil ?_
    repeat (first | rw [KN] | rw [KO])
    refine CH.nil ?_
    refine CT.pick [12] (by kernel_rfl) fun k hk => ?_
    obtain rfl : k = 12 := (by simpa using hk)
    clear hk
    simp only [au, KW, KY, KT, KU]
    refine CH.cut 1 ?_
    simp only [KQ, KX, KP, KR]
    repeat (refine sth ?_; intros)
    refine EM.nil ?_
    repeat (first | rw [KN] | rw [KO])
    refine CH.nil ?_
    refine CT.pick [13] (by kernel_rfl) fun k hk => ?_
    obtain rfl : k = 13 := (by simpa using hk)
    clear hk
    simp only [au, KW, KY, KT, KU]
    refine CH.cut 1 ?_
    simp only [KQ, KX, KP, KR]
    repeat
     (first
      | (apply aB (k := n + 1) (off := 0) (d := .arr 32 w); rfl; exact I0; exact ⟨by omega, hd1⟩; iterate 4 rfl)
      | (apply aB (k := n) (off := 0) (d := .arr 32 a); rfl; exact I0; exact ⟨by omega, hd0⟩; iterate 4 rfl) | (refine sth ?_; intros))
    refine EM.nil ?_
    repeat (first | rw [KN] | rw [KO])
    refine CH.nil ?_
    refine CT.pick [14] (by kernel_rfl) fun k hk => ?_
    obtain rfl : k = 14 := (by simpa using hk)
    clear hk
    simp only [au, KW, KY, KT, KU]
    refine CH.cut 1 ?_
    simp only [KQ, KX, KP, KR]
    repeat (refine sth ?_; intros)
    refine EM.nil ?_
    repeat (first | rw [KN] | rw [KO])
    refine CH.nil ?_
    refine CT.pick [15] (by kernel_rfl) fun k hk => ?_
    obtain rfl : k = 15 := (by simpa using hk)
    clear hk
    simp only [au, KW, KY, KT, KU]
    refine CH.mut (os := [_]) (rest := []) rfl rfl (dS (dN (k := n + 1) (off := 0) (d := .arr 32 w) (d'' := .arr 32 a) ⟨by omega, hd1⟩ rfl rfl rfl rfl rfl)) ?_
    rintro _ _ ⟨rfl, rfl⟩
    try simp only [St.put]
    repeat (first | rw [KN] | rw [KO])
    rw [hs1]
    refine CH.nil ?_
    refine CT.nil ?_
    repeat
     (first
      | (apply aY (k := n) (off := 0) (d := .arr 32 a) (d'' := .arr 32 w); rfl; exact .z; exact ⟨by omega, hd2⟩; (iterate 4 rfl); rw [hs2]) | (refine stp ?_; intros))
    rw [show (n : Int) + 1 - 1 = (n : Int) by omega]
    refine EK.le (Le.pick [1, 0] [_, _] rfl (by decide) rfl) ?_
    refine EK.again ⟨(A, a :: B), hAB2, hB2⟩ (by dsimp only; simp) ?_
    dsimp only
    rw [hn]
    exact Le.kp
   ·
    skip
    simp only [au, KW, KY, KT, KU]
    refine CH.cut 1 ?_
    simp only [KQ, KX, KP, KR]
    repeat (refine sth ?_; intros)
    refine EM.nil ?_
    repeat (first | rw [KN] | rw [KO])
    refine CH.nil ?_
    refine CT.pick [9, 13] (by kernel_rfl) fun k hk => ?_
    rcases (show k = 9 ∨ k = 13 by simpa using hk) with rfl | rfl
    all_goals clear hk
    ·
     skip
     simp only [au, KW, KY, KT, KU]
     refine CH.cut 1 ?_
     simp only [KQ, KX, KP, KR]
     repeat
      (first
       | (apply aB (k := n + 1) (off := 0) (d := .arr 32 w); rfl; exact I0; exact ⟨by omega, hd1⟩; iterate 4 rfl)
       | (apply aB (k := n) (off := 0) (d := .arr 32 a); rfl; exact I0; exact ⟨by omega, hd0⟩; iterate 4 rfl) | (refine sth ?_; intros))
     refine EM.nil ?_
     repeat (first | rw [KN] | rw [KO])
     refine CH.nil ?_
     refine CT.pick [13] (by kernel_rfl) fun k hk => ?_
     obtain rfl : k = 13 := (by simpa using hk)
     clear hk
     simp only [au, KW, KY, KT, KU]
     refine CH.cut 1 ?_
     simp only [KQ, KX, KP, KR]
     repeat
      (first
       | (apply aB (k := n + 1) (off := 0) (d := .arr 32 w); rfl; exact I0; exact ⟨by omega, hd1⟩; iterate 4 rfl)
       | (apply aB (k := n) (off := 0) (d := .arr 32 a); rfl; exact I0; exact ⟨by omega, hd0⟩; iterate 4 rfl) | (refine sth ?_; intros))
     refine EM.nil ?_
     repeat (first | rw [KN] | rw [KO])
     refine CH.nil ?_
     refine CT.pick [14] (by kernel_rfl) fun k hk => ?_
     obtain rfl : k = 14 := (by simpa using hk)
     clear hk
     simp only [au, KW, KY, KT, KU]
     refine CH.cut 1 ?_
     simp only [KQ, KX, KP, KR]
     repeat (refine sth ?_; intros)
     refine EM.nil ?_
     repeat (first | rw [KN] | rw [KO])
     refine CH.nil ?_
     refine CT.pick [15] (by kernel_rfl) fun k hk => ?_
     obtain rfl : k = 15 := (by simpa using hk)
     clear hk
     simp only [au, KW, KY, KT, KU]
     refine CH.mut (os := [_]) (rest := []) rfl rfl (dS (dN (k := n + 1) (off := 0) (d := .arr 32 w) (d'' := .arr 32 a) ⟨by omega, hd1⟩ rfl rfl rfl rfl rfl)) ?_
     rintro _ _ ⟨rfl, rfl⟩
     try simp only [St.put]
     repeat (first | rw [KN] | rw [KO])
     rw [hs1]
     refine CH.nil ?_
     refine CT.nil ?_
     repeat
      (first
       | (apply aY (k := n) (off := 0) (d := .arr 32 a) (d'' := .arr 32 w); rfl; exact .z; exact ⟨by omega, hd2⟩; (iterate 4 rfl); rw [hs2]) | (refine stp ?_; intros))
     rw [show (n : Int) + 1 - 1 = (n : Int) by omega]
     refine EK.le (Le.pick [1, 0] [_, _] rfl (by decide) rfl) ?_
     refine EK.again ⟨(A, a :: B), hAB2, hB2⟩ (by dsimp only; simp) ?_
     dsimp only
     rw [hn]
     exact Le.kp
    ·
     skip
     simp only [au, KW, KY, KT, KU]
     refine CH.cut 1 ?_
     simp only [KQ, KX, KP, KR]
     repeat
      (first
       | (apply aB (k := n + 1) (off := 0) (d := .arr 32 w); rfl; exact I0; exact ⟨by omega, hd1⟩; iterate 4 rfl)
       | (apply aB (k := n) (off := 0) (d := .arr 32 a); rfl; exact I0; exact ⟨by omega, hd0⟩; iterate 4 rfl) | (refine sth ?_; intros))
     refine EM.nil ?_
     repeat (first | rw [KN] | rw [KO])
     refine CH.nil ?_
     refine CT.pick [9] (by kernel_rfl) fun k hk => ?_
     obtain rfl : k = 9 := (by simpa using hk)
     clear hk
     simp only [au, KW, KY, KT, KU]
     refine CH.cut 1 ?_
     simp only [KQ, KX, KP, KR]
     repeat
      (first
       | (apply aB (k := n + 1) (off := 0) (d := .arr 32 w); rfl; exact I0; exact ⟨by omega, hd1⟩; iterate 4 rfl)
       | (apply aB (k := n) (off := 0) (d := .arr 32 a); rfl; exact I0; exact ⟨by omega, hd0⟩; iterate 4 rfl) | (refine sth ?_; intros))
     refine EM.nil ?_
     repeat (first | rw [KN] | rw [KO])
     refine CH.nil ?_
     refine CT.pick [14] (by kernel_rfl) fun k hk => ?_
     obtain rfl : k = 14 := (by simpa using hk)
     clear hk
     simp only [au, KW, KY, KT, KU]
     refine CH.cut 1 ?_
     simp only [KQ, KX, KP, KR]
     repeat (refine sth ?_; intros)
     refine EM.nil ?_
     repeat (first | rw [KN] | rw [KO])
     refine CH.nil ?_
     refine CT.pick [15] (by kernel_rfl) fun k hk => ?_
     obtain rfl : k = 15 := (by simpa using hk)
     clear hk
     simp only [au, KW, KY, KT, KU]
     refine CH.mut (os := [_]) (rest := []) rfl rfl (dS (dN (k := n + 1) (off := 0) (d := .arr 32 w) (d'' := .arr 32 a) ⟨by omega, hd1⟩ rfl rfl rfl rfl rfl)) ?_
     rintro _ _ ⟨rfl, rfl⟩
     try simp only [St.put]
     repeat (first | rw [KN] | rw [KO])
     rw [hs1]
     refine CH.nil ?_
     refine CT.nil ?_
     repeat
      (first
       | (apply aY (k := n) (off := 0) (d := .arr 32 a) (d'' := .arr 32 w); rfl; exact .z; exact ⟨by omega, hd2⟩; (iterate 4 rfl); rw [hs2]) | (refine stp ?_; intros))
     rw [show (n : Int) + 1 - 1 = (n : Int) by omega]
     refine EK.le (Le.pick [1, 0] [_, _] rfl (by decide) rfl) ?_
     refine EK.again ⟨(A, a :: B), hAB2, hB2⟩ (by dsimp only; simp) ?_
     dsimp only
     rw [hn]
     exact Le.kp
  ·
   skip
   simp only [au, KW, KY, KT, KU]
   refine CH.cut 1 ?_
   simp only [KQ, KX, KP, KR]
   repeat (refine sth ?_; intros)
   refine EM.nil ?_
   repeat (first | rw [KN] | rw [KO])
   refine CH.nil ?_
   refine CT.pick [8, 13] (by kernel_rfl) fun k hk => ?_
   rcases (show k = 8 ∨ k = 13 by simpa using hk) with rfl | rfl
   all_goals clear hk
   ·
    skip
    simp only [au, KW, KY, KT, KU]
    refine CH.cut 1 ?_
    simp only [KQ, KX, KP, KR]
    repeat (refine sth ?_; intros)
    refine EM.nil ?_
    repeat (first | rw [KN] | rw [KO])
    refine CH.nil ?_
    refine CT.pick [9, 13] (by kernel_rfl) fun k hk => ?_
    rcases (show k = 9 ∨ k = 13 by simpa using hk) with rfl | rfl
    all_goals clear hk
    ·
     skip
     simp only [au, KW, KY, KT, KU]
     refine CH.cut 1 ?_
     simp only [KQ, KX, KP, KR]
     repeat
      (first
       | (apply aB (k := n + 1) (off := 0) (d := .arr 32 w); rfl; exact I0; exact ⟨by omega, hd1⟩; iterate 4 rfl)
       | (apply aB (k := n) (off := 0) (d := .arr 32 a); rfl; exact I0; exact ⟨by omega, hd0⟩; iterate 4 rfl) | (refine sth ?_; intros))
     refine EM.nil ?_
     repeat (first | rw [KN] | rw [KO])
     refine CH.nil ?_
     refine CT.pick [13] (by kernel_rfl) fun k hk => ?_
     obtain rfl : k = 13 := (by simpa using hk)
     clear hk
     simp only [au, KW, KY, KT, KU]
     refine CH.cut 1 ?_
     simp only [KQ, KX, KP, KR]
     repeat
      (first
       | (apply aB (k := n + 1) (off := 0) (d := .arr 32 w); rfl; exact I0; exact ⟨by omega, hd1⟩; iterate 4 rfl)
       | (apply aB (k := n) (off := 0) (d := .arr 32 a); rfl; exact I0; exact ⟨by omega, hd0⟩; iterate 4 rfl) | (refine sth ?_; intros))
     refine EM.nil ?_
     repeat (first | rw [KN] | rw [KO])
     refine CH.nil ?_
     refine CT.pick [14] (by kernel_rfl) fun k hk => ?_
     obtain rfl : k = 14 := (by simpa using hk)
     clear hk
     simp only [au, KW, KY, KT, KU]
     refine CH.cut 1 ?_
     simp only [KQ, KX, KP, KR]
     repeat (refine sth ?_; intros)
     refine EM.nil ?_
     repeat (first | rw [KN] | rw [KO])
     refine CH.nil ?_
     refine CT.pick [15] (by kernel_rfl) fun k hk => ?_
     obtain rfl : k = 15 := (by simpa using hk)
     clear hk
     simp only [au, KW, KY, KT, KU]
     refine CH.mut (os := [_]) (rest := []) rfl rfl (dS (dN (k := n + 1) (off := 0) (d := .arr 32 w) (d'' := .arr 32 a) ⟨by omega, hd1⟩ rfl rfl rfl rfl rfl)) ?_
     rintro _ _ ⟨rfl, rfl⟩
     try simp only [St.put]
     repeat (first | rw [KN] | rw [KO])
     rw [hs1]
     refine CH.nil ?_
     refine CT.nil ?_
     repeat
      (first
       | (apply aY (k := n) (off := 0) (d := .arr 32 a) (d'' := .arr 32 w); rfl; exact .z; exact ⟨by omega, hd2⟩; (iterate 4 rfl); rw [hs2]) | (refine stp ?_; intros))
     rw [show (n : Int) + 1 - 1 = (n : Int) by omega]
     refine EK.le (Le.pick [1, 0] [_, _] rfl (by decide) rfl) ?_
     refine EK.again ⟨(A, a :: B), hAB2, hB2⟩ (by dsimp only; simp) ?_
     dsimp only
     rw [hn]
     exact Le.kp
    ·
     skip
     simp only [au, KW, KY, KT, KU]
     refine CH.cut 1 ?_
     simp only [KQ, KX, KP, KR]
     repeat
      (first
       | (apply aB (k := n + 1) (off := 0) (d := .arr 32 w); rfl; exact I0; exact ⟨by omega, hd1⟩; iterate 4 rfl)
       | (apply aB (k := n) (off := 0) (d := .arr 32 a); rfl; exact I0; exact ⟨by omega, hd0⟩; iterate 4 rfl) | (refine sth ?_; intros))
     refine EM.nil ?_
     repeat (first | rw [KN] | rw [KO])
     refine CH.nil ?_
     refine CT.pick [9] (by kernel_rfl) fun k hk => ?_
     obtain rfl : k = 9 := (by simpa using hk)
     clear hk
     simp only [au, KW, KY, KT, KU]
     refine CH.cut 1 ?_
     simp only [KQ, KX, KP, KR]
     repeat
      (first
       | (apply aB (k := n + 1) (off := 0) (d := .arr 32 w); rfl; exact I0; exact ⟨by omega, hd1⟩; iterate 4 rfl)
       | (apply aB (k := n) (off := 0) (d := .arr 32 a); rfl; exact I0; exact ⟨by omega, hd0⟩; iterate 4 rfl) | (refine sth ?_; intros))
     refine EM.nil ?_
     repeat (first | rw [KN] | rw [KO])
     refine CH.nil ?_
     refine CT.pick [14] (by kernel_rfl) fun k hk => ?_
     obtain rfl : k = 14 := (by simpa using hk)
     clear hk
     simp only [au, KW, KY, KT, KU]
     refine CH.cut 1 ?_
     simp only [KQ, KX, KP, KR]
     repeat (refine sth ?_; intros)
     refine EM.nil ?_
     repeat (first | rw [KN] | rw [KO])
     refine CH.nil ?_
     refine CT.pick [15] (by kernel_rfl) fun k hk => ?_
     obtain rfl : k = 15 := (by simpa using hk)
     clear hk
     simp only [au, KW, KY, KT, KU]
     refine CH.mut (os := [_]) (rest := []) rfl rfl (dS (dN (k := n + 1) (off := 0) (d := .arr 32 w) (d'' := .arr 32 a) ⟨by omega, hd1⟩ rfl rfl rfl rfl rfl)) ?_
     rintro _ _ ⟨rfl, rfl⟩
     try simp only [St.put]
     repeat (first | rw [KN] | rw [KO])
     rw [hs1]
     refine CH.nil ?_
     refine CT.nil ?_
     repeat
      (first
       | (apply aY (k := n) (off := 0) (d := .arr 32 a) (d'' := .arr 32 w); rfl; exact .z; exact ⟨by omega, hd2⟩; (iterate 4 rfl); rw [hs2]) | (refine stp ?_; intros))
     rw [show (n : Int) + 1 - 1 = (n : Int) by omega]
     refine EK.le (Le.pick [1, 0] [_, _] rfl (by decide) rfl) ?_
     refine EK.again ⟨(A, a :: B), hAB2, hB2⟩ (by dsimp only; simp) ?_
     dsimp only
     rw [hn]
     exact Le.kp
   ·
    skip
    simp only [au, KW, KY, KT, KU]
    refine CH.cut 1 ?_
    simp only [KQ, KX, KP, KR]
    repeat
     (first
      | (apply aB (k := n + 1) (off := 0) (d := .arr 32 w); rfl; exact I0; exact ⟨by omega, hd1⟩; iterate 4 rfl)
      | (apply aB (k := n) (off := 0) (d := .arr 32 a); rfl; exact I0; exact ⟨by omega, hd0⟩; iterate 4 rfl) | (refine sth ?_; intros))
    refine EM.nil ?_
    repeat (first | rw [KN] | rw [KO])
    refine CH.nil ?_
    refine CT.pick [8] (by kernel_rfl) fun k hk => ?_
    obtain rfl : k = 8 := (by simpa using hk)
    clear hk
    simp only [au, KW, KY, KT, KU]
    refine CH.cut 1 ?_
    simp only [KQ, KX, KP, KR]
    repeat (refine sth ?_; intros)
    refine EM.nil ?_
    repeat (first | rw [KN] | rw [KO])
    refine CH.nil ?_
    refine CT.pick [9] (by kernel_rfl) fun k hk => ?_
    obtain rfl : k = 9 := (by simpa using hk)
    clear hk
    simp only [au, KW, KY, KT, KU]
    refine CH.cut 1 ?_
    simp only [KQ, KX, KP, KR]
    repeat
     (first
      | (apply aB (k := n + 1) (off := 0) (d := .arr 32 w); rfl; exact I0; exact ⟨by omega, hd1⟩; iterate 4 rfl)
      | (apply aB (k := n) (off := 0) (d := .arr 32 a); rfl; exact I0; exact ⟨by omega, hd0⟩; iterate 4 rfl) | (refine sth ?_; intros))
    refine EM.nil ?_
    repeat (first | rw [KN] | rw [KO])
    refine CH.nil ?_
    refine CT.pick [14] (by kernel_rfl) fun k hk => ?_
    obtain rfl : k = 14 := (by simpa using hk)
    clear hk
    simp only [au, KW, KY, KT, KU]
    refine CH.cut 1 ?_
    simp only [KQ, KX, KP, KR]
    repeat (refine sth ?_; intros)
    refine EM.nil ?_
    repeat (first | rw [KN] | rw [KO])
    refine CH.nil ?_
    refine CT.pick [15] (by kernel_rfl) fun k hk => ?_
    obtain rfl : k = 15 := (by simpa using hk)
    clear hk
    simp only [au, KW, KY, KT, KU]
    refine CH.mut (os := [_]) (rest := []) rfl rfl (dS (dN (k := n + 1) (off := 0) (d := .arr 32 w) (d'' := .arr 32 a) ⟨by omega, hd1⟩ rfl rfl rfl rfl rfl)) ?_
    rintro _ _ ⟨rfl, rfl⟩
    try simp only [St.put]
    repeat (first | rw [KN] | rw [KO])
    rw [hs1]
    refine CH.nil ?_
    refine CT.nil ?_
    repeat
     (first
      | (apply aY (k := n) (off := 0) (d := .arr 32 a) (d'' := .arr 32 w); rfl; exact .z; exact ⟨by omega, hd2⟩; (iterate 4 rfl); rw [hs2]) | (refine stp ?_; intros))
    rw [show (n : Int) + 1 - 1 = (n : Int) by omega]
    refine EK.le (Le.pick [1, 0] [_, _] rfl (by decide) rfl) ?_
    refine EK.again ⟨(A, a :: B), hAB2, hB2⟩ (by dsimp only; simp) ?_
    dsimp only
    rw [hn]
    exact Le.kp
 ·
  rw [DT hlt] at hb
  have hfin : (A ++ a :: w :: B).Pairwise (· ≤ ·) := by
   rw [← hx]
   refine qB (by rw [← hAB]; exact hs) hB fun b hb => ?_
   rcases LP.1 hb with hb | hb
   ·
    have h1 := (LX.1 (LX.1 (hAB ▸ hs)).1).2.2 b hb a (by simp)
    exact Om h1 (NJ.1 hlt)
   ·
    obtain rfl : b = a := by simpa using hb
    exact NJ.1 hlt
  have hperm : (A ++ a :: w :: B).Perm (w :: xs) := by
   rw [hAB, ← hx]
   exact List.perm_middle
  generalize hL0 : (A ++ a :: w :: B) = L0 at hlen hd0 hd1 hs1 hfin hperm
  repeat (refine stp ?_; intros)
  refine EC.draw 13 (by kernel_rfl) ?_
  simp only [KQ, KX, KP, KR]
  repeat
   (first
    | (refine dB (hb) (kk := ?_))
    | (apply aB (k := n + 1) (off := 0) (d := .arr 32 w); rfl; exact I1; exact ⟨by omega, hd1⟩; iterate 4 rfl)
    | (apply aB (k := n) (off := 0) (d := .arr 32 a); rfl; exact I1; exact ⟨by omega, hd0⟩; iterate 4 rfl) | (refine sth ?_; intros))
  repeat (refine stp ?_; intros)
  exact EK.aI [.row u' 23 32 (L0.map (D.arr 32))] rfl rfl (by (repeat first | exact KZ _ | apply List.Sublist.cons_cons | apply List.Sublist.cons)) ⟨u', L0, hperm, hfin, rfl, rfl⟩
end E
end Go.Proofs.YtohlgnfachkmaaaGreat
namespace Go.Proofs.YtohlgnfachkmaaaGreat
set_option linter.unusedVariables false
open Go.RowKit Mono Rlp
namespace E
section
variable {N : Nat} {X : Cx N} {S : St} {a : Act} {w : World} {ops : Array Oper} {o : Oper} {Q : Exit → Act → World → Prop} {l : List Oper} {rs : List (Tmp × R)} {os os' : List Obj} {fs : List (Value × D)}
theorem Jb {T e z y n : Nat} {parts : Array (Nat × Operand)} {ps : List (Nat × D)} {ds : List D} {d0 : D} (ho : o.op = .buildSlice T n parts) (hx : jP S parts.toList = some ps) (hT : assoc slL T = some (e, z, y)) (hz : assoc dI e = some d0) (hin : iC 0 ps = some ds) (hsz : allB z ps = true) (hn : ps.length = n) (h0 : AP n z = true) : lg ops S o [] (fun r os' => ∃ v, r = .val (.v v) ∧ os' = [.row v e z ds]) := .mk fun base ok a w ha hown => by
 have hp := ha.jP _ _ hx fun i t ht => ay (x := .tmp t) rfl (by rw [ho]; simp only [Op.operands]; simp; exact ⟨i, by simpa using ht⟩)
 have hT' := slI hT
 have hsz' : ∀ p ∈ ps, p.2.size = z := fun p hp => by simpa using Md.1 hsz p hp
 simp only [AP, MI, Nat.blt_eq, Nat.ble_eq] at h0
 obtain ⟨⟨h1', h2'⟩, hbig⟩ := h0
 obtain ⟨zv, hz, hr⟩ := pI hz
 cases hi : Tryz.prog.info? e with
 | none => rw [hi] at hz; cases hz
 | some ie =>
  rw [hi] at hz
  have hz' : ie.zero = some zv := by simpa using hz
  have hsize : ie.size = z := by have := hT'.size; rw [hi] at this; simpa using this
  subst hn
  obtain ⟨rows, h1, h2⟩ := uP ps 0 ds _ [] ((Array.range (ps.length * z)).map (zv.cells[· % zv.cells.size]!)).toList hin hp hsz' (by simp) (by simp)
  simp only [KO] at h1
  rw [Array.toArray_toList] at h1
  have he : (parts.toList.map fun (i, x) => (i, a.eval x)).toArray = parts.map fun (i, x) => (i, a.eval x) := by
   apply NY
   simp
  have hrun := run_buildSlice (P := Tryz.prog) w T e ps.length (parts.toList.map fun (i, x) => (i, a.eval x)).toArray rows.flatten.toArray ie zv hT'.und hi hz' (by rw [hsize]; omega) (by rw [hsize]; exact Nat.pos_iff_ne_zero.1 (Nat.mul_pos h1' h2')) (by rw [hsize]; exact h1)
  rw [he] at hrun
  have hlen : ds.length = ps.length := by
   have : ∀ (ps : List (Nat × D)) (k : Nat) (ds : List D), iC k ps = some ds → ds.length = ps.length := by
    intro ps
    induction ps with
    | nil => intro k ds h; cases h; rfl
    | cons p ps ih =>
     intro k ds h
     obtain ⟨i, d⟩ := p
     rw [iC] at h
     split at h
     ·
      cases hr : iC (k + 1) ps with
      | none => rw [hr] at h; cases h
      | some es =>
       rw [hr] at h
       cases h
       simp [ih _ _ hr]
     · cases h
   exact this ps 0 ds hin
  have hexec : (execOp a.eval o).run Tryz.prog w = .ok (.value (.slice (some ⟨w.heap.size, 0, none⟩) ps.length ps.length)) (w.alloc (.cells rows.flatten.toArray e)) := by
   unfold execOp
   simp only [ho, Lr, hrun, Lh, LD]
  rw [hexec]
  have hfl : rows.flatten.length = ps.length * z := by
   have h3 := aj.lens ds rows h2
   rw [jm _ h3.2, h3.1, hlen]
  obtain ⟨g1, g2⟩ := sD (ok := ok) (w := w) (q := .row (.slice (some ⟨w.heap.size, 0, none⟩) ps.length ps.length) e z ds) (r := .val (.v (.slice (some ⟨w.heap.size, 0, none⟩) ps.length ps.length))) (ob := .cells rows.flatten.toArray e) (v := .slice (some ⟨w.heap.size, 0, none⟩) ps.length ps.length) rfl (fun ok' hk => ⟨rows, ⟨by
   have := uF w rows.flatten.toArray e z ps.length w.heap.size 0 rfl (LH _) (by have : ps.length ≤ ps.length * z := Nat.le_mul_of_pos_right _ h2'; simp only [maxLen]; omega) (by simpa using hfl)
   rw [hlen]
   exact this, fun b hb => by cases hb; exact .inr (LG _)⟩, aj.mono hk (fun p hp => (bZ w _).cell (ha.lt _ hp)) z ds rows h2⟩) (fun _ => dR rfl) ha.lt
  exact ⟨_, _, ⟨_, rfl, rfl⟩, g1, g2⟩
end
end E
end Go.Proofs.YtohlgnfachkmaaaGreat
namespace Go.Proofs.YtohlgnfachkmaaaGreat
set_option linter.unusedVariables false
set_option maxRecDepth 20000
set_option maxHeartbeats 8000000
open Go.RowKit Mono Rlp Wd Go.Sort
namespace E
theorem JK (l : List AcL) (id : List UInt8) (hwt : wtL l ≤ 800000) (hB : ∀ x ∈ l, x.cd.length ≤ 140737488355328) : FnM 8 [.arr 32 id, .sl 55 (l.map ak)] [] (fun r os' => ∃ (g : Nat) (v : Value) (L : List AcL), Canon (dH l) L ∧ r = .val (.v (ptr g)) ∧ os' = [rtO g id v, rlO v [⟨id, zero32, L⟩]]) := by
 have h1 := Il l (by omega) hB
 refine FnM.walk 14 Tryz.func8 rfl Tryz.ntmps8 (by simp) fun X => ?_
 repeat (refine stp ?_; intros)
 rename_i g2
 refine EC.aZ 9 [0, 1, 2] [3, 4, 5, 6, 7, 8] [] _ (by kernel_rfl) (by kernel_rfl) rfl ?_
 simp only [au, KW, KY, KT, KU]
 repeat (refine sth ?_; intros)
 refine EM.nil ?_
 repeat (first | rw [KN] | rw [KO])
 refine CH.bC (os := []) (rest := []) h1 (k := ?_)
 rintro _ os1 ⟨g1, rfl, hp⟩
 try simp only [St.put]
 try simp only [KO]
 refine CH.bC (os := os1) (rest := []) (oz hp (by omega)).drop (k := ?_)
 rintro _ _ ⟨⟨_, ⟨L, hL, hLl, rfl⟩, rfl⟩, rfl⟩
 try simp only [St.put]
 repeat (first | rw [KN] | rw [KO])
 refine CH.cut 1 ?_
 simp only [KQ, KX, KP, KR]
 repeat (refine sth ?_; intros)
 refine EM.nil ?_
 repeat (first | rw [KN] | rw [KO])
 refine CH.mut (os := []) (rest := []) rfl rfl (Jb rfl rfl rfl rfl rfl rfl rfl rfl) ?_
 rintro _ _ ⟨v, rfl, rfl⟩
 try simp only [St.put]
 repeat (first | rw [KN] | rw [KO])
 refine CH.cut 1 ?_
 simp only [KQ, KX, KP, KR]
 repeat (refine sth ?_; intros)
 refine EM.nil ?_
 repeat (first | rw [KN] | rw [KO])
 refine CH.mut (os := []) (rest := [_]) rfl rfl (lG rfl rfl) ?_
 rintro _ _ ⟨g, rfl, rfl⟩
 try simp only [St.put]
 repeat (first | rw [KN] | rw [KO])
 refine CH.nil ?_
 try simp only [KP, KR]
 repeat (refine stp ?_; intros)
 exact EK.aI [rtO g id v, rlO v [⟨id, zero32, L⟩]] rfl rfl (by (repeat first | exact KZ _ | apply List.Sublist.cons_cons | apply List.Sublist.cons)) ⟨g, v, L, hL, rfl, rfl⟩
section
variable {g : Nat} {base : List UInt8} {v : Value}
theorem FZ {ls : List Ly} (hll : ls.length ≤ 1000000) : FnM 26 [.v (ptr g)] [rtO g base v, rlO v ls] (fun r os' => r = .val (.sl 32 ((sortL ((ls.filter fun x => x.id != base).map Ly.id)).map (D.arr 32))) ∧ os' = [rtO g base v, rlO v ls]) := by
 have hml : (ls.map dLy).length = ls.length := Lc _
 refine FnM.walk 38 Tryz.func26 rfl Tryz.ntmps26 (by simp) fun X => ?_
 repeat (refine stp ?_; intros)
 refine EC.le (Le.row 23 32) ?_
 refine EC.loop (ι := {x : Nat × Value × List (List UInt8) // x.1 ≤ ls.length ∧ x.2.2.Perm (((ls.take x.1).filter fun x => x.id != base).map Ly.id) ∧ x.2.2.Pairwise (· ≤ ·)})
  (fun x => ⟨[(4, .val (.v (.int .i64 (x.1.1 : Int)))), (3, .val (.v x.1.2.1)), (0, .val (.v (ptr g)))], [.row x.1.2.1 23 32 (x.1.2.2.map (D.arr 32)), rtO g base v, rlO v ls], []⟩)
  (fun x => ls.length - x.1.1) ⟨(0, dn, []), LH _, .nil, .nil⟩ ?_ ?_
 · exact Le.kp
 rintro ⟨⟨i, u, ys⟩, hi, hp, ho⟩
 dsimp only at hi hp ho ⊢
 have hyl : ys.length ≤ ls.length := by
  have h1 := hp.length_eq
  have h2 := MN (fun x : Ly => x.id != base) (ls.take i)
  rw [Lc] at h1
  rw [MJ] at h2
  omega
 by_cases hlt : i < ls.length
 ·
  have hd : (ls.map dLy)[i]? = some (dLy ls[i]) := by rw [Ls, La hlt]; rfl
  have htk : ls.take (i + 1) = ls.take i ++ [ls[i]] := Lm hlt
  generalize ls[i] = x at hd htk
  have hb := (aP x.id base).2
  by_cases he : x.id = base
  ·
   have hbe : (x.id != base) = false := by simp [he]
   rw [hbe] at hb
   repeat (refine stp ?_; intros)
   refine EC.draw 12 (by kernel_rfl) ?_
   simp only [KQ, KX, KP, KR]
   repeat
    (first
     | (apply aB (k := i) (off := 0) (d := dLy x); rfl; exact I2; exact ⟨by omega, hd⟩; iterate 4 rfl) | (refine sth ?_; intros))
   repeat
    (first
     | (refine bH (hrun := hb) (kk := ?_)) | (refine stp ?_; intros))
   refine EK.again ⟨(i + 1, u, ys), hlt, by rw [htk, Ny, Oj (by simpa using he)]; simpa using hp, ho⟩ (by dsimp only; omega) ?_
   simp only [LK]
   exact Le.kp
  ·
   have hbe : (x.id != base) = true := by simp [he]
   rw [hbe] at hb
   have hput := JL (u := u) ys ho x.id (by omega)
   repeat (refine stp ?_; intros)
   refine EC.draw 12 (by kernel_rfl) ?_
   simp only [KQ, KX, KP, KR]
   repeat
    (first
     | (apply aB (k := i) (off := 0) (d := dLy x); rfl; exact I2; exact ⟨by omega, hd⟩; iterate 4 rfl) | (refine sth ?_; intros))
   repeat
    (first
     | (refine bH (hrun := hb) (kk := ?_)) | (apply bn (k := i) (off := 0) (d := dLy x); rfl; exact I2; exact ⟨by omega, hd⟩; iterate 4 rfl)
     | (refine stp ?_; intros))
   refine aH (os := [.row u 23 32 (ys.map (D.arr 32))]) hput (kk := ?_)
   rintro _ _ ⟨u', zs, hz1, hz2, rfl, rfl⟩
   simp only [KN, KO]
   repeat (refine stp ?_; intros)
   refine EK.again ⟨(i + 1, u', zs), hlt, ?_, hz2⟩ (by dsimp only; omega) ?_
   ·
    rw [htk, Ny, List.filter_cons_of_pos (by simpa using he), MC]
    exact hz1.trans ((hp.cons _).trans (MG (l₁ := [_])))
   simp only [LK]
   exact Le.kp
 ·
  have hiE : i = ls.length := by omega
  subst hiE
  rw [L9] at hp
  have hs : ys = sortL ((ls.filter fun x => x.id != base).map Ly.id) := gu hp ho
  rw [← hs]
  repeat (refine stp ?_; intros)
  refine EK.le (Le.freeze (pre := []) rfl) ?_
  exact EK.qh [rtO g base v, rlO v ls] rfl rfl (RL.cons (Rf.fact Ld rfl) RL.nil) (by (repeat first | exact KZ _ | apply List.Sublist.cons_cons | apply List.Sublist.cons)) ⟨rfl, rfl⟩
abbrev dDf (id par : List UInt8) (ch : List ChL) : D := .tup [.arr 32 id, .arr 32 par, .sl 56 (ch.map fV)]
theorem yI {ls : List Ly} (hll : ls.length ≤ 1000000) {id par : List UInt8} (ch : List ChL) (hid : id ∈ ls.map Ly.id) : FnM 12 [.v (ptr g), dDf id par ch] [rtO g base v, rlO v ls] (fun r os' => r = .val (.v (.int .i64 1)) ∧ os' = [rtO g base v, rlO v ls]) := by
 have h1 := jZ (g := g) (base := base) (v := v) ls hll par
 have h2 := jZ (g := g) (base := base) (v := v) ls hll id
 refine FnM.walk 42 Tryz.func12 rfl Tryz.ntmps12 (by simp) fun X => ?_
 repeat (refine stp ?_; intros)
 rename_i g3
 refine EL.le (Le.pick [1, 2, 0] [_, _, _] rfl (by decide) rfl) ?_
 refine aH (os := [rtO g base v, rlO v ls]) h1 (kk := ?_)
 rintro _ _ ⟨⟨k, hk, rfl⟩, rfl⟩
 simp only [KN, KO]
 repeat (refine stp ?_; intros)
 refine aH (os := [rtO g base v, rlO v ls]) h2 (kk := ?_)
 rintro _ _ ⟨⟨k2, hk2, rfl⟩, rfl⟩
 simp only [KN, KO]
 rcases hk2 with ⟨_, hk2⟩ | ⟨n, y, rfl, hy, he⟩
 · exact absurd hid hk2
 repeat (refine stp ?_; intros)
 exact EK.aI [rtO g base v, rlO v ls] rfl rfl (by (repeat first | exact KZ _ | apply List.Sublist.cons_cons | apply List.Sublist.cons)) ⟨rfl, rfl⟩
theorem wz {ls : List Ly} (hll : ls.length ≤ 1000000) {id par : List UInt8} (ch : List ChL) (hid : id ∉ ls.map Ly.id) (hpar : par ∉ ls.map Ly.id) : FnM 12 [.v (ptr g), dDf id par ch] [rtO g base v, rlO v ls] (fun r os' => r = .val (.v (.int .i64 22)) ∧ os' = [rtO g base v, rlO v ls]) := by
 have h1 := jZ (g := g) (base := base) (v := v) ls hll par
 have h2 := jZ (g := g) (base := base) (v := v) ls hll id
 refine FnM.walk 42 Tryz.func12 rfl Tryz.ntmps12 (by simp) fun X => ?_
 repeat (refine stp ?_; intros)
 rename_i g3
 refine EL.le (Le.pick [1, 2, 0] [_, _, _] rfl (by decide) rfl) ?_
 refine aH (os := [rtO g base v, rlO v ls]) h1 (kk := ?_)
 rintro _ _ ⟨⟨k, hk, rfl⟩, rfl⟩
 simp only [KN, KO]
 rcases hk with ⟨rfl, _⟩ | ⟨n, y, rfl, hy, he⟩
 ·
  skip
  repeat (refine stp ?_; intros)
  refine aH (os := [rtO g base v, rlO v ls]) h2 (kk := ?_)
  rintro _ _ ⟨⟨k2, hk2, rfl⟩, rfl⟩
  simp only [KN, KO]
  rcases hk2 with ⟨rfl, _⟩ | ⟨n, y, rfl, hy, he⟩
  ·
   skip
   repeat (refine stp ?_; intros)
   exact EK.aI [rtO g base v, rlO v ls] rfl rfl (by (repeat first | exact KZ _ | apply List.Sublist.cons_cons | apply List.Sublist.cons)) ⟨rfl, rfl⟩
  · exact absurd (Ll.2 ⟨y, LC hy, he⟩) hid
 · exact absurd (Ll.2 ⟨y, LC hy, he⟩) hpar
theorem F7 {ls : List Ly} (hll : ls.length ≤ 1000000) (hn : (ls.map Ly.id).Nodup) {id : List UInt8} {x : Ly} (ch : List ChL) (hid : id ∉ ls.map Ly.id) (hx : x ∈ ls) (hwt : wtL x.L ≤ 800000) (hB : ∀ y ∈ x.L, y.cd.length ≤ 140737488355328) (hc : ch.length ≤ 100) (hcs : ∀ c ∈ ch, c.sl.length ≤ 1000 ∧ c.cd.length ≤ 140737488355328) : FnM 12 [.v (ptr g), dDf id x.id ch] [rtO g base v, rlO v ls] (fun r os' => ∃ (v' : Value) (L : List AcL), Canon (dw (dH x.L) ch) L ∧ r = .val (.v (.int .i64 0)) ∧ os' = [rtO g base v', rlO v' (ls ++ [⟨id, x.id, L⟩])]) := by
 have hml : (ls.map dLy).length = ls.length := Lc _
 have h1 := jZ (g := g) (base := base) (v := v) ls hll x.id
 have h2 := jZ (g := g) (base := base) (v := v) ls hll id
 have h3 := F6 x.L ch hwt hB hc hcs
 refine FnM.walk 42 Tryz.func12 rfl Tryz.ntmps12 (by simp) fun X => ?_
 repeat (refine stp ?_; intros)
 rename_i g3
 refine EL.le (Le.pick [1, 2, 0] [_, _, _] rfl (by decide) rfl) ?_
 refine aH (os := [rtO g base v, rlO v ls]) h1 (kk := ?_)
 rintro _ _ ⟨⟨k, hk, rfl⟩, rfl⟩
 simp only [KN, KO]
 rcases hk with ⟨_, hk⟩ | ⟨n, y, rfl, hy, he⟩
 · exact absurd (Ll.2 ⟨x, hx, rfl⟩) hk
 obtain rfl : y = x := yQ hn (LC hy) hx he
 have hd : (ls.map dLy)[n]? = some (dLy y) := by rw [Ls, hy]; rfl
 have hnl : n < ls.length := (Lp.1 hy).1
 repeat (refine stp ?_; intros)
 refine aH (os := [rtO g base v, rlO v ls]) h2 (kk := ?_)
 rintro _ _ ⟨⟨k2, hk2, rfl⟩, rfl⟩
 simp only [KN, KO]
 rcases hk2 with ⟨rfl, _⟩ | ⟨n, z, rfl, hz, he⟩
 ·
  skip
  repeat (refine stp ?_; intros)
  refine EC.le (Le.pick [1, 0, 2] [_, _, _] rfl (by decide) rfl) ?_
  refine EC.aZ 23 [0, 1, 2, 3, 4, 5, 6, 7, 8, 9, 10, 11, 12, 13, 17, 18] [14, 15, 16, 19, 20, 21, 22] [_] _ (by kernel_rfl) (by kernel_rfl) rfl ?_
  simp only [au, KW, KY, KT, KU]
  repeat (refine sth ?_; intros)
  refine EM.nil ?_
  repeat (first | rw [KN] | rw [KO])
  refine CH.cut 3 ?_
  simp only [KQ, KX, KP, KR]
  repeat
   (first
    | (apply aB (k := n) (off := 64) (d := dLy y); rfl; exact I0; exact ⟨by omega, hd⟩; iterate 4 rfl) | (refine sth ?_; intros))
  refine EM.nil ?_
  repeat (first | rw [KN] | rw [KO])
  refine CH.bC (os := []) (rest := [_]) h3 (k := ?_)
  rintro _ _ ⟨⟨L, hL, hLl, rfl⟩, rfl⟩
  try simp only [St.put]
  repeat (first | rw [KN] | rw [KO])
  refine CH.cut 2 ?_
  simp only [KQ, KX, KP, KR]
  repeat (refine sth ?_; intros)
  refine EM.nil ?_
  repeat (first | rw [KN] | rw [KO])
  refine CH.mut (os := [_]) (rest := []) rfl rfl (gI rfl rfl rfl rfl rfl ?_) ?_
  · constructor <;> (simp; omega)
  rintro _ _ ⟨v', rfl, rfl⟩
  try simp only [St.put]
  repeat (first | rw [KN] | rw [KO])
  refine CH.nil ?_
  try simp only [KP, KR]
  repeat (refine stp ?_; intros)
  refine EK.le (Le.pick [1, 0, 2] [_, _, _] rfl (by decide) rfl) ?_
  rw [show ls.map dLy ++ [D.tup [.arr 32 id, .arr 32 y.id, .sl 55 (L.map ak)]] = (ls ++ [(⟨id, y.id, L⟩ : Ly)]).map dLy by rw [MC]; rfl]
  exact EK.aI [rtO g base v', rlO v' (ls ++ [⟨id, y.id, L⟩])] rfl rfl (by (repeat first | exact KZ _ | apply List.Sublist.cons_cons | apply List.Sublist.cons)) ⟨v', L, hL, rfl, rfl⟩
 · exact absurd (Ll.2 ⟨z, LC hz, he⟩) hid
end
end E
end Go.Proofs.YtohlgnfachkmaaaGreat
