/-
 Merged (wip/tools/merge.py): SE1, ALV9, BSB, AA0.
 Conditions: none.
-/
import Derived.Test.YtiledgojbpmoiaaGreatZQ14
import Derived.Test.YtiledgojbpmoiaaGreatZQ17
import Derived.Shelf.SlSortCmp.NoneTotal
import Derived.Test.YtiledgojbpmoiaaGreatZQ6
import Derived.Test.YtiledgojbpmoiaaGreatZQ28
import Derived.Test.YtiledgojbpmoiaaGreatZQ25
namespace Go.Proofs.YtiledgojbpmoiaaGreat
set_option linter.unusedVariables false
open Go.RowKit Mono Rlp Wd
namespace E
theorem Pv : Fn 163 [.v (.slice none 0 0), .v (.func (.func 164) #[] #[])] (· = .tpl []) := ⟨fun ok w xs hok hr => by
 obtain ⟨x1, _, rfl, hx1, x2, _, rfl, hx2, rfl⟩ := hr
 obtain rfl := (bf.1 hx1).2
 obtain rfl := (bf.1 hx2).2
 refine (AnyF.slices_SortFunc_none Es none 0 (.func (.func 164) #[] #[]) w).mono ?_
 rintro e w' ⟨rfl, rfl⟩
 exact ⟨.refl _, _, _, rfl, rfl, [], rfl, rfl⟩⟩
theorem PL (F : Value) (hF : F.oneCell' = true) : Fn 197 [.v (.slice none 0 0), .v F] (· = .val (.v (.int .i64 (-1)))) := by
 refine Fn.walk 19 Tryz.func197 rfl Tryz.ntmps197 (by simp) fun X => ?_
 repeat
  (first
   | (apply au; iterate 3 rfl) | (apply aj; iterate 3 rfl) | (apply zW; iterate 4 rfl) | apply EL.nil | ((with_reducible apply EK.ah); apply EK.code)
   | (with_reducible first | apply EC.seq | apply EC.region | apply EC.block))
 refine EC.BA 1 (EK.round ?_)
 repeat
  (first
   | (apply aj; iterate 3 rfl) | (apply aA (b := false); (iterate 2 rfl); exact aG; iterate 2 rfl) | apply EL.nil | ((with_reducible apply EK.ah); apply EK.code)
   | (apply EC.cond_false; rfl) | (with_reducible first | apply EC.seq | apply EC.region | apply EC.exit | apply EC.ret | apply EK.aZ | apply EK.aH))
 exact EK.fV rfl rfl rfl
theorem GX (F : Value) (hF : F.oneCell' = true) : Fn 160 [.v (.slice none 0 0), .v F] (· = .val (.v (.bool false))) := by
 have h1 := PL F hF
 refine Fn.walk 9 Tryz.func160 rfl Tryz.ntmps160 (by simp) fun X => ?_
 repeat
  (first
   | (apply aJ (h1); rfl; exact ak.refl _ _; exact enA; iterate 2 rfl) | (apply au; iterate 3 rfl) | (apply aj; iterate 3 rfl)
   | (apply aA (b := false); (iterate 2 rfl); exact aG; iterate 2 rfl) | apply EL.nil | ((with_reducible apply EK.ah); apply EK.code)
   | (with_reducible first | apply EC.seq | apply EC.region | apply EC.ret))
 exact EK.fV rfl rfl rfl
theorem PE : Fn 110 [.v (.slice none 0 0)] (· = .tpl [.v (.slice none 0 0), .v (.int .i64 0)]) := by
 have h1 := GX (.func (.func 161) #[] #[]) rfl
 have h2 := Pv
 refine Fn.walk 56 Tryz.func110 rfl Tryz.ntmps110 (by simp) fun X => ?_
 repeat
  (first
   | (apply aJ (h1); rfl; exact ak.refl _ _; exact enA; iterate 2 rfl) | (apply au; iterate 3 rfl) | (apply aj; iterate 3 rfl)
   | (apply bV; iterate 4 rfl) | (apply aA (b := false); (iterate 2 rfl); exact aG; iterate 2 rfl) | (apply zW; iterate 4 rfl) | apply EL.nil
   | ((with_reducible apply EK.ah); apply EK.code) | (apply EC.cond_false; rfl) | (with_reducible first | apply EC.seq | apply EC.region | apply EC.skip | apply EC.block))
 refine EC.BA 1 (EK.round ?_)
 repeat
  (first
   | (apply aJ (h2); rfl; exact ak.refl _ _; exact enA; iterate 2 rfl) | (apply au; iterate 3 rfl) | (apply aj; iterate 3 rfl)
   | (apply aA (b := false); (iterate 2 rfl); exact aG; iterate 2 rfl) | apply EL.nil | ((with_reducible apply EK.ah); apply EK.code) | (apply EC.cond_false; rfl)
   | (with_reducible first | apply EC.seq | apply EC.region | apply EC.block | apply EC.exit | apply EK.aZ | apply EK.aH))
 refine EC.BA 1 (EK.round ?_)
 repeat
  (first
   | (apply au; iterate 3 rfl) | (apply aj; iterate 3 rfl) | (apply aA (b := false); (iterate 2 rfl); exact aG; iterate 2 rfl)
   | (apply zW; iterate 4 rfl) | apply EL.nil | ((with_reducible apply EK.ah); apply EK.code) | (apply EC.cond_false; rfl)
   | (with_reducible first | apply EC.seq | apply EC.region | apply EC.exit | apply EC.ret | apply EK.aZ | apply EK.aH))
 exact EK.rF rfl rfl rfl rfl
theorem PN : Fn 111 [.v (.slice none 0 0), .v (.int .i64 0)] (· = .val (.v .nilIface)) := by
 refine Fn.walk 114 Tryz.func111 rfl Tryz.ntmps111 (by simp) fun X => ?_
 repeat
  (first
   | (apply au; iterate 3 rfl) | (apply aj; iterate 3 rfl) | (apply aA (b := true); (iterate 2 rfl); exact aG; iterate 2 rfl)
   | (apply zW; iterate 4 rfl) | apply EL.nil | ((with_reducible apply EK.ah); apply EK.code) | (apply EC.cond_true; rfl)
   | (with_reducible first | apply EC.seq | apply EC.region | apply EC.ret | apply EK.aI))
 exact EK.fV rfl rfl rfl
theorem Sm : Fn 69 [.v (.slice none 0 0)] (· = .tpl [.v .nilIface, .v (.int .i64 0)]) := by
 have h1 := PE
 have h2 := PN
 refine Fn.walk 16 Tryz.func69 rfl Tryz.ntmps69 (by simp) fun X => ?_
 repeat
  (first
   | (apply aJ (h1); rfl; exact ak.refl _ _; exact enA; iterate 2 rfl) | (apply aJ (h2); rfl; exact ak.refl _ _; exact enA; iterate 2 rfl)
   | (apply au; iterate 3 rfl) | (apply aj; iterate 3 rfl) | (apply aS; iterate 4 rfl)
   | (apply aA (b := false); (iterate 2 rfl); exact aG; iterate 2 rfl) | apply EL.nil | ((with_reducible apply EK.ah); apply EK.code) | (apply EC.cond_false; rfl)
   | (with_reducible first | apply EC.seq | apply EC.region | apply EC.skip | apply EC.ret))
 exact EK.rF rfl rfl rfl rfl
theorem Jz : Bin .eql 125 (.v .nilIface) (.v .nilIface) (.bool true) := by
 refine ⟨rfl, fun ok w p q hp hq => ?_⟩
 obtain rfl := (bf.1 hp).2
 obtain rfl := (bf.1 hq).2
 exact ⟨fun x y => by cases x <;> cases y <;> kernel_rfl, by kernel_rfl⟩
theorem Px : Fn 70 [.v .nilIface] (· = .val (.arr 32 oU)) := by
 have h1 := BR
 refine Fn.walk 19 Tryz.func70 rfl Tryz.ntmps70 (by simp) fun X => ?_
 repeat
  (first
   | (apply aJ (h1); rfl; exact ak.refl _ _; exact enA; iterate 2 rfl) | (apply iU; (iterate 2 rfl); exact Jz; iterate 2 rfl)
   | (apply au; iterate 3 rfl) | (apply aV; rfl; rfl; rfl; intro _)
   | (apply aO; rfl; (focus (repeat first | exact .z | apply aY.s | apply aN.s)); iterate 4 rfl) | apply EL.nil | ((with_reducible apply EK.ah); apply EK.code)
   | (apply EC.cond_true; rfl) | (with_reducible first | apply EC.seq | apply EC.region | apply EC.ret | apply EK.aI))
 refine EK.jF 0 rfl rfl rfl rfl ?_ rfl
 (exact RL.a)
theorem GH : Fn 26 [.v (.slice none 0 0)] (· = .tpl [.arr 32 oU, .v (.int .i64 0)]) := by
 have h1 := Sm
 have h2 := Px
 refine Fn.walk 17 Tryz.func26 rfl Tryz.ntmps26 (by simp) fun X => ?_
 repeat
  (first
   | (apply aJ (h1); rfl; exact ak.refl _ _; exact enA; iterate 2 rfl) | (apply aJ (h2); rfl; exact ak.refl _ _; exact enA; iterate 2 rfl)
   | (apply au; iterate 3 rfl) | (apply aj; iterate 3 rfl) | (apply aS; iterate 4 rfl)
   | (apply aA (b := false); (iterate 2 rfl); exact aG; iterate 2 rfl) | (apply aV; rfl; rfl; rfl; intro _)
   | (apply aO; rfl; (focus (repeat first | exact .z | apply aY.s | apply aN.s)); iterate 4 rfl) | apply EL.nil | ((with_reducible apply EK.ah); apply EK.code)
   | (apply EC.cond_false; rfl) | (with_reducible first | apply EC.seq | apply EC.region | apply EC.skip | apply EC.ret))
 refine EK.ni 0 rfl rfl rfl rfl rfl ?_ rfl
 (exact RL.a)
theorem DV : Fn 66 [.sl 55 []] (· = .tpl [.v (.slice none 0 0), .v (.int .i64 0)]) := by
 refine Fn.walk 64 Tryz.func66 rfl Tryz.ntmps66 (by simp) fun X => ?_
 repeat
  (first
   | (apply au; iterate 3 rfl) | (apply aj; iterate 3 rfl) | (apply aB; iterate 4 rfl) | (apply wz; rfl; rfl; rfl; intro _) | apply EL.nil
   | ((with_reducible apply EK.ah); apply EK.code) | (with_reducible first | apply EC.seq | apply EC.region | apply EC.block))
 refine EC.BA 1 (EK.round ?_)
 repeat
  (first
   | (apply au; iterate 3 rfl) | (apply aj; iterate 3 rfl) | (apply aA (b := false); (iterate 2 rfl); exact aG; iterate 2 rfl) | apply EL.nil
   | ((with_reducible apply EK.ah); apply EK.code) | (apply EC.cond_false; rfl)
   | (with_reducible first | apply EC.seq | apply EC.region | apply EC.exit | apply EC.ret | apply EK.aZ | apply EK.aH))
 exact EK.rF rfl rfl rfl rfl
theorem GY : Fn 20 [.sl 55 []] (· = .tpl [.arr 32 oU, .v (.int .i64 0)]) := by
 have h1 := DV
 have h2 := GH
 refine Fn.walk 19 Tryz.func20 rfl Tryz.ntmps20 (by simp) fun X => ?_
 repeat
  (first
   | (apply aJ (h1); rfl; exact ak.refl _ _; exact enA; iterate 2 rfl) | (apply aJ (h2); rfl; exact ak.refl _ _; exact enA; iterate 2 rfl)
   | (apply au; iterate 3 rfl) | (apply aj; iterate 3 rfl) | (apply aS; iterate 4 rfl)
   | (apply aA (b := false); (iterate 2 rfl); exact aG; iterate 2 rfl) | (apply aV; rfl; rfl; rfl; intro _)
   | (apply aO; rfl; (focus (repeat first | exact .z | apply aY.s | apply aN.s)); iterate 4 rfl) | apply EL.nil | ((with_reducible apply EK.ah); apply EK.code)
   | (apply EC.cond_false; rfl) | (with_reducible first | apply EC.seq | apply EC.region | apply EC.skip | apply EC.ret))
 refine EK.ni 0 rfl rfl rfl rfl rfl ?_ rfl
 (exact RL.a)
end E
end Go.Proofs.YtiledgojbpmoiaaGreat
namespace Go.Proofs.YtiledgojbpmoiaaGreat
set_option linter.unusedVariables false
set_option maxRecDepth 20000
set_option maxHeartbeats 8000000
open Go.RowKit Mono Rlp
namespace E
theorem PI (n : Int) : Fn 21 [.v (.int .i64 n)] (· = .val (.v (.int .i64 n))) := by
 refine Fn.walk 4 Tryz.func21 rfl Tryz.ntmps21 (by simp) fun X => ?_
 repeat
  (first
   | (apply au; iterate 3 rfl) | (apply aj; iterate 3 rfl) | apply EL.nil | ((with_reducible apply EK.ah); apply EK.code)
   | (with_reducible first | apply EC.seq | apply EC.region | apply EC.ret))
 exact EK.fV rfl rfl rfl
theorem qx : Fn 14 [] (· = .val (.v (.bool true))) := by
 have h1 := GY
 have h2 := PI 0
 have h3 := GR
 have hr := (jd oU oU).1
 rw [show (oU == oU) = true by simp] at hr
 refine Fn.walk 15 Tryz.func14 rfl Tryz.ntmps14 (by simp) fun X => ?_
 repeat
  (first
   | (apply aJ (h1); rfl; exact RL.a; exact enA; iterate 2 rfl) | (apply au; iterate 3 rfl) | (apply aj; iterate 3 rfl)
   | (apply aS; iterate 4 rfl) | (apply aV; rfl; rfl; rfl; intro _)
   | (apply aO; rfl; (focus (repeat first | exact .z | apply aY.s | apply aN.s)); iterate 4 rfl) | apply EL.nil | ((with_reducible apply EK.ah); apply EK.code)
   | (with_reducible first | apply EC.seq | apply EC.region))
 refine EC.draw 8 (by kernel_rfl) ?_
 simp only [List.take_succ_cons, List.take_zero, List.drop_succ_cons, List.drop_zero]
 repeat
  (first
   | (apply bP (h2); rfl; exact ak.refl _ _; exact enA; iterate 2 rfl) | (apply bP (h3); rfl; exact ak.refl _ _; exact enA; iterate 2 rfl)
   | (apply fK; (iterate 2 rfl); exact hr; iterate 2 rfl) | (apply aU; iterate 3 rfl) | (apply dX; iterate 4 rfl)
   | (apply bT; rfl; exact I.a; iterate 4 rfl) | (apply gy (b := true); (iterate 2 rfl); exact aG; iterate 2 rfl) | ((with_reducible apply EH.nil); rfl))
 repeat
  (first
   | (apply aj; iterate 3 rfl) | apply EL.nil | ((with_reducible apply EK.ah); apply EK.code) | (with_reducible apply EC.ret))
 exact EK.fV rfl rfl rfl
def Qj (l : List Acc) : Bool := decide (20 < l.length) || l.any fun x => decide (300 < x.cd.length) || decide (20 < x.sl.length)
theorem SN {α : Type} {p : α → Bool} {l : List α} {i : Nat} (h : i < l.length) (hp : p l[i] = true) : l.any p = true := List.any_eq_true.2 ⟨l[i], List.getElem_mem h, hp⟩
theorem UY (l : List Acc) : Fn 15 [.sl 55 (l.map bM)] (· = .val (.v (.bool (Qj l)))) := by
 have hml : (l.map bM).length = l.length := List.length_map _
 refine Fn.walk 29 Tryz.func15 rfl Tryz.ntmps15 (by simp) fun X => ?_
 unfold Qj
 by_cases h20 : 20 < l.length
 ·
  rw [show decide (20 < l.length) = true by simp [h20], Bool.true_or]
  repeat
   (first
    | (apply au; iterate 3 rfl) | (apply aj; iterate 3 rfl) | (apply aA (b := true); (iterate 2 rfl); exact aG; iterate 2 rfl)
    | (apply aB; iterate 4 rfl) | apply EL.nil | ((with_reducible apply EK.ah); apply EK.code) | (apply EC.cond_true; rfl)
    | (with_reducible first | apply EC.seq | apply EC.region | apply EC.ret | apply EK.aI))
  exact EK.fV rfl rfl rfl
 ·
  rw [show decide (20 < l.length) = false by simp [h20], Bool.false_or]
  repeat
   (first
    | (apply au; iterate 3 rfl) | (apply aj; iterate 3 rfl) | (apply aA (b := false); (iterate 2 rfl); exact aG; iterate 2 rfl)
    | (apply aB; iterate 4 rfl) | apply EL.nil | ((with_reducible apply EK.ah); apply EK.code) | (apply EC.cond_false; rfl)
    | (with_reducible first | apply EC.seq | apply EC.region | apply EC.skip | apply EC.block))
  refine EC.loop (ι := {i : Nat // i ≤ l.length ∧ (l.take i).any (fun x => decide (300 < x.cd.length) || decide (20 < x.sl.length)) = false})
   (fun i => ⟨[(3, .val (.v (.int .i64 (i.1 : Int)))), (0, .val (.sl 55 (l.map bM)))], [], []⟩)
   (fun i => l.length - i.1) ⟨0, Nat.zero_le _, rfl⟩ ?_ ?_
  · exact Le.kp
  rintro ⟨i, hi, hno⟩
  dsimp only at hi ⊢
  by_cases hlt : i < l.length
  ·
   have hd : (l.map bM)[i]? = some (bM l[i]) := by rw [List.getElem?_map, List.getElem?_eq_getElem hlt]; rfl
   have htk : l.take (i + 1) = l.take i ++ [l[i]] := List.take_succ_eq_append_getElem hlt
   have hat := SN (p := fun x : Acc => decide (300 < x.cd.length) || decide (20 < x.sl.length)) hlt
   generalize l[i] = x at hd htk hat
   have hsl : (x.sl.map gq).length = x.sl.length := List.length_map _
   unfold bM at hd
   by_cases hc : 300 < x.cd.length
   ·
    rw [hat (by simp [hc])]
    repeat
     (first
      | (apply fP; iterate 2 rfl) | (apply au; iterate 3 rfl) | (apply aj; iterate 3 rfl) | (apply aP; iterate 7 rfl)
      | (apply aK; iterate 5 rfl) | (apply bV; iterate 4 rfl) | (apply aA (b := true); (iterate 2 rfl); exact aG; iterate 2 rfl)
      | (apply dU; iterate 4 rfl) | (apply aB; iterate 4 rfl)
      | (apply aX; (iterate 4 rfl); (focus (first | exact ⟨by decide, rfl⟩ | (refine ⟨by omega, ?_⟩; rw [Int.toNat_natCast]; assumption))); iterate 2 rfl) | apply EL.nil
      | ((with_reducible apply EK.ah); apply EK.code) | (apply EC.cond_true; rfl)
      | (with_reducible first | apply EC.seq | apply EC.region | apply EC.skip | apply EC.block | apply EC.ret | apply EK.dS | apply EK.aI))
    exact EK.fV rfl rfl rfl
   ·
    by_cases hs : 20 < x.sl.length
    ·
     rw [hat (by simp [hs])]
     repeat
      (first
       | (apply au; iterate 3 rfl) | (apply aj; iterate 3 rfl) | (apply aP; iterate 7 rfl) | (apply aK; iterate 5 rfl)
       | (apply bV; iterate 4 rfl) | (apply aA (b := true); (iterate 2 rfl); exact aG; iterate 2 rfl)
       | (apply aA (b := false); (iterate 2 rfl); exact aG; iterate 2 rfl) | (apply dU; iterate 4 rfl) | (apply aB; iterate 4 rfl)
       | (apply aX; (iterate 4 rfl); (focus (first | exact ⟨by decide, rfl⟩ | (refine ⟨by omega, ?_⟩; rw [Int.toNat_natCast]; assumption))); iterate 2 rfl) | apply EL.nil
       | ((with_reducible apply EK.ah); apply EK.code) | (apply EC.cond_true; rfl)
       | (with_reducible first | apply EC.seq | apply EC.region | apply EC.skip | apply EC.block | apply EC.ret | apply EK.dS | apply EK.aI))
     exact EK.fV rfl rfl rfl
    ·
     skip
     repeat
      (first
       | (apply au; iterate 3 rfl) | (apply aj; iterate 3 rfl) | (apply aP; iterate 7 rfl) | (apply aK; iterate 5 rfl)
       | (apply bV; iterate 4 rfl) | (apply aA (b := true); (iterate 2 rfl); exact aG; iterate 2 rfl)
       | (apply aA (b := false); (iterate 2 rfl); exact aG; iterate 2 rfl) | (apply eU; (iterate 3 rfl); (focus omega); (focus omega); iterate 2 rfl)
       | (apply dU; iterate 4 rfl) | (apply aB; iterate 4 rfl)
       | (apply aX; (iterate 4 rfl); (focus (first | exact ⟨by decide, rfl⟩ | (refine ⟨by omega, ?_⟩; rw [Int.toNat_natCast]; assumption))); iterate 2 rfl) | apply EL.nil
       | ((with_reducible apply EK.ah); apply EK.code) | (apply EC.cond_true; rfl) | (apply EC.cond_false; rfl)
       | (with_reducible first | apply EC.seq | apply EC.region | apply EC.skip | apply EC.block | apply EK.aF))
     refine EK.again ⟨i + 1, hlt, ?_⟩ (by dsimp only; omega) ?_
     ·
      rw [htk, List.any_append, hno]
      simp [hc, hs]
     ·
      simp only [Int.natCast_add]
      exact Le.kp
  ·
   have hiE : i = l.length := by omega
   subst hiE
   rw [List.take_length] at hno
   rw [hno]
   repeat
    (first
     | (apply au; iterate 3 rfl) | (apply aj; iterate 3 rfl) | (apply aA (b := false); (iterate 2 rfl); exact aG; iterate 2 rfl)
     | (apply aB; iterate 4 rfl) | apply EL.nil | ((with_reducible apply EK.ah); apply EK.code) | (apply EC.cond_false; rfl)
     | (with_reducible first | apply EC.seq | apply EC.region | apply EC.exit | apply EC.ret | apply EK.aZ | apply EK.aH))
   exact EK.fV rfl rfl rfl
theorem QW {l : List Acc} (h : Qj l = false) : l.length ≤ 20 ∧ ∀ x ∈ l, x.cd.length ≤ 300 ∧ x.sl.length ≤ 20 := by
 unfold Qj at h
 simp only [Bool.or_eq_false_iff, decide_eq_false_iff_not, List.any_eq_false] at h
 refine ⟨by omega, fun x hx => ?_⟩
 have := h.2 x hx
 simp at this
 omega
theorem Ov {x : Raw} {b : List UInt8} (h : packed x = some b) : b = Rlp.E x := by
 unfold packed at h
 split at h
 ·
  split at h
  · cases h
  ·
   cases h
   rfl
 · cases h
def jO (x : Acc) : List (List UInt8) := x.a :: x.cd :: (x.sl.map (·.1) ++ if (x.sl.map (·.1)).Nodup then jv (x.sl.filterMap slP) else [])
def xC (l : List Acc) : List (List UInt8) := l.flatMap jO ++ if uV l then jv (l.map acP) else []
theorem yw {s y : Pr} (h : slP s = some y) : s.2 ≠ zero32 ∧ y = (hash s.1, pkB (.mk false (strip s.2) [])) := by
 unfold slP at h
 split at h
 · cases h
 ·
  rename_i h1
  cases h
  exact ⟨h1, rfl⟩
theorem IZ {v : List UInt8} (h : v.length = 32) : (pkB (.mk false (strip v) [])).length ≤ 1048576 ∧ pkB (.mk false (strip v) []) ≠ [] := by
 have hb := Ov (yL h)
 have h3 := nS (strip v) (by have := iI v; omega)
 rw [hb, Rlp.E]
 refine ⟨by omega, fun e => ?_⟩
 have := congrArg List.length e
 rw [nT] at this
 unfold szE szB at this
 split at this
 · simp at this
 · split at this <;> simp at this
theorem sK {S : List Pr} (hS : Srt S) : ∀ {l : List (List UInt8)}, l.Nodup → (∀ s ∈ l, (hash s, s) ∈ S) → (l.map hash).Nodup
 | [], _, _ => List.nodup_nil
 | x :: l, hn, h => by
  obtain ⟨h1, h2⟩ := List.nodup_cons.1 hn
  refine List.nodup_cons.2 ⟨fun hm => ?_, sK hS h2 fun s hs => h s (List.mem_cons_of_mem _ hs)⟩
  obtain ⟨y, hy, e⟩ := List.mem_map.1 hm
  have hx := h x List.mem_cons_self
  have hy' := h y (List.mem_cons_of_mem _ hy)
  rw [e] at hy'
  have := x9 hS hx hy'
  exact h1 (this ▸ hy)
theorem sN : ∀ (l : List Pr), ((l.filterMap slP).map (·.1)).Sublist ((l.map (·.1)).map hash)
 | [] => .slnil
 | s :: l => by
  cases h : slP s with
  | none =>
   rw [List.filterMap_cons_none h]
   exact (sN l).cons _
  | some y =>
   rw [List.filterMap_cons_some h]
   obtain ⟨_, rfl⟩ := yw h
   exact (sN l).cons_cons _
theorem zC {S : List Pr} (hS : Srt S) {l : List Pr} (hs : ∀ s ∈ l, s.1.length = 32 ∧ s.2.length = 32) (hl : l.length ≤ 100000) (hn : (l.map (·.1)).Nodup) (h : ∀ s ∈ l.map (·.1), (hash s, s) ∈ S) : ig (l.filterMap slP) = 0 := by
 refine G6.2 ⟨Nat.le_trans (List.length_filterMap_le _ _) hl, fun x hx => ?_, (sN l).nodup (sK hS hn h)⟩
 obtain ⟨s, hs1, hs2⟩ := List.mem_filterMap.1 hx
 obtain ⟨_, rfl⟩ := yw hs2
 have := IZ (hs s hs1).2
 exact ⟨by show (hash s.1).length ≤ 64; rw [dV]; decide, this⟩
theorem Hq {n : Int} (hn : n ≤ 9223372036854775807) {w r c : List UInt8} (hw : w.length = 32) (hr : r.length = 32) (hc : c.length = 32) : (Rlp.E (jL n w r c)).length ≤ 1048576 ∧ Rlp.E (jL n w r c) ≠ [] := by
 have h1 := Ho n hn w r c hw hr hc
 refine ⟨by omega, fun e => ?_⟩
 have h2 := congrArg List.length e
 unfold jL at h2
 rw [Rlp.E, List.length_append] at h2
 have := lU (Rlp.EL [.mk false (be n.toNat) [], .mk false (strip w) [], .mk false r [], .mk false c []]).length 192
 rw [List.length_nil] at h2
 omega
theorem BZ {S : List Pr} (hS : Srt S) {l : List Acc} (hok : ∀ x ∈ l, x.ok) (hl : l.length ≤ 100000) (hn : (l.map (·.a)).Nodup) (h : ∀ x ∈ l, (hash x.a, x.a) ∈ S) : ig (l.map acP) = 0 := by
 refine G6.2 ⟨by rw [List.length_map]; exact hl, fun x hx => ?_, ?_⟩
 ·
  obtain ⟨y, hy, rfl⟩ := List.mem_map.1 hx
  have hk := hok y hy
  exact ⟨by show (hash y.a).length ≤ 64; rw [dV]; decide, Hq hk.n1 hk.w (jw _) (dV _)⟩
 ·
  have e : (l.map acP).map (·.1) = (l.map (·.a)).map hash := by rw [List.map_map, List.map_map]; rfl
  rw [e]
  refine sK hS hn fun s hs => ?_
  obtain ⟨x, hx, rfl⟩ := List.mem_map.1 hs
  exact h x hx
theorem Qp {n m : Int} {w r c w' r' c' : List UInt8} (h0 : 0 ≤ n) (hn : n ≤ 9223372036854775807) (h0' : 0 ≤ m) (hn' : m ≤ 9223372036854775807) (hw : w.length = 32) (hr : r.length = 32) (hc : c.length = 32) (hw' : w'.length = 32) (hr' : r'.length = 32) (hc' : c'.length = 32) (e : Rlp.E (jL n w r c) = Rlp.E (jL m w' r' c')) : n = m ∧ w = w' ∧ r = r' ∧ c = c' := by
 have h1 := tZ (mO n hn w r c hw hr hc)
 have h2 := tZ (mO m hn' w' r' c' hw' hr' hc')
 rw [e, h2] at h1
 have k : ∀ (n : Int) (w r c : List UInt8), norm (jL n w r c) = jL n w r c := fun n w r c => by
  unfold jL
  simp [norm, uo]
 rw [k, k] at h1
 injection h1 with h1
 unfold jL at h1
 injection h1 with _ _ h1
 injection h1 with a1 h1
 injection h1 with a2 h1
 injection h1 with a3 h1
 injection h1 with a4 h1
 injection a1 with _ a1
 injection a2 with _ a2
 injection a3 with _ a3
 injection a4 with _ a4
 refine ⟨?_, ?_, a3.symm, a4.symm⟩
 ·
  have e1 : RI (.mk false (be n.toNat) []) = some n.toNat := Jn.OU (by omega)
  have e2 : RI (.mk false (be m.toNat) []) = some m.toNat := Jn.OU (by omega)
  rw [← a1, e2] at e1
  injection e1 with e1
  omega
 ·
  have e1 : JH (.mk false (strip w) []) = some w := Jn.JG hw vK
  have e2 : JH (.mk false (strip w') []) = some w' := Jn.JG hw' vK
  rw [← a2, e2] at e1
  injection e1 with e1
  exact e1.symm
structure Cl (S : List Pr) (l : List Acc) : Prop where
 ok : ∀ x ∈ l, x.ok
 len : l.length ≤ 100000
 sl : ∀ x ∈ l, x.sl.length ≤ 100000
 n : ∀ x ∈ l, 0 ≤ x.n
 ad : (l.map (·.a)).Nodup
 ks : ∀ x ∈ l, (x.sl.map (·.1)).Nodup
 all : ∀ u ∈ xC l, (hash u, u) ∈ S
theorem Cl.one {S : List Pr} {l : List Acc} (h : Cl S l) {x : Acc} (hx : x ∈ l) : ∀ u ∈ jO x, (hash u, u) ∈ S := fun u hu => h.all u (List.mem_append.2 (.inl (List.mem_flatMap.2 ⟨x, hx, hu⟩)))
theorem Cl.slots {S : List Pr} {l : List Acc} (hS : Srt S) (h : Cl S l) {x : Acc} (hx : x ∈ l) : ig (x.sl.filterMap slP) = 0 := zC hS (h.ok x hx).sl (h.sl x hx) (h.ks x hx) fun s hs => h.one hx s (by
 unfold jO
 exact List.mem_cons_of_mem _ (List.mem_cons_of_mem _ (List.mem_append.2 (.inl hs))))
theorem Cl.good {S : List Pr} {l : List Acc} (hS : Srt S) (h : Cl S l) : uV l ∧ ig (l.map acP) = 0 := by
 refine ⟨⟨h.ad, fun x hx => ⟨h.n x hx, ?_⟩⟩, BZ hS h.ok h.len h.ad fun x hx => h.one hx x.a (by unfold jO; exact List.mem_cons_self)⟩
 unfold pK
 rw [if_pos (h.ks x hx)]
 exact h.slots hS hx
theorem Cl.err {S : List Pr} {l : List Acc} (hS : Srt S) (h : Cl S l) : Nk l = 0 ∧ jB l = kW (l.map acP) := by
 have hg := h.good hS
 have h0 := (FC l).2 hg.1
 unfold Nk jB
 rw [if_pos h0, if_pos h0]
 exact ⟨hg.2, rfl⟩
theorem Cl.inj {S : List Pr} {l m : List Acc} (hS : Srt S) (h : Cl S l) (h' : Cl S m) {x y : Acc} (hx : x ∈ l) (hy : y ∈ m) {u v : List UInt8} (hu : u ∈ jO x) (hv : v ∈ jO y) (e : hash u = hash v) : u = v := by
 have h1 := h.one hx u hu
 have h2 := h'.one hy v hv
 rw [e] at h1
 exact x9 hS h1 h2
theorem Cl.sub {S : List Pr} {l m : List Acc} (hS : Srt S) (h : Cl S l) (h' : Cl S m) (e : jB l = jB m) : ∀ x ∈ l, ∃ y ∈ m, x.a = y.a ∧ x.n = y.n ∧ x.w = y.w ∧ x.cd = y.cd ∧ ∀ s ∈ x.sl, s.2 ≠ zero32 → ∃ t ∈ y.sl, t.1 = s.1 := fun x hx => by
 have g := h.good hS
 have g' := h'.good hS
 rw [(h.err hS).2, (h'.err hS).2] at e
 have hc : kV (jv (l.map acP)) (jv (m.map acP)) := wF hS (fun u hu => h.all u (List.mem_append.2 (.inr (by rw [if_pos g.1]; exact hu)))) (fun u hu => h'.all u (List.mem_append.2 (.inr (by rw [if_pos g'.1]; exact hu))))
 have h1 := AQ g.2 g'.2 hc e (acP x) (List.mem_map.2 ⟨x, hx, rfl⟩)
 obtain ⟨y, hy, e1⟩ := List.mem_map.1 h1
 unfold acP at e1
 obtain ⟨e2, e3⟩ := Prod.mk.inj e1
 have ka := h.ok x hx
 have kb := h'.ok y hy
 obtain ⟨d1, d2, d3, d4⟩ := Qp (h'.n y hy) kb.n1 (h.n x hx) ka.n1 kb.w (jw _) (dV _) ka.w (jw _) (dV _) e3
 have m1 : ∀ z : Acc, z.a ∈ jO z := fun z => by unfold jO; exact List.mem_cons_self
 have m2 : ∀ z : Acc, z.cd ∈ jO z := fun z => by unfold jO; exact List.mem_cons_of_mem _ List.mem_cons_self
 have m3 : ∀ (z : Acc) (s : Pr), s ∈ z.sl → s.1 ∈ jO z := fun z s hs => by
  unfold jO
  exact List.mem_cons_of_mem _ (List.mem_cons_of_mem _ (List.mem_append.2 (.inl (List.mem_map.2 ⟨s, hs, rfl⟩))))
 have m4 : ∀ z : Acc, (z.sl.map (·.1)).Nodup → ∀ u ∈ jv (z.sl.filterMap slP), u ∈ jO z := fun z hz u hu => by
  unfold jO
  rw [if_pos hz]
  exact List.mem_cons_of_mem _ (List.mem_cons_of_mem _ (List.mem_append.2 (.inr hu)))
 refine ⟨y, hy, (h'.inj hS h hy hx (m1 y) (m1 x) e2).symm, d1.symm, d2.symm, (h'.inj hS h hy hx (m2 y) (m2 x) d4).symm, fun s hs hz => ?_⟩
 have r1 : iR x.sl = kW (x.sl.filterMap slP) := by unfold iR; rw [if_pos (h.ks x hx)]
 have r2 : iR y.sl = kW (y.sl.filterMap slP) := by unfold iR; rw [if_pos (h'.ks y hy)]
 have hc2 : kV (jv (x.sl.filterMap slP)) (jv (y.sl.filterMap slP)) := wF hS (fun u hu => h.one hx u (m4 x (h.ks x hx) u hu)) (fun u hu => h'.one hy u (m4 y (h'.ks y hy) u hu))
 have hp : slP s = some (hash s.1, pkB (.mk false (strip s.2) [])) := if_neg hz
 have h2 := AQ (h.slots hS hx) (h'.slots hS hy) hc2 (by rw [← r1, ← r2, d3]) _ (List.mem_filterMap.2 ⟨s, hs, hp⟩)
 obtain ⟨t, ht, e4⟩ := List.mem_filterMap.1 h2
 obtain ⟨_, e5⟩ := yw e4
 exact ⟨t, ht, (h.inj hS h' hx hy (m3 x s hs) (m3 y t ht) (Prod.mk.inj e5).1).symm⟩
theorem Cl.apart {S : List Pr} {l : List Acc} {k : Nat} (hS : Srt S) (h : Cl S l) (hk : k < l.length) {z : Acc} (h' : Cl S (l.set k z)) (ha : z.a = l[k].a) (hne : l[k].n ≠ z.n ∨ l[k].w ≠ z.w ∨ l[k].cd ≠ z.cd ∨ ∃ s ∈ z.sl, s.2 ≠ zero32 ∧ ∀ t ∈ l[k].sl, t.1 ≠ s.1) : (jB l == jB (l.set k z)) = false := by
 refine beq_eq_false_iff_ne.2 fun e => ?_
 have hm : (l.set k z)[k]'(by rw [List.length_set]; exact hk) = z := by simp
 have hzm : z ∈ l.set k z := List.mem_iff_getElem.2 ⟨k, by rw [List.length_set]; exact hk, hm⟩
 have huniq : ∀ y ∈ l, y.a = z.a → y = l[k] := fun y hy hya => by
  obtain ⟨j, hj, rfl⟩ := List.getElem_of_mem hy
  rw [ha] at hya
  rcases Nat.lt_trichotomy j k with hlt | rfl | hlt
  ·
   have := List.pairwise_iff_getElem.1 h.ad j k (by simpa using hj) (by simpa using hk) hlt
   simp only [List.getElem_map] at this
   exact absurd hya this
  · rfl
  ·
   have := List.pairwise_iff_getElem.1 h.ad k j (by simpa using hk) (by simpa using hj) hlt
   simp only [List.getElem_map] at this
   exact absurd hya.symm this
 obtain ⟨y, hy, b1, b2, b3, b4, b5⟩ := h'.sub hS h e.symm z hzm
 obtain rfl := huniq y hy b1.symm
 rcases hne with hne | hne | hne | ⟨s, hs, hz, hne⟩
 · exact hne b2.symm
 · exact hne b3.symm
 · exact hne b4.symm
 ·
  obtain ⟨t, ht, e2⟩ := b5 s hs hz
  exact hne t ht e2
theorem Io {l m : List Acc} (e : l.map acP = m.map acP) (h : prE l [] = 0) (h' : prE m [] = 0) : jB l = jB m := by
 unfold jB
 rw [if_pos h, if_pos h', e]
end E
end Go.Proofs.YtiledgojbpmoiaaGreat
