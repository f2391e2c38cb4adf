/-
 Merged: lemmas of this claim.
 Conditions: none.
-/
import Derived.Test.YtaoicebcdmpemaaGreatZA2
import Derived.Lib.Bytealg
import Derived.Lib.BytesEntry
import Derived.Sort.Walk0
import Derived.Test.YtaoicebcdmpemaaGreatZA10
import Derived.Shelf.SlSortCmp.WholeK
import Derived.Shelf.SlSortCmp.NoneTotal
import Derived.Test.YtaoicebcdmpemaaGreatZA13
import Derived.Lib.SliceRun
import Derived.Lib.AppendZeros
import Derived.Test.YtaoicebcdmpemaaGreatZA6
import Derived.RangeFuncNested
import Derived.RangeFuncLeaves
import Derived.RangeFuncBound
import Derived.Maps.RangeRun
import Derived.Maps.AppendAt
import Derived.Sort.MapsRangeIn
import Derived.Shelf.Abstract
import Derived.OwnWalkIn
import Derived.TacticsInMore
import Derived.RegionIn
import Derived.LoopNIn
import Derived.LoopIn
import Derived.WalkKit
import Derived.Test.YtaoicebcdmpemaaGreatZA0
namespace Go.Proofs.YtaoicebcdmpemaaGreat
set_option linter.unusedVariables false
set_option maxRecDepth 20000
set_option maxHeartbeats 1000000
open Go.RowKit Mono
abbrev gJ (l m : List UInt8) : Int := Lib.compareBytes l m
theorem qL : ∀ a b : List UInt8, Op.bytesLess a b = decide (gJ a b < 0)
 | [], [] => rfl
 | _ :: _, [] => rfl
 | [], _ :: _ => rfl
 | a :: x, b :: y => by
  rw [Op.bytesLess, gJ, Lib.compareBytes, qL x y]
  by_cases h1 : a < b
  · simp [h1]
  ·
   by_cases h2 : b < a
   ·
    have h3 : ¬ a = b := fun e => by subst e; exact h1 h2
    simp [h1, h2, h3]
   ·
    have h3 : a = b := by
     apply UInt8.toNat_inj.1
     have := UInt8.not_lt.1 h1
     have := UInt8.not_lt.1 h2
     exact Nat.le_antisymm (UInt8.le_iff_toNat_le.1 (UInt8.not_lt.1 h2)) (UInt8.le_iff_toNat_le.1 (UInt8.not_lt.1 h1))
    subst h3
    simp [h1]
theorem jZ {w : World} {v : Value} {l : List UInt8} (h : IsB w v l) : (Extern.Bytes.bytesOf v).run Tryz.prog w = .ok (bs l) w := by
 obtain ⟨A, c, rfl, h1, h2, hr⟩ := h
 cases A with
 | none =>
  have : l = [] := by
   by_cases hl : bvs l = []
   · simpa [bvs] using hl
   ·
    obtain ⟨b, o, e, _⟩ := hr hl
    cases e
  subst this
  rfl
 | some ad =>
  have := Lib.run_loadBytesX (P := Tryz.prog) (w := w) (l.map fun x => (x.toNat : Int)) ad .empty fun j x hx => by
   rw [List.getElem?_map] at hx
   obtain ⟨y, hy, rfl⟩ := Option.map_eq_some_iff.1 hx
   obtain ⟨b, o, e, _, hc⟩ := hr (fun e => by have := congrArg List.length e; rw [aO] at this; simp at this; rw [this] at hy; simp at hy)
   injection e with e
   subst e
   rw [bQ]
   exact hc j _ (by simp [bvs, bv, hy])
  rw [HY] at this
  show (Extern.Bytes.loadBytes ad l.length .empty).run Tryz.prog w = _
  rw [this]
  have h2 : Lib.bytesOf (l.map fun x => (x.toNat : Int)) = l := by
   simp only [Lib.bytesOf, Iq]
   refine (IQ fun x _ => ?_).trans (List.map_id l)
   simp
  rw [h2]
  simp [bs]
theorem qx {w : World} {v u : Value} {l m : List UInt8} (h1 : IsB w v l) (h2 : IsB w u m) : (Extern.BytealgCompare.compare #[v, u]).run Tryz.prog w = .ok (.int .i64 (gJ l m)) w := by
 change Sem.run Tryz.prog (do pure (goInt (Extern.BytealgCompare.cmp (← Extern.Bytes.bytesOf v) (← Extern.Bytes.bytesOf u)))) w = _
 simp only [GR, jZ h1, jZ h2, GK, GY, Lib.cmp_eq]
 rfl
theorem mJ (v u : Value) (l m : List UInt8) (w : World) (h1 : IsB w v l) (h2 : IsB w u m) : Calls Tryz.prog 132 #[v, u] w fun e w' => e = .returned (.int .i64 (gJ l m)) ∧ w' = w := by
 have hr := qx h1 h2
 go_enter Tryz.func132, Tryz.ntmps132
 go_wp2_with fail
 rw [run_callFunc_extern Tryz.func160 (by kernel_rfl) (by kernel_rfl) (by kernel_rfl) (e := Extern.BytealgCompare.compare) (by kernel_rfl), hr]
 simp only [Result.andThen]
 rw [Oper.upon_value]
 go_wp2_with fail
 exact bodyPost_ret (results_tmp rfl _ _ _) rfl ⟨rfl, rfl⟩
theorem EO (a b : List UInt8) : Op.bytesLess a b = decide (a < b) := Go.Proofs.bytesLess_eq a b
theorem kS (a b : List UInt8) : decide (gJ a b < 0) = decide (a < b) := by rw [← qL, EO]
end Go.Proofs.YtaoicebcdmpemaaGreat
namespace Go.Proofs.YtaoicebcdmpemaaGreat
set_option linter.unusedVariables false
set_option maxRecDepth 20000
open Go.RowKit Mono Rlp Go.Sort
namespace E
def lg (x : List UInt8 × List UInt8) : Bool := decide (64 < x.1.length) || decide (1048576 < x.2.length)
theorem mg (x : List UInt8 × List UInt8) : Fn 61 [.bs x.1, .bs x.2] (· = .val (.v (.bool (lg x)))) := by
 unfold lg
 refine Fn.walk 13 Tryz.func61 rfl Tryz.ntmps61 (by simp) fun X => ?_
 by_cases h : 64 < x.1.length
 ·
  rw [decide_eq_true h]
  repeat (refine stp ?_; intros)
  exact EK.yJ rfl rfl rfl
 ·
  rw [decide_eq_false h]
  by_cases h2 : 1048576 < x.2.length
  ·
   rw [decide_eq_true h2]
   repeat (refine stp ?_; intros)
   exact EK.yJ rfl rfl rfl
  ·
   rw [decide_eq_false h2]
   repeat (refine stp ?_; intros)
   exact EK.yJ rfl rfl rfl
end E
end Go.Proofs.YtaoicebcdmpemaaGreat
namespace Go.Proofs.YtaoicebcdmpemaaGreat
set_option linter.unusedVariables false
set_option maxHeartbeats 1000000
open Go.RowKit Mono Rlp
theorem EJ (v : Value) (l : List UInt8) (w : World) (h : IsB w v l) (hl : l.length ≤ 140737488355328) : Calls Tryz.prog 66 #[v] w (Ret (fun v w' => OwnB w' w.heap.size v l) w) := by
 obtain ⟨A, c, rfl, hc1, hc2, hr⟩ := h
 cases A with
 | none =>
  have hl0 : l = [] := by
   by_cases hn : bvs l = []
   · simpa [bvs] using hn
   ·
    obtain ⟨b, o, e, _⟩ := hr hn
    cases e
  subst hl0
  clear hr
  have hq := Lib.run_eql_slice_nil w 41 5 none 0 c 0 0 Tryz.underlying41
  go_enter Tryz.func66, Tryz.ntmps66
  go_wp2
  refine bodyPost_ret (results_tmp rfl _ _ _) rfl ?_
  exact ⟨_, rfl, Gr.refl _, OwnB.nil _ _⟩
 | some a =>
  have HR := Lib.hid hr
  clear hr
  have hq := Lib.run_eql_slice_nil w 41 5 (some a) l.length c 0 0 Tryz.underlying41
  go_enter Tryz.func66, Tryz.ntmps66
  go_wp2_with (at_builtin; refine dL (.tmp 5) (.tmp 6) 41 eu (base := w.heap.size) _ 0 [] _ l.length c w.heap.size (bvs l) rfl rfl rfl rfl (oU w #[] 5 1 0 w.heap.size w.heap.size rfl (Nat.le_refl _) (by simp [maxLen]) rfl) (HR.out.below ((Below.refl _ _).alloc (Nat.le_refl _) _)) (by simp [bvs]) (iV _) (by simp only [maxLen]; omega) (by omega) (by simp) ?_; intro A2 c2 w2 hown2 hg2 _)
  refine bodyPost_ret (results_tmp rfl _ _ _) rfl ?_
  refine ⟨_, rfl, ((Below.refl _ _).alloc (Nat.le_refl _) _).grown hg2 (by simp) (fun j hj => by cases hj; exact Nat.le_refl _), ?_⟩
  rw [Hr, G6] at hown2
  exact hown2
namespace E
theorem vT (l : List UInt8) (hl : l.length ≤ 140737488355328) : Fn 66 [.bs l] (· = .val (.bs l)) := ⟨fun ok w xs hok hr => by
 obtain ⟨x, _, rfl, hx, rfl⟩ := hr
 refine (EJ x l w (lU hok hx) hl).mono ?_
 rintro e w' ⟨v, rfl, hg, ho⟩
 exact ⟨hg, v, .val (.bs l), rfl, rfl, (aT rfl).2 (by rw [Reads]; exact ⟨v, rfl, qh.mono (yR ho) (fun b hb => ⟨.inr hb.1, hb.2⟩) fun _ _ => rfl⟩)⟩⟩
end E
end Go.Proofs.YtaoicebcdmpemaaGreat
namespace Go.Proofs.YtaoicebcdmpemaaGreat
set_option linter.unusedVariables false
set_option maxRecDepth 20000
set_option maxHeartbeats 4000000
open Go.RowKit Mono Rlp
namespace E
theorem zV (l m : List UInt8) : Fn 104 [.bs l, .bs m] (· = .val (.v (.bool (l == m)))) := by
 have hb := (mP l m).1
 refine Fn.walk 10 Tryz.func104 rfl Tryz.ntmps104 (by simp) fun X => ?_
 repeat
  (first
   | (refine kL (hrun := hb) (kk := ?_)) | (refine stp ?_; intros))
 exact EK.yJ rfl rfl rfl
theorem rD (l : List UInt8) : Fn 104 [.bs l, .bs l] (· = .val (.v (.bool true))) := by
 have h := zV l l
 rwa [beq_self_eq_true] at h
theorem zK (t s f c : Nat) (p v : List UInt8) : FnM 65 [.v (ptr t), .v .nilIface, .bs p, .bs v] [ntO t s (.v .nilIface) f, .it f (.map #[] c)] (fun r os' => r = .val (dT (.leaf p v)) ∧ ∃ es, os' = [ntO t s (.v .nilIface) f, .it f (.map es (c + 1))]) := by
 have hL := jF (ptr t) .nil (.inl rfl)
 rw [dT] at hL
 refine FnM.walk 188 Tryz.func65 rfl Tryz.ntmps65 (by simp) fun X => ?_
 repeat
  (first
   | (refine aH (hL) (kk := ?_)) | (refine stp ?_; intros))
 refine aC (os := [_, _]) (zM t s f c p v) (kk := ?_)
 rintro _ _ ⟨rfl, es, rfl⟩
 repeat (refine stp ?_; intros)
 exact EK.bF [_, _] rfl rfl (by (repeat first | exact GU _ | apply List.Sublist.cons_cons | apply List.Sublist.cons)) ⟨rfl, es, rfl⟩
theorem zS (x : Value) (t : Tn) (p : List UInt8) (h : t = .nil ∨ ∃ v, t = .leaf p v) : Fn 64 [.v x, dT t, .bs p] (· = .val (.v .nilIface)) := by
 have hL := jF x t (h.imp id fun ⟨v, h⟩ => ⟨p, v, h⟩)
 have hE := rD p
 refine FnM.toFn ?_
 refine FnM.walk 122 Tryz.func64 rfl Tryz.ntmps64 (by simp) fun X => ?_
 rcases h with rfl | ⟨v, rfl⟩
 ·
  rw [dT] at hL ⊢
  repeat
   (first
    | (refine aH (hL) (kk := ?_)) | (refine stp ?_; intros))
  exact EK.bF [] rfl rfl (GU _) ⟨rfl, rfl⟩
 ·
  rw [dT] at hL ⊢
  repeat
   (first
    | (refine aH (hL) (kk := ?_)) | (refine aH (hE) (kk := ?_)) | (refine stp ?_; intros))
  exact EK.bF [] rfl rfl (GU _) ⟨rfl, rfl⟩
theorem zQ (x : Value) (p : List UInt8) : Fn 68 [.v x, .v .nilIface, .bs p] (· = .val (.bs [])) := by
 have hL := jF x .nil (.inl rfl)
 rw [dT] at hL
 refine FnM.toFn ?_
 refine FnM.walk 70 Tryz.func68 rfl Tryz.ntmps68 (by simp) fun X => ?_
 repeat
  (first
   | (refine aH (hL) (kk := ?_)) | (refine stp ?_; intros))
 exact EK.yI [] rfl rfl (RL.cons Rf.bs0 RL.nil) (GU _) ⟨rfl, rfl⟩
theorem zO (x : Value) (p v : List UInt8) : Fn 68 [.v x, dT (.leaf p v), .bs p] (· = .val (.bs v)) := by
 have hL := jF x (.leaf p v) (.inr ⟨p, v, rfl⟩)
 have hE := rD p
 refine FnM.toFn ?_
 refine FnM.walk 70 Tryz.func68 rfl Tryz.ntmps68 (by simp) fun X => ?_
 rw [dT] at hL ⊢
 repeat
  (first
   | (refine aH (hL) (kk := ?_)) | (refine aH (hE) (kk := ?_)) | (refine stp ?_; intros))
 exact EK.bF [] rfl rfl (GU _) ⟨rfl, rfl⟩
abbrev vbO (a : Nat) (v : List UInt8) : Obj := .var a 41 (.bs v)
abbrev vtO (b t : Nat) : Obj := .var b 51 (.v (ptr t))
theorem BR (a b d t s f : Nat) (u : Tn) (p : List UInt8) (h : u = .nil ∨ ∃ v, u = .leaf p v) : FnM 63 ([ptr a, ptr b, ptr d].map .v) [vbO a [], vtO b t, vbO d p, ntO t s (dT u) f] (fun r os' => r = .tpl [] ∧ os' = [vbO a [], vtO b t, vbO d p, ntO t s (.v .nilIface) f]) := by
 have hD := zS (ptr t) u p h
 simp only [G9, H9]
 refine FnM.walk 28 Tryz.func63 rfl Tryz.ntmps63 (by simp) fun X => ?_
 rcases h with rfl | ⟨v, rfl⟩
 ·
  rw [dT] at hD ⊢
  repeat (refine stp ?_; intros)
  refine EC.draw 8 (by kernel_rfl) ?_
  simp only [GN, GX, GL, GV]
  repeat
   (first
    | (refine dJ (hD) (kk := ?_)) | (refine sth ?_; intros))
  repeat (refine stp ?_; intros)
  exact EK.sS [vbO a [], vtO b t, vbO d p, ntO t s (.v .nilIface) f] rfl (by (repeat first | exact GU _ | apply List.Sublist.cons_cons | apply List.Sublist.cons)) ⟨rfl, rfl⟩
 ·
  rw [dT] at hD ⊢
  repeat (refine stp ?_; intros)
  refine EC.draw 8 (by kernel_rfl) ?_
  simp only [GN, GX, GL, GV]
  repeat
   (first
    | (refine dJ (hD) (kk := ?_)) | (refine sth ?_; intros))
  repeat (refine stp ?_; intros)
  exact EK.sS [vbO a [], vtO b t, vbO d p, ntO t s (.v .nilIface) f] rfl (by (repeat first | exact GU _ | apply List.Sublist.cons_cons | apply List.Sublist.cons)) ⟨rfl, rfl⟩
theorem BQ (a b d t s f c : Nat) (p v : List UInt8) (hv : 0 < v.length) (hl : v.length ≤ 140737488355328) : FnM 63 ([ptr a, ptr b, ptr d].map .v) [vbO a v, vtO b t, vbO d p, ntO t s (.v .nilIface) f, .it f (.map #[] c)] (fun r os' => r = .tpl [] ∧ ∃ es, os' = [vbO a v, vtO b t, vbO d p, ntO t s (dT (.leaf p v)) f, .it f (.map es (c + 1))]) := by
 have hC := vT v hl
 have hc0 : nC .eql (v.length : Int) 0 = some false := by
  simp only [nC, Ir, beq_eq_false_iff_ne]
  omega
 simp only [G9, H9]
 refine FnM.walk 28 Tryz.func63 rfl Tryz.ntmps63 (by simp) fun X => ?_
 repeat
  (first
   | (apply vZ (b := false); (iterate 2 rfl); exact hc0; iterate 2 rfl) | (refine stp ?_; intros))
 refine EC.le (Le.pick [3, 4, 0, 1, 2] [_, _, _, _, _] rfl (by decide) rfl) ?_
 refine EC.Dw 10 [0, 1, 2, 3, 4, 6, 7, 8] [5, 9] [_, _] _ (by kernel_rfl) (by kernel_rfl) rfl ?_
 simp only [bG, Je, List.filterMap_nil, Iw, List.getElem?_cons_succ]
 repeat
  (first
   | (refine dJ (hC) (kk := ?_)) | (refine sth ?_; intros))
 refine EM.nil ?_
 repeat (first | rw [G7] | rw [G6])
 refine CH.cut 1 ?_
 simp only [GN, GX, GL, GV]
 repeat (refine sth ?_; intros)
 refine EM.nil ?_
 repeat (first | rw [G7] | rw [G6])
 refine CH.F9 (os := [_, _]) (rest := []) (zK t s f c p v) (k := ?_)
 rintro _ _ ⟨rfl, es, rfl⟩
 try simp only [St.put]
 repeat (first | rw [G7] | rw [G6])
 refine CH.nil ?_
 try simp only [GL, GV]
 rw [dT]
 repeat (refine stp ?_; intros)
 refine EK.le (Le.pick [2, 3, 4, 0, 1] [_, _, _, _, _] rfl (by decide) rfl) ?_
 exact EK.sU [vbO a v, vtO b t, vbO d p, _, _] rfl (by (repeat first | exact GU _ | apply List.Sublist.cons_cons | apply List.Sublist.cons)) ⟨rfl, es, rfl⟩
theorem Ez (a b d t s f : Nat) (u : Tn) (k v : List UInt8) (hk : k.length ≤ 64) (h : u = .nil ∧ v = [] ∨ u = .leaf (split k) v) (hl : v.length ≤ 140737488355328) : FnM 67 ([ptr b, ptr a, ptr d].map .v) [vbO a k, vtO b t, .var d 41 (.v (.slice none 0 0)), ntO t s (dT u) f] (fun r os' => r = .tpl [] ∧ os' = [vbO a k, vtO b t, vbO d v, ntO t s (dT u) f]) := by
 have hC := vT v hl
 have hS := l9 k (by omega)
 simp only [G9, H9]
 refine FnM.walk 12 Tryz.func67 rfl Tryz.ntmps67 (by simp) fun X => ?_
 rcases h with ⟨rfl, rfl⟩ | rfl
 ·
  have hG := zQ (ptr t) (split k)
  rw [dT] at *
  repeat (refine stp ?_; intros)
  refine EC.draw 9 (by kernel_rfl) ?_
  simp only [GN, GX, GL, GV]
  repeat
   (first
    | (refine dJ (hS) (kk := ?_)) | (refine dJ (hG) (kk := ?_))
    | (refine dJ (hC) (kk := ?_)) | (refine sth ?_; intros))
  repeat (refine stp ?_; intros)
  exact EK.sU [vbO a k, vtO b t, _, _] rfl (by (repeat first | exact GU _ | apply List.Sublist.cons_cons | apply List.Sublist.cons)) ⟨rfl, rfl⟩
 ·
  have hG := zO (ptr t) (split k) v
  rw [dT] at *
  repeat (refine stp ?_; intros)
  refine EC.draw 9 (by kernel_rfl) ?_
  simp only [GN, GX, GL, GV]
  repeat
   (first
    | (refine dJ (hS) (kk := ?_)) | (refine dJ (hG) (kk := ?_))
    | (refine dJ (hC) (kk := ?_)) | (refine sth ?_; intros))
  repeat (refine stp ?_; intros)
  exact EK.sU [vbO a k, vtO b t, _, _] rfl (by (repeat first | exact GU _ | apply List.Sublist.cons_cons | apply List.Sublist.cons)) ⟨rfl, rfl⟩
theorem cap3 {x y z : Value} (h1 : x.oneCell' = true) (h2 : y.oneCell' = true) (h3 : z.oneCell' = true) : ∀ v ∈ [x, y, z], v.oneCell' = true := by
 intro v hv
 simp only [He, List.not_mem_nil, or_false] at hv
 rcases hv with rfl | rfl | rfl
 · exact h1
 · exact h2
 · exact h3
theorem BO (t : Value) (k v : List UInt8) (hL : lg (k, v) = true) : FnM 21 [.v t, .bs k, .bs v] [] (fun r os' => r = .val (.v (.int .i64 3)) ∧ os' = []) := by
 have h1 := mg (k, v)
 rw [hL] at h1
 refine FnM.walk 15 Tryz.func21 rfl Tryz.ntmps21 (by simp) fun X => ?_
 repeat
  (first
   | (refine aH (h1) (kk := ?_)) | (refine stp ?_; intros))
 exact EK.bF [] rfl rfl (GU _) ⟨rfl, rfl⟩
theorem vS (t s f : Nat) (u : Tn) (k : List UInt8) (hL : lg (k, []) = false) (hu : u = .nil ∨ ∃ v, u = .leaf (split k) v) : FnM 21 [.v (ptr t), .bs k, .bs []] [ntO t s (dT u) f] (fun r os' => r = .val (.v (.int .i64 0)) ∧ os' = [ntO t s (.v .nilIface) f]) := by
 have h1 := mg (k, [])
 rw [hL] at h1
 have hk : k.length ≤ 64 := by
  unfold lg at hL
  simp at hL
  omega
 have hS := l9 k (by omega)
 refine FnM.walk 15 Tryz.func21 rfl Tryz.ntmps21 (by simp) fun X => ?_
 repeat
  (first
   | (refine aH (h1) (kk := ?_)) | (refine aH (hS) (kk := ?_)) | (refine stp ?_; intros))
 rename_i gb ga gd
 refine EL.le (Le.pick [1, 2, 0, 3] [_, _, _, _] rfl (by decide) rfl) ?_
 refine aC (os := [_, _, _, _]) (pK (BR ga gb gd t s f u (split k) hu) (cap3 rfl rfl rfl) (by intro _ _; simp [go_sem])) (kk := ?_)
 rintro _ _ ⟨rfl, rfl, rfl⟩
 repeat (refine stp ?_; intros)
 exact EK.bF [ntO t s (.v .nilIface) f] rfl rfl (by (repeat first | exact GU _ | apply List.Sublist.cons_cons | apply List.Sublist.cons)) ⟨rfl, rfl⟩
theorem vP (t s f c : Nat) (k v : List UInt8) (hL : lg (k, v) = false) (hv : 0 < v.length) : FnM 21 [.v (ptr t), .bs k, .bs v] [ntO t s (.v .nilIface) f, .it f (.map #[] c)] (fun r os' => r = .val (.v (.int .i64 0)) ∧ ∃ es, os' = [ntO t s (dT (.leaf (split k) v)) f, .it f (.map es (c + 1))]) := by
 have h1 := mg (k, v)
 rw [hL] at h1
 have hk : k.length ≤ 64 ∧ v.length ≤ 1048576 := by
  unfold lg at hL
  simp at hL
  omega
 have hS := l9 k (by omega)
 refine FnM.walk 15 Tryz.func21 rfl Tryz.ntmps21 (by simp) fun X => ?_
 repeat
  (first
   | (refine aH (h1) (kk := ?_)) | (refine aH (hS) (kk := ?_)) | (refine stp ?_; intros))
 rename_i gb ga gd
 refine EL.le (Le.pick [1, 2, 0, 3, 4] [_, _, _, _, _] rfl (by decide) rfl) ?_
 refine aC (os := [_, _, _, _, _]) (pK (BQ ga gb gd t s f c (split k) v hv (by omega)) (cap3 rfl rfl rfl) (by intro _ _; simp [go_sem])) (kk := ?_)
 rintro _ _ ⟨rfl, es, rfl⟩
 rw [dT]
 repeat (refine stp ?_; intros)
 exact EK.bF [_, _] rfl rfl (by (repeat first | exact GU _ | apply List.Sublist.cons_cons | apply List.Sublist.cons)) ⟨rfl, es, rfl⟩
theorem BP (t : Value) (k : List UInt8) (hL : lg (k, []) = true) : FnM 22 [.v t, .bs k] [] (fun r os' => r = .tpl [.bs [], .v (.int .i64 0)] ∧ os' = []) := by
 have h1 := mg (k, [])
 rw [hL] at h1
 refine FnM.walk 14 Tryz.func22 rfl Tryz.ntmps22 (by simp) fun X => ?_
 repeat
  (first
   | (refine aH (h1) (kk := ?_)) | (refine stp ?_; intros))
 exact EK.kP [] rfl rfl rfl (RL.cons Rf.bs0 (RL.cons Rf.same RL.nil)) (GU _) ⟨rfl, rfl⟩
theorem zH (t s f : Nat) (u : Tn) (k v : List UInt8) (hL : lg (k, []) = false) (hu : u = .nil ∧ v = [] ∨ u = .leaf (split k) v) (hl : v.length ≤ 140737488355328) : FnM 22 [.v (ptr t), .bs k] [ntO t s (dT u) f] (fun r os' => r = .tpl [.bs v, .v (.int .i64 0)] ∧ os' = [ntO t s (dT u) f]) := by
 have h1 := mg (k, [])
 rw [hL] at h1
 have hk : k.length ≤ 64 := by
  unfold lg at hL
  simp at hL
  omega
 refine FnM.walk 14 Tryz.func22 rfl Tryz.ntmps22 (by simp) fun X => ?_
 repeat
  (first
   | (refine aH (h1) (kk := ?_)) | (refine stp ?_; intros))
 rename_i gb ga gd
 refine EL.le (Le.pick [1, 2, 0, 3] [_, _, _, _] rfl (by decide) rfl) ?_
 refine aC (os := [_, _, _, _]) (pK (Ez ga gb gd t s f u k v hk hu hl) (cap3 rfl rfl rfl) (by intro _ _; simp [go_sem])) (kk := ?_)
 rintro _ _ ⟨rfl, rfl, rfl⟩
 repeat (refine stp ?_; intros)
 exact EK.kP [ntO t s (dT u) f] rfl rfl rfl (aj.refl _ _) (by (repeat first | exact GU _ | apply List.Sublist.cons_cons | apply List.Sublist.cons)) ⟨rfl, rfl⟩



theorem rM : Bin .eql 118 (.v .nilIface) (.v .nilIface) (.bool true) := by
 refine ⟨rfl, fun ok w p q hp hq => ?_⟩
 obtain rfl := (ay.1 hp).2
 obtain rfl := (ay.1 hq).2
 exact ⟨fun x y => by cases x <;> cases y <;> kernel_rfl, by kernel_rfl⟩



def y8 (ts : List Tn) : List Tn := ts.filter fun t => !t.isNil
structure Dlt (ts R : List Tn) (k i : Nat) : Prop where
 len : R.length = ts.length
 ki : k < i
 le : i ≤ ts.length
 hd : R.take k = y8 (ts.take i)
 tl : R.drop i = ts.drop i
theorem Dlt.at_ {ts R : List Tn} {k i : Nat} (h : Dlt ts R k i) (hi : i < ts.length) : R[i]? = some ts[i] := by
 have h1 := congrArg (fun l => l[0]?) h.tl
 simp only [List.getElem?_drop, Nat.add_zero] at h1
 rw [h1, Hz hi]
theorem Dlt.skip {ts R : List Tn} {k i : Nat} (h : Dlt ts R k i) (hi : i < ts.length) (hn : ts[i].isNil = true) : Dlt ts R k (i + 1) :=
 ⟨h.len, by have := h.ki; omega, hi, by
  rw [h.hd, Hy hi]
  unfold y8
  rw [List.filter_append, List.filter_cons_of_neg (by simp [hn]), List.filter_nil, List.append_nil], by
  have := congrArg (List.drop 1) h.tl
  rwa [List.drop_drop, List.drop_drop] at this⟩
theorem Dlt.keep {ts R : List Tn} {k i : Nat} (h : Dlt ts R k i) (hi : i < ts.length) (hn : ts[i].isNil = false) : Dlt ts (R.set k ts[i]) (k + 1) (i + 1) :=
 ⟨by rw [List.length_set, h.len], by have := h.ki; omega, hi, by
  have hk : k < R.length := by rw [h.len]; have := h.ki; omega
  rw [Hy (by rw [List.length_set]; exact hk), List.getElem_set_self, List.take_set_of_le (Nat.le_refl _), h.hd, Hy hi]
  unfold y8
  rw [List.filter_append, List.filter_cons_of_pos (by simp [hn]), List.filter_nil], by
  have := congrArg (List.drop 1) h.tl
  rw [List.drop_drop, List.drop_drop] at this
  rw [List.drop_set_of_lt (by have := h.ki; omega)]
  exact this⟩
def dNd (x : List UInt8 × List UInt8) : D := .tup [.arr 32 x.1, .bs x.2]
end E
end Go.Proofs.YtaoicebcdmpemaaGreat
namespace Go.Proofs.YtaoicebcdmpemaaGreat
set_option linter.unusedVariables false
open Go.RowKit Mono Rlp
open Go.ChangeMaps (setBlock)
namespace E
abbrev Ky (n : Nat) := {l : List UInt8 // l.length = n}
def kv {n : Nat} (k : Ky n) : Value := aX k.1
theorem yO {es : List MapEntry} (hn : (es.map (·.born)).Nodup) {e : MapEntry} (he : e ∈ es) : es.Perm (e :: es.filter fun x => x.born != e.born) := by
 induction es with
 | nil => cases he
 | cons y es ih =>
  simp only [G9, IX] at hn
  rcases He.1 he with rfl | he
  ·
   have : es.filter (fun x => x.born != e.born) = es := List.filter_eq_self.2 fun x hx => by
    have : x.born ≠ e.born := fun h => hn.1 (h ▸ Hq.2 ⟨x, hx, rfl⟩)
    simpa using this
   simp [this]
  ·
   have hne : y.born ≠ e.born := fun h => hn.1 (h ▸ Hq.2 ⟨e, he, rfl⟩)
   have : (y :: es).filter (fun x => x.born != e.born) = y :: es.filter (fun x => x.born != e.born) := by simp [hne]
   rw [this]
   exact ((ih hn.2 he).cons y).trans (List.Perm.swap e y _)
theorem qM (es : Array MapEntry) (seen : Array Nat) (b : Nat) : (leftOf es (seen.push b)).toList = (leftOf es seen).toList.filter fun x => x.born != b := by
 unfold leftOf
 rw [Array.toList_filter, Array.toList_filter, List.filter_filter]
 refine List.filter_congr fun x _ => ?_
 rw [contains_push]
 cases seen.contains x.born <;> cases h : x.born == b <;> simp [bne, h]
def Rng (w : World) (b r : Nat) (es : Array MapEntry) (clock : Nat) (ss : List Value) (cnt : Nat) : Prop :=
 ∃ since seen c0, w.heap[b]? = some (.map es clock) ∧ w.heap[r]? = some (.mapIter (some b) since seen c0) ∧ (∀ x ∈ es.toList, x.born < since) ∧ since ≤ c0 ∧ since ≤ clock ∧ (leftOf es seen).size = cnt ∧ (ss ++ (leftOf es seen).toList.map (·.key)).Perm (es.toList.map (·.key))
variable {w : World} {b r cnt clock : Nat} {es : Array MapEntry} {ss : List Value}
theorem Rng.left_eq (h : Rng w b r es clock ss cnt) : w.rangeLeft b r = cnt := by
 obtain ⟨since, seen, c0, hb, hr, _, _, _, hc, _⟩ := h
 simp only [World.rangeLeft, hb, hr]
 exact hc
theorem Rng.le (h : Rng w b r es clock ss cnt) : ss.length + cnt = es.size := by
 obtain ⟨since, seen, c0, _, _, _, _, _, hc, hp⟩ := h
 have := hp.length_eq
 simp at this
 omega
theorem Rng.iter (h : Rng w b r es clock ss cnt) : ∃ o : Go.Obj, w.heap[r]? = some o ∧ o.isWalk = true := by
 obtain ⟨since, seen, c0, _, hr, _⟩ := h
 exact ⟨_, hr, rfl⟩
theorem Rng.lt (h : Rng w b r es clock ss cnt) : b < w.heap.size ∧ r < w.heap.size := by
 obtain ⟨since, seen, c0, hb, hr, _⟩ := h
 exact ⟨(Hg.1 hb).1, (Hg.1 hr).1⟩
theorem Rng.kept {w' : World} (h : Rng w b r es clock ss cnt) (hb : w'.heap[b]? = w.heap[b]?) (hr : w'.heap[r]? = w.heap[r]?) : Rng w' b r es clock ss cnt := by
 obtain ⟨since, seen, c0, h1, h2, rest⟩ := h
 exact ⟨since, seen, c0, hb.trans h1, hr.trans h2, rest⟩
theorem Rng.walks {w' : World} (h : Rng w b r es clock ss cnt) (hk : KeepsWalks w w') : Rng w' b r es clock ss cnt := by
 obtain ⟨since, seen, c0, h1, h2, rest⟩ := h
 exact ⟨since, seen, c0, hk.same _ _ h1 rfl, hk.same _ _ h2 rfl, rest⟩
theorem Rng.start (hb : w.heap[b]? = some (.map es clock)) (hl : ∀ x ∈ es.toList, x.born < clock) : Rng (w.alloc (.mapIter (some b) clock #[] clock)) b w.heap.size es clock [] es.size := by
 have hlt := (Hg.1 hb).1
 refine ⟨clock, #[], clock, ((Ip w _).2 b hlt).trans hb, (Ip w _).1, hl, Nat.le_refl _, Nat.le_refl _, ?_, ?_⟩
 · simp [leftOf]
 ·
  simp [leftOf]
  rw [List.filter_eq_self.2 fun _ _ => rfl]
theorem Rng.next (h : Rng w b r es clock ss cnt) (hn : (es.toList.map (·.born)).Nodup) (ty : TypeId) :
  (cnt = 0 ∧ ss.Perm (es.toList.map (·.key)) ∧ (Instr.next (.pointer (some ⟨r, 0, none⟩)) false ty).run Tryz.prog w = .ok (.tuple #[.bool false]) w) ∨
  ∃ e ∈ es.toList, ∃ w' cnt', (Instr.next (.pointer (some ⟨r, 0, none⟩)) false ty).run Tryz.prog w = .ok (.tuple #[.bool true, e.key, e.val]) w' ∧ Rng w' b r es clock (ss ++ [e.key]) cnt' ∧ cnt' < cnt ∧ w.grownBy w' (some r) ∧ w'.heap.size = w.heap.size ∧ (Instr.entry (.pointer (some ⟨r, 0, none⟩))).run Tryz.prog w' = .ok (.tuple #[e.key, e.val]) w' := by
 obtain ⟨since, seen, c0, hb, hr, hold, hsc, hsk, rfl, hp⟩ := h
 have hne : r ≠ b := fun e => by rw [e, hb] at hr; cases hr
 rcases run_next_at (P := Tryz.prog) w ty r b since c0 seen es clock hr hb hold hsc with ⟨h0, hrun⟩ | ⟨e, he, w1, hal, hrun⟩
 ·
  refine .inl ⟨h0, ?_, hrun⟩
  have : leftOf es seen = #[] := Array.eq_empty_of_size_eq_zero h0
  rw [this] at hp
  simpa using hp
 ·
  obtain ⟨hem, hes⟩ := mem_left he
  have hr1 : w1.heap[r]? = some (.mapIter (some b) since seen c0) := by rcases hal with rfl | rfl <;> exact hr
  have hb1 : w1.heap[b]? = some (.map es clock) := by rcases hal with rfl | rfl <;> exact hb
  have hset := MapKept.heap_set (o' := .mapIter (some b) since (seen.push e.born) clock) hr1
  have hb' : (setBlock w1 r (.mapIter (some b) since (seen.push e.born) clock)).heap[b]? = some (.map es clock) := (hset.2 b (fun e1 => hne e1.symm)).trans hb1
  refine .inr ⟨e, hem, _, _, hrun, ⟨since, seen.push e.born, clock, hb', hset.1, hold, hsk, hsk, rfl, ?_⟩, left_shrinks es seen e he, ?_, ?_, run_entry_at _ r b since seen es clock e hset.1 hb' hem hn⟩
  ·
   have hnl : ((leftOf es seen).toList.map (·.born)).Nodup := by
    unfold leftOf
    rw [Array.toList_filter]
    exact hn.sublist (List.filter_sublist.map _)
   have h1 := (yO hnl he).map (·.key)
   rw [← qM] at h1
   refine List.Perm.trans ?_ hp
   rw [Ib]
   exact (List.Perm.append_left ss h1).symm
  · rcases hal with rfl | rfl <;> exact ⟨rfl, rfl, rfl, by simp [setBlock], fun i _ hi => hset.2 i (fun e1 => hi (by rw [e1]))⟩
  · rcases hal with rfl | rfl <;> simp [setBlock]
section
variable {n : Nat} {ops : Array Oper} {rest : List Oper} {o : Oper} {a : Act} {Q : Exit → Act → World → Prop} {F : Fence}
theorem pz (hg : o.guard = none) (ha : ∀ f, o.about Tryz.prog w a.eval = some f → F.fn f) (hd : ∀ c, o.op ≠ .defer c) {v : Value} {w' : World} (hr : (execOp a.eval o).run Tryz.prog w = .ok (.value v) w') (k : wpListIn F n Tryz.prog ops Q rest (a.put o.dst v) w') : wpListIn F n Tryz.prog ops Q (o :: rest) a w := by
 refine wpListIn_plain hg fun K hK => ⟨ha, ?_⟩
 rw [Oper.semAt_plain F _ _ hd, hr]
 exact hK _ _ k
theorem zh (hg : o.guard = none) (m : Operand) (t k e : TypeId) (hop : o.op = Op.range t m) (ht : Tryz.prog.underlying t = some (.map k e)) (hm : a.eval m = .map (some b)) (hb : w.heap[b]? = some (.map es clock))
  (K : wpListIn F n Tryz.prog ops Q rest (a.put o.dst (.pointer (some ⟨w.heap.size, 0, none⟩))) (w.alloc (.mapIter (some b) clock #[] clock))) : wpListIn F n Tryz.prog ops Q (o :: rest) a w := by
 refine pz hg (by simp [Oper.about, hop]) (by rw [hop]; intro c h; cases h) ?_ K
 simp [execOp, hop, hm, run_range_map w t k e b es clock ht hb, Result.andThen]
theorem BG (hg : o.guard = none) (it : Operand) (hop : o.op = Op.next it false) (hit : a.eval it = .pointer (some ⟨r, 0, none⟩)) (h : Rng w b r es clock ss cnt) (hn : (es.toList.map (·.born)).Nodup)
  (hDone : cnt = 0 → ss.Perm (es.toList.map (·.key)) → wpListIn F n Tryz.prog ops Q rest (a.put o.dst (.tuple #[.bool false])) w)
  (hMore : ∀ (e : MapEntry) (w' : World) (cnt' : Nat), e ∈ es.toList → Rng w' b r es clock (ss ++ [e.key]) cnt' → cnt' < cnt → w.grownBy w' (some r) → w'.heap.size = w.heap.size → (Instr.entry (.pointer (some ⟨r, 0, none⟩))).run Tryz.prog w' = .ok (.tuple #[e.key, e.val]) w' → wpListIn F n Tryz.prog ops Q rest (a.put o.dst (.tuple #[.bool true, e.key, e.val])) w') :
  wpListIn F n Tryz.prog ops Q (o :: rest) a w := by
 rcases h.next hn o.type with ⟨h0, hp, hrun⟩ | ⟨e, he, w', cnt', hrun, hrg, hlt, hgr, hsz, hen⟩
 ·
  refine pz hg (by simp [Oper.about, hop]) (by rw [hop]; intro c h; cases h) ?_ (hDone h0 hp)
  simp [execOp, hop, hit, hrun, Result.andThen]
 ·
  refine pz hg (by simp [Oper.about, hop]) (by rw [hop]; intro c h; cases h) ?_ (hMore e w' cnt' he hrg hlt hgr hsz hen)
  simp [execOp, hop, hit, hrun, Result.andThen]
theorem zf {g t : Nat} {l : List UInt8} {cs : List Value} (hg : o.guard = none) (T : TypeId) (x y : Operand) (hop : o.op = Op.store T x y) (hT : assoc tyL T = some (l.length, true)) (hx : a.eval x = .pointer (some ⟨g, 0, none⟩)) (hy : a.eval y = aX l) (hb : w.heap[g]? = some (.cells cs.toArray t (0, 0))) (hs : cs.length = l.length)
  (K : ∀ w', w'.heap[g]? = some (.cells (bvs l).toArray t (0, 0)) → w.grownBy w' (some g) → w'.heap.size = w.heap.size → wpListIn F n Tryz.prog ops Q rest (a.put o.dst undef) w') : wpListIn F n Tryz.prog ops Q (o :: rest) a w := by
 have hr : Reads (fun _ => True) w (.arr l.length l) (bvs l) := by rw [Reads]; exact ⟨rfl, rfl⟩
 obtain ⟨_, _, _, hT'⟩ := tyI hT
 have hrun := jY (T := T) (n := 0) (pre := []) (mid := cs) (post := []) (by rw [hT', Reads.len _ _ hr]; rfl) hr (by simpa using hb) rfl (by rw [aO, hs])
 have hset := dU (bvs l) [] cs [] w (by rw [aO, hs]) (by simpa using hb)
 simp only [List.length_nil, G6, List.append_nil] at hset
 have hsz : (w.setCells g 0 (bvs l)).heap.size = w.heap.size := by
  have h : ∀ (vs : List Value) (k : Nat) (w : World), (w.setCells g k vs).heap.size = w.heap.size := fun vs => by
   induction vs with
   | nil => intro k w; rfl
   | cons v vs ih =>
    intro k w
    rw [World.setCells, ih]
    show (w.heap.modify _ _).size = _
    rw [Array.size_modify]
  exact h _ _ _
 refine wpListIn_plain hg fun K' hK => ⟨by simp [Oper.about, hop], ?_⟩
 rw [Oper.semAt_plain F _ _ (by rw [hop]; intro c h; cases h)]
 have hrun' : (Instr.storeAt T (.pointer (some ⟨g, 0, none⟩)) (aX l)).run Tryz.prog w = .ok () (w.setCells g 0 (bvs l)) := hrun
 simp only [execOp, hop, hx, hy, GR, hrun', GK, GY]
 exact hK _ _ (K _ hset (cu g (bvs l) 0 w) hsz)
theorem BH {g t : Nat} {l : List UInt8} (hg : o.guard = none) (T : TypeId) (x : Operand) (hop : o.op = Op.load T x) (hT : assoc tyL T = some (l.length, true)) (hx : a.eval x = .pointer (some ⟨g, 0, none⟩)) (hb : w.heap[g]? = some (.cells (bvs l).toArray t (0, 0)))
  (K : wpListIn F n Tryz.prog ops Q rest (a.put o.dst (aX l)) w) : wpListIn F n Tryz.prog ops Q (o :: rest) a w := by
 have hr : Reads (fun _ => True) w (.arr l.length l) (bvs l) := by rw [Reads]; exact ⟨rfl, rfl⟩
 refine pz hg (by simp [Oper.about, hop]) (by rw [hop]; intro c h; cases h) ?_ K
 have hrun : (Instr.loadAt T (.pointer (some ⟨g, 0, none⟩))).run Tryz.prog w = .ok (aX l) w := fU (d := .arr l.length l) (tyI hT) hr (dV hb)
 simp only [execOp, hop, hx, GR, hrun, GK, GY]
end
end E
end Go.Proofs.YtaoicebcdmpemaaGreat
namespace Go.Proofs.YtaoicebcdmpemaaGreat
set_option linter.unusedVariables false
set_option maxHeartbeats 2000000
open Go.RowKit Mono Rlp
open Go.ChangeMaps (setBlock)
namespace E
set_option maxRecDepth 100000 in
theorem uw (n l Bm b : Nat) (hn1 : 1 ≤ n) (es : Array MapEntry) (clock : Nat) (J Jx : List (Ky 32) → World → Prop)
  (hY : ∀ pre x W, J pre W → pre.length < es.size → YieldAt Fence.wide (n - 1) Tryz.prog l #[kv x] W fun e W' => (e = .returned (.bool true) ∧ J (pre ++ [x]) W' ∧ KeepsWalks W W') ∨ (e = .returned (.bool false) ∧ Jx (pre ++ [x]) W'))
  (W : World) (hJ : AbidesFrom W.heap.size J) (hm : W.cell? ⟨Bm, 0, none⟩ = some (.map (some b))) (hb : W.heap[b]? = some (.map es clock)) (hn : (es.toList.map (·.born)).Nodup) (hl : ∀ x ∈ es.toList, x.born < clock) (hkey : ∀ x ∈ es.toList, ∃ k : Ky 32, x.key = kv k) (h0 : J [] W) :
  CallsIn Fence.wide n Tryz.prog 131 #[.func (.yield l) #[] #[], .pointer (some ⟨Bm, 0, none⟩)] W fun e W' => (∃ v, e = .returned v) ∧ ((∃ ss : List (Ky 32), (ss.map kv).Perm (es.toList.map (·.key)) ∧ J ss W') ∨ (∃ pre : List (Ky 32), True ∧ Jx pre W')) := by
 refine callsIn_of_wp Tryz.func131 rfl trivial ?_ rfl
 simp only [Tryz.ntmps131, List.size_toArray, H8, List.length_nil, Nat.reduceAdd, Nat.reduceSub, Array.replicate_succ, Array.replicate_zero, List.push_toArray, List.append_toArray, G6, G7]
 have hrg0 := Rng.start hb hl
 have hJ0 := hJ [] W _ none h0 (World.grownBy_alloc W (.mapIter (some b) clock #[] clock) none) (fun r e => by cases e)
 have hlt0 : W.heap.size < (W.alloc (.mapIter (some b) clock #[] clock)).heap.size := by simp
 gi_wp2_with (first
  | (gi_at_range; refine zh rfl _ 88 36 41 rfl Tryz.underlying88 rfl hb ?_)
  | gi_in)
 go_frame
 generalize W.alloc (.mapIter (some b) clock #[] clock) = w0 at hrg0 hJ0 hlt0 ⊢
 gi_loopw [3] (fun _ wr => ∃ (cnt : Nat) (ss : List (Ky 32)), Rng wr b W.heap.size es clock (ss.map kv) cnt ∧ J ss wr)
  (fun _ wr => wr.rangeLeft b W.heap.size)
 case atStart =>
  exact ⟨_, [], hrg0, hJ0⟩
 case round =>
  obtain ⟨cnt, ss, hrg, hJs⟩ := hrel
  gi_wp2_with (first
   | (gi_at_next; refine BG rfl _ rfl rfl hrg hn ?_ ?_)
   | gi_in)
  ·
   intro hc0 hp
   gi_wp2
   go_end0
   exact ⟨⟨_, rfl⟩, .inl ⟨ss, hp, hJs⟩⟩
  ·
   intro e w2 cnt2 he hrg2 hlt hg2 hs2 hen
   obtain ⟨x, hx⟩ := hkey e (by simpa using he)
   have hlen : ss.length < es.size := by have := hrg.le; simp at this; omega
   have hJ2 : J ss w2 := hJ ss wr w2 (some W.heap.size) hJs hg2 (fun r e => by cases e; exact ⟨Nat.le_refl _, hrg.iter⟩)
   rw [hx] at hen hrg2 ⊢
   clear hs2
   have hlt2 := hrg2.lt
   gi_wp2_with (first
    | (
      guard_target = wpListIn _ _ _ _ _ (Oper.mk _ (Op.store _ _ _) _ _ _ _ :: _) _ _; refine zf (l := x.1) (cs := List.replicate 32 (.int .u8 0)) rfl _ _ _ rfl (by rw [x.2]; rfl) rfl rfl (World.alloc_heap_new w2 _) (by rw [x.2]; rfl) ?_
      intro w4 hb4 hg4 hs4
      have hg24 : w2.grownBy w4 none := ⟨hg4.os.trans rfl, hg4.tape.trans rfl, hg4.output.trans rfl, by rw [hs4]; simp, fun i hi _ => (hg4.block i (by simp; omega) (fun e => by cases e; omega)).trans ((Ip w2 _).2 i hi)⟩
      have hJ4 : J ss w4 := hJ ss w2 w4 none hJ2 hg24 (fun r e => by cases e)
      have hrg4 := hrg2.kept (hg24.block b hlt2.1 (by simp)) (hg24.block W.heap.size hlt2.2 (by simp))
      obtain ⟨fn, tmps, assign, body, hy, hR⟩ := hY ss x w4 hJ4 hlen
      rw [show kv x = aX x.1 from rfl] at hy
      have hb4' := Lib.hid hb4
      clear hb4 hs4 hg4 hg24)
    | (guard_target = wpListIn _ _ _ _ _ (Oper.mk _ (Op.load _ _) _ _ _ _ :: _) _ _; refine BH (l := x.1) rfl _ _ rfl (by rw [x.2]; rfl) rfl hb4'.out ?_)
    | gi_in)
   refine hR.mono ?_
   rintro e W3 (⟨rfl, hJ3, hk3⟩ | ⟨rfl, hJx3⟩)
   ·
    gi_wp2
    have hrg3 := hrg4.walks hk3
    go_roundw
    case rel => exact ⟨cnt2, ss ++ [x], by simpa using hrg3, hJ3⟩
    case measure => rw [hrg3.left_eq, hrg.left_eq]; exact hlt
   ·
    gi_wp2
    refine bodyPost_ret (results_none rfl _ _ _) rfl ?_
    exact ⟨⟨_, rfl⟩, .inr ⟨ss ++ [x], trivial, hJx3⟩⟩
end E
end Go.Proofs.YtaoicebcdmpemaaGreat
namespace Go.Proofs.YtaoicebcdmpemaaGreat
set_option linter.unusedVariables false
set_option maxHeartbeats 4000000
open Go.RowKit Mono Rlp
namespace E
theorem Bc {l n : Nat} {P : Program} {row : String} {args : Array Value} {w : World} {R : Value → World → Prop} (h : Rows P row args w R) : RowsIn (Fence.wide.inRound l) n P row args w R := fun c cs _ => by
 obtain ⟨v, w', h1, h2⟩ := h c cs
 exact ⟨v, w', h1, stepsIn_wide.2 h2⟩
theorem FI {l n : Nat} {P : Program} {o : Oper} {a : Act} {w : World} {K K' : Act → World → Prop} {Q : Exit → Act → World → Prop} (hQ : ¬ LetsOut Q) (hd : ∀ c, o.op ≠ .defer c) (hK : ∀ a w, K a w → K' a w) (h : o.wp P a w K Q ∨ (o.asks P a w ∧ LetsOut Q)) : o.wpIn (Fence.wide.inRound l) n P a w K' Q := by
 rcases h with h | ⟨_, h⟩
 ·
  refine ⟨fun _ _ => trivial, ?_⟩
  rw [Oper.semAt_plain _ _ _ hd]
  unfold Oper.wp at h
  cases hr : (execOp a.eval o).run P w with
  | ok x w' =>
   rw [hr] at h
   cases x with
   | value v => exact hK _ _ h
   | skip => exact hK _ _ h
   | defer d => exact hK _ _ h
   | enter f args =>
    refine ⟨fun h => by simp [Fence.wide] at h, CallsIn.inRound l (callsIn_wide.2 (Calls.mono h ?_))⟩
    intro e w'' he
    cases e with
    | returned v => exact hK _ _ he
    | panicked c => exact he
    | outgrown => exact he
   | row row args => exact ⟨fun h => by simp [Fence.wide] at h, Bc (fun c cs => by obtain ⟨v, w', h1, h2⟩ := h c cs; exact ⟨v, w', hK _ _ h1, h2⟩)⟩
   | _ => exact h.elim
  | halt x w' =>
   rw [hr] at h
   cases x <;> first | exact h | exact h.elim
 · exact absurd h hQ
theorem o9 {l n : Nat} {P : Program} {ops : Array Oper} {Q : Exit → Act → World → Prop} (hQ : ¬ LetsOut Q) : ∀ (rest : List Oper), (∀ o ∈ rest, ∀ c, o.op ≠ .defer c) → ∀ a w, wpList P ops Q rest a w → wpListIn (Fence.wide.inRound l) n P ops Q rest a w
 | [], _, a, w, h => h
 | o :: rest, hd, a, w, h => by
  rw [wpList] at h
  rw [wpListIn]
  have ih := o9 (l := l) (n := n) (P := P) (ops := ops) hQ rest fun o ho => hd o (Ic _ ho)
  split
  ·
   rename_i hw
   rw [if_pos hw] at h
   exact FI hQ (hd o (by simp)) ih h
  ·
   rename_i hw
   rw [if_neg hw] at h
   exact ⟨fun _ _ => trivial, ih _ _ h⟩
def kc {n : Nat} (k : Ky n) : List Value := bvs k.1
def dK {n : Nat} (k : Ky n) : D := .arr n k.1
theorem fF {ok : Nat → Prop} {w : World} {n : Nat} : ∀ (ks : List (Ky n)), ah ok w n (ks.map dK) (ks.map kc)
 | [] => by rw [H9, ah]; rfl
 | k :: ks => by
  rw [G9, ah]
  exact ⟨kc k, _, rfl, by unfold kc; rw [aO, k.2], by unfold dK; rw [Reads]; exact ⟨k.2, rfl⟩, fF ks⟩
theorem jR {ok : Nat → Prop} {w : World} {n : Nat} : ∀ (ks : List (Ky n)) (rows : List (List Value)), ah ok w n (ks.map dK) rows → rows = ks.map kc
 | [], rows, h => by rw [H9, ah] at h; exact h
 | k :: ks, rows, h => by
  rw [G9, ah] at h
  obtain ⟨r, rest, rfl, _, h2, h3⟩ := h
  unfold dK at h2
  rw [Reads] at h2
  rw [jR ks rest h3, h2.2]
  rfl
theorem Bg {w : World} {e : TypeId} {z : Nat} {v : Value} {k : Nat} {xs : List Value} {base : Nat} (h : w.ownsRow 0 e z v k xs) (hb : ∀ b, v.ownBlock = some b → base ≤ b) : w.ownsRow base e z v k xs := by
 refine ⟨h.1, h.2.imp id fun ⟨g, cap, cur, h1, h2, h3⟩ => ⟨g, cap, cur, h1, hb g (by rw [h1]; rfl), h3⟩⟩
theorem qF {w : World} {e : TypeId} {z : Nat} {v : Value} {k : Nat} {xs : List Value} {base : Nat} (h : w.ownsRow base e z v k xs) : w.ownsRow 0 e z v k xs :=
 ⟨h.1, h.2.imp id fun ⟨g, cap, cur, h1, _, h3⟩ => ⟨g, cap, cur, h1, I8 _, h3⟩⟩
theorem qE {w : World} {e : TypeId} {z : Nat} {v : Value} {k : Nat} {xs : List Value} {base : Nat} (h : w.ownsRow base e z v k xs) : v.oneCell' = true := by
 rcases h.2 with ⟨rfl, _⟩ | ⟨g, cap, cur, rfl, _⟩ <;> rfl
set_option maxRecDepth 100000 in
theorem mQ (n : Nat) (hn : 2 ≤ n) (gf : Nat) (lb : Array Value) (eg : ∀ args w, (callFunc gf args).run Tryz.prog w = .ok (.enter gf args) w) (S Sp : List (Ky 32) → Prop) (N : Nat) (hN : N * 32 ≤ 140737488355328) (w : World)
  (hseq : SeqStopsK Fence.wide (n - 1) Tryz.prog gf lb (fun x : Ky 32 => #[kv x]) KeepsWalks S Sp N w) :
  CallsIn Fence.wide n Tryz.prog 155 #[.slice none 0 0, .func (.func gf) #[] lb] w fun e W' => ∃ v ss, e = .returned v ∧ S ss ∧ W'.ownsRow w.heap.size 36 32 v ss.length (ss.map kc).flatten ∧ (v = .slice none 0 0 ↔ ss = []) ∧ Below w.heap.size w W' := by
 refine callsIn_of_wp_marks Tryz.func155 rfl trivial ?_ rfl
 simp only [Tryz.ntmps155, List.size_toArray, H8, List.length_nil, Nat.reduceAdd, Nat.reduceSub, Array.replicate_succ, Array.replicate_zero, List.push_toArray, List.append_toArray, G6, G7]
 gi_wp2
 have bO := Boxed.new w 69 (.slice none 0 0)
 have hB0 : Below w.heap.size w (w.alloc (.cells #[.slice none 0 0] 69)) := (Below.refl _ w).alloc (Nat.le_refl _) _
 refine wpIn_rangeFunc_ownH rfl (by omega) (gf := gf) (lb := lb) rfl trivial eg hseq walksK_t walksK_b hB0 (fun _ => rfl)
  (fun pre W => (∃ v, Boxed W w.heap.size 69 v ∧ W.ownsRow w.heap.size 36 32 v pre.length (pre.map kc).flatten ∧ (v = .slice none 0 0 ↔ pre = [])) ∧ Below w.heap.size w W)
  (fun _ _ _ => False)
  (OwnFrom.and (Own.from (holdsRow_own w.heap.size w.heap.size 69 36 32 (fun pre : List (Ky 32) => pre.length) (fun pre => (pre.map kc).flatten) (fun pre v => v = .slice none 0 0 ↔ pre = [])) _) (ownFrom_below (Nat.le_refl _) (by simp)))
  (fun _ _ _ _ _ hs _ _ => hs)
  ⟨⟨_, bO, World.ownsRow_nil _ _ _ _, by simp⟩, hB0⟩
  (fun x a' W => ∃ Bx v, w.heap.size < Bx ∧ Boxed W w.heap.size 69 v ∧ v.ownBlock ≠ some Bx ∧ W.heap[Bx]? = some (.cells (bvs x.1).toArray 36 (0, 0)) ∧ a'.tmps.size = 13 ∧ a'.defers = [] ∧ a'.tmps.getD 2 undef = .pointer (some ⟨w.heap.size, 0, none⟩) ∧ a'.tmps.getD 5 undef = .pointer (some ⟨Bx, 0, none⟩))
  ?hAx ?assign ?body ?done ?stop
 case hAx =>
  rintro x a' s X Y row ⟨Bx, v, h1, h2, h3, h4, h5⟩ hg hr
  refine ⟨Bx, v, h1, h2.kept hg fun e => ?_, h3, (hg.block Bx (Hg.1 h4).1 fun e => ?_).trans h4, h5⟩
  ·
   obtain ⟨_, o, ho, hc⟩ := hr _ e.symm
   rw [show X.heap[w.heap.size]? = _ from h2] at ho
   cases ho
   cases hc
  ·
   obtain ⟨_, o, ho, hc⟩ := hr _ e.symm
   rw [h4] at ho
   cases ho
   cases hc
 case assign =>
  rintro l pre x W K ⟨⟨v, hv, hrow, hnil⟩, hB⟩ hK
  have e : ((#[7] : Array Tmp).zip #[kv x]).foldl (fun t (p, v) => t.setIfInBounds p v) #[.slice none 0 0, .func (.func gf) #[] lb, .pointer (some ⟨w.heap.size, 0, none⟩), undef, .slice none 0 0, undef, .func (.func gf) #[] lb, undef, undef, undef, undef, undef, undef] = #[.slice none 0 0, .func (.func gf) #[] lb, .pointer (some ⟨w.heap.size, 0, none⟩), undef, .slice none 0 0, undef, .func (.func gf) #[] lb, kv x, undef, undef, undef, undef, undef] := by simp
  rw [e]
  refine wpIn_region_lit (o9 (fun ⟨_, _, h⟩ => h) _ (by simp) _ _ ?_)
  have hat : At (⟨W, fun _ => False, fun _ => False, fun _ h => h.elim⟩ : Cx 13) ⟨[(7, .val (.arr 32 x.1)), (2, .val (.v (.pointer (some ⟨w.heap.size, 0, none⟩))))], [], []⟩ { tmps := #[.slice none 0 0, .func (.func gf) #[] lb, .pointer (some ⟨w.heap.size, 0, none⟩), undef, .slice none 0 0, undef, .func (.func gf) #[] lb, kv x, undef, undef, undef, undef, undef], defers := [] } W := by
   refine ⟨⟨.refl _, .nil, fun o ho => by simp at ho, fun f hf => by simp at hf⟩, fun t r h => ?_, rfl, rfl⟩
   simp only [look] at h
   split at h
   ·
    rename_i e
    subst e
    cases h
    exact ⟨bvs x.1, by rw [Reads]; exact ⟨x.2, rfl⟩, rfl⟩
   ·
    split at h
    ·
     rename_i e
     subst e
     cases h
     exact ay.2 ⟨rfl, rfl⟩
    · cases h
  refine EL.go (Q := Exit.then K (fun _ _ _ => False)) (S := ⟨[(7, .val (.arr 32 x.1)), (2, .val (.v (.pointer (some ⟨w.heap.size, 0, none⟩))))], [], []⟩) ?_ _ _ hat
  repeat (refine stp ?_; intros)
  refine ⟨fun a1 w1 h1 => ?_⟩
  rename_i Bx
  obtain ⟨⟨hgr, _, hat1, _⟩, hregs, hsz, hdf⟩ := h1
  obtain ⟨hbx, cs, hheap, hrd⟩ := hat1 _ (G8 ..)
  rw [Reads] at hrd
  rw [hrd.2] at hheap
  have hbx' : W.heap.size ≤ Bx := hbx.resolve_left id
  have hg : W.grownBy w1 none := ⟨hgr.os, hgr.tape, hgr.output, hgr.size, fun i hi _ => hgr.block i hi id⟩
  have hvl := hv.lt
  exact hK a1 w1 ((KeepsOthers.of_grownBy hg fun j o e _ => by cases e).from _) (KeepsWalks.of_grownBy hg fun j o e => by cases e) ⟨⟨v, hv.kept hg (by simp), hrow.kept hg (by cases v.ownBlock with | none => exact .inl rfl | some k => exact .inr (by simp)), hnil⟩, hB.grown hg hB.size fun k e => by cases e⟩
   ⟨Bx, v, by omega, hv.kept hg (by simp), fun e => by have := (hrow.lt _ e).2; omega, hheap, hsz, hdf, (ay.1 (hregs 2 _ rfl)).2, (ay.1 (hregs 5 _ rfl)).2⟩
 case body =>
  rintro l pre x a' W hl hrec ⟨⟨v, hv, hrow, hnil⟩, hB⟩ ⟨Bx, v2, h1, hv2, hne, hbx, hsz, hdf, ht2, ht5⟩ hlen
  obtain rfl : v2 = v := by
   have := (show W.heap[w.heap.size]? = _ from hv2).symm.trans hv
   simpa using this
  have hnr := hv.not_row (by decide) hrow
  have hlow : ∀ b, (b = w.heap.size ∨ b = Bx ∨ v2.ownBlock = some b) → w.heap.size ≤ b := fun b hb => by
   rcases hb with rfl | rfl | hb
   · exact Nat.le_refl _
   · omega
   · exact (hrow.lt _ hb).1
  have hcell : ∀ b o, (b = w.heap.size ∨ b = Bx ∨ v2.ownBlock = some b) → W.heap[b]? = some o → o.isCells = true ∧ o.isWalk = false := fun b o hb ho => by
   rcases hb with rfl | rfl | hb
   ·
    rw [show W.heap[w.heap.size]? = _ from hv] at ho
    cases ho
    exact ⟨rfl, rfl⟩
   ·
    rw [hbx] at ho
    cases ho
    exact ⟨rfl, rfl⟩
   ·
    rcases hrow.2 with ⟨rfl, _⟩ | ⟨g, cap, cur, rfl, _, hgb, _⟩
    · cases hb
    ·
     obtain rfl : g = b := by simpa [Value.ownBlock] using hb
     rw [hgb] at ho
     cases ho
     exact ⟨rfl, rfl⟩
  refine wpIn_block (wpIn_region_lit (o9 (fun ⟨_, _, h⟩ => h) _ (by simp) _ _ ?_))
  have hat : At (⟨W, fun _ => False, fun b => b = w.heap.size ∨ b = Bx ∨ v2.ownBlock = some b, fun _ h => h.elim⟩ : Cx 13) ⟨[(5, .val (.v (.pointer (some ⟨Bx, 0, none⟩)))), (2, .val (.v (.pointer (some ⟨w.heap.size, 0, none⟩))))], [.var w.heap.size 69 (.v v2), .row v2 36 32 (pre.map dK), .var Bx 36 (.arr 32 x.1)], []⟩ a' W := by
   refine ⟨⟨.refl _, ?_, fun o ho => ?_, fun f hf => by simp at hf⟩, fun t r h => ?_, hsz, hdf⟩
   ·
    refine .cons (fun p hp b hb => ?_) (.cons (fun p hp b hb => ?_) (.cons (fun p hp => by simp at hp) .nil))
    ·
     obtain rfl : w.heap.size = b := by simpa [Obj.blk] using hb
     rcases He.1 hp with rfl | hp
     · exact fun e => hnr e.symm
     ·
      obtain rfl : p = _ := by simpa using hp
      simp only [Obj.blk, ne_eq, Ir]
      omega
    ·
     obtain rfl : p = _ := by simpa using hp
     simp only [Obj.blk] at hb ⊢
     exact fun e => hne (hb.trans e.symm)
   ·
    rcases He.1 ho with rfl | ho
    · exact ⟨.inl (.inl rfl), [v2], hv, by rw [Reads]; exact ⟨qE hrow, rfl⟩⟩
    ·
     rcases He.1 ho with rfl | ho
     ·
      refine ⟨pre.map kc, ⟨?_, fun b hb => .inl (.inr (.inr hb))⟩, fF pre⟩
      rw [HY]
      exact qF hrow
     ·
      obtain rfl : o = _ := by simpa using ho
      exact ⟨.inl (.inr (.inl rfl)), bvs x.1, hbx, by rw [Reads]; exact ⟨x.2, rfl⟩⟩
   ·
    simp only [look] at h
    split at h
    ·
     rename_i e
     subst e
     cases h
     exact ay.2 ⟨rfl, ht5⟩
    ·
     split at h
     ·
      rename_i e
      subst e
      cases h
      exact ay.2 ⟨rfl, ht2⟩
     · cases h
  refine EL.go (S := ⟨[(5, .val (.v (.pointer (some ⟨Bx, 0, none⟩)))), (2, .val (.v (.pointer (some ⟨w.heap.size, 0, none⟩))))], [.var w.heap.size 69 (.v v2), .row v2 36 32 (pre.map dK), .var Bx 36 (.arr 32 x.1)], []⟩) ?_ _ _ hat
  have hml : (pre.map dK).length = pre.length := HY _
  have hl1 : ([D.arr 32 x.1] : List D).length = 1 := rfl
  repeat (refine stp ?_; intros)
  refine ⟨fun a1 w1 h1 => ?_⟩
  rename_i v'
  obtain ⟨⟨hgr, _, hat1, _⟩, hregs, hsz', hdf'⟩ := h1
  obtain ⟨_, cs, hbox, hrd⟩ := hat1 _ (G8 ..)
  rw [Reads] at hrd
  rw [hrd.2] at hbox
  obtain ⟨rows, ⟨hrow', hbase⟩, hrows⟩ := hat1 _ (Ic _ (G8 ..))
  have hds : pre.map dK ++ [D.arr 32 x.1] = (pre ++ [x]).map dK := by simp [dK]
  rw [hds] at hrow' hrows
  rw [jR _ _ hrows, HY] at hrow'
  have hown := Bg (base := w.heap.size) hrow' fun b hb => by
   rcases hbase b hb with h | h
   · exact hlow b h
   · exact Ia hB.size h
  have hsame : ∀ k, k < W.heap.size → ¬ (k = w.heap.size ∨ k = Bx ∨ v2.ownBlock = some k) → w1.heap[k]? = W.heap[k]? := hgr.block
  refine ⟨⟨hgr.size, fun k o _ h0 ho => ?_⟩, ⟨hgr.size, fun k o h0 ho => ?_⟩, ⟨⟨v', hbox, hown, ?_⟩, hB.trans ⟨hgr.os, hgr.tape, hgr.output, hgr.size, fun k hk => ?_⟩⟩⟩
  ·
   refine (hsame k (Hg.1 h0).1 fun h => ?_).trans h0
   rw [(hcell k o h h0).1] at ho
   cases ho
  ·
   refine (hsame k (Hg.1 h0).1 fun h => ?_).trans h0
   rw [(hcell k o h h0).2] at ho
   cases ho
  ·
   constructor
   ·
    rintro rfl
    rcases hown.2 with ⟨_, h0⟩ | ⟨g, cap, cur, h0, _⟩
    · simp at h0
    · simp at h0
   ·
    intro h
    simp at h
  · exact hsame k (by have := hB.size; omega) fun h => by have := hlow k h; omega
 case done =>
  rintro D ys W hD hS ⟨⟨v, hv, hrow, hnil⟩, hB⟩ hK
  have hc := hv.cell
  gi_wp2
  refine ⟨by simp, .inl ⟨_, _, rfl, run_takeDeferred hK, ?_⟩⟩
  exact ⟨_, results_tmp rfl _ _ _, v, ys, rfl, hS, ownsRow_putObj hrow _ hK rfl, hnil, hB.trans (belowK_b (w := w) (Nat.le_refl _) W D _ _ (by simp at hD; omega) hK rfl rfl)⟩
 case stop =>
  rintro D c pre W _ _ h _
  exact h.elim
end E
end Go.Proofs.YtaoicebcdmpemaaGreat
