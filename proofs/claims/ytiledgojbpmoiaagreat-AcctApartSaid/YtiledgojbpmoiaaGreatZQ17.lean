/-
 Merged (wip/tools/merge.py): TP2, TP3, TP4, ERet, AN0, TS1, SortP.
 Conditions: none.
-/
import Derived.Test.YtiledgojbpmoiaaGreatZQ12
import Derived.Test.YtiledgojbpmoiaaGreatZQ14
import Derived.Test.YtiledgojbpmoiaaGreatZQ11
import Derived.Test.YtiledgojbpmoiaaGreatZQ16
import Derived.Test.YtiledgojbpmoiaaGreatZQ10
import Derived.Test.YtiledgojbpmoiaaGreatZQ6
import Derived.Laws.Pointers
import Derived.Shelf.SlSortCmp.WholeK
import Derived.Shelf.SlSortCmp.NoneTotal
import Derived.Shelf.SlGeneric
import Derived.Ground.SlsfProg
import Derived.Test.YtiledgojbpmoiaaGreatRows
namespace Go.Proofs.YtiledgojbpmoiaaGreat
set_option linter.unusedVariables false
set_option maxRecDepth 20000
set_option maxHeartbeats 8000000
open Go.RowKit Mono Rlp
namespace E
theorem FnM.VX {f : FuncId} {ds : List D} {os : List Obj} {Φ : R → List Obj → Prop} (e z : Nat) (h : FnM f ds os (fun r os' => ∃ v ds' rest, r = .val (.v v) ∧ os' = .row v e z ds' :: rest ∧ Φ (.val (.sl z ds')) rest)) : FnM f ds os Φ := ⟨fun ok w xs h1 h2 h3 => (h.go ok w xs h1 h2 h3).mono fun en w' ⟨u, r, os', e1, ⟨v, ds', rest, e2, e3, hΦ⟩, ht, hv⟩ => by
 subst e2 e3
 obtain rfl := (bf.1 hv).2
 have hk : ∀ b, okM ok os w (.row u e z ds' :: rest) w' b → okM ok os w rest w' b := fun b hb => ⟨hb.1, hb.2.1, fun o ho => hb.2.2 o (List.mem_cons_of_mem _ ho)⟩
 obtain ⟨rows, ⟨g1, hmine⟩, g2⟩ := ht.at_ (.row u e z ds') List.mem_cons_self
 have hap := List.pairwise_cons.1 ht.apart
 refine ⟨u, .val (.sl z ds'), rest, e1, hΦ, ⟨ht.gr, hap.2, fun o ho => (ht.at_ o (List.mem_cons_of_mem _ ho)).move hk (fun _ _ => rfl) fun _ _ => rfl⟩, ?_⟩
 obtain ⟨A, c, rfl, hc1, hc2⟩ := dB g1
 refine (cu rfl).2 ?_
 rw [Reads]
 refine ⟨A, c, rows, rfl, hc1, hc2, fun e => by subst e; exact FP g1, fun hn => ?_, ay.mono hk (fun _ _ => rfl) z ds' rows g2⟩
 obtain ⟨b, o, rfl, hb, hc⟩ := JZ g1 hn
 exact ⟨b, o, rfl, ⟨(hmine b rfl).elim (fun h => .inr (.inl h)) (fun h => .inr (.inr h)), hb.2, fun p hp e => hap.1 p hp b rfl e⟩, hc⟩⟩
inductive Tn where
 | nil
 | leaf (p v : List UInt8)
 | ext (p : List UInt8) (k : Tn)
 | br (ks : Nat → Tn) (v : List UInt8)
def dT : Tn → D
 | .nil => .v .nilIface
 | .leaf p v => .ifc 233 (.pd (.tup [.bs p, .bs v]))
 | .ext p k => .ifc 237 (.pd (.tup [.bs p, dT k]))
 | .br ks v => .ifc 241 (.pd (.tup [.tup ((List.range 16).map fun i => dT (ks i)), .bs v]))
theorem iT (t : Tn) : (dT t).size = 1 ∧ (dT t).agg = false := by cases t <;> exact ⟨rfl, rfl⟩
def pkB (x : Raw) : List UInt8 := (packed x).getD []
def vC (x : Raw) : Raw := if (pkB x).length < 32 then x else .mk false (hash (pkB x)) []
def Tn.isNil : Tn → Bool
 | .nil => true
 | _ => false
def gI : Tn → Raw
 | .nil => .mk true [] []
 | .leaf p v => .mk true [] [.mk false (ppk p true) [], .mk false v []]
 | .ext p k => .mk true [] [.mk false (ppk p false) [], if k.isNil then .mk false [] [] else vC (gI k)]
 | .br ks v => .mk true [] ((List.range 16).map (fun i => if (ks i).isNil then .mk false [] [] else vC (gI (ks i))) ++ [.mk false v []])
def mD (t : Tn) : Raw := if t.isNil then .mk false [] [] else vC (gI t)
def sumT (t : Tn) : List UInt8 := if t.isNil then oU else hash (pkB (gI t))
def Tn.ok : Tn → Prop
 | .nil => True
 | .leaf p v => p.length ≤ 536870912
 | .ext p k => p.length ≤ 536870912 ∧ k.ok
 | .br ks v => ∀ i, (ks i).ok
theorem NM (l : List UInt8) : FnM 185 [.sl 1 [.bs l]] [] (fun r os' => ∃ v, r = .val (.v v) ∧ os' = [.row v 157 3 [bJ (.mk false l [])]]) := by
 refine FnM.walk 19 Tryz.func185 rfl Tryz.ntmps185 (by simp) fun X => ?_
 repeat
  (first
   | (apply au; iterate 3 rfl) | (apply aj; iterate 3 rfl) | (apply aB; iterate 4 rfl) | apply EL.nil | ((with_reducible apply EK.ah); apply EK.code)
   | (with_reducible first | apply EC.seq | apply EC.region | apply EC.block))
 refine EC.le (Le.row 157 3) ?_
 refine EC.BA 2 (EK.round ?_)
 repeat
  (first
   | (apply zX (d' := bJ (.mk false l [])); (iterate 5 rfl); (focus ((exact RL.a))); iterate 2 rfl) | (apply au; iterate 3 rfl) | (apply aj; iterate 3 rfl)
   | (apply aK; iterate 5 rfl) | (apply aA (b := true); (iterate 2 rfl); exact aG; iterate 2 rfl)
   | (apply aA (b := false); (iterate 2 rfl); exact aG; iterate 2 rfl) | (apply eU; (iterate 3 rfl); (focus omega); (focus omega); iterate 2 rfl)
   | (apply aX; (iterate 4 rfl); (focus (first | exact ⟨by decide, rfl⟩ | (refine ⟨by omega, ?_⟩; rw [Int.toNat_natCast]; assumption))); iterate 2 rfl)
   | (apply jo; iterate 9 rfl)
   | ((apply fJ; rfl; (focus (repeat first | exact .z | apply aY.s | apply aN.s)); (iterate 5 rfl); (focus (constructor <;> (first | (simp; done) | (simp; omega))))); intro _)
   | ((with_reducible apply EK.ah); apply EK.round) | apply EL.nil | ((with_reducible apply EK.ah); apply EK.code) | (apply EC.cond_true; rfl) | (apply EC.cond_false; rfl)
   | (with_reducible first | apply EC.seq | apply EC.region | apply EC.skip | apply EC.block | apply EC.exit | apply EC.ret | apply EK.aF | apply EK.aZ | apply EK.aH))
 rename_i v
 exact EK.Tm rfl rfl ⟨v, rfl, rfl⟩
theorem TV (l m : List UInt8) : FnM 185 [.sl 1 [.bs l, .bs m]] [] (fun r os' => ∃ v, r = .val (.v v) ∧ os' = [.row v 157 3 [bJ (.mk false l []), bJ (.mk false m [])]]) := by
 refine FnM.walk 19 Tryz.func185 rfl Tryz.ntmps185 (by simp) fun X => ?_
 repeat
  (first
   | (apply au; iterate 3 rfl) | (apply aj; iterate 3 rfl) | (apply aB; iterate 4 rfl) | apply EL.nil | ((with_reducible apply EK.ah); apply EK.code)
   | (with_reducible first | apply EC.seq | apply EC.region | apply EC.block))
 refine EC.le (Le.row 157 3) ?_
 refine EC.BA 3 (EK.round ?_)
 repeat
  (first
   | (apply zX (d' := bJ (.mk false l [])); (iterate 5 rfl); (focus ((exact RL.a))); iterate 2 rfl)
   | (apply zX (d' := bJ (.mk false m [])); (iterate 5 rfl); (focus ((exact RL.a))); iterate 2 rfl) | (apply au; iterate 3 rfl) | (apply aj; iterate 3 rfl)
   | (apply aK; iterate 5 rfl) | (apply aA (b := true); (iterate 2 rfl); exact aG; iterate 2 rfl)
   | (apply aA (b := false); (iterate 2 rfl); exact aG; iterate 2 rfl) | (apply eU; (iterate 3 rfl); (focus omega); (focus omega); iterate 2 rfl)
   | (apply aX; (iterate 4 rfl); (focus (first | exact ⟨by decide, rfl⟩ | (refine ⟨by omega, ?_⟩; rw [Int.toNat_natCast]; assumption))); iterate 2 rfl)
   | (apply jo; iterate 9 rfl)
   | ((apply fJ; rfl; (focus (repeat first | exact .z | apply aY.s | apply aN.s)); (iterate 5 rfl); (focus (constructor <;> (first | (simp; done) | (simp; omega))))); intro _)
   | ((with_reducible apply EK.ah); apply EK.round) | apply EL.nil | ((with_reducible apply EK.ah); apply EK.code) | (apply EC.cond_true; rfl) | (apply EC.cond_false; rfl)
   | (with_reducible first | apply EC.seq | apply EC.region | apply EC.skip | apply EC.block | apply EC.exit | apply EC.ret | apply EK.aF | apply EK.aZ | apply EK.aH))
 rename_i v
 exact EK.Tm rfl rfl ⟨v, rfl, rfl⟩
theorem Pq (l : List UInt8) : Fn 185 [.sl 1 [.bs l]] (· = .val (.sl 3 [bJ (.mk false l [])])) :=
 (FnM.VX (Φ := fun r os' => r = .val (.sl 3 [bJ (.mk false l [])]) ∧ os' = []) 157 3 ((NM l).mono fun r os' ⟨v, h1, h2⟩ => ⟨v, _, [], h1, h2, rfl, rfl⟩)).toFn
theorem Po (l m : List UInt8) : Fn 185 [.sl 1 [.bs l, .bs m]] (· = .val (.sl 3 [bJ (.mk false l []), bJ (.mk false m [])])) :=
 (FnM.VX (Φ := fun r os' => r = .val (.sl 3 [bJ (.mk false l []), bJ (.mk false m [])]) ∧ os' = []) 157 3 ((TV l m).mono fun r os' ⟨v, h1, h2⟩ => ⟨v, _, [], h1, h2, rfl, rfl⟩)).toFn
theorem KG (T : TypeId) (d : D) : Bin .eql 125 (.ifc T d) (.v .nilIface) (.bool false) := by
 refine ⟨rfl, fun ok w p q hp hq => ?_⟩
 obtain rfl := (bf.1 hq).2
 obtain ⟨cs, h1, rfl⟩ := hp
 rw [Reads] at h1
 obtain ⟨cs', rfl, _⟩ := h1
 exact ⟨fun x y => by simp [eqGuard, form, D.agg], run_eql_held_nil _ _ _ _ (by kernel_rfl)⟩
theorem Hr : Bin .eql 125 (.v .nilIface) (.v .nilIface) (.bool true) := by
 refine ⟨rfl, fun ok w p q hp hq => ?_⟩
 obtain rfl := (bf.1 hp).2
 obtain rfl := (bf.1 hq).2
 exact ⟨fun x y => by cases x <;> cases y <;> kernel_rfl, by kernel_rfl⟩
theorem PY {t : Tn} (h : t.isNil = false) : ∃ T d, dT t = .ifc T d ∧ Nat.beq T 167 = false := by
 cases t with
 | nil => cases h
 | leaf p v => exact ⟨_, _, by rw [dT], rfl⟩
 | ext p k => exact ⟨_, _, by rw [dT], rfl⟩
 | br ks v => exact ⟨_, _, by rw [dT], rfl⟩
theorem zB (t : Tn) (h : Fn 138 [dT t] (· = .val (bJ (gI t)))) : Fn 91 [dT t] (· = .val (.bs (pkB (gI t)))) := by
 have h1 := Jp (gI t)
 unfold pkB
 refine Fn.walk 12 Tryz.func91 rfl Tryz.ntmps91 (by simp) fun X => ?_
 cases hp : packed (gI t) with
 | none =>
  rw [hp] at h1
  repeat
   (first
    | (apply aJ (h); rfl; exact ak.refl _ _; exact enA; iterate 2 rfl) | (apply aJ (h1); rfl; exact ak.refl _ _; exact enA; iterate 2 rfl)
    | (apply au; iterate 3 rfl) | (apply aj; iterate 3 rfl) | (apply aS; iterate 4 rfl) | apply EL.nil | ((with_reducible apply EK.ah); apply EK.code)
    | (with_reducible first | apply EC.seq | apply EC.region | apply EC.ret))
  refine EK.VA rfl rfl ?_ rfl
  (exact RL.a)
 | some b =>
  rw [hp] at h1
  repeat
   (first
    | (apply aJ (h); rfl; exact ak.refl _ _; exact enA; iterate 2 rfl) | (apply aJ (h1); rfl; exact ak.refl _ _; exact enA; iterate 2 rfl)
    | (apply au; iterate 3 rfl) | (apply aj; iterate 3 rfl) | (apply aS; iterate 4 rfl) | apply EL.nil | ((with_reducible apply EK.ah); apply EK.code)
    | (with_reducible first | apply EC.seq | apply EC.region | apply EC.ret))
  exact EK.fV rfl rfl rfl
theorem G5 (t : Tn) (h : t.isNil = false → Fn 138 [dT t] (· = .val (bJ (gI t)))) : Fn 186 [dT t] (· = .val (bJ (mD t))) := by
 unfold mD
 cases hn : t.isNil with
 | true =>
  cases t with
  | nil =>
   rw [if_pos rfl]
   have hb := Hr
   have e : dT Tn.nil = .v .nilIface := rfl
   rw [e]
   refine Fn.walk 31 Tryz.func186 rfl Tryz.ntmps186 (by simp) fun X => ?_
   repeat
    (first
     | (apply iU; (iterate 2 rfl); exact hb; iterate 2 rfl) | (apply au; iterate 3 rfl) | (apply fE; iterate 7 rfl)
     | (apply aV; rfl; rfl; rfl; intro _) | (apply aO; rfl; (focus (repeat first | exact .z | apply aY.s | apply aN.s)); iterate 4 rfl) | apply EL.nil
     | ((with_reducible apply EK.ah); apply EK.code) | (apply EC.cond_true; rfl) | (with_reducible first | apply EC.seq | apply EC.region | apply EC.ret | apply EK.aI))
   refine EK.jF 0 rfl rfl rfl rfl ?_ rfl
   (exact RL.a)
  | leaf p v => cases hn
  | ext p k => cases hn
  | br ks v => cases hn
 | false =>
  rw [if_neg (by decide)]
  have h1 := h hn
  have h2 := zB t h1
  obtain ⟨T, d, e, hne⟩ := PY hn
  rw [e] at h1 h2 ⊢
  have hb := KG T d
  unfold vC
  refine Fn.walk 31 Tryz.func186 rfl Tryz.ntmps186 (by simp) fun X => ?_
  by_cases hl : (pkB (gI t)).length < 32
  ·
   rw [if_pos hl]
   have hli : ((pkB (gI t)).length : Int) < 32 := by omega
   generalize gI t = x at *
   obtain ⟨xb, xl, xs⟩ := x
   rw [bJ] at h1
   repeat
    (first
     | (apply iU; (iterate 2 rfl); exact hb; iterate 2 rfl) | (apply zY; rfl; rfl; exact hne; iterate 3 rfl)
     | (apply aJ (h2); rfl; exact ak.refl _ _; exact enA; iterate 2 rfl) | (apply aJ (h1); rfl; exact ak.refl _ _; exact enA; iterate 2 rfl)
     | (apply au; iterate 3 rfl) | (apply aj; iterate 3 rfl) | (apply aS; iterate 4 rfl)
     | (apply aA (b := true); (iterate 2 rfl); exact aG; iterate 2 rfl) | (apply dU; iterate 4 rfl) | (apply aV; rfl; rfl; rfl; intro _)
     | (apply aO; rfl; (focus (repeat first | exact .z | apply aY.s | apply aN.s)); iterate 4 rfl) | apply EL.nil | ((with_reducible apply EK.ah); apply EK.code)
     | (apply EC.cond_true; rfl) | (apply EC.cond_false; rfl) | (with_reducible first | apply EC.seq | apply EC.region | apply EC.skip | apply EC.ret | apply EK.aI))
   refine EK.jF 1 rfl rfl rfl rfl ?_ rfl
   (exact RL.a)
  ·
   rw [if_neg hl]
   have hli : ¬ ((pkB (gI t)).length : Int) < 32 := by omega
   have h3 := qV (pkB (gI t))
   repeat
    (first
     | (apply iU; (iterate 2 rfl); exact hb; iterate 2 rfl) | (apply zY; rfl; rfl; exact hne; iterate 3 rfl)
     | (apply aJ (h2); rfl; exact ak.refl _ _; exact enA; iterate 2 rfl) | (apply aJ (h3); rfl; exact ak.refl _ _; exact enA; iterate 2 rfl)
     | (apply au; iterate 3 rfl) | (apply aj; iterate 3 rfl) | (apply aS; iterate 4 rfl)
     | (apply aA (b := false); (iterate 2 rfl); exact aG; iterate 2 rfl) | (apply dU; iterate 4 rfl) | (apply jo; iterate 9 rfl)
     | (apply aV; rfl; rfl; rfl; intro _) | (apply aO; rfl; (focus (repeat first | exact .z | apply aY.s | apply aN.s)); iterate 4 rfl) | apply EL.nil
     | ((with_reducible apply EK.ah); apply EK.code) | (apply EC.cond_false; rfl) | (with_reducible first | apply EC.seq | apply EC.region | apply EC.skip))
   refine EL.le (Le.pin (p := 6) (pre := []) rfl rfl) ?_
   repeat
    (first
     | (apply lY jQ; iterate 6 rfl) | (apply fE; iterate 7 rfl)
     | (apply aO; rfl; (focus (repeat first | exact .z | apply aY.s | apply aN.s)); iterate 4 rfl) | apply EL.nil | ((with_reducible apply EK.ah); apply EK.code)
     | (with_reducible apply EC.ret))
   refine EK.jF 1 rfl rfl rfl rfl ?_ rfl
   (exact RL.a)
theorem PO (t : Tn) (h : t.isNil = false → Fn 138 [dT t] (· = .val (bJ (gI t)))) : Fn 70 [dT t] (· = .val (.arr 32 (sumT t))) := by
 unfold sumT
 cases hn : t.isNil with
 | true =>
  cases t with
  | nil =>
   rw [if_pos rfl]
   have hb := Hr
   have h1 := BR
   have e : dT Tn.nil = .v .nilIface := rfl
   rw [e]
   refine Fn.walk 19 Tryz.func70 rfl Tryz.ntmps70 (by simp) fun X => ?_
   repeat
    (first
     | (apply iU; (iterate 2 rfl); exact hb; iterate 2 rfl) | (apply aJ (h1); rfl; exact ak.refl _ _; exact enA; iterate 2 rfl) | (apply au; iterate 3 rfl)
     | (apply aV; rfl; rfl; rfl; intro _) | (apply aO; rfl; (focus (repeat first | exact .z | apply aY.s | apply aN.s)); iterate 4 rfl) | apply EL.nil
     | ((with_reducible apply EK.ah); apply EK.code) | (apply EC.cond_true; rfl) | (with_reducible first | apply EC.seq | apply EC.region | apply EC.ret | apply EK.aI))
   refine EK.jF 0 rfl rfl rfl rfl ?_ rfl
   (exact RL.a)
  | leaf p v => cases hn
  | ext p k => cases hn
  | br ks v => cases hn
 | false =>
  rw [if_neg (by decide)]
  have h2 := zB t (h hn)
  obtain ⟨T, d, e, hne⟩ := PY hn
  rw [e] at h2 ⊢
  have hb := KG T d
  have h3 := qV (pkB (gI t))
  refine Fn.walk 19 Tryz.func70 rfl Tryz.ntmps70 (by simp) fun X => ?_
  repeat
   (first
    | (apply iU; (iterate 2 rfl); exact hb; iterate 2 rfl) | (apply zY; rfl; rfl; exact hne; iterate 3 rfl)
    | (apply aJ (h2); rfl; exact ak.refl _ _; exact enA; iterate 2 rfl) | (apply aJ (h3); rfl; exact ak.refl _ _; exact enA; iterate 2 rfl)
    | (apply au; iterate 3 rfl) | (apply aj; iterate 3 rfl) | (apply aS; iterate 4 rfl) | (apply jo; iterate 9 rfl)
    | (apply aV; rfl; rfl; rfl; intro _) | (apply aO; rfl; (focus (repeat first | exact .z | apply aY.s | apply aN.s)); iterate 4 rfl) | apply EL.nil
    | ((with_reducible apply EK.ah); apply EK.code) | (apply EC.cond_false; rfl) | (with_reducible first | apply EC.seq | apply EC.region | apply EC.skip | apply EC.ret))
  refine EK.jF 1 rfl rfl rfl rfl ?_ rfl
  (exact RL.a)
theorem QY (ks : Nat → Tn) (l : List Nat) : D.sizes (l.map fun i => dT (ks i)) = l.length := by
 induction l with
 | nil => rfl
 | cons i l ih => rw [List.map_cons, D.sizes, (iT _).1, ih, List.length_cons, Nat.add_comm]
theorem sub_one {d : D} (h : ∃ k : Tn, d = dT k) : d.sub 0 1 false = some d := by
 obtain ⟨k, rfl⟩ := h
 cases k <;> (rw [dT]; simp [D.sub])
theorem NS (p : List UInt8) (k : Tn) : (D.tup [.bs p, dT k]).sub 0 1 false = some (.bs p) := by
 simp [D.sub, D.vk, D.size]
theorem NR (p : List UInt8) (k : Tn) : (D.tup [.bs p, dT k]).sub 1 1 false = some (dT k) := by
 have := sub_one ⟨k, rfl⟩
 simp [D.sub, D.vk, D.size, (iT k).1, this]
theorem QU {ds : List D} (v : List UInt8) (h : D.sizes ds = 16) : (D.tup [.tup ds, .bs v]).sub 0 16 true = some (.tup ds) := by
 simp [D.sub, D.vk, D.size, D.sizes, h]
theorem QT {ds : List D} (v : List UInt8) (h : D.sizes ds = 16) : (D.tup [.tup ds, .bs v]).sub 16 1 false = some (.bs v) := by
 simp [D.sub, D.vk, D.size, D.sizes, h]
theorem TW {ds : List D} (h : D.sizes ds = 16) : (D.tup ds).sub 0 16 true = some (.tup ds) := by
 simp [D.sub, h]
theorem MK (p v : List UInt8) (hp : p.length ≤ 536870912) : Fn 138 [dT (.leaf p v)] (· = .val (bJ (gI (.leaf p v)))) := by
 have h1 := Kz p true hp
 have h2 := Po (ppk p true) v
 rw [dT, gI]
 refine Fn.walk 85 Tryz.func138 rfl Tryz.ntmps138 (by simp) fun X => ?_
 repeat
  (first
   | (apply aJ (h1); rfl; exact ak.refl _ _; exact enA; iterate 2 rfl) | (apply aJ (h2); rfl; exact ak.refl _ _; exact enA; iterate 2 rfl)
   | (apply au; iterate 3 rfl) | (apply aj; iterate 3 rfl) | (apply dF; iterate 6 rfl) | (apply aP; iterate 7 rfl)
   | (apply aS; iterate 4 rfl) | (apply aK; iterate 5 rfl) | (apply dA; rfl; exact I.a; iterate 4 rfl) | (apply fE; iterate 7 rfl)
   | (apply jo; iterate 9 rfl) | (apply wu; iterate 3 rfl) | (apply Ea; iterate 4 rfl) | (apply aV; rfl; rfl; rfl; intro _)
   | (apply aO; rfl; (focus (repeat first | exact .z | apply aY.s | apply aN.s)); iterate 4 rfl) | apply EL.nil | ((with_reducible apply EK.ah); apply EK.code)
   | (apply EC.cond_true; rfl) | (with_reducible first | apply EC.seq | apply EC.region | apply EC.block | apply EC.ret | apply EK.aF))
 refine EK.jF 1 rfl rfl rfl rfl ?_ rfl
 (exact RL.a)
theorem OO (p : List UInt8) (k : Tn) (hp : p.length ≤ 536870912) (hk : Fn 186 [dT k] (· = .val (bJ (mD k)))) : Fn 138 [dT (.ext p k)] (· = .val (bJ (gI (.ext p k)))) := by
 have h1 := Kz p false hp
 have h2 := NM (ppk p false)
 have he : gI (.ext p k) = .mk true [] [.mk false (ppk p false) [], mD k] := by rw [gI, mD]
 rw [he, dT]
 clear he
 generalize mD k = x at hk ⊢
 obtain ⟨xb, xl, xs⟩ := x
 rw [bJ] at hk
 rw [show bJ (.mk true [] [.mk false (ppk p false) [], .mk xb xl xs]) = .tup [.v (.bool true), .bs [], .sl 3 [bJ (.mk false (ppk p false) []), .tup [.v (.bool xb), .bs xl, .sl 3 (kS xs)]]] from rfl]
 refine Fn.walk 85 Tryz.func138 rfl Tryz.ntmps138 (by simp) fun X => ?_
 repeat
  (first
   | (apply aJ (h1); rfl; exact ak.refl _ _; exact enA; iterate 2 rfl) | (apply aP; (iterate 4 rfl); exact NS _ _; iterate 2 rfl)
   | (apply au; iterate 3 rfl) | (apply aj; iterate 3 rfl) | (apply aS; iterate 4 rfl) | (apply aK; iterate 5 rfl)
   | (apply fE; iterate 7 rfl) | (apply wu; iterate 3 rfl) | (apply Ea; iterate 4 rfl) | (apply zY; iterate 6 rfl)
   | (apply aV; rfl; rfl; rfl; intro _) | (apply aO; rfl; (focus (repeat first | exact .z | apply aY.s | apply aN.s)); iterate 4 rfl) | apply EL.nil
   | ((with_reducible apply EK.ah); apply EK.code) | (apply EC.cond_true; rfl) | (apply EC.cond_false; rfl) | (with_reducible first | apply EC.seq | apply EC.region | apply EC.block))
 refine EC.jm 11 [0, 3, 4, 5, 6, 10] [1, 2, 7, 8, 9] [] _ (by kernel_rfl) (by kernel_rfl) rfl ?_
 simp only [aQ, List.filterMap_cons, List.filterMap_nil, List.getElem?_cons_zero, List.getElem?_cons_succ]
 repeat
  (first
   | (apply aW; (iterate 4 rfl); exact NR _ _; iterate 2 rfl) | (apply bG; (iterate 2 rfl); exact sub_one ⟨_, rfl⟩; iterate 2 rfl)
   | (apply aU; iterate 3 rfl) | (apply bH; iterate 6 rfl) | (apply CJ; iterate 3 rfl))
 refine EM.nil ?_
 repeat (first | rw [List.cons_append] | rw [List.nil_append])
 refine CH.cut 1 ?_
 simp only [List.take_succ_cons, List.take_zero, List.drop_succ_cons, List.drop_zero]
 repeat
  (first
   | (apply kP; iterate 9 rfl))
 refine EM.nil ?_
 repeat (first | rw [List.cons_append] | rw [List.nil_append])
 refine CH.V3 (os := []) (rest := []) h2 rfl rfl (ak.refl _ _) (by intro _ _; simp [go_sem]) rfl rfl ?_
 rintro _ _ ⟨v, rfl, rfl⟩
 try simp only [St.put]
 repeat (first | rw [List.cons_append] | rw [List.nil_append])
 refine CH.cut 2 ?_
 simp only [List.take_succ_cons, List.take_zero, List.drop_succ_cons, List.drop_zero]
 repeat
  (first
   | (apply bP (hk); rfl; exact ak.refl _ _; exact enA; iterate 2 rfl) | (apply kP; iterate 9 rfl))
 refine EM.nil ?_
 repeat (first | rw [List.cons_append] | rw [List.nil_append])
 refine CH.mut (os := [_]) (rest := []) rfl rfl (fZ rfl rfl rfl rfl rfl (by constructor <;> simp)) ?_
 rintro _ _ ⟨v', rfl, rfl⟩
 try simp only [St.put]
 repeat (first | rw [List.cons_append] | rw [List.nil_append])
 refine CH.nil ?_
 try simp only [List.drop_succ_cons, List.drop_zero]
 refine EL.le (Le.freeze (pre := []) rfl) ?_
 simp only [List.nil_append]
 repeat
  (first
   | (apply dA; rfl; exact I.a; iterate 4 rfl) | (apply aO; rfl; (focus (repeat first | exact .z | apply aY.s | apply aN.s)); iterate 4 rfl) | apply EL.nil
   | ((with_reducible apply EK.ah); apply EK.code) | (with_reducible first | apply EC.seq | apply EC.region | apply EC.ret | apply EK.aF))
 refine EK.jF 1 rfl rfl rfl rfl ?_ rfl
 (exact RL.a)
theorem RG (ks : Nat → Tn) (v : List UInt8) (hk : ∀ i, Fn 186 [dT (ks i)] (· = .val (bJ (mD (ks i))))) : Fn 138 [dT (.br ks v)] (· = .val (bJ (gI (.br ks v)))) := by
 have h2 := Pq v
 have he : gI (.br ks v) = .mk true [] ((List.range 16).map (fun i => mD (ks i)) ++ [.mk false v []]) := by rw [gI]; rfl
 have hsz : D.sizes ((List.range 16).map fun i => dT (ks i)) = 16 := by rw [QY, List.length_range]
 have hat : ∀ i, i < 16 → ((List.range 16).map fun i => dT (ks i))[i]? = some (dT (ks i)) := fun i hi => by rw [List.getElem?_map, List.getElem?_range hi]; rfl
 have hall : ∀ d ∈ ((List.range 16).map fun i => dT (ks i)), d.size = 1 ∧ d.agg = false := fun d hd => by
  obtain ⟨i, _, rfl⟩ := List.mem_map.1 hd
  exact iT _
 have hlen : ((List.range 16).map fun i => dT (ks i)).length = 16 := by simp
 rw [he, dT, show bJ (.mk true [] ((List.range 16).map (fun i => mD (ks i)) ++ [.mk false v []])) = .tup [.v (.bool true), .bs [], .sl 3 ((List.range 16).map (fun i => bJ (mD (ks i))) ++ [bJ (.mk false v [])])] from by rw [bJ, oG, List.map_append, List.map_map]; rfl]
 clear he
 generalize hE : ((List.range 16).map fun i => dT (ks i)) = K at *
 refine Fn.walk 85 Tryz.func138 rfl Tryz.ntmps138 (by simp) fun X => ?_
 repeat
  (first
   | (apply aP; (iterate 4 rfl); exact QU _ hsz; iterate 2 rfl) | (apply aK; (iterate 2 rfl); exact TW hsz; iterate 2 rfl)
   | (apply au; iterate 3 rfl) | (apply aj; iterate 3 rfl) | (apply aS; iterate 4 rfl) | (apply fE; iterate 7 rfl)
   | (apply wu; iterate 3 rfl) | (apply Ea; iterate 4 rfl) | (apply zY; iterate 6 rfl) | (apply aV; rfl; rfl; rfl; intro _)
   | (apply aO; rfl; (focus (repeat first | exact .z | apply aY.s | apply aN.s)); iterate 4 rfl) | apply EL.nil | ((with_reducible apply EK.ah); apply EK.code)
   | (apply EC.cond_true; rfl) | (apply EC.cond_false; rfl) | (with_reducible first | apply EC.seq | apply EC.region | apply EC.block))
 rename_i g1 g
 refine EC.le (Le.row 157 3) ?_
 refine EC.loop (ι := {p : Value × Nat // p.2 ≤ 16})
  (fun p => ⟨[(63, .val (.v (.int .i64 (p.1.2 : Int)))), (62, .val (.tup K)), (10, .val (.pd (.tup [.tup K, .bs v]))), (3, .val (.v (.pointer (some ⟨g, 0, none⟩)))), (2, .val (.v (.pointer (some ⟨g1, 0, none⟩))))],
   [.row p.1.1 157 3 ((List.range p.1.2).map fun i => bJ (mD (ks i))), .var g 157 (.tup [.v (.bool true), .v (.slice none 0 0), .v p.1.1]), .var g1 157 (.tup [.v (.bool false), .v (.slice none 0 0), .v (.slice none 0 0)])], []⟩)
  (fun p => 16 - p.1.2) ⟨(.slice none 0 0, 0), by decide⟩ ?_ ?_
 · exact Le.kp
 rintro ⟨⟨rv, n⟩, hn⟩
 dsimp only at hn ⊢
 have hl : ((List.range n).map fun i => bJ (mD (ks i))).length = n := by simp
 by_cases hlt : n < 16
 ·
  have hx := hk n
  have hnx : (List.range (n + 1)).map (fun i => bJ (mD (ks i))) = (List.range n).map (fun i => bJ (mD (ks i))) ++ [bJ (mD (ks n))] := by rw [List.range_succ, List.map_append]; rfl
  cases hr : mD (ks n) with
  | mk xb xl xs =>
   rw [hr, bJ] at hx
   rw [hr, bJ] at hnx
   repeat
    (first
     | (apply aA (b := true); (iterate 2 rfl); exact aG; iterate 2 rfl) | apply EL.nil | ((with_reducible apply EK.ah); apply EK.code) | (apply EC.cond_true; rfl)
     | (with_reducible first | apply EC.seq | apply EC.region | apply EC.skip | apply EC.block))
   refine ES.still (Jj (k := (n : Int)) (d := dT (ks n)) rfl rfl rfl rfl rfl (fun w => by kernel_rfl) hall hlen ⟨by omega, by rw [Int.toNat_natCast]; exact hat n hlt⟩) rfl rfl rfl ?_
   repeat
    (first
     | (apply aj; iterate 3 rfl) | apply EL.nil | ((with_reducible apply EK.ah); apply EK.code))
   refine EC.jm 7 [0, 1, 2, 6] [3, 4, 5] [_] _ (by kernel_rfl) (by kernel_rfl) rfl ?_
   simp only [aQ, List.filterMap_cons, List.filterMap_nil, List.getElem?_cons_zero, List.getElem?_cons_succ]
   repeat
    (first
     | (apply aU; iterate 3 rfl) | (apply bH; iterate 6 rfl) | (apply bT; rfl; exact I.a; iterate 4 rfl))
   refine EM.nil ?_
   repeat (first | rw [List.cons_append] | rw [List.nil_append])
   refine CH.cut 2 ?_
   simp only [List.take_succ_cons, List.take_zero, List.drop_succ_cons, List.drop_zero]
   repeat
    (first
     | (apply bP (hx); rfl; exact ak.refl _ _; exact enA; iterate 2 rfl) | (apply kP; iterate 9 rfl))
   refine EM.nil ?_
   repeat (first | rw [List.cons_append] | rw [List.nil_append])
   refine CH.mut (os := [_]) (rest := []) rfl rfl (fZ rfl rfl rfl rfl rfl (by rw [hl]; constructor <;> (simp; omega))) ?_
   rintro _ _ ⟨v', rfl, rfl⟩
   try simp only [St.put]
   repeat (first | rw [List.cons_append] | rw [List.nil_append])
   refine CH.nil ?_
   try simp only [List.drop_succ_cons, List.drop_zero]
   repeat
    (first
     | (apply au; iterate 3 rfl) | (apply eU; (iterate 3 rfl); (focus omega); (focus omega); iterate 2 rfl)
     | (apply aO; rfl; (focus (repeat first | exact .z | apply aY.s | apply aN.s)); iterate 4 rfl) | apply EL.nil | ((with_reducible apply EK.ah); apply EK.code)
     | (with_reducible first | apply EC.region | apply EK.aF))
   refine EK.again ⟨(v', n + 1), hlt⟩ (by dsimp only; omega) ?_
   dsimp only
   rw [hnx]
   simp only [Int.natCast_add]
   exact Le.kp
 ·
  obtain rfl : n = 16 := by omega
  repeat
   (first
    | (apply aA (b := false); (iterate 2 rfl); exact aG; iterate 2 rfl) | apply EL.nil | ((with_reducible apply EK.ah); apply EK.code) | (apply EC.cond_false; rfl)
    | (with_reducible first | apply EC.seq | apply EC.region | apply EC.exit | apply EK.aZ | apply EK.aH))
  refine EC.jm 10 [0, 1, 2, 3, 4, 5, 9] [6, 7, 8] [_] _ (by kernel_rfl) (by kernel_rfl) rfl ?_
  simp only [aQ, List.filterMap_cons, List.filterMap_nil, List.getElem?_cons_zero, List.getElem?_cons_succ]
  repeat
   (first
    | (apply aW; (iterate 4 rfl); exact QT _ hsz; iterate 2 rfl) | (apply aU; iterate 3 rfl) | (apply bH; iterate 6 rfl)
    | (apply bG; iterate 5 rfl) | (apply bT; rfl; exact I.a; iterate 4 rfl) | (apply CJ; iterate 3 rfl))
  refine EM.nil ?_
  repeat (first | rw [List.cons_append] | rw [List.nil_append])
  refine CH.cut 2 ?_
  simp only [List.take_succ_cons, List.take_zero, List.drop_succ_cons, List.drop_zero]
  repeat
   (first
    | (apply bP (h2); rfl; exact ak.refl _ _; exact enA; iterate 2 rfl) | (apply kP; iterate 9 rfl))
  refine EM.nil ?_
  repeat (first | rw [List.cons_append] | rw [List.nil_append])
  refine CH.mut (os := [_]) (rest := []) rfl rfl (fZ rfl rfl rfl rfl rfl (by rw [hl]; constructor <;> simp)) ?_
  rintro _ _ ⟨v', rfl, rfl⟩
  try simp only [St.put]
  repeat (first | rw [List.cons_append] | rw [List.nil_append])
  refine CH.nil ?_
  try simp only [List.drop_succ_cons, List.drop_zero]
  refine EL.le (Le.freeze (pre := []) rfl) ?_
  simp only [List.nil_append]
  repeat
   (first
    | (apply dA; rfl; exact I.a; iterate 4 rfl) | (apply aO; rfl; (focus (repeat first | exact .z | apply aY.s | apply aN.s)); iterate 4 rfl) | apply EL.nil
    | ((with_reducible apply EK.ah); apply EK.code) | (with_reducible first | apply EC.seq | apply EC.region | apply EC.ret | apply EK.aF))
  refine EK.jF 1 rfl rfl rfl rfl ?_ rfl
  (exact RL.a)
theorem Jr : ∀ t : Tn, t.ok → t.isNil = false → Fn 138 [dT t] (· = .val (bJ (gI t)))
 | .leaf p v, h, _ => MK p v h
 | .ext p k, h, _ => OO p k h.1 (G5 k fun hn => Jr k h.2 hn)
 | .br ks v, h, _ => RG ks v fun i => G5 (ks i) fun hn => Jr (ks i) (h i) hn
theorem VY (t : Tn) (h : t.ok) : Fn 70 [dT t] (· = .val (.arr 32 (sumT t))) := PO t (Jr t h)
abbrev ptr (g : Nat) : Value := .pointer (some ⟨g, 0, none⟩)
theorem KF {T : Nat} (h : Ui.contains T = true) (p : Option Addr) : Bin .eql T (.v (.pointer p)) (.v (.pointer none)) (.bool p.isNone) ∧ Bin .neq T (.v (.pointer p)) (.v (.pointer none)) (.bool !p.isNone) := by
 obtain ⟨e, he⟩ := Wu h
 have he : Tryz.prog.underlying T = some (.pointer (Tryz.prog.pointee T)) := by
  unfold Program.pointee
  rw [he]
 refine ⟨⟨rfl, fun ok w p q hp hq => ?_⟩, ⟨rfl, fun ok w p q hp hq => ?_⟩⟩ <;> (obtain rfl := (bf.1 hp).2; obtain rfl := (bf.1 hq).2; refine ⟨fun x y => by simp [eqGuard], ?_⟩)
 · exact run_eql_pointer_nil w T _ he
 · exact run_neq_pointer_nil w T _ he
section
variable {N : Nat} {X : Cx N} {rs : List (Tmp × R)} {os : List Obj} {fs : List (Value × D)}
variable {S : St} {fn : Func} {Φ : R → List Obj → Prop}
theorem uh {os' : List Obj} (h : os'.Sublist os) {w : World} {b : Nat} (hb : X.ok os w b) : X.ok os' w b := ⟨hb.1, hb.2.1, fun o ho => hb.2.2 o (h.subset ho)⟩
theorem EK.fM {t : Tmp} {r : R} (os' : List Obj) (hres : fn.results = #[.tmp t]) (hl : look S.regs t = some r) (ho : os'.Sublist S.objs) (hΦ : Φ r os') : EK X (bodyPost Tryz.prog fn (Eb X Φ) .ret) S := by
 constructor
 intro a w ha
 exact bodyPost_ret (results_tmp hres a.tmps Tryz.prog w) ha.defers ⟨_, r, os', rfl, hΦ, ha.mem.less ho (fun f hf => by cases hf), (ha.regs t r hl).mono (fun b hb => uh ho hb) fun _ _ => rfl⟩
theorem EK.kE {p : Tmp} {g ty : Nat} {t : TypeId} {d d' : D} (i : Nat) (os' : List Obj) (hres : fn.results = #[.cell p ty]) (hl : look S.regs p = some (.val (.v (.pointer (some ⟨g, 0, none⟩))))) (hi : S.objs[i]? = some (.var g t d)) (hT : assoc tyL ty = some (d.size, d.agg)) (hR : ak S.facts [d] [d']) (ho : os'.Sublist S.objs) (hΦ : Φ (.val d') os') : EK X (bodyPost Tryz.prog fn (Eb X Φ) .ret) S := by
 constructor
 intro a w ha
 obtain ⟨x, h1, h2⟩ := tN ha.mem hi (tyI hT)
 have hp := (bf.1 (ha.regs p _ hl)).2
 have hp' : a.tmps[p]?.getD undef = .pointer (some ⟨g, 0, none⟩) := by simpa using hp
 have h3 : bW (X.ok S.objs w) w (.val d') x := Refine1.kG ha.mem.fact hR h2
 refine bodyPost_ret (v := x) ?_ ha.defers ⟨_, _, os', rfl, hΦ, ha.mem.less ho (fun f hf => by cases hf), h3.mono (fun b hb => uh ho hb) fun _ _ => rfl⟩
 simp [results, hres, hp', asAddr, h1]
end
section
variable {N : Nat} {X : Cx N} {ops : Array Oper} {Q : Exit → Act → World → Prop}
theorem fH {l' : List Oper} {t ty f : Nat} {pos : String} {af : Array Edge} {gd : Option (Nat × Bool)} {args : Array Operand} {tys : Array TypeId} {ds ds' : List D} {Φ : R → List Obj → Prop} {rs : List (Tmp × R)} {os os0 : List Obj} {fs : List (Value × D)} (hF : FnM f ds' os Φ) (l1 l2 : List Obj) (hos : os0 = l1 ++ (os ++ l2))
  (hx : evs (⟨rs, l1 ++ l2, fs⟩ : St) args.toList = some ds) (hR : ak fs ds ds') (hf : Enters f) (hg : guardOf ops ⟨rs, os ++ (l1 ++ l2), fs⟩ ⟨some t, .call { callee := .value (.func f), args := args, argTypes := tys }, ty, pos, af, gd⟩ = some true) (hN : Nat.blt t N = true) (k : ∀ r os', Φ r os' → EL X ops Q l' ⟨(t, r) :: rs, l1 ++ (os' ++ l2), fs⟩) : EL X ops Q (⟨some t, .call { callee := .value (.func f), args := args, argTypes := tys }, ty, pos, af, gd⟩ :: l') ⟨rs, os0, fs⟩ := by
 subst hos
 have hp : ∀ os : List Obj, (l1 ++ (os ++ l2)).Perm (os ++ (l1 ++ l2)) := fun os => by
  rw [← List.append_assoc, ← List.append_assoc]
  exact List.Perm.append_right _ List.perm_append_comm
 exact EL.le (Le.perm (hp os)) (KT hF rfl hx hR hf hg hN fun r os' h => EL.le (Le.perm (hp os').symm) (k r os' h))
theorem EK.Dj {fn : Func} {Φ : R → List Obj → Prop} {S : St} {t : Tmp} {d d' : D} (os' : List Obj) (hres : fn.results = #[.tmp t]) (hl : look S.regs t = some (.val d)) (hR : ak S.facts [d] [d']) (ho : os'.Sublist S.objs) (hΦ : Φ (.val d') os') : EK X (bodyPost Tryz.prog fn (Eb X Φ) .ret) S := by
 refine EK.le (S' := ⟨S.regs, os', S.facts⟩) ?_ (EK.Ug hres hl hR hΦ)
 exact fun a w h => ⟨h.mem.less ho (fun f hf => hf), fun t r ht => bW.mono (fun b hb => uh ho hb) (fun _ _ => rfl) (h.regs t r ht), h.size, h.defers⟩
end
end E
end Go.Proofs.YtiledgojbpmoiaaGreat
namespace Go.Proofs.YtiledgojbpmoiaaGreat
set_option linter.unusedVariables false
open Go.RowKit Mono Rlp Go.Sort
namespace E
theorem MO {w : World} {g n : Nat} {os : Array Go.Obj} {cur : Array Value} {e : TypeId} {fr : Nat × Nat} (F : Array Value) (hb : w.heap[g]? = some (.cells cur e fr)) :
  (grow (putRow id (Sort.ahead w n) g 0 F) os).heap[g]? = some (.cells (putCells id 0 F cur) e fr) := by
 have hg : g < w.heap.size := (Array.getElem?_eq_some_iff.1 hb).1
 rw [heap_grow_old _ _ (by simpa using hg)]
 simp [putRow, mapBlock, Sort.ahead, Array.getElem?_modify, hb, onCells]
theorem zk {w : World} {g n : Nat} {os : Array Go.Obj} (F : Array Value) : w.grownBy (grow (putRow id (Sort.ahead w n) g 0 F) os) (some g) := by
 refine ⟨rfl, rfl, rfl, by simp, fun k hk hne => ?_⟩
 rw [heap_grow_old _ _ (by simpa using hk)]
 have : g ≠ k := fun e => hne (by rw [e])
 simp [putRow, mapBlock, Sort.ahead, Array.getElem?_modify, this]
theorem Lh (cur F : Array Value) (h : F.size ≤ cur.size) : (putCells id 0 F cur).toList.take F.size = F.toList := by
 apply List.ext_getElem?
 intro j
 by_cases hj : j < F.size
 ·
  rw [List.getElem?_take_of_lt hj, Array.getElem?_toList]
  simp [putCells, hj, show j < cur.size by omega]
 · rw [List.getElem?_take_eq_none (by omega), List.getElem?_eq_none (by simp; omega)]
abbrev El {κ : Type} (dk : κ → D) (ok : Nat → Prop) (w : World) := {x : List Value × κ // Reads ok w (dk x.2) x.1}
theorem els {κ : Type} {dk : κ → D} {ok : Nat → Prop} {w : World} {z : Nat} : ∀ (ks : List κ) (rows : List (List Value)), ay ok w z (ks.map dk) rows → ∃ es : List (El dk ok w), es.map (·.1.1) = rows ∧ es.map (·.1.2) = ks
 | [], rows, h => by
  rw [List.map_nil, ay] at h
  exact ⟨[], h.symm, rfl⟩
 | k :: ks, rows, h => by
  rw [List.map_cons, ay] at h
  obtain ⟨r, rest, rfl, _, h2, h3⟩ := h
  obtain ⟨es, e1, e2⟩ := els ks rest h3
  exact ⟨⟨(r, k), h2⟩ :: es, by rw [List.map_cons, e1], by rw [List.map_cons, e2]⟩
theorem G7 {κ : Type} {dk : κ → D} {ok ok' : Nat → Prop} {w w' : World} {z : Nat} (hz : ∀ x, (dk x).size = z) (hm : ∀ d cs, Reads ok w d cs → Reads ok' w' d cs) : ∀ es : List (El dk ok w), ay ok' w' z ((es.map (·.1.2)).map dk) (es.map (·.1.1))
 | [] => by rw [List.map_nil, List.map_nil, List.map_nil, ay]
 | e :: es => by
  rw [List.map_cons, List.map_cons, List.map_cons, ay]
  exact ⟨_, _, rfl, (Reads.len _ _ e.2).trans (hz _), hm _ _ e.2, G7 hz hm es⟩
theorem Gy {α : Type} [Inhabited α] {enc : α → List Value} {n : Nat} (hn : 0 < n) (hk : ∀ x, (enc x).length = n) : ∀ (ks : List α) (t : Nat), t < ks.length * n → (ks.map enc).flatten[t]? = some ((enc (ks[t / n]!))[t % n]!)
 | [], t, h => by simp at h
 | k :: ks, t, h => by
  rw [List.map_cons, List.flatten_cons]
  by_cases ht : t < n
  ·
   rw [List.getElem?_append_left (by rw [hk]; omega), Nat.div_eq_of_lt ht, Nat.mod_eq_of_lt ht]
   simp [hk, ht]
  ·
   rw [List.getElem?_append_right (by rw [hk]; omega), hk, Gy hn hk ks (t - n) (by simp [Nat.add_mul] at h; omega)]
   have h1 : t / n = (t - n) / n + 1 := by
    conv => lhs; rw [show t = t - n + n by omega, Nat.add_div_right _ hn]
   have h2 : t % n = (t - n) % n := by
    conv => lhs; rw [show t = t - n + n by omega, Nat.add_mod_right]
   rw [h1, h2]
   simp
theorem zy {α : Type} [Inhabited α] {enc : α → List Value} {n : Nat} (hn : 0 < n) (hk : ∀ x, (enc x).length = n) (ks : List α) : (flatK enc n ks.toArray).toList = (ks.map enc).flatten := by
 have hl : (ks.map enc).flatten.length = ks.length * n := by
  have : ∀ ks : List α, (ks.map enc).flatten.length = ks.length * n := fun ks => by
   induction ks with
   | nil => simp
   | cons k ks ih => rw [List.map_cons, List.flatten_cons, List.length_append, ih, hk, List.length_cons, Nat.add_mul, Nat.one_mul, Nat.add_comm]
  exact this ks
 refine List.ext_getElem? fun t => ?_
 by_cases ht : t < ks.length * n
 ·
  rw [Gy hn hk ks t ht, Array.getElem?_toList]
  have hs : t < (flatK enc n ks.toArray).size := by simpa using ht
  have := get_flatK enc n ks.toArray t (by simpa using ht)
  rw [getElem!_pos _ t hs] at this
  rw [Array.getElem?_eq_getElem hs, this]
  simp
 · rw [List.getElem?_eq_none (by simp; omega), List.getElem?_eq_none (by omega)]
theorem Ws {α : Type} (key : α → List UInt8) : SWO (Go.Proofs.ltOf fun x y : α => uO (key x) (key y)) := by
 have h : ∀ x y : α, Go.Proofs.ltOf (fun x y : α => uO (key x) (key y)) x y = decide (key x < key y) := fun x y => DX (key x) (key y)
 refine ⟨fun x => ?_, fun x y z h1 h2 => ?_, fun x y z h1 h2 => ?_⟩
 ·
  rw [h]
  simp [List.lt_irrefl]
 ·
  rw [h] at h1 h2 ⊢
  simp only [decide_eq_true_eq] at h1 h2 ⊢
  exact List.lt_trans h1 h2
 ·
  rw [h] at h1 h2 ⊢
  simp only [decide_eq_false_iff_not, List.not_lt] at h1 h2 ⊢
  exact List.le_trans h2 h1
theorem NY {κ : Type} {ρ : Go.Shelf.Ren} (L : SlLaysF0.n6 Tryz.prog ρ) (T z : Nat) (hz : 0 < z) (aE : ∀ w, (isAgg (ρ.t 24)).run Tryz.prog w = .ok true w) (zE : ∀ w, (Go.sizeOf (ρ.t 24)).run Tryz.prog w = .ok z w)
  (dk : κ → D) (hag : ∀ x, (dk x).agg = true) (hsz : ∀ x, (dk x).size = z) (key : κ → List UInt8) (x0 : κ) (cs0 : List Value) (hx0 : ∀ ok w, Reads ok w (dk x0) cs0) (cf : FuncId)
  (hc : ∀ (ok : Nat → Prop) (w : World), (∀ b, ok b → b < w.heap.size) → ∀ x y v u, dw ok w (dk x) v → dw ok w (dk y) u → Calls Tryz.prog cf #[v, u] w fun e w' => e = .returned (.int .i64 (uO (key x) (key y))) ∧ ∃ q os', w' = grow (w.drewN q) os')
  (ec : ∀ args w, (callFunc cf args).run Tryz.prog w = .ok (.enter cf args) w) (v : Value) (ks : List κ) (hl : ks.length < 4611686018427387904) :
  FnM (ρ.f 6) [.v v, .v (.func (.func cf) #[] #[])] [.row v T z (ks.map dk)] (fun r os' => r = .tpl [] ∧ ∃ ks' : List κ, ks'.Perm ks ∧ ks'.Pairwise (fun x y => key x ≤ key y) ∧ os' = [.row v T z (ks'.map dk)]) := by
 constructor
 intro ok w xs hok hown hr
 obtain ⟨x1, _, rfl, hx1, x2, _, rfl, hx2, rfl⟩ := hr
 obtain rfl := (bf.1 hx1).2
 obtain rfl := (bf.1 hx2).2
 obtain ⟨rows, ⟨hrow, hbase⟩, hrows⟩ := hown.at_ _ (List.mem_cons_self ..)
 rw [List.length_map] at hrow
 rcases hrow.2 with ⟨rfl, h0⟩ | ⟨g, cap, cur, rfl, _, hgb, r1, r2, r3, r4⟩
 ·
  obtain rfl : ks = [] := List.eq_nil_of_length_eq_zero h0
  rw [List.map_nil] at hrows
  refine (AnyF.slices_SortFunc_none L none 0 (.func (.func cf) #[] #[]) w).mono ?_
  rintro e w' ⟨rfl, rfl⟩
  refine ⟨_, .tpl [], _, rfl, ⟨rfl, [], .nil, .nil, rfl⟩, ⟨.refl _, hown.apart, fun o ho => ?_⟩, [], rfl, rfl⟩
  obtain rfl := List.mem_singleton.1 ho
  exact ⟨[], ⟨⟨by simp, .inl ⟨rfl, rfl⟩⟩, fun b hb => by cases hb⟩, by rw [List.map_nil, ay]⟩
 ·
  have hlt := (Array.getElem?_eq_some_iff.1 hgb).1
  have hng : ∀ b, ok b → b ≠ g := fun b hb e => hown.off b ⟨_, List.mem_cons_self .., by rw [e]; rfl⟩ hb
  obtain ⟨es, rfl, rfl⟩ := els ks rows hrows
  letI : Inhabited (El dk ok w) := ⟨⟨(cs0, x0), hx0 ok w⟩⟩
  have hk : ∀ x : El dk ok w, x.1.1.length = z := fun x => (Reads.len _ _ x.2).trans (hsz _)
  have hone : ∀ x : El dk ok w, ∀ u ∈ x.1.1, u.oneCell' = true := fun x => Reads.one _ _ x.2
  rw [List.length_map] at hl
  simp only [List.length_map] at r1 r3 r4 hrow
  have hH : HoldsK (fun x : El dk ok w => x.1.1) z w g 0 es.toArray := fun j hj => by
   have hj' : j < es.length * z := by simpa using hj
   have h1 : (cur.toList.take (es.length * z))[j]? = (es.map fun x : El dk ok w => x.1.1).flatten[j]? := by rw [r4]
   rw [List.getElem?_take_of_lt hj', ← zy hz hk] at h1
   refine ⟨?_, by simp [World.frozen?, hgb]⟩
   rw [cell_of_row w g (0 + j) cur T (0, 0) hgb, Nat.zero_add, ← Array.getElem?_toList, h1, Array.getElem?_toList, Array.getElem?_eq_getElem hj, getElem!_pos _ j hj]
   rfl
  have hkeep : ∀ (n : Nat) (F : Array Value) (os : Array Go.Obj) (b : Nat), ok b → (grow (putRow id (Sort.ahead w n) g 0 F) os).heap[b]? = w.heap[b]? := fun n F os b hb => (zk (w := w) (g := g) (n := n) (os := os) F).block b (hok b hb) fun e => hng b hb (Option.some.inj e)
  have hcmp : CmpLays Tryz.prog cf #[] (fun x : El dk ok w => x.1.1) z (fun x y : El dk ok w => uO (key x.1.2) (key y.1.2)) g 0 es.toArray.size w := fun m os dk' hs x y => by
   have hm : ∀ d cs, Reads ok w d cs → Reads ok (sortWorldK (fun x : El dk ok w => x.1.1) z w g 0 m dk' os) d cs := fun d cs h => Reads.mono (fun _ h => h) (fun p hp => World.cell?_of_block (hkeep m _ os p.block hp)) d cs h
   refine (hc ok _ (fun b hb => Nat.lt_of_lt_of_le (hok b hb) (size_sortWorldK_c _ _ _ _ _ _ _ _)) x.1.2 y.1.2 _ _ ((jg (hag _)).2 ⟨_, hm _ _ x.2, rfl⟩) ((jg (hag _)).2 ⟨_, hm _ _ y.2, rfl⟩)).mono ?_
   rintro e w' ⟨rfl, h⟩
   exact ⟨rfl, h⟩
  have hsort := AnyQ.slices_SortFunc L z aE zE (fun x : El dk ok w => x.1.1) hk hone (fun x y : El dk ok w => uO (key x.1.2) (key y.1.2)) (Ws fun x : El dk ok w => key x.1.2) cf #[] g 0 cap es.toArray w ec hcmp hH hlt (by simpa using hl)
  have hl0 : (es.map fun x : El dk ok w => x.1.2).length = es.toArray.size := by simp
  rw [hl0]
  refine hsort.mono ?_
  rintro e w' ⟨rfl, d', n, os, hP, hS, rfl⟩
  have hd : d'.toList.Perm es := by
   obtain ⟨hs, _, hp⟩ := hP
   rw [show es.toArray.size = d'.size from hs.symm, Array.extract_size, hs, Array.extract_size] at hp
   simpa using hp
  have hdl : d'.toList.length = es.length := hd.length_eq
  have hsorted : (d'.toList.map fun x : El dk ok w => x.1.2).Pairwise fun x y => key x ≤ key y := by
   rw [List.pairwise_map, List.pairwise_iff_getElem]
   intro i j hi hj hij
   have := hS i j (Nat.zero_le _) hij (by simpa [hdl] using hj)
   have hi' : i < d'.size := by simpa using hi
   have hj' : j < d'.size := by simpa using hj
   rw [getElem!_pos d' j hj', getElem!_pos d' i hi', show ltOf (fun x y : El dk ok w => uO (key x.1.2) (key y.1.2)) d'[j] d'[i] = decide (key d'[j].1.2 < key d'[i].1.2) from DX _ _] at this
   simpa using this
  have hg := zk (w := w) (g := g) (n := n) (os := os) (flatK (fun x : El dk ok w => x.1.1) z d')
  have hh := MO (n := n) (os := os) (flatK (fun x : El dk ok w => x.1.1) z d') hgb
  have hF : (flatK (fun x : El dk ok w => x.1.1) z d').size = es.length * z := by rw [size_flatK]; rw [show d'.size = es.length by simpa using hdl]
  have htk := Lh cur (flatK (fun x : El dk ok w => x.1.1) z d') (by rw [hF, r3]; exact Nat.mul_le_mul_right _ r1)
  have hfl : (flatK (fun x : El dk ok w => x.1.1) z d').toList = (d'.toList.map fun x : El dk ok w => x.1.1).flatten := by rw [← zy hz hk d'.toList]
  rw [hF, hfl] at htk
  refine ⟨_, .tpl [], _, rfl, ⟨rfl, d'.toList.map fun x : El dk ok w => x.1.2, hd.map _, hsorted, rfl⟩, ⟨⟨hg.os, hg.tape, hg.output, hg.size, fun k hk hn => hg.block k hk fun e => hn ?_⟩, .cons (fun _ h => by simp at h) .nil, fun o ho => ?_⟩, [], rfl, rfl⟩
  ·
   cases e
   exact ⟨_, List.mem_cons_self .., rfl⟩
  ·
   obtain rfl := List.mem_singleton.1 ho
   have hlen : ((d'.toList.map fun x : El dk ok w => x.1.2).map dk).length = es.length := by simp [← hdl]
   have hrd : ay (okM ok [.row (.slice (some ⟨g, 0, none⟩) es.toArray.size cap) T z ((es.map fun x : El dk ok w => x.1.2).map dk)] w [.row (.slice (some ⟨g, 0, none⟩) es.toArray.size cap) T z ((d'.toList.map fun x : El dk ok w => x.1.2).map dk)] (sortWorldK (fun x : El dk ok w => x.1.1) z w g 0 n d' os)) (sortWorldK (fun x : El dk ok w => x.1.1) z w g 0 n d' os) z ((d'.toList.map fun x : El dk ok w => x.1.2).map dk) (d'.toList.map fun x : El dk ok w => x.1.1) :=
    G7 hsz (fun d cs h => Reads.mono (fun b hb => ⟨.inl hb, Nat.lt_of_lt_of_le (hok b hb) hg.size, fun o ho => by
     obtain rfl := List.mem_singleton.1 ho
     intro e
     cases e
     exact hng _ hb rfl⟩) (fun p hp => World.cell?_of_block (hkeep n _ os p.block hp)) d cs h) d'.toList
   refine ⟨d'.toList.map fun x : El dk ok w => x.1.1, ⟨⟨?_, .inr ⟨g, cap, _, ?_, Nat.zero_le _, hh, ?_, r2, ?_, ?_⟩⟩, fun b hb => .inl ⟨_, List.mem_cons_self .., hb⟩⟩, hrd⟩
   · rw [← hfl, Array.length_toList, hF, hlen]
   ·
    rw [hlen]
    rfl
   ·
    rw [hlen]
    exact r1
   · simp [putCells, r3]
   ·
    rw [hlen]
    exact htk
end E
end Go.Proofs.YtiledgojbpmoiaaGreat
namespace Go.Proofs.YtiledgojbpmoiaaGreat
open Go.Shelf
def CY : Go.Shelf.Ren := ⟨fun | 6 => 163 | 15 => 199 | 14 => 198 | 28 => 220 | 29 => 221 | 20 => 212 | 21 => 213 | 22 => 214 | 23 => 215 | 24 => 216 | 25 => 217 | 26 => 218 | 27 => 219 | 46 => 231 | 47 => 232 | 48 => 233 | 49 => 234 | 50 => 235 | 57 => 241 | n => n, fun | 22 => 201 | 24 => 263 | 25 => 265 | 3 => 3 | 39 => 120 | 0 => 0 | 53 => 309 | 55 => 132 | 4 => 4 | 46 => 303 | 45 => 302 | 50 => 181 | 5 => 5 | 9 => 9 | 66 => 316 | 70 => 320 | 76 => 326 | 77 => 327 | n => n, fun | n => n⟩
theorem Es : Go.Proofs.SlLaysF0.n6 Tryz.prog CY := {
 mixed := by kernel_rfl
 f6 := ⟨Tryz.f163.name, by decide, Tryz.func163.trans (congrArg some (by kernel_rfl))⟩
 f14 := ⟨Tryz.f198.name, by decide, Tryz.func198.trans (congrArg some (by kernel_rfl))⟩
 f15 := Tryz.func199.trans (congrArg some (by kernel_rfl))
 f20 := ⟨Tryz.f212.name, by decide, Tryz.func212.trans (congrArg some (by kernel_rfl))⟩
 f21 := ⟨Tryz.f213.name, by decide, Tryz.func213.trans (congrArg some (by kernel_rfl))⟩
 f22 := ⟨Tryz.f214.name, by decide, Tryz.func214.trans (congrArg some (by kernel_rfl))⟩
 f23 := ⟨Tryz.f215.name, by decide, Tryz.func215.trans (congrArg some (by kernel_rfl))⟩
 f24 := ⟨Tryz.f216.name, by decide, Tryz.func216.trans (congrArg some (by kernel_rfl))⟩
 f25 := ⟨Tryz.f217.name, by decide, Tryz.func217.trans (congrArg some (by kernel_rfl))⟩
 f26 := ⟨Tryz.f218.name, by decide, Tryz.func218.trans (congrArg some (by kernel_rfl))⟩
 f27 := ⟨Tryz.f219.name, by decide, Tryz.func219.trans (congrArg some (by kernel_rfl))⟩
 f28 := Tryz.func220.trans (congrArg some (by kernel_rfl))
 f29 := Tryz.func221.trans (congrArg some (by kernel_rfl))
 f46 := ⟨Tryz.f231.name, by decide, Tryz.func231.trans (congrArg some (by kernel_rfl))⟩
 f47 := Tryz.func232.trans (congrArg some (by kernel_rfl))
 f48 := Tryz.func233.trans (congrArg some (by kernel_rfl))
 f49 := ⟨Tryz.f234.name, by decide, Tryz.func234.trans (congrArg some (by kernel_rfl))⟩
 f50 := ⟨Tryz.f235.name, by decide, Tryz.func235.trans (congrArg some (by kernel_rfl))⟩
 f57 := ⟨Tryz.f241.name, by decide, Tryz.func241.trans (congrArg some (by kernel_rfl))⟩
 t0 := Tryz.underlying0
 a0 := Tryz.isAgg0
 z0 := Tryz.sizeOf0
 v0 := Tryz.zeroValue0
 t3 := Tryz.underlying3
 a3 := Tryz.isAgg3
 z3 := Tryz.sizeOf3
 v3 := Tryz.zeroValue3
 t4 := Tryz.underlying4
 a4 := Tryz.isAgg4
 z4 := Tryz.sizeOf4
 v4 := Tryz.zeroValue4
 t5 := Tryz.underlying5
 a5 := Tryz.isAgg5
 z5 := Tryz.sizeOf5
 v5 := Tryz.zeroValue5
 t9 := Tryz.underlying9
 a9 := Tryz.isAgg9
 z9 := Tryz.sizeOf9
 v9 := Tryz.zeroValue9
 t22 := Tryz.underlying201
 a22 := Tryz.isAgg201
 z22 := Tryz.sizeOf201
 v22 := Tryz.zeroValue201
 t25 := Tryz.underlying265
 a25 := Tryz.isAgg265
 z25 := Tryz.sizeOf265
 v25 := Tryz.zeroValue265
 t39 := Tryz.underlying120
 a39 := Tryz.isAgg120
 z39 := Tryz.sizeOf120
 v39 := Tryz.zeroValue120
 t45 := Tryz.underlying302
 a45 := Tryz.isAgg302
 z45 := Tryz.sizeOf302
 v45 := Tryz.zeroValue302
 t46 := Tryz.underlying303
 a46 := Tryz.isAgg303
 z46 := Tryz.sizeOf303
 v46 := Tryz.zeroValue303
 t50 := Tryz.underlying181
 a50 := Tryz.isAgg181
 z50 := Tryz.sizeOf181
 v50 := Tryz.zeroValue181
 t53 := Tryz.underlying309
 a53 := Tryz.isAgg309
 z53 := Tryz.sizeOf309
 v53 := Tryz.zeroValue309
 t55 := Tryz.underlying132
 a55 := Tryz.isAgg132
 z55 := Tryz.sizeOf132
 v55 := Tryz.zeroValue132
 t66 := Tryz.underlying316
 a66 := Tryz.isAgg316
 z66 := Tryz.sizeOf316
 v66 := Tryz.zeroValue316
 t70 := Tryz.underlying320
 a70 := Tryz.isAgg320
 z70 := Tryz.sizeOf320
 v70 := Tryz.zeroValue320
 t76 := Tryz.underlying326
 a76 := Tryz.isAgg326
 z76 := Tryz.sizeOf326
 v76 := Tryz.zeroValue326
 t77 := Tryz.underlying327
 a77 := Tryz.isAgg327
 z77 := Tryz.sizeOf327
 v77 := Tryz.zeroValue327 }
end Go.Proofs.YtiledgojbpmoiaaGreat
