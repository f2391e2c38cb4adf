/-
 Merged: lemmas of this claim.
 Conditions: none.
-/
import Derived.Test.YtelbhdobjdnglaaGreatZC11
import Derived.Test.YtelbhdobjdnglaaGreatZC7
import Derived.Laws.Pointers
import Derived.Test.YtelbhdobjdnglaaGreatZC12
import Derived.Test.YtelbhdobjdnglaaGreatZC2
import Derived.BigQuiet
import Derived.Deep.QuietTactic
import Derived.Laws.BitsAllLaws
import Derived.Test.YtelbhdobjdnglaaGreatZC0
namespace Go.Proofs.YtelbhdobjdnglaaGreat
set_option linter.unusedVariables false
set_option maxRecDepth 20000
set_option maxHeartbeats 8000000
open Go.RowKit Mono Rlp
namespace E
abbrev ptr (g : Nat) : Value := .pointer (some ⟨g, 0, none⟩)
theorem Ku {T : Nat} (h : Uh.contains T = true) (p : Option Addr) : Bin .eql T (.v (.pointer p)) (.v (.pointer none)) (.bool p.isNone) ∧ Bin .neq T (.v (.pointer p)) (.v (.pointer none)) (.bool !p.isNone) := by
 obtain ⟨e, he⟩ := Wq h
 have he : Tryz.prog.underlying T = some (.pointer (Tryz.prog.pointee T)) := by
  unfold Program.pointee
  rw [he]
 refine ⟨⟨rfl, fun ok w p q hp hq => ?_⟩, ⟨rfl, fun ok w p q hp hq => ?_⟩⟩ <;> (obtain rfl := (aY.1 hp).2; obtain rfl := (aY.1 hq).2; refine ⟨fun x y => by simp [eqGuard], ?_⟩)
 · exact run_eql_pointer_nil w T _ he
 · exact run_neq_pointer_nil w T _ he
section
variable {N : Nat} {X : Cx N} {rs : List (Tmp × R)} {os : List Obj} {fs : List (Value × D)}
variable {S : St} {fn : Func} {Φ : R → List Obj → Prop}
theorem rG {os' : List Obj} (h : os'.Sublist os) {w : World} {b : Nat} (hb : X.ok os w b) : X.ok os' w b := ⟨hb.1, hb.2.1, fun o ho => hb.2.2 o (h.subset ho)⟩
theorem EK.Ug (os' : List Obj) (hres : fn.results = #[]) (ho : os'.Sublist S.objs) (hΦ : Φ (.tpl []) os') : EK X (bodyPost Tryz.prog fn (Au X Φ) .ret) S := by
 constructor
 intro a w ha
 exact bodyPost_ret (results_none hres a.tmps Tryz.prog w) ha.defers ⟨_, _, os', rfl, hΦ, ha.mem.less ho (fun f hf => by cases hf), [], rfl, rfl⟩
theorem EK.aW {t : Tmp} {r : R} (os' : List Obj) (hres : fn.results = #[.tmp t]) (hl : look S.regs t = some r) (ho : os'.Sublist S.objs) (hΦ : Φ r os') : EK X (bodyPost Tryz.prog fn (Au X Φ) .ret) S := by
 constructor
 intro a w ha
 exact bodyPost_ret (results_tmp hres a.tmps Tryz.prog w) ha.defers ⟨_, r, os', rfl, hΦ, ha.mem.less ho (fun f hf => by cases hf), (ha.regs t r hl).mono (fun b hb => rG ho hb) fun _ _ => rfl⟩
theorem EK.JD {p : Tmp} {g ty : Nat} {t : TypeId} {d d' : D} (i : Nat) (os' : List Obj) (hres : fn.results = #[.cell p ty]) (hl : look S.regs p = some (.val (.v (.pointer (some ⟨g, 0, none⟩))))) (hi : S.objs[i]? = some (.var g t d)) (hT : assoc tyL ty = some (d.size, d.agg)) (hR : aj S.facts [d] [d']) (ho : os'.Sublist S.objs) (hΦ : Φ (.val d') os') : EK X (bodyPost Tryz.prog fn (Au X Φ) .ret) S := by
 constructor
 intro a w ha
 obtain ⟨x, h1, h2⟩ := uh ha.mem hi (tyI hT)
 have hp := (aY.1 (ha.regs p _ hl)).2
 have hp' : a.tmps[p]?.getD undef = .pointer (some ⟨g, 0, none⟩) := by simpa using hp
 have h3 : bU (X.ok S.objs w) w (.val d') x := Refine1.kP ha.mem.fact hR h2
 refine bodyPost_ret (v := x) ?_ ha.defers ⟨_, _, os', rfl, hΦ, ha.mem.less ho (fun f hf => by cases hf), h3.mono (fun b hb => rG ho hb) fun _ _ => rfl⟩
 simp [results, hres, hp', asAddr, h1]
end
section
variable {N : Nat} {X : Cx N} {ops : Array Oper} {Q : Exit → Act → World → Prop}
theorem Ad {l' : List Oper} {t ty f : Nat} {pos : String} {af : Array Edge} {gd : Option (Nat × Bool)} {args : Array Operand} {tys : Array TypeId} {ds ds' : List D} {Φ : R → List Obj → Prop} {rs : List (Tmp × R)} {os os0 : List Obj} {fs : List (Value × D)} (hF : FnM f ds' os Φ) (l1 l2 : List Obj) (hos : os0 = l1 ++ (os ++ l2))
  (hx : evs (⟨rs, l1 ++ l2, fs⟩ : St) args.toList = some ds) (hR : aj fs ds ds') (hf : Enters f) (hg : guardOf ops ⟨rs, os ++ (l1 ++ l2), fs⟩ ⟨some t, .call { callee := .value (.func f), args := args, argTypes := tys }, ty, pos, af, gd⟩ = some true) (hN : Nat.blt t N = true) (k : ∀ r os', Φ r os' → EL X ops Q l' ⟨(t, r) :: rs, l1 ++ (os' ++ l2), fs⟩) : EL X ops Q (⟨some t, .call { callee := .value (.func f), args := args, argTypes := tys }, ty, pos, af, gd⟩ :: l') ⟨rs, os0, fs⟩ := by
 subst hos
 have hp : ∀ os : List Obj, (l1 ++ (os ++ l2)).Perm (os ++ (l1 ++ l2)) := fun os => by
  rw [← Xp, ← Xp]
  exact List.Perm.append_right _ List.perm_append_comm
 exact EL.le (Le.perm (hp os)) (dD hF rfl hx hR hf hg hN fun r os' h => EL.le (Le.perm (hp os').symm) (k r os' h))
theorem EK.iZ {fn : Func} {Φ : R → List Obj → Prop} {S : St} {t : Tmp} {d d' : D} (os' : List Obj) (hres : fn.results = #[.tmp t]) (hl : look S.regs t = some (.val d)) (hR : aj S.facts [d] [d']) (ho : os'.Sublist S.objs) (hΦ : Φ (.val d') os') : EK X (bodyPost Tryz.prog fn (Au X Φ) .ret) S := by
 refine EK.le (S' := ⟨S.regs, os', S.facts⟩) ?_ (EK.Uf hres hl hR hΦ)
 exact fun a w h => ⟨h.mem.less ho (fun f hf => hf), fun t r ht => bU.mono (fun b hb => rG ho hb) (fun _ _ => rfl) (h.regs t r ht), h.size, h.defers⟩
end
theorem EK.mM {N : Nat} {X : Cx N} {S : St} {fn : Func} {Φ : R → List Obj → Prop} {p u q : Tmp} {d d' e e' k k' : D} (os' : List Obj) (hres : fn.results = #[.tmp p, .tmp u, .tmp q]) (hl : look S.regs p = some (.val d)) (hu : look S.regs u = some (.val e)) (hq : look S.regs q = some (.val k)) (hR : aj S.facts [d] [d']) (hR2 : aj S.facts [e] [e']) (hR3 : aj S.facts [k] [k']) (ho : os'.Sublist S.objs) (hΦ : Φ (.tpl [d', e', k']) os') : EK X (bodyPost Tryz.prog fn (Au X Φ) .ret) S := by
 constructor
 intro a w ha
 have h3 : bU (X.ok S.objs w) w (.tpl [d', e', k']) (.tuple #[a.tmps.getD p undef, a.tmps.getD u undef, a.tmps.getD q undef]) := ⟨[a.tmps.getD p undef, a.tmps.getD u undef, a.tmps.getD q undef], rfl, _, _, rfl, Refine1.kP ha.mem.fact hR (ha.regs p _ hl), _, _, rfl, Refine1.kP ha.mem.fact hR2 (ha.regs u _ hu), _, _, rfl, Refine1.kP ha.mem.fact hR3 (ha.regs q _ hq), rfl⟩
 refine bodyPost_ret (v := .tuple #[a.tmps.getD p undef, a.tmps.getD u undef, a.tmps.getD q undef]) ?_ ha.defers ⟨_, _, os', rfl, hΦ, ha.mem.less ho (fun f hf => by cases hf), h3.mono (fun b hb => rG ho hb) fun _ _ => rfl⟩
 simp [results, hres]
theorem Ql (a : UInt8) : Bin .rem 5 (.v (bv a)) (.v (.int .u8 2)) (.int .u8 ((a.toNat % 2 : Nat) : Int)) := Qm rfl fun w => by
 have ht : ((a.toNat : Int).tmod 2) = ((a.toNat % 2 : Nat) : Int) := rfl
 show (Op.intDiv .rem .u8 (a.toNat : Int) 2).run Tryz.prog w = _
 simp only [Op.intDiv, ht]
 simp
def rdP : List UInt8 → Option (List UInt8 × Bool)
 | [] => none
 | c :: r => if 3 < (c >>> 4).toNat then none else if (c >>> 4).toNat % 2 = 1 then some ((c &&& 15) :: split r, decide (2 ≤ (c >>> 4).toNat)) else if (c &&& 15).toNat = 0 then some (split r, decide (2 ≤ (c >>> 4).toNat)) else none
def rpD (b : List UInt8) : R := match rdP b with
 | none => .tpl [.bs [], .v (.bool false), .v (.bool false)]
 | some (p, l) => .tpl [.bs p, .v (.bool l), .v (.bool true)]
theorem wF (c : UInt8) (r : List UInt8) : split (c :: r) = (c >>> 4) :: (c &&& 15) :: split r := rfl
theorem xk (b : List UInt8) (hb : b.length ≤ 536870912) : Fn 116 [.bs b] (· = rpD b) := by
 have hS := Gl b (by omega)
 unfold rpD
 refine FnM.toFn ?_
 cases b with
 | nil =>
  rw [show split [] = [] from rfl] at hS
  rw [rdP]
  refine FnM.walk 49 Tryz.func116 rfl Tryz.ntmps116 (by simp) fun X => ?_
  repeat
   (first
    | (apply dO; iterate 2 rfl) | (apply aC (hS); rfl; exact aj.refl _ _; exact enA; iterate 2 rfl) | (apply ak; iterate 3 rfl)
    | (apply ah; iterate 3 rfl) | (apply aK; iterate 4 rfl) | (apply aF (b := true); (iterate 2 rfl); exact aQ; iterate 2 rfl)
    | (apply aV; iterate 4 rfl) | apply EL.nil | (apply EC.t0; rfl)
    | (with_reducible first | apply EK.nc | apply EC.seq | apply EC.r0 | apply EC.ret | apply EK.aB))
  exact EK.mM [] rfl rfl rfl rfl RL.a RL.a RL.a (WI _) ⟨rfl, rfl⟩
 | cons c r =>
  have hsl := jO r
  rw [WS] at hb
  rw [wF] at hS
  rw [rdP]
  generalize c >>> 4 = x at hS ⊢
  generalize c &&& 15 = y at hS ⊢
  generalize split r = s at hS hsl ⊢
  have hl2 : (x :: y :: s).length = s.length + 2 := rfl
  have hrem := Ql x
  refine FnM.walk 49 Tryz.func116 rfl Tryz.ntmps116 (by simp) fun X => ?_
  by_cases h3 : 3 < x.toNat
  ·
   rw [if_pos h3]
   repeat
    (first
     | (apply dO; iterate 2 rfl) | (apply aC (hS); rfl; exact aj.refl _ _; exact enA; iterate 2 rfl) | (apply ak; iterate 3 rfl)
     | (apply ah; iterate 3 rfl) | (apply aG; iterate 5 rfl) | (apply aK; iterate 4 rfl)
     | (apply aF (b := true); (iterate 2 rfl); exact aQ; iterate 2 rfl) | (apply aF (b := false); (iterate 2 rfl); exact aQ; iterate 2 rfl)
     | (apply aV; iterate 4 rfl)
     | (apply iw; (iterate 3 rfl); exact ixA; iterate 2 rfl) | apply EL.nil
     | (apply EC.t0; rfl) | (with_reducible first | apply EK.nc | apply EC.seq | apply EC.r0 | apply EC.ret | apply EK.aB))
   exact EK.mM [] rfl rfl rfl rfl RL.a RL.a RL.a (WI _) ⟨rfl, rfl⟩
  ·
   rw [if_neg h3]
   by_cases h1 : x.toNat % 2 = 1
   ·
    rw [if_pos h1]
    rw [h1] at hrem
    by_cases h2 : 2 ≤ x.toNat
    ·
     rw [show decide (2 ≤ x.toNat) = true by simp [h2]]
     repeat
      (first
       | (apply dO; iterate 2 rfl) | (apply aC (hS); rfl; exact aj.refl _ _; exact enA; iterate 2 rfl)
       | (apply nC; (iterate 2 rfl); exact hrem; iterate 2 rfl) | (apply ak; iterate 3 rfl) | (apply ah; iterate 3 rfl) | (apply aG; iterate 5 rfl)
       | (apply aK; iterate 4 rfl) | (apply aF (b := true); (iterate 2 rfl); exact aQ; iterate 2 rfl)
       | (apply aF (b := false); (iterate 2 rfl); exact aQ; iterate 2 rfl) | (apply aV; iterate 4 rfl)
       | (apply iw; (iterate 3 rfl); exact ixA; iterate 2 rfl) | apply EL.nil
       | (apply EC.t0; rfl) | (apply EC.f0; rfl) | (with_reducible first | apply EK.nc | apply EC.seq | apply EC.r0 | apply EC.k0))
     refine EC.draw 10 (by kernel_rfl) ?_
     simp only [WH, WO, WG, WM]
     repeat
      (first
       | (apply uX; (iterate 3 rfl); exact ⟨by decide, by rw [hl2]; show 1 ≤ _; omega⟩; iterate 2 rfl) | (apply EH.grow (xJ rfl rfl (by simp; omega)); rfl; rfl; rfl)
       | (apply bV; iterate 3 rfl) | (apply fV; iterate 3 rfl) | (apply fA; iterate 5 rfl)
       | (apply kY (b := true); (iterate 2 rfl); exact aQ; iterate 2 rfl)
       | (apply rQ; (iterate 3 rfl); exact ixA; iterate 2 rfl)
       | ((with_reducible apply EH.nil); rfl))
     repeat
      (first
       | apply EL.nil | (with_reducible first | apply EK.nc | apply EC.ret | apply EK.aB))
     exact EK.mM [] rfl rfl rfl rfl RL.a RL.a RL.a (WI _) ⟨rfl, rfl⟩
    ·
     rw [show decide (2 ≤ x.toNat) = false by simp [h2]]
     repeat
      (first
       | (apply dO; iterate 2 rfl) | (apply aC (hS); rfl; exact aj.refl _ _; exact enA; iterate 2 rfl)
       | (apply nC; (iterate 2 rfl); exact hrem; iterate 2 rfl) | (apply ak; iterate 3 rfl) | (apply ah; iterate 3 rfl) | (apply aG; iterate 5 rfl)
       | (apply aK; iterate 4 rfl) | (apply aF (b := true); (iterate 2 rfl); exact aQ; iterate 2 rfl)
       | (apply aF (b := false); (iterate 2 rfl); exact aQ; iterate 2 rfl) | (apply aV; iterate 4 rfl)
       | (apply iw; (iterate 3 rfl); exact ixA; iterate 2 rfl) | apply EL.nil
       | (apply EC.t0; rfl) | (apply EC.f0; rfl) | (with_reducible first | apply EK.nc | apply EC.seq | apply EC.r0 | apply EC.k0))
     refine EC.draw 10 (by kernel_rfl) ?_
     simp only [WH, WO, WG, WM]
     repeat
      (first
       | (apply uX; (iterate 3 rfl); exact ⟨by decide, by rw [hl2]; show 1 ≤ _; omega⟩; iterate 2 rfl) | (apply EH.grow (xJ rfl rfl (by simp; omega)); rfl; rfl; rfl)
       | (apply bV; iterate 3 rfl) | (apply fV; iterate 3 rfl) | (apply fA; iterate 5 rfl)
       | (apply kY (b := false); (iterate 2 rfl); exact aQ; iterate 2 rfl)
       | (apply rQ; (iterate 3 rfl); exact ixA; iterate 2 rfl)
       | ((with_reducible apply EH.nil); rfl))
     repeat
      (first
       | apply EL.nil | (with_reducible first | apply EK.nc | apply EC.ret | apply EK.aB))
     exact EK.mM [] rfl rfl rfl rfl RL.a RL.a RL.a (WI _) ⟨rfl, rfl⟩
   ·
    have h0 : x.toNat % 2 = 0 := by omega
    rw [if_neg h1]
    rw [h0] at hrem
    by_cases hy : y.toNat = 0
    ·
     rw [if_pos hy]
     by_cases h2 : 2 ≤ x.toNat
     ·
      rw [show decide (2 ≤ x.toNat) = true by simp [h2]]
      repeat
       (first
        | (apply aC (hS); rfl; exact aj.refl _ _; exact enA; iterate 2 rfl) | (apply nC; (iterate 2 rfl); exact hrem; iterate 2 rfl)
        | (apply ak; iterate 3 rfl) | (apply ah; iterate 3 rfl) | (apply aG; iterate 5 rfl) | (apply aK; iterate 4 rfl)
        | (apply aF (b := true); (iterate 2 rfl); exact aQ; iterate 2 rfl) | (apply aF (b := false); (iterate 2 rfl); exact aQ; iterate 2 rfl)
        | (apply aV; iterate 4 rfl)
        | (apply iw; (iterate 3 rfl); exact ixA; iterate 2 rfl) | apply EL.nil
        | (apply EC.f0; rfl) | (with_reducible first | apply EK.nc | apply EC.seq | apply EC.r0 | apply EC.k0))
      refine EC.draw 10 (by kernel_rfl) ?_
      simp only [WH, WO, WG, WM]
      repeat
       (first
        | (apply uX; (iterate 3 rfl); exact ⟨by decide, by rw [hl2]; show 2 ≤ _; omega⟩; iterate 2 rfl) | (apply EH.grow (xJ rfl rfl (by simp; omega)); rfl; rfl; rfl)
        | (apply bV; iterate 3 rfl) | (apply fV; iterate 3 rfl) | (apply fA; iterate 5 rfl)
        | (apply kY (b := true); (iterate 2 rfl); exact aQ; iterate 2 rfl)
        | (apply rQ; (iterate 3 rfl); exact ixA; iterate 2 rfl)
        | ((with_reducible apply EH.nil); rfl))
      repeat
       (first
        | apply EL.nil | ((with_reducible apply EK.h0); apply EK.code) | (with_reducible apply EC.ret))
      exact EK.mM [] rfl rfl rfl rfl RL.a RL.a RL.a (WI _) ⟨rfl, rfl⟩
     ·
      rw [show decide (2 ≤ x.toNat) = false by simp [h2]]
      repeat
       (first
        | (apply aC (hS); rfl; exact aj.refl _ _; exact enA; iterate 2 rfl) | (apply nC; (iterate 2 rfl); exact hrem; iterate 2 rfl)
        | (apply ak; iterate 3 rfl) | (apply ah; iterate 3 rfl) | (apply aG; iterate 5 rfl) | (apply aK; iterate 4 rfl)
        | (apply aF (b := true); (iterate 2 rfl); exact aQ; iterate 2 rfl) | (apply aF (b := false); (iterate 2 rfl); exact aQ; iterate 2 rfl)
        | (apply aV; iterate 4 rfl)
        | (apply iw; (iterate 3 rfl); exact ixA; iterate 2 rfl) | apply EL.nil
        | (apply EC.f0; rfl) | (with_reducible first | apply EK.nc | apply EC.seq | apply EC.r0 | apply EC.k0))
      refine EC.draw 10 (by kernel_rfl) ?_
      simp only [WH, WO, WG, WM]
      repeat
       (first
        | (apply uX; (iterate 3 rfl); exact ⟨by decide, by rw [hl2]; show 2 ≤ _; omega⟩; iterate 2 rfl) | (apply EH.grow (xJ rfl rfl (by simp; omega)); rfl; rfl; rfl)
        | (apply bV; iterate 3 rfl) | (apply fV; iterate 3 rfl) | (apply fA; iterate 5 rfl)
        | (apply kY (b := false); (iterate 2 rfl); exact aQ; iterate 2 rfl)
        | (apply rQ; (iterate 3 rfl); exact ixA; iterate 2 rfl)
        | ((with_reducible apply EH.nil); rfl))
      repeat
       (first
        | apply EL.nil | ((with_reducible apply EK.h0); apply EK.code) | (with_reducible apply EC.ret))
      exact EK.mM [] rfl rfl rfl rfl RL.a RL.a RL.a (WI _) ⟨rfl, rfl⟩
    ·
     rw [if_neg hy]
     repeat
      (first
       | (apply aC (hS); rfl; exact aj.refl _ _; exact enA; iterate 2 rfl) | (apply nC; (iterate 2 rfl); exact hrem; iterate 2 rfl)
       | (apply ak; iterate 3 rfl) | (apply ah; iterate 3 rfl) | (apply aG; iterate 5 rfl) | (apply aK; iterate 4 rfl)
       | (apply aF (b := true); (iterate 2 rfl); exact aQ; iterate 2 rfl) | (apply aF (b := false); (iterate 2 rfl); exact aQ; iterate 2 rfl)
       | (apply aV; iterate 4 rfl)
       | (apply iw; (iterate 3 rfl); exact ixA; iterate 2 rfl) | apply EL.nil
       | (apply EC.t0; rfl) | (with_reducible first | apply EK.nc | apply EC.seq | apply EC.r0 | apply EC.ret | apply EK.aB))
     exact EK.mM [] rfl rfl rfl rfl RL.a RL.a RL.a (WI _) ⟨rfl, rfl⟩
end E
end Go.Proofs.YtelbhdobjdnglaaGreat
namespace Go.Proofs.YtelbhdobjdnglaaGreat.Kec
abbrev L := BitVec 64
abbrev St := Nat → L
def upd (f : St) (k : Nat) (v : L) : St := fun j => if j = k then v else f j
def rotl (x : L) (n : Nat) : L := x <<< n ||| x >>> (64 - n)
theorem Uc (x : L) : x >>> 64 = 0 := by
 apply BitVec.eq_of_toNat_eq
 rw [BitVec.toNat_ushiftRight, YU]
 have := x.isLt
 exact Nat.div_eq_of_lt this
theorem rC (x : L) : rotl x 0 = x := by simp [rotl, Uc]
def turn (k : Nat) : Nat := [0, 1, 62, 28, 27, 36, 44, 6, 55, 20, 3, 10, 43, 25, 39, 41, 45, 15, 21, 8, 18, 2, 61, 56, 14].getD k 0
def rc (k : Nat) : L := ([0x0000000000000001, 0x0000000000008082, 0x800000000000808a, 0x8000000080008000, 0x000000000000808b, 0x0000000080000001,
 0x8000000080008081, 0x8000000000008009, 0x000000000000008a, 0x0000000000000088, 0x0000000080008009, 0x000000008000000a,
 0x000000008000808b, 0x800000000000008b, 0x8000000000008089, 0x8000000000008003, 0x8000000000008002, 0x8000000000000080,
 0x000000000000800a, 0x800000008000000a, 0x8000000080008081, 0x8000000000008080, 0x0000000080000001, 0x8000000080008008] : List L).getD k 0
def col (s : St) (x : Nat) : L := s x ^^^ s (x + 5) ^^^ s (x + 10) ^^^ s (x + 15) ^^^ s (x + 20)
def dd (s : St) (x : Nat) : L := col s ((x + 4) % 5) ^^^ rotl (col s ((x + 1) % 5)) 1
def place (k : Nat) : Nat := k / 5 + 5 * ((2 * (k % 5) + 3 * (k / 5)) % 5)
def bb (s : St) : Nat → St
 | 0 => fun _ => 0
 | k + 1 => upd (bb s k) (place k) (rotl (s k ^^^ dd s (k % 5)) (turn k))
def chi (b : St) (k : Nat) : L := b k ^^^ (~~~ b ((k % 5 + 1) % 5 + k / 5 * 5) &&& b ((k % 5 + 2) % 5 + k / 5 * 5))
def ss (b s : St) : Nat → St
 | 0 => s
 | k + 1 => upd (ss b s k) k (chi b k)
def round (s : St) (n : L) : St := upd (ss (bb s 25) s 25) 0 (ss (bb s 25) s 25 0 ^^^ n)
def perm (s : St) : Nat → St
 | 0 => s
 | k + 1 => round (perm s k) (rc k)
def th1 (d : L) (x : Nat) (a : St) : Nat → St
 | 0 => a
 | k + 1 => upd (th1 d x a k) (x + 5 * k) (th1 d x a k (x + 5 * k) ^^^ d)
def th (c a : St) : Nat → St
 | 0 => a
 | x + 1 => th1 (c ((x + 4) % 5) ^^^ rotl (c ((x + 1) % 5)) 1) x (th c a x) 5
structure Walk where
 x : Nat
 y : Nat
 cur : L
 a : St
def mv (a : St) : Nat → Walk
 | 0 => ⟨1, 0, a 1, a⟩
 | t + 1 =>
  let w := mv a t
  let x := w.y
  let y := (2 * w.x + 3 * w.y) % 5
  ⟨x, y, w.a (x + 5 * y), upd w.a (x + 5 * y) (rotl w.cur ((t + 1) * (t + 2) / 2 % 64))⟩
def ch1 (r a : St) (y : Nat) : Nat → St
 | 0 => a
 | x + 1 => upd (ch1 r a y x) (x + y) (r x ^^^ (~~~ r ((x + 1) % 5) &&& r ((x + 2) % 5)))
def ch (a : St) : Nat → St
 | 0 => a
 | y + 1 => ch1 (fun x => ch a y (x + 5 * y)) (ch a y) (5 * y) 5
def lf (l : BitVec 8) : BitVec 8 := if l &&& 128 ≠ 0 then (l <<< 1) ^^^ 0x71 else l <<< 1
def lfn (l : BitVec 8) : Nat → BitVec 8
 | 0 => l
 | j + 1 => lf (lfn l j)
def io (a : St) (l : BitVec 8) : Nat → St
 | 0 => a
 | j + 1 => if lfn l j &&& 1 = 1 then upd (io a l j) 0 (io a l j 0 ^^^ (1 : L) <<< (2 ^ j - 1)) else io a l j
def yE (a : St) (l : BitVec 8) : St := io (ch (mv (th (col a) a 5) 24).a 5) l 7
def yF (a : St) : Nat → St
 | 0 => a
 | k + 1 => yE (yF a k) (lfn 1 (7 * k))
def num (l : BitVec 8) : Nat → L
 | 0 => 0
 | j + 1 => if lfn l j &&& 1 = 1 then num l j ^^^ (1 : L) <<< (2 ^ j - 1) else num l j
theorem TD (a : St) (l : BitVec 8) : ∀ j, io a l j = upd a 0 (a 0 ^^^ num l j)
 | 0 => by funext k; simp [io, num, upd]; intro h; rw [h]
 | j + 1 => by
  unfold io num
  rw [TD a l j]
  split
  ·
   funext k
   by_cases hk : k = 0
   · subst hk; simp [upd, BitVec.xor_assoc]
   · simp [upd, hk]
  · rfl
theorem Uj : ∀ k, k < 24 → num (lfn 1 (7 * k)) 7 = rc k := by decide +kernel
theorem VT (a : St) : ss (bb a 25) a 25 0 = ch (mv (th (col a) a 5) 24).a 5 0 := by simp [ss, bb, chi, upd, place, dd, col, turn, ch, ch1, mv, th, th1, rC]
theorem VR (a : St) : ss (bb a 25) a 25 1 = ch (mv (th (col a) a 5) 24).a 5 1 := by simp [ss, bb, chi, upd, place, dd, col, turn, ch, ch1, mv, th, th1]
theorem VQ (a : St) : ss (bb a 25) a 25 2 = ch (mv (th (col a) a 5) 24).a 5 2 := by simp [ss, bb, chi, upd, place, dd, col, turn, ch, ch1, mv, th, th1]
theorem VO (a : St) : ss (bb a 25) a 25 3 = ch (mv (th (col a) a 5) 24).a 5 3 := by simp [ss, bb, chi, upd, place, dd, col, turn, ch, ch1, mv, th, th1, rC]
theorem VN (a : St) : ss (bb a 25) a 25 4 = ch (mv (th (col a) a 5) 24).a 5 4 := by simp [ss, bb, chi, upd, place, dd, col, turn, ch, ch1, mv, th, th1, rC]
theorem VL (a : St) : ss (bb a 25) a 25 5 = ch (mv (th (col a) a 5) 24).a 5 5 := by simp [ss, bb, chi, upd, place, dd, col, turn, ch, ch1, mv, th, th1]
theorem VK (a : St) : ss (bb a 25) a 25 6 = ch (mv (th (col a) a 5) 24).a 5 6 := by simp [ss, bb, chi, upd, place, dd, col, turn, ch, ch1, mv, th, th1]
theorem VJ (a : St) : ss (bb a 25) a 25 7 = ch (mv (th (col a) a 5) 24).a 5 7 := by simp [ss, bb, chi, upd, place, dd, col, turn, ch, ch1, mv, th, th1]
theorem VI (a : St) : ss (bb a 25) a 25 8 = ch (mv (th (col a) a 5) 24).a 5 8 := by simp [ss, bb, chi, upd, place, dd, col, turn, ch, ch1, mv, th, th1]
theorem VH (a : St) : ss (bb a 25) a 25 9 = ch (mv (th (col a) a 5) 24).a 5 9 := by simp [ss, bb, chi, upd, place, dd, col, turn, ch, ch1, mv, th, th1]
theorem UG (a : St) : ss (bb a 25) a 25 10 = ch (mv (th (col a) a 5) 24).a 5 10 := by simp [ss, bb, chi, upd, place, dd, col, turn, ch, ch1, mv, th, th1]
theorem UF (a : St) : ss (bb a 25) a 25 11 = ch (mv (th (col a) a 5) 24).a 5 11 := by simp [ss, bb, chi, upd, place, dd, col, turn, ch, ch1, mv, th, th1]
theorem UE (a : St) : ss (bb a 25) a 25 12 = ch (mv (th (col a) a 5) 24).a 5 12 := by simp [ss, bb, chi, upd, place, dd, col, turn, ch, ch1, mv, th, th1]
theorem UD (a : St) : ss (bb a 25) a 25 13 = ch (mv (th (col a) a 5) 24).a 5 13 := by simp [ss, bb, chi, upd, place, dd, col, turn, ch, ch1, mv, th, th1]
theorem UC (a : St) : ss (bb a 25) a 25 14 = ch (mv (th (col a) a 5) 24).a 5 14 := by simp [ss, bb, chi, upd, place, dd, col, turn, ch, ch1, mv, th, th1]
theorem UA (a : St) : ss (bb a 25) a 25 15 = ch (mv (th (col a) a 5) 24).a 5 15 := by simp [ss, bb, chi, upd, place, dd, col, turn, ch, ch1, mv, th, th1]
theorem Uz (a : St) : ss (bb a 25) a 25 16 = ch (mv (th (col a) a 5) 24).a 5 16 := by simp [ss, bb, chi, upd, place, dd, col, turn, ch, ch1, mv, th, th1]
theorem Uy (a : St) : ss (bb a 25) a 25 17 = ch (mv (th (col a) a 5) 24).a 5 17 := by simp [ss, bb, chi, upd, place, dd, col, turn, ch, ch1, mv, th, th1]
theorem Ux (a : St) : ss (bb a 25) a 25 18 = ch (mv (th (col a) a 5) 24).a 5 18 := by simp [ss, bb, chi, upd, place, dd, col, turn, ch, ch1, mv, th, th1]
theorem Uw (a : St) : ss (bb a 25) a 25 19 = ch (mv (th (col a) a 5) 24).a 5 19 := by simp [ss, bb, chi, upd, place, dd, col, turn, ch, ch1, mv, th, th1]
theorem Uu (a : St) : ss (bb a 25) a 25 20 = ch (mv (th (col a) a 5) 24).a 5 20 := by simp [ss, bb, chi, upd, place, dd, col, turn, ch, ch1, mv, th, th1]
theorem Ut (a : St) : ss (bb a 25) a 25 21 = ch (mv (th (col a) a 5) 24).a 5 21 := by simp [ss, bb, chi, upd, place, dd, col, turn, ch, ch1, mv, th, th1]
theorem Us (a : St) : ss (bb a 25) a 25 22 = ch (mv (th (col a) a 5) 24).a 5 22 := by simp [ss, bb, chi, upd, place, dd, col, turn, ch, ch1, mv, th, th1]
theorem Ur (a : St) : ss (bb a 25) a 25 23 = ch (mv (th (col a) a 5) 24).a 5 23 := by simp [ss, bb, chi, upd, place, dd, col, turn, ch, ch1, mv, th, th1]
theorem Uo (a : St) : ss (bb a 25) a 25 24 = ch (mv (th (col a) a 5) 24).a 5 24 := by simp [ss, bb, chi, upd, place, dd, col, turn, ch, ch1, mv, th, th1]
theorem lane (a : St) (k : Nat) (hk : k < 25) : ss (bb a 25) a 25 k = ch (mv (th (col a) a 5) 24).a 5 k := by
 match k, hk with
 | 0, _ => exact VT a
 | 1, _ => exact VR a
 | 2, _ => exact VQ a
 | 3, _ => exact VO a
 | 4, _ => exact VN a
 | 5, _ => exact VL a
 | 6, _ => exact VK a
 | 7, _ => exact VJ a
 | 8, _ => exact VI a
 | 9, _ => exact VH a
 | 10, _ => exact UG a
 | 11, _ => exact UF a
 | 12, _ => exact UE a
 | 13, _ => exact UD a
 | 14, _ => exact UC a
 | 15, _ => exact UA a
 | 16, _ => exact Uz a
 | 17, _ => exact Uy a
 | 18, _ => exact Ux a
 | 19, _ => exact Uw a
 | 20, _ => exact Uu a
 | 21, _ => exact Ut a
 | 22, _ => exact Us a
 | 23, _ => exact Ur a
 | 24, _ => exact Uo a
 | k + 25, h => omega
def Same (a b : St) : Prop := ∀ k, k < 25 → a k = b k
end Go.Proofs.YtelbhdobjdnglaaGreat.Kec
namespace Go.Proofs.YtelbhdobjdnglaaGreat
set_option maxHeartbeats 400000
open Go.RowKit Mono
open Kec
def u (x : L) : Int := (x.toNat : Int)
theorem uf (x : L) : 0 ≤ u x ∧ u x < 18446744073709551616 := by
 have := x.isLt
 unfold u
 omega
theorem pV (x y : L) : bits .xor .u64 (u x) (u y) = u (x ^^^ y) := by
 unfold u
 rw [u64_xor_nat _ _ x.isLt y.isLt, BitVec.toNat_xor]
theorem NZ (x y : L) : bits .and .u64 (u x) (u y) = u (x &&& y) := by
 unfold u
 rw [u64_and_nat _ _ x.isLt y.isLt, BitVec.toNat_and]
theorem Vl (x y : L) : bits .or .u64 (u x) (u y) = u (x ||| y) := by
 unfold u
 rw [u64_or_nat _ _ x.isLt y.isLt, BitVec.toNat_or]
theorem Jv (x : L) (n : Nat) : IntKind.u64.wrap (u x * 2 ^ n) = u (x <<< n) := by
 unfold u
 rw [IntKind.wrap_u64, BitVec.toNat_shiftLeft, Nat.shiftLeft_eq]
 have h : ((x.toNat : Int) * 2 ^ n) = ((x.toNat * 2 ^ n : Nat) : Int) := by simp
 rw [h]
 exact (Int.natCast_emod _ _).symm
theorem Ju (x : L) (n : Nat) : u x / 2 ^ n = u (x >>> n) := by
 unfold u
 rw [BitVec.toNat_ushiftRight, YU]
 simp
def lv (x : L) : Value := .int .u64 (u x)
theorem rotate (x : L) (k : Nat) (hk : k < 64) (w : World) : Calls Tryz.prog 191 #[.int .u64 (u x), .int .i64 k] w fun e w' => e = .returned (.int .u64 (u (rotl x k))) ∧ w' = w := by
 have ha : bits .and .u64 (k : Int) 63 = k := by
  have := u64_and_nat k 63 (by omega) (by omega)
  rw [show ((63 : Nat) : Int) = 63 from rfl] at this
  rw [this]
  congr 1
  exact (X9 k 6).trans (Nat.mod_eq_of_lt hk)
 have hx := uf x
 have hx0 := hx.1
 clear hx
 go_enter Tryz.func191, Tryz.ntmps191
 go_wp2
 refine bodyPost_ret (results_tmp rfl _ _ _) rfl ⟨?_, rfl⟩
 show Ending.returned (.int .u64 (bits .or .u64 (IntKind.u64.wrap (u x * 2 ^ k)) (u x / 2 ^ (64 - k)))) = _
 rw [Jv, Ju, Vl]
 rfl
theorem rol (x : L) (k : Nat) (hk : k < 64) (w : World) : Calls Tryz.prog 105 #[.int .u64 (u x), .int .u64 k] w fun e w' => e = .returned (.int .u64 (u (rotl x k))) ∧ w' = w := by
 by_cases h0 : k = 0
 ·
  subst h0
  rw [rC]
  go_enter Tryz.func105, Tryz.ntmps105
  go_wp2
  exact bodyPost_ret (results_tmp rfl _ _ _) rfl ⟨rfl, rfl⟩
 ·
  have hk1 : 0 < k := by omega
  clear h0
  go_enter Tryz.func105, Tryz.ntmps105
  go_wp2
  refine bodyPost_ret (results_tmp rfl _ _ _) rfl ⟨?_, rfl⟩
  show Ending.returned (.int .u64 (bits .or .u64 (IntKind.u64.wrap (u x * 2 ^ k)) (u x / 2 ^ (64 - k)))) = _
  rw [Jv, Ju, Vl]
  rfl
def cellsOf (f : St) (n : Nat) : Array Value := ((List.range n).map fun k => lv (f k)).toArray
def bY (w : World) (g : Nat) (t : TypeId) (n : Nat) (f : St) : Prop := w.heap[g]? = some (.cells (cellsOf f n) t (0, 0))
theorem cellsOf_size (f : St) (n : Nat) : (cellsOf f n).size = n := by simp [cellsOf]
theorem mZ (f : St) (n k : Nat) (h : k < n) : (cellsOf f n)[k]? = some (lv (f k)) := by simp [cellsOf, h]
theorem cellsOf_set (f : St) (n k : Nat) (v : L) : (cellsOf f n).setIfInBounds k (lv v) = cellsOf (Kec.upd f k v) n := by
 apply Array.ext_getElem?
 intro i
 rw [YC]
 by_cases hi : i < n
 ·
  by_cases hk : k = i
  ·
   subst hk
   rw [if_pos rfl, cellsOf_size, if_pos hi, mZ _ n k hi]
   congr 2
   exact (if_pos rfl).symm
  ·
   rw [if_neg hk, mZ _ n i hi, mZ _ n i hi]
   congr 2
   exact (if_neg (Ne.symm hk)).symm
 ·
  have h1 : (cellsOf f n)[i]? = none := Array.getElem?_eq_none (by rw [cellsOf_size]; omega)
  have h2 : (cellsOf (Kec.upd f k v) n)[i]? = none := Array.getElem?_eq_none (by rw [cellsOf_size]; omega)
  rw [h1, h2]
  by_cases hk : k = i
  · subst hk; rw [if_pos rfl, cellsOf_size, if_neg hi]
  · rw [if_neg hk]
section
variable {w w' : World} {g : Nat} {t : TypeId} {n : Nat} {f : St}
theorem bY.lt (h : bY w g t n f) : g < w.heap.size := by
 rcases Xx g w.heap.size with h1 | h1
 · exact h1
 · unfold bY at h; rw [Array.getElem?_eq_none h1] at h; cases h
theorem bY.cell (h : bY w g t n f) (k : Nat) (hk : k < n) : w.cell? ⟨g, k, none⟩ = some (lv (f k)) := by
 rw [cell_of_row w g k _ t (0, 0) h]
 exact mZ f n k hk
theorem bY.frozen (h : bY w g t n f) (k : Nat) : w.frozen? ⟨g, k, none⟩ = false := by
 unfold bY at h
 simp [World.frozen?, h]
theorem bY.gr (h : bY w g t n f) (hg : Gr w w') : bY w' g t n f := (hg.block g h.lt).trans h
theorem bY.set (h : bY w g t n f) (k : Nat) (v : L) : bY (w.setCell ⟨g, k, none⟩ (lv v)) g t n (Kec.upd f k v) := by
 unfold bY at h ⊢
 simp [World.setCell, Array.getElem?_modify, h, cellsOf_set]
theorem bY.far (h : bY w g t n f) {p : Addr} (hp : g ≠ p.block) (v : Value) : bY (w.setCell p v) g t n f := (Below.heap_setCell w p v g hp).trans h
theorem bY.alloc (h : bY w g t n f) (o : Obj) : bY (w.alloc o) g t n f := h.gr (au w o)
theorem bY.grown (h : bY w g t n f) {row : Option Nat} (hg : w.grownBy w' row) (hne : some g ≠ row) : bY w' g t n f := (hg.block g h.lt hne).trans h
end
def Only (g : Nat) (w w' : World) : Prop := w.grownBy w' (some g)
theorem Only.BM {w w' : World} (h : Gr w w') (g : Nat) : Only g w w' := ⟨h.os, h.tape, h.output, h.size, fun k hk _ => h.block k hk⟩
theorem Only.refl (g : Nat) (w : World) : Only g w w := Only.BM (Gr.refl w) g
theorem Only.trans {g : Nat} {a b c : World} (h : Only g a b) (k : Only g b c) : Only g a c :=
 ⟨k.os.trans h.os, k.tape.trans h.tape, k.output.trans h.output, XD h.size k.size, fun i hi hne => (k.block i (Xd hi h.size) hne).trans (h.block i hi hne)⟩
theorem Only.set {g : Nat} (w : World) (k : Nat) (v : Value) : Only g w (w.setCell ⟨g, k, none⟩ v) :=
 ⟨rfl, rfl, rfl, by simp [World.setCell], fun i _ hne => Below.heap_setCell w _ v i (fun e => hne (by rw [e]))⟩
theorem Only.gr {g : Nat} {a b c : World} (hab : Gr a b) (h : Only g b c) (hg : a.heap.size ≤ g) : Gr a c :=
 ⟨h.os.trans hab.os, h.tape.trans hab.tape, h.output.trans hab.output, XD hab.size h.size, fun i hi => (h.block i (Xd hi hab.size) (fun e => by injection e with e; omega)).trans (hab.block i hi)⟩
end Go.Proofs.YtelbhdobjdnglaaGreat
namespace Go.Proofs.YtelbhdobjdnglaaGreat
set_option maxRecDepth 20000
set_option maxHeartbeats 1000000
open Go.RowKit Mono
open Kec (L St rotl)
def takeB (f : St) (k : Nat) (b : Nat) : St := Kec.upd f (k / 8) (f (k / 8) ^^^ (BitVec.ofNat 64 b) <<< (8 * (k % 8)))
theorem NY (n : Nat) (h : n < 256) : u (BitVec.ofNat 64 n) = (n : Int) := by
 unfold u
 rw [BitVec.toNat_ofNat]
 omega
def Tf (R : World → Prop) (e : Ending) (w' : World) : Prop := e = .returned (.tuple #[]) ∧ R w'
theorem zl (g : Nat) (t : TypeId) (f : St) (k n : Nat) (hk : k < 136) (hn : n < 256) (w : World) (hl : bY w g t 25 f) :
  Calls Tryz.prog 135 #[.pointer (some ⟨g, 0, none⟩), .int .i64 k, .int .u8 n] w (Tf fun w' => bY w' g t 25 (takeB f k n) ∧ Only g w w') := by
 have hg := hl.lt
 have c1 := bg (w := w) (p := ⟨g, k / 8, none⟩) hg (hl.cell (k / 8) (by omega))
 unfold lv at c1
 have hu := uf (f (k / 8))
 have hu0 := hu.1
 have HL := Lib.hid hl
 clear hl hu
 go_enter Tryz.func135, Tryz.ntmps135
 go_wp2
 refine dH 15 (by kernel_rfl) (by kernel_rfl) (by kernel_rfl) ?_
 simp only [WH, WO, WG, WM]
 refine dM 15 (by kernel_rfl) ?_
 simp only [WH, WO, WG, WM]
 repeat (go_big_quiet_step (fail))
 refine wpQuiet_nil ?_
 refine gK (by kernel_rfl) ?_
 intro W hW
 replace hW := hW.gr
 unfold oD
 have HW := Lib.hid (HL.out.gr hW)
 have e1 := HW.out.cell (k / 8) (by omega)
 have e2 := HW.out.frozen (k / 8)
 unfold lv at e1
 go_wp2
 refine bodyPost_ret (results_none rfl _ _ _) rfl ⟨rfl, ?_⟩
 have hv : Value.int .u64 (bits .xor .u64 (u (f (k / 8))) (IntKind.u64.wrap ((n : Int) * 2 ^ (8 * (k % 8))))) = lv (f (k / 8) ^^^ (BitVec.ofNat 64 n) <<< (8 * (k % 8))) := by
  rw [← NY n hn, Jv, pV]
  rfl
 rw [hv]
 exact ⟨HW.out.set _ _, (Only.BM hW g).trans (Only.set _ _ _)⟩
def jE : Array Value := ((List.range 25).map fun k => Value.int .i64 (Kec.turn k)).toArray
def Turns (w : World) (g : Nat) (t : TypeId) : Prop := w.heap[g]? = some (.cells jE t (0, 0))
theorem Turns.cell {w : World} {g : Nat} {t : TypeId} (h : Turns w g t) (k : Nat) (hk : k < 25) : w.cell? ⟨g, k, none⟩ = some (.int .i64 (Kec.turn k)) := by
 rw [cell_of_row w g k _ t (0, 0) h]
 simp [jE, hk]
theorem Turns.lt {w : World} {g : Nat} {t : TypeId} (h : Turns w g t) : g < w.heap.size := by
 rcases Xx g w.heap.size with h1 | h1
 · exact h1
 · unfold Turns at h; rw [Array.getElem?_eq_none h1] at h; cases h
theorem Turns.gr {w w' : World} {g : Nat} {t : TypeId} (h : Turns w g t) (hg : Gr w w') : Turns w' g t := (hg.block g h.lt).trans h
theorem QV : ∀ k, k < 25 → Kec.turn k < 64 := by decide
theorem OH : ∀ k, k < 25 → Kec.place k < 25 := by decide
def fC (f : St) (n : Nat) : St := fun j => if j < n then f j else 0
theorem mW (f : St) (n : Nat) : Kec.upd (fC f n) n (f n) = fC f (n + 1) := by
 funext j
 unfold Kec.upd fC
 by_cases h : j = n
 · subst h; rw [if_pos rfl, if_pos (by omega)]
 ·
  rw [if_neg h]
  by_cases h2 : j < n
  · rw [if_pos h2, if_pos (by omega)]
  · rw [if_neg h2, if_neg (by omega)]
theorem mV (f : St) : fC f 0 = fun _ => 0 := by funext j; simp [fC]
theorem kF (w : World) (t : TypeId) (n : Nat) (c : Array Value) (h : c = cellsOf (fun _ => 0) n) : bY (w.alloc (.cells c t)) w.heap.size t n (fun _ => 0) := by
 subst h
 unfold bY World.alloc
 simp
theorem Tz (x : L) : bits .xor .u64 (if IntKind.u64.signed = true then -1 else IntKind.u64.max) (u x) = u (~~~x) := by
 have h : (if IntKind.u64.signed = true then -1 else IntKind.u64.max) = u (BitVec.allOnes 64) := rfl
 rw [h, pV, BitVec.allOnes_xor]
theorem wu (w : World) (o : Obj) : (w.alloc o).heap.size = w.heap.size + 1 := by simp
theorem TA (s : St) (k : Nat) : bits .xor .u64 (bits .xor .u64 (bits .xor .u64 (bits .xor .u64 (u (s k)) (u (s (k + 5)))) (u (s (k + 10)))) (u (s (k + 15)))) (u (s (k + 20))) = u (Kec.col s k) := by
 simp only [pV]
 rfl
theorem MJ (g gt : Nat) (t tt : TypeId) (s : St) (n : L) (w : World) (hl : bY w g t 25 s) (ht : Turns w gt tt) :
  Calls Tryz.prog 171 #[.pointer (some ⟨g, 0, none⟩), .pointer (some ⟨gt, 0, none⟩), .int .u64 (u n)] w (Tf fun w' => bY w' g t 25 (Kec.round s n) ∧ Only g w w') := by
 have hg := hl.lt
 have hgt := ht.lt
 have HL := Lib.hid hl
 have HT := Lib.hid ht
 clear hl ht
 go_enter Tryz.func171, Tryz.ntmps171
 go_wp2
 go_loopw [17] (fun i wr => ∃ k : Nat, k ≤ 5 ∧ i = .int .i64 k ∧ bY wr w.heap.size 200 5 (fC (Kec.col s) k) ∧ bY wr (w.heap.size + 1) 200 5 (fun _ => 0) ∧ Gr w wr) (fun i _ => 5 - (intOf i).toNat)
 case atStart =>
  refine ⟨0, by omega, rfl, ?_, ?_, ?_⟩
  ·
   rw [mV]
   exact (kF w 200 5 _ rfl).alloc _
  ·
   have := kF (w.alloc (.cells #[.int .u64 0, .int .u64 0, .int .u64 0, .int .u64 0, .int .u64 0] 200)) 200 5 _ rfl
   rw [wu] at this
   exact this
  · exact (au w _).trans (au _ _)
 case round =>
  obtain ⟨k, hk, rfl, hc, hd, hb⟩ := hrel
  have hbs := hb.size
  have HC := Lib.hid hc
  have HD := Lib.hid hd
  have HB := Lib.hid hb
  have hcl := hc.lt
  have hdl := hd.lt
  clear hc hd hb
  by_cases h1 : k < 5
  ·
   have c0 := bg (w := wr) (p := ⟨g, k, none⟩) (by dsimp only; omega) ((HL.out.gr HB.out).cell k (by omega))
   have c1 := bg (w := wr) (p := ⟨g, k + 5, none⟩) (by dsimp only; omega) ((HL.out.gr HB.out).cell (k + 5) (by omega))
   have c2 := bg (w := wr) (p := ⟨g, k + 10, none⟩) (by dsimp only; omega) ((HL.out.gr HB.out).cell (k + 10) (by omega))
   have c3 := bg (w := wr) (p := ⟨g, k + 15, none⟩) (by dsimp only; omega) ((HL.out.gr HB.out).cell (k + 15) (by omega))
   have c4 := bg (w := wr) (p := ⟨g, k + 20, none⟩) (by dsimp only; omega) ((HL.out.gr HB.out).cell (k + 20) (by omega))
   unfold lv at c0 c1 c2 c3 c4
   go_wp2
   refine dH 35 (by kernel_rfl) (by kernel_rfl) (by kernel_rfl) ?_
   simp only [WH, WO, WG, WM]
   refine dM 35 (by kernel_rfl) ?_
   simp only [WH, WO, WG, WM]
   repeat (go_big_quiet_step (fail))
   refine wpQuiet_nil ?_
   refine gK (by kernel_rfl) ?_
   intro W hW
   replace hW := hW.gr
   unfold oD
   rename_i wq hW
   have HQ := Lib.hid (HC.out.gr hW)
   have e2 := HQ.out.frozen k
   have e1 := HQ.out.cell k (by omega)
   unfold lv at e1
   go_wp2
   go_roundw
   case rel =>
    rw [TA]
    refine ⟨k + 1, by omega, by go_num, ?_, ?_, ?_⟩
    ·
     rw [← mW]
     exact HQ.out.set k (Kec.col s k)
    · exact ((HD.out.gr hW)).far (by simp) _
    · exact (Only.set (g := w.heap.size) _ k _).gr (HB.out.trans hW) (Nat.le_refl _)
   case measure => simp [intOf]; omega
  ·
   have h5 : k = 5 := by omega
   subst h5
   go_wp2_with fail
   obtain ⟨wo, rfl⟩ : ∃ wo : World, wo = wr := ⟨_, rfl⟩
   go_loopw [56] (fun i wr => ∃ k : Nat, k ≤ 5 ∧ i = .int .i64 k ∧ bY wr w.heap.size 200 5 (fC (Kec.col s) 5) ∧ bY wr (w.heap.size + 1) 200 5 (fC (Kec.dd s) k) ∧ Gr w wr) (fun i _ => 5 - (intOf i).toNat)
   case atStart => exact ⟨0, by omega, rfl, HC.out, by rw [mV]; exact HD.out, HB.out⟩
   case round =>
    clear HB HC HD
    obtain ⟨k, hk, rfl, hc, hd, hb⟩ := hrel
    have hbs := hb.size
    have HC := Lib.hid hc
    have HD := Lib.hid hd
    have HB := Lib.hid hb
    have hcl := hc.lt
    have hdl := hd.lt
    clear hc hd hb
    by_cases h1 : k < 5
    ·
     have c0 := bg (w := wr) (p := ⟨w.heap.size, (k + 4) % 5, none⟩) (by dsimp only; omega) (HC.out.cell ((k + 4) % 5) (by omega))
     have c1 := bg (w := wr) (p := ⟨w.heap.size, (k + 1) % 5, none⟩) (by dsimp only; omega) (HC.out.cell ((k + 1) % 5) (by omega))
     unfold lv at c0 c1
     go_wp2
     refine dH 14 (by kernel_rfl) (by kernel_rfl) (by kernel_rfl) ?_
     simp only [WH, WO, WG, WM]
     refine dM 11 (by kernel_rfl) ?_
     simp only [WH, WO, WG, WM]
     repeat (go_big_quiet_step (fail))
     refine wpQuiet_nil ?_
     refine xC (.int .u64 (u (rotl (fC (Kec.col s) 5 ((k + 1) % 5)) 1))) rfl (by kernel_rfl) (by kernel_rfl) (fun xw => ?_) ?_
     ·
      refine lq (by simp [go_sem]) ((rotate (fC (Kec.col s) 5 ((k + 1) % 5)) 1 (by omega) _).mono ?_)
      rintro e w' ⟨rfl, rfl⟩
      exact ⟨_, rfl, Gr.refl _, rfl⟩
     simp only [Act.put, YO, Yt, YI]
     refine dM 2 (by kernel_rfl) ?_
     simp only [WH, WO, WG, WM]
     repeat (go_big_quiet_step (fail))
     refine wpQuiet_nil ?_
     refine gK (by kernel_rfl) ?_
     intro W hW
     replace hW := hW.gr
     unfold oD
     rename_i wq hW
     have HQ := Lib.hid (HD.out.gr hW)
     have e2 := HQ.out.frozen k
     have e1 := HQ.out.cell k (by omega)
     unfold lv at e1
     go_wp2
     go_roundw
     case rel =>
      have hf : u (fC (Kec.col s) 5 ((k + 4) % 5)) = u (Kec.col s ((k + 4) % 5)) := by unfold fC; rw [if_pos (by omega)]
      have hf1 : fC (Kec.col s) 5 ((k + 1) % 5) = Kec.col s ((k + 1) % 5) := by unfold fC; rw [if_pos (by omega)]
      rw [hf, hf1, pV]
      refine ⟨k + 1, by omega, by go_num, ?_, ?_, ?_⟩
      · exact (HC.out.gr hW).far (by simp) _
      ·
       rw [← mW]
       exact HQ.out.set k (Kec.dd s k)
      · exact (Only.set (g := w.heap.size + 1) _ k _).gr (HB.out.trans hW) (by omega)
     case measure => simp [intOf]; omega
    ·
     have h5 : k = 5 := by omega
     subst h5
     go_wp2_with fail
     obtain ⟨wo, rfl⟩ : ∃ wo : World, wo = wr := ⟨_, rfl⟩
     go_loopw [74] (fun i wr => ∃ k : Nat, k ≤ 25 ∧ i = .int .i64 k ∧ bY wr (w.heap.size + 1) 200 5 (fC (Kec.dd s) 5) ∧ bY wr wo.heap.size 231 25 (Kec.bb s k) ∧ Gr w wr) (fun i _ => 25 - (intOf i).toNat)
     case atStart => exact ⟨0, by omega, rfl, HD.out.alloc _, kF wo 231 25 _ rfl, HB.out.trans (au _ _)⟩
     case round =>
      clear HB HC HD
      obtain ⟨k, hk, rfl, hd, he, hb⟩ := hrel
      have hbs2 := hb.size
      have HE := Lib.hid he
      have HD := Lib.hid hd
      have HB := Lib.hid hb
      have hel := he.lt
      clear he hd hb
      by_cases h1 : k < 25
      ·
       have c0 := bg (w := wr) (p := ⟨g, k, none⟩) (by dsimp only; omega) ((HL.out.gr HB.out).cell k (by omega))
       have c1 := bg (w := wr) (p := ⟨w.heap.size + 1, k % 5, none⟩) (by dsimp only; omega) (HD.out.cell (k % 5) (by omega))
       have c2 := bg (w := wr) (p := ⟨gt, k, none⟩) (by dsimp only; omega) ((HT.out.gr HB.out).cell k (by omega))
       unfold lv at c0 c1
       go_wp2
       refine dH 25 (by kernel_rfl) (by kernel_rfl) (by kernel_rfl) ?_
       simp only [WH, WO, WG, WM]
       refine dM 23 (by kernel_rfl) ?_
       simp only [WH, WO, WG, WM]
       repeat (go_big_quiet_step (fail))
       refine wpQuiet_nil ?_
       refine xC (.int .u64 (u (rotl (s k ^^^ fC (Kec.dd s) 5 (k % 5)) (Kec.turn k)))) rfl (by kernel_rfl) (by kernel_rfl) (fun xw => ?_) ?_
       ·
        refine lq (by simp [go_sem, pV]) ((rotate (s k ^^^ fC (Kec.dd s) 5 (k % 5)) (Kec.turn k) (QV k h1) _).mono ?_)
        rintro e w' ⟨rfl, rfl⟩
        exact ⟨_, rfl, Gr.refl _, rfl⟩
       simp only [Act.put, YO, Yt, YI]
       refine dM 1 (by kernel_rfl) ?_
       simp only [WH, WO, WG, WM]
       repeat (go_big_quiet_step (fail))
       refine wpQuiet_nil ?_
       refine gK (by kernel_rfl) ?_
       intro W hW
       replace hW := hW.gr
       unfold oD
       rename_i wq hW
       have HQ := Lib.hid (HE.out.gr hW)
       have e2 := HQ.out.frozen (Kec.place k)
       have e1 := HQ.out.cell (Kec.place k) (OH k h1)
       unfold lv at e1
       unfold Kec.place at e1 e2
       go_wp2
       go_roundw
       case rel =>
        have hv : u (rotl (s k ^^^ fC (Kec.dd s) 5 (k % 5)) (Kec.turn k)) = u (rotl (s k ^^^ Kec.dd s (k % 5)) (Kec.turn k)) := by
         unfold fC
         rw [if_pos (by omega)]
        rw [hv]
        refine ⟨k + 1, by omega, by go_num, ?_, ?_, ?_⟩
        · exact (HD.out.gr hW).far (by dsimp only; omega) _
        · exact HQ.out.set (Kec.place k) _
        · exact (Only.set (g := wo.heap.size) _ (Kec.place k) _).gr (HB.out.trans hW) (by omega)
       case measure => simp [intOf]; omega
      ·
       have h5 : k = 25 := by omega
       subst h5
       go_wp2_with fail
       obtain ⟨wo2, rfl⟩ : ∃ wo : World, wo = wr := ⟨_, rfl⟩
       go_loopw [107] (fun i wr => ∃ k : Nat, k ≤ 25 ∧ i = .int .i64 k ∧ bY wr wo.heap.size 231 25 (Kec.bb s 25) ∧ bY wr g t 25 (Kec.ss (Kec.bb s 25) s k) ∧ Only g w wr) (fun i _ => 25 - (intOf i).toNat)
       case atStart => exact ⟨0, by omega, rfl, HE.out, HL.out.gr HB.out, Only.BM HB.out g⟩
       case round =>
        clear HB HE HD
        obtain ⟨k, hk, rfl, he, hl, ho⟩ := hrel
        have hbs3 := ho.size
        have HE := Lib.hid he
        have HM := Lib.hid hl
        have HO := Lib.hid ho
        have hel := he.lt
        clear he hl ho
        by_cases h1 : k < 25
        ·
         have c0 := bg (w := wr) (p := ⟨wo.heap.size, k, none⟩) (by dsimp only; omega) (HE.out.cell k (by omega))
         have c1 := bg (w := wr) (p := ⟨wo.heap.size, (k + 1) % 5 + k / 5 * 5, none⟩) (by dsimp only; omega) (HE.out.cell ((k + 1) % 5 + k / 5 * 5) (by omega))
         have c2 := bg (w := wr) (p := ⟨wo.heap.size, (k + 2) % 5 + k / 5 * 5, none⟩) (by dsimp only; omega) (HE.out.cell ((k + 2) % 5 + k / 5 * 5) (by omega))
         unfold lv at c0 c1 c2
         go_wp2
         refine dH 24 (by kernel_rfl) (by kernel_rfl) (by kernel_rfl) ?_
         simp only [WH, WO, WG, WM]
         refine dM 24 (by kernel_rfl) ?_
         simp only [WH, WO, WG, WM]
         repeat (go_big_quiet_step (fail))
         refine wpQuiet_nil ?_
         refine gK (by kernel_rfl) ?_
         intro W hW
         replace hW := hW.gr
         unfold oD
         rename_i wq hW
         have HQ := Lib.hid (HM.out.gr hW)
         have e2 := HQ.out.frozen k
         have e1 := HQ.out.cell k (by omega)
         unfold lv at e1
         go_wp2
         go_roundw
         case rel =>
          have hv : u (Kec.bb s 25 k ^^^ (~~~ Kec.bb s 25 ((k + 1) % 5 + k / 5 * 5) &&& Kec.bb s 25 ((k + 2) % 5 + k / 5 * 5))) = u (Kec.chi (Kec.bb s 25) k) := by
           unfold Kec.chi
           rw [show (k % 5 + 1) % 5 = (k + 1) % 5 by omega, show (k % 5 + 2) % 5 = (k + 2) % 5 by omega]
          rw [Tz, NZ, pV, hv]
          refine ⟨k + 1, by omega, by go_num, ?_, ?_, ?_⟩
          · exact (HE.out.gr hW).far (by dsimp only; omega) _
          · exact HQ.out.set k _
          · exact (HO.out.trans (Only.BM hW g)).trans (Only.set _ _ _)
         case measure => simp [intOf]; omega
        ·
         have h5 : k = 25 := by omega
         subst h5
         have c0 := bg (w := wr) (p := ⟨g, 0, none⟩) (by dsimp only; omega) (HM.out.cell 0 (by omega))
         unfold lv at c0
         go_wp2
         refine dH 8 (by kernel_rfl) (by kernel_rfl) (by kernel_rfl) ?_
         simp only [WH, WO, WG, WM]
         refine dM 8 (by kernel_rfl) ?_
         simp only [WH, WO, WG, WM]
         repeat (go_big_quiet_step (fail))
         refine wpQuiet_nil ?_
         refine gK (by kernel_rfl) ?_
         intro W hW
         replace hW := hW.gr
         unfold oD
         rename_i wq hW
         have HQ := Lib.hid (HM.out.gr hW)
         have e2 := HQ.out.frozen 0
         have e1 := HQ.out.cell 0 (by omega)
         unfold lv at e1
         go_wp2
         refine bodyPost_ret (results_none rfl _ _ _) rfl ⟨rfl, ?_⟩
         rw [pV]
         exact ⟨HQ.out.set 0 _, (HO.out.trans (Only.BM hW g)).trans (Only.set _ _ _)⟩
end Go.Proofs.YtelbhdobjdnglaaGreat
