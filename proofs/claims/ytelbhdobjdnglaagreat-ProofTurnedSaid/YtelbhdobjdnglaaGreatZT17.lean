/-
 Merged: lemmas of this claim.
 Conditions: none.
-/
import Derived.Test.YtelbhdobjdnglaaGreatZT16
import Derived.Test.YtelbhdobjdnglaaGreatZT10
import Derived.Test.YtelbhdobjdnglaaGreatZT6
import Derived.Laws.Pointers
import Derived.Test.YtelbhdobjdnglaaGreatZT11
import Derived.Shelf.SlSortCmp.WholeK
import Derived.Shelf.SlSortCmp.NoneTotal
import Derived.Shelf.SlGeneric
import Derived.Ground.SlsfProg
import Derived.Test.YtelbhdobjdnglaaGreatRows
import Derived.Test.YtelbhdobjdnglaaGreatZT0
namespace Go.Proofs.YtelbhdobjdnglaaGreat
set_option linter.unusedVariables false
set_option maxRecDepth 20000
set_option maxHeartbeats 8000000
open Go.RowKit Mono Rlp
namespace E
theorem Rn (ks : Nat → Tn) (l : List Nat) : D.sizes (l.map fun i => dT (ks i)) = l.length := by
 induction l with
 | nil => rfl
 | cons i l ih => rw [X0, D.sizes, (I8 _).1, ih, List.length_cons, YV]
theorem sub_one {d : D} (h : ∃ k : Tn, d = dT k) : d.sub 0 1 false = some d := by
 obtain ⟨k, rfl⟩ := h
 cases k <;> (rw [dT]; simp [D.sub])
theorem Ol (p : List UInt8) (k : Tn) : (D.tup [.bs p, dT k]).sub 0 1 false = some (.bs p) := by
 simp [D.sub, D.yB, D.size]
theorem Oj (p : List UInt8) (k : Tn) : (D.tup [.bs p, dT k]).sub 1 1 false = some (dT k) := by
 have := sub_one ⟨k, rfl⟩
 simp [D.sub, D.yB, D.size, (I8 k).1, this]
theorem Jv {ds : List D} (v : List UInt8) (h : D.sizes ds = 16) : (D.tup [.tup ds, .bs v]).sub 0 16 true = some (.tup ds) := by
 simp [D.sub, D.yB, D.size, D.sizes, h]
theorem Ju {ds : List D} (v : List UInt8) (h : D.sizes ds = 16) : (D.tup [.tup ds, .bs v]).sub 16 1 false = some (.bs v) := by
 simp [D.sub, D.yB, D.size, D.sizes, h]
theorem Us {ds : List D} (h : D.sizes ds = 16) : (D.tup ds).sub 0 16 true = some (.tup ds) := by
 simp [D.sub, h]
theorem MX (p v : List UInt8) (hp : p.length ≤ 536870912) : Fn 151 [dT (.leaf p v)] (· = .val (aO (gK (.leaf p v)))) := by
 have h1 := J8 p true hp
 have h2 := PV (ppk p true) v
 rw [dT, gK]
 refine Fn.walk 85 Tryz.func151 rfl Tryz.ntmps151 (by simp) fun X => ?_
 repeat
  (first
   | (apply aA (h1); rfl; exact aj.refl _ _; exact enA; iterate 2 rfl) | (apply aA (h2); rfl; exact aj.refl _ _; exact enA; iterate 2 rfl)
   | (apply ak; iterate 3 rfl) | (apply ah; iterate 3 rfl) | (apply bn; iterate 6 rfl) | (apply bC; iterate 7 rfl)
   | (apply aF; iterate 4 rfl) | (apply aH; iterate 5 rfl) | (apply bH; rfl; exact I.a; iterate 4 rfl) | (apply eH; iterate 7 rfl)
   | (apply jF; iterate 9 rfl) | (apply kU; iterate 3 rfl) | (apply eP; iterate 4 rfl) | (apply aT; rfl; rfl; rfl; intro _)
   | (apply aI; rfl; exact saA; iterate 4 rfl) | apply EL.nil
   | (apply EC.t0; rfl) | (with_reducible first | apply EK.nc | apply EC.seq | apply EC.r0 | apply EC.b0 | apply EC.ret | apply EK.n0))
 refine EK.lC 1 rfl rfl rfl rfl ?_ rfl
 (exact RL.a)
theorem Po (p : List UInt8) (k : Tn) (hp : p.length ≤ 536870912) (hk : Fn 184 [dT k] (· = .val (aO (mQ k)))) : Fn 151 [dT (.ext p k)] (· = .val (aO (gK (.ext p k)))) := by
 have h1 := J8 p false hp
 have h2 := Og (ppk p false)
 have he : gK (.ext p k) = .mk true [] [.mk false (ppk p false) [], mQ k] := by rw [gK, mQ]
 rw [he, dT]
 clear he
 generalize mQ k = x at hk ⊢
 obtain ⟨xb, xl, xs⟩ := x
 rw [aO] at hk
 rw [show aO (.mk true [] [.mk false (ppk p false) [], .mk xb xl xs]) = .tup [.v (.bool true), .bs [], .sl 3 [aO (.mk false (ppk p false) []), .tup [.v (.bool xb), .bs xl, .sl 3 (dL xs)]]] from rfl]
 refine Fn.walk 85 Tryz.func151 rfl Tryz.ntmps151 (by simp) fun X => ?_
 repeat
  (first
   | (apply aA (h1); rfl; exact aj.refl _ _; exact enA; iterate 2 rfl) | (apply bC; (iterate 4 rfl); exact Ol _ _; iterate 2 rfl)
   | (apply ak; iterate 3 rfl) | (apply ah; iterate 3 rfl) | (apply aF; iterate 4 rfl) | (apply aH; iterate 5 rfl)
   | (apply eH; iterate 7 rfl) | (apply kU; iterate 3 rfl) | (apply eP; iterate 4 rfl) | (apply iC; iterate 6 rfl)
   | (apply aT; rfl; rfl; rfl; intro _) | (apply aI; rfl; exact saA; iterate 4 rfl) | apply EL.nil
   | (apply EC.t0; rfl) | (apply EC.f0; rfl) | (with_reducible first | apply EK.nc | apply EC.seq | apply EC.r0 | apply EC.b0))
 refine EC.iU 11 [0, 3, 4, 5, 6, 10] [1, 2, 7, 8, 9] [] _ (by kernel_rfl) (by kernel_rfl) rfl ?_
 simp only [bJ, XD, XG, Xz, Xy]
 repeat
  (first
   | (apply dA; (iterate 4 rfl); exact Oj _ _; iterate 2 rfl) | (apply bD; (iterate 2 rfl); exact sub_one ⟨_, rfl⟩; iterate 2 rfl)
   | (apply aX; iterate 3 rfl) | (apply dH; iterate 6 rfl) | (apply oM; iterate 3 rfl))
 refine EM.nil ?_
 repeat (first | rw [Xr] | rw [List.nil_append])
 refine CH.cut 1 ?_
 simp only [Xp, Xu, mP, Xq]
 repeat
  (first
   | (apply kK; iterate 9 rfl))
 refine EM.nil ?_
 repeat (first | rw [Xr] | rw [List.nil_append])
 refine CH.WQ (os := []) (rest := []) h2 rfl rfl (aj.refl _ _) (by intro _ _; simp [go_sem]) rfl rfl ?_
 rintro _ _ ⟨v, rfl, rfl⟩
 try simp only [St.put]
 repeat (first | rw [Xr] | rw [List.nil_append])
 refine CH.cut 2 ?_
 simp only [Xp, Xu, mP, Xq]
 repeat
  (first
   | (apply fD (hk); rfl; exact aj.refl _ _; exact enA; iterate 2 rfl) | (apply kK; iterate 9 rfl))
 refine EM.nil ?_
 repeat (first | rw [Xr] | rw [List.nil_append])
 refine CH.mut (os := [_]) (rest := []) rfl rfl (gq rfl rfl rfl rfl rfl (by constructor <;> simp)) ?_
 rintro _ _ ⟨v', rfl, rfl⟩
 try simp only [St.put]
 repeat (first | rw [Xr] | rw [List.nil_append])
 refine CH.nil ?_
 try simp only [mP, Xq]
 refine EL.le (Le.freeze (pre := []) rfl) ?_
 simp only [List.nil_append]
 repeat
  (first
   | (apply bH; rfl; exact I.a; iterate 4 rfl) | (apply aI; rfl; exact saA; iterate 4 rfl) | apply EL.nil
   | (with_reducible first | apply EK.nc | apply EC.seq | apply EC.r0 | apply EC.ret | apply EK.n0))
 refine EK.lC 1 rfl rfl rfl rfl ?_ rfl
 (exact RL.a)
theorem RU (ks : Nat → Tn) (v : List UInt8) (hk : ∀ i, Fn 184 [dT (ks i)] (· = .val (aO (mQ (ks i))))) : Fn 151 [dT (.br ks v)] (· = .val (aO (gK (.br ks v)))) := by
 have h2 := PW v
 have he : gK (.br ks v) = .mk true [] ((List.range 16).map (fun i => mQ (ks i)) ++ [.mk false v []]) := by rw [gK]; rfl
 have hsz : D.sizes ((List.range 16).map fun i => dT (ks i)) = 16 := by rw [Rn, List.length_range]
 have hat : ∀ i, i < 16 → ((List.range 16).map fun i => dT (ks i))[i]? = some (dT (ks i)) := fun i hi => by rw [XK, YN hi]; rfl
 have hall : ∀ d ∈ ((List.range 16).map fun i => dT (ks i)), d.size = 1 ∧ d.agg = false := fun d hd => by
  obtain ⟨i, _, rfl⟩ := XA.1 hd
  exact I8 _
 have hlen : ((List.range 16).map fun i => dT (ks i)).length = 16 := by simp
 rw [he, dT, show aO (.mk true [] ((List.range 16).map (fun i => mQ (ks i)) ++ [.mk false v []])) = .tup [.v (.bool true), .bs [], .sl 3 ((List.range 16).map (fun i => aO (mQ (ks i))) ++ [aO (.mk false v [])])] from by rw [aO, jd, Yd, YJ]; rfl]
 clear he
 generalize hE : ((List.range 16).map fun i => dT (ks i)) = K at *
 refine Fn.walk 85 Tryz.func151 rfl Tryz.ntmps151 (by simp) fun X => ?_
 repeat
  (first
   | (apply bC; (iterate 4 rfl); exact Jv _ hsz; iterate 2 rfl) | (apply aH; (iterate 2 rfl); exact Us hsz; iterate 2 rfl)
   | (apply ak; iterate 3 rfl) | (apply ah; iterate 3 rfl) | (apply aF; iterate 4 rfl) | (apply eH; iterate 7 rfl)
   | (apply kU; iterate 3 rfl) | (apply eP; iterate 4 rfl) | (apply iC; iterate 6 rfl) | (apply aT; rfl; rfl; rfl; intro _)
   | (apply aI; rfl; exact saA; iterate 4 rfl) | apply EL.nil
   | (apply EC.t0; rfl) | (apply EC.f0; rfl) | (with_reducible first | apply EK.nc | apply EC.seq | apply EC.r0 | apply EC.b0))
 rename_i g1 g
 refine EC.le (Le.row 138 3) ?_
 refine EC.loop (ι := {p : Value × Nat // p.2 ≤ 16})
  (fun p => ⟨[(63, .val (.v (.int .i64 (p.1.2 : Int)))), (62, .val (.tup K)), (10, .val (.pd (.tup [.tup K, .bs v]))), (3, .val (.v (.pointer (some ⟨g, 0, none⟩)))), (2, .val (.v (.pointer (some ⟨g1, 0, none⟩))))],
   [.row p.1.1 138 3 ((List.range p.1.2).map fun i => aO (mQ (ks i))), .var g 138 (.tup [.v (.bool true), .v (.slice none 0 0), .v p.1.1]), .var g1 138 (.tup [.v (.bool false), .v (.slice none 0 0), .v (.slice none 0 0)])], []⟩)
  (fun p => 16 - p.1.2) ⟨(.slice none 0 0, 0), by decide⟩ ?_ ?_
 · exact Le.kp
 rintro ⟨⟨rv, n⟩, hn⟩
 dsimp only at hn ⊢
 have hl : ((List.range n).map fun i => aO (mQ (ks i))).length = n := by simp
 by_cases hlt : n < 16
 ·
  have hx := hk n
  have hnx : (List.range (n + 1)).map (fun i => aO (mQ (ks i))) = (List.range n).map (fun i => aO (mQ (ks i))) ++ [aO (mQ (ks n))] := by rw [List.range_succ, Yd]; rfl
  cases hr : mQ (ks n) with
  | mk xb xl xs =>
   rw [hr, aO] at hx
   rw [hr, aO] at hnx
   repeat
    (first
     | (apply aC (b := true); (iterate 2 rfl); exact aK; iterate 2 rfl) | apply EL.nil | (apply EC.t0; rfl)
     | (with_reducible first | apply EK.nc | apply EC.seq | apply EC.r0 | apply EC.k0 | apply EC.b0))
   refine ES.still (IW (k := (n : Int)) (d := dT (ks n)) rfl rfl rfl rfl rfl (fun w => by kernel_rfl) hall hlen ⟨by omega, by rw [XL]; exact hat n hlt⟩) rfl rfl rfl ?_
   repeat
    (first
     | (apply ah; iterate 3 rfl) | apply EL.nil | ((with_reducible apply EK.h0); apply EK.code))
   refine EC.iU 7 [0, 1, 2, 6] [3, 4, 5] [_] _ (by kernel_rfl) (by kernel_rfl) rfl ?_
   simp only [bJ, XD, XG, Xz, Xy]
   repeat
    (first
     | (apply aX; iterate 3 rfl) | (apply dH; iterate 6 rfl) | (apply dw; rfl; exact I.a; iterate 4 rfl))
   refine EM.nil ?_
   repeat (first | rw [Xr] | rw [List.nil_append])
   refine CH.cut 2 ?_
   simp only [Xp, Xu, mP, Xq]
   repeat
    (first
     | (apply fD (hx); rfl; exact aj.refl _ _; exact enA; iterate 2 rfl) | (apply kK; iterate 9 rfl))
   refine EM.nil ?_
   repeat (first | rw [Xr] | rw [List.nil_append])
   refine CH.mut (os := [_]) (rest := []) rfl rfl (gq rfl rfl rfl rfl rfl (by rw [hl]; constructor <;> (simp; omega))) ?_
   rintro _ _ ⟨v', rfl, rfl⟩
   try simp only [St.put]
   repeat (first | rw [Xr] | rw [List.nil_append])
   refine CH.nil ?_
   try simp only [mP, Xq]
   repeat
    (first
     | (apply ak; iterate 3 rfl) | (apply jh; (iterate 3 rfl); (focus omega); (focus omega); iterate 2 rfl)
     | (apply aI; rfl; exact saA; iterate 4 rfl) | apply EL.nil
     | (with_reducible first | apply EK.nc | apply EC.r0 | apply EK.n0))
   refine EK.again ⟨(v', n + 1), hlt⟩ (by dsimp only; omega) ?_
   dsimp only
   rw [hnx]
   simp only [XV]
   exact Le.kp
 ·
  obtain rfl : n = 16 := by omega
  repeat
   (first
    | (apply aC (b := false); (iterate 2 rfl); exact aK; iterate 2 rfl) | apply EL.nil | (apply EC.f0; rfl)
    | (with_reducible first | apply EK.nc | apply EC.seq | apply EC.r0 | apply EC.x0 | apply EK.s0 | apply EK.aY))
  refine EC.iU 10 [0, 1, 2, 3, 4, 5, 9] [6, 7, 8] [_] _ (by kernel_rfl) (by kernel_rfl) rfl ?_
  simp only [bJ, XD, XG, Xz, Xy]
  repeat
   (first
    | (apply dA; (iterate 4 rfl); exact Ju _ hsz; iterate 2 rfl) | (apply aX; iterate 3 rfl) | (apply dH; iterate 6 rfl)
    | (apply bD; iterate 5 rfl) | (apply dw; rfl; exact I.a; iterate 4 rfl) | (apply oM; iterate 3 rfl))
  refine EM.nil ?_
  repeat (first | rw [Xr] | rw [List.nil_append])
  refine CH.cut 2 ?_
  simp only [Xp, Xu, mP, Xq]
  repeat
   (first
    | (apply fD (h2); rfl; exact aj.refl _ _; exact enA; iterate 2 rfl) | (apply kK; iterate 9 rfl))
  refine EM.nil ?_
  repeat (first | rw [Xr] | rw [List.nil_append])
  refine CH.mut (os := [_]) (rest := []) rfl rfl (gq rfl rfl rfl rfl rfl (by rw [hl]; constructor <;> simp)) ?_
  rintro _ _ ⟨v', rfl, rfl⟩
  try simp only [St.put]
  repeat (first | rw [Xr] | rw [List.nil_append])
  refine CH.nil ?_
  try simp only [mP, Xq]
  refine EL.le (Le.freeze (pre := []) rfl) ?_
  simp only [List.nil_append]
  repeat
   (first
    | (apply bH; rfl; exact I.a; iterate 4 rfl) | (apply aI; rfl; exact saA; iterate 4 rfl) | apply EL.nil
    | (with_reducible first | apply EK.nc | apply EC.seq | apply EC.r0 | apply EC.ret | apply EK.n0))
  refine EK.lC 1 rfl rfl rfl rfl ?_ rfl
  (exact RL.a)
theorem DT : ∀ t : Tn, t.ok → t.isNil = false → Fn 151 [dT t] (· = .val (aO (gK t)))
 | .leaf p v, h, _ => MX p v h
 | .ext p k, h, _ => Po p k h.1 (Gq k fun hn => DT k h.2 hn)
 | .br ks v, h, _ => RU ks v fun i => Gq (ks i) fun hn => DT (ks i) (h i) hn
theorem WO (t : Tn) (h : t.ok) : Fn 57 [dT t] (· = .val (.arr 32 (sumT t))) := Qb t (DT t h)
theorem SV (t : Tn) (h : t.ok) (hn : t.isNil = false) : Fn 99 [dT t] (· = .val (.bs (pkB (gK t)))) := ug t (DT t h hn)
abbrev ptr (g : Nat) : Value := .pointer (some ⟨g, 0, none⟩)
theorem KD {T : Nat} (h : UE.contains T = true) (p : Option Addr) : Bin .eql T (.v (.pointer p)) (.v (.pointer none)) (.bool p.isNone) ∧ Bin .neq T (.v (.pointer p)) (.v (.pointer none)) (.bool !p.isNone) := by
 obtain ⟨e, he⟩ := Xc h
 have he : Tryz.prog.underlying T = some (.pointer (Tryz.prog.pointee T)) := by
  unfold Program.pointee
  rw [he]
 refine ⟨⟨rfl, fun ok w p q hp hq => ?_⟩, ⟨rfl, fun ok w p q hp hq => ?_⟩⟩ <;> (obtain rfl := (bg.1 hp).2; obtain rfl := (bg.1 hq).2; refine ⟨fun x y => by simp [eqGuard], ?_⟩)
 · exact run_eql_pointer_nil w T _ he
 · exact run_neq_pointer_nil w T _ he
section
variable {N : Nat} {X : Cx N} {rs : List (Tmp × R)} {os : List Obj} {fs : List (Value × D)}
variable {S : St} {fn : Func} {Φ : R → List Obj → Prop}
theorem pq {os' : List Obj} (h : os'.Sublist os) {w : World} {b : Nat} (hb : X.ok os w b) : X.ok os' w b := ⟨hb.1, hb.2.1, fun o ho => hb.2.2 o (h.subset ho)⟩
theorem EK.iP {t : Tmp} {r : R} (os' : List Obj) (hres : fn.results = #[.tmp t]) (hl : look S.regs t = some r) (ho : os'.Sublist S.objs) (hΦ : Φ r os') : EK X (bodyPost Tryz.prog fn (Ai X Φ) .ret) S := by
 constructor
 intro a w ha
 exact bodyPost_ret (results_tmp hres a.tmps Tryz.prog w) ha.defers ⟨_, r, os', rfl, hΦ, ha.mem.less ho (fun f hf => by cases hf), (ha.regs t r hl).mono (fun b hb => pq ho hb) fun _ _ => rfl⟩
theorem EK.kW {p : Tmp} {g ty : Nat} {t : TypeId} {d d' : D} (i : Nat) (os' : List Obj) (hres : fn.results = #[.cell p ty]) (hl : look S.regs p = some (.val (.v (.pointer (some ⟨g, 0, none⟩))))) (hi : S.objs[i]? = some (.var g t d)) (hT : assoc tyL ty = some (d.size, d.agg)) (hR : aj S.facts [d] [d']) (ho : os'.Sublist S.objs) (hΦ : Φ (.val d') os') : EK X (bodyPost Tryz.prog fn (Ai X Φ) .ret) S := by
 constructor
 intro a w ha
 obtain ⟨x, h1, h2⟩ := qB ha.mem hi (tyI hT)
 have hp := (bg.1 (ha.regs p _ hl)).2
 have hp' : a.tmps[p]?.getD undef = .pointer (some ⟨g, 0, none⟩) := by simpa using hp
 have h3 : cO (X.ok S.objs w) w (.val d') x := Refine1.jk ha.mem.fact hR h2
 refine bodyPost_ret (v := x) ?_ ha.defers ⟨_, _, os', rfl, hΦ, ha.mem.less ho (fun f hf => by cases hf), h3.mono (fun b hb => pq ho hb) fun _ _ => rfl⟩
 simp [results, hres, hp', asAddr, h1]
end
section
variable {N : Nat} {X : Cx N} {ops : Array Oper} {Q : Exit → Act → World → Prop}
theorem jr {l' : List Oper} {t ty f : Nat} {pos : String} {af : Array Edge} {gd : Option (Nat × Bool)} {args : Array Operand} {tys : Array TypeId} {ds ds' : List D} {Φ : R → List Obj → Prop} {rs : List (Tmp × R)} {os os0 : List Obj} {fs : List (Value × D)} (hF : FnM f ds' os Φ) (l1 l2 : List Obj) (hos : os0 = l1 ++ (os ++ l2))
  (hx : evs (⟨rs, l1 ++ l2, fs⟩ : St) args.toList = some ds) (hR : aj fs ds ds') (hf : Enters f) (hg : guardOf ops ⟨rs, os ++ (l1 ++ l2), fs⟩ ⟨some t, .call { callee := .value (.func f), args := args, argTypes := tys }, ty, pos, af, gd⟩ = some true) (hN : Nat.blt t N = true) (k : ∀ r os', Φ r os' → EL X ops Q l' ⟨(t, r) :: rs, l1 ++ (os' ++ l2), fs⟩) : EL X ops Q (⟨some t, .call { callee := .value (.func f), args := args, argTypes := tys }, ty, pos, af, gd⟩ :: l') ⟨rs, os0, fs⟩ := by
 subst hos
 have hp : ∀ os : List Obj, (l1 ++ (os ++ l2)).Perm (os ++ (l1 ++ l2)) := fun os => by
  rw [← List.append_assoc, ← List.append_assoc]
  exact List.Perm.append_right _ List.perm_append_comm
 exact EL.le (Le.perm (hp os)) (KO hF rfl hx hR hf hg hN fun r os' h => EL.le (Le.perm (hp os').symm) (k r os' h))
theorem EK.Dc {fn : Func} {Φ : R → List Obj → Prop} {S : St} {t : Tmp} {d d' : D} (os' : List Obj) (hres : fn.results = #[.tmp t]) (hl : look S.regs t = some (.val d)) (hR : aj S.facts [d] [d']) (ho : os'.Sublist S.objs) (hΦ : Φ (.val d') os') : EK X (bodyPost Tryz.prog fn (Ai X Φ) .ret) S := by
 refine EK.le (S' := ⟨S.regs, os', S.facts⟩) ?_ (EK.UD hres hl hR hΦ)
 exact fun a w h => ⟨h.mem.less ho (fun f hf => hf), fun t r ht => cO.mono (fun b hb => pq ho hb) (fun _ _ => rfl) (h.regs t r ht), h.size, h.defers⟩
end

section
variable {N : Nat} {X : Cx N} {S : St} {ops : Array Oper} {o : Oper} {Q : Exit → Act → World → Prop} {l : List Oper} {rs : List (Tmp × R)} {os os' : List Obj} {fs : List (Value × D)}
def Uj (ops : Array Oper) (S : St) (o : Oper) (p q : Obj) (u : Value) : Prop :=
 q.blk = p.blk ∧ ∀ base ok a w, Kn base ok (fun t => t ∈ o.looksAt ops) S a w → (∀ g, p.blk = some g → ¬ ok g) → p.At base ok w → ∃ w' g, (execOp a.eval o).run Tryz.prog w = .ok (.value u) w' ∧ p.blk = some g ∧ w.grownBy w' (some g) ∧ q.At base ok w'
theorem Dw {p q : Obj} {u : Value} (hu : u.oneCell' = true) (hP : Uj ops S o p q u) : Ec ops S o [p] (fun r os' => r = .val (.v u) ∧ os' = [q]) := .mk fun base ok a w ha hown => by
 obtain ⟨hq, hP⟩ := hP
 obtain ⟨w', g, h1, h2, h3, h4⟩ := hP (fun _ => True) ok a w ⟨fun o ho => (ha.objs o ho).oZ fun _ _ => trivial, ha.facts, ha.lt, ha.regs⟩ (fun g hb => hown.off g ⟨p, by simp, hb⟩) (hown.at_ p (by simp))
 rw [h1]
 have hB : ∀ b, qh [p] b ↔ b = g := fun b => ⟨fun ⟨o, ho, e⟩ => by
  obtain rfl : o = p := by simpa using ho
  rw [h2] at e
  injection e with e
  exact e.symm, fun e => ⟨p, by simp, by rw [e]; exact h2⟩⟩
 refine ⟨.val (.v u), [q], ⟨rfl, rfl⟩, ⟨⟨h3.os, h3.tape, h3.output, h3.size, fun k hk hn => h3.block k hk fun e => hn ((hB k).2 (by injection e))⟩, by simp, fun o ho => ?_⟩, bg.2 ⟨hu, rfl⟩⟩
 obtain rfl : o = q := by simpa using ho
 refine (h4.move (fun b hb => ⟨.inl hb, XM (ha.lt b hb) h3.size, fun o' ho' e => ?_⟩) (fun _ _ => rfl) fun _ _ => rfl).oZ fun b e => .inl ⟨p, by simp, by rw [← hq]; exact e⟩
 obtain rfl : o' = o := by simpa using ho'
 exact hown.off b ⟨p, by simp, by rw [← hq]; exact e⟩ hb
theorem rQ {T e z b k : Nat} {x y : Operand} {v : Value} {ds : List D} (ho : o.op = .call { callee := .builtin .copy, args := #[x, y], argTypes := #[T, T] }) (hx : ev S x = some (.val (.v (xI (k + 1) z v)))) (hy : ev S y = some (.val (.v (xI k z v)))) (hT : assoc slL T = some (e, z, b)) (hz : Nat.blt 0 z = true) (hk : k < ds.length) :
  Uj ops S o (.row v e z ds) (.row v e z (ds.take (k + 1) ++ (ds.drop k).take (ds.length - (k + 1)))) (.int .i64 ((ds.length - (k + 1) : Nat) : Int)) := by
 refine ⟨rfl, fun base ok a w ha hno hat => ?_⟩
 have hx' := iT ha hx (dG (by rw [ho]; simp [Op.operands, Call.operands]))
 have hy' := iT ha hy (dG (by rw [ho]; simp [Op.operands, Call.operands]))
 have hT0 := Rk hT hz
 obtain ⟨g, c, cur, rows, H⟩ := row_in hat (by omega)
 obtain ⟨m, hm⟩ : ∃ m, ds.length - (k + 1) = m := ⟨_, rfl⟩
 rw [hm]
 have hle := H.le
 obtain ⟨hl1, hl2⟩ := au.lens ds rows H.rows
 obtain ⟨sp, hsplit⟩ : ∃ sp, cur.toList = rows.flatten ++ sp := ⟨cur.toList.drop (ds.length * z), by rw [← H.cells, X7]⟩
 have hlen : ∀ (n i : Nat), ((rows.drop i).take n).flatten.length = min n (ds.length - i) * z := fun n i => by
  rw [lq _ fun r hr => hl2 r (Y2 (YD hr)), List.length_take, Xx, hl1]
 have hcs : ((rows.drop k).take m).flatten.length = m * z := by rw [hlen, Zb (by omega)]
 have hmid : (rows.drop (k + 1)).flatten.length = m * z := by
  rw [lq _ fun r hr => hl2 r (Y2 hr), Xx, hl1, hm]
 have hA : (rows.take (k + 1)).flatten.length = (k + 1) * z := by
  rw [lq _ fun r hr => hl2 r (YD hr), List.length_take, hl1, Zb (by omega)]
 have hAk : (rows.take k).flatten.length = k * z := by
  rw [lq _ fun r hr => hl2 r (YD hr), List.length_take, hl1, Zb (by omega)]
 have hone : ∀ u ∈ ((rows.drop k).take m).flatten, u.oneCell' = true := fun u hu => by
  obtain ⟨r, hr, hu'⟩ := Zj.1 hu
  exact au.one _ _ H.rows u (Zj.2 ⟨r, Y2 (YD hr), hu'⟩)
 have hs0 : xI k z v = .slice (some ⟨g, k * z, none⟩) (ds.length - k) (c - k) := by
  rw [H.val]
  unfold xI
  dsimp only
  rw [if_neg (by omega), YI, eu, XU]
 have hsrc : ∀ j u, ((rows.drop k).take m).flatten[j]? = some u → w.cell? ((⟨g, k * z, none⟩ : Addr).add j) = some u := fun j u hu => by
  rw [eu, cell_of_row w g _ _ _ _ H.heap, ← Y8, hsplit]
  have hj := (XC.1 hu).1
  have h1 : rows.flatten = (rows.take k).flatten ++ (((rows.drop k).take m).flatten ++ ((rows.drop k).drop m).flatten) := by rw [← Yz, X7, ← Yz, X7]
  rw [h1, List.append_assoc, Yg (by omega), hAk, Yp, List.append_assoc, Yh hj]
  exact hu
 have hnl : (ds.take (k + 1) ++ (ds.drop k).take m).length = ds.length := by rw [List.length_append, List.length_take, List.length_take, Xx]; omega
 have hmin : Nat.min (ds.length - k) m = m := Nat.min_eq_right (by omega)
 obtain ⟨inf, hinf⟩ : ∃ inf, Tryz.prog.info? e = some inf ∧ inf.size = z := by
  obtain ⟨i, zv, hi, _, hsz, _⟩ := hT0.info
  exact ⟨i, hi, hsz⟩
 have hfc : (Builtin.firstCells z m (.slice (some ⟨g, k * z, none⟩) (ds.length - k) (c - k))).run Tryz.prog w = .ok ((rows.drop k).take m).flatten.toArray w := run_firstCells_some w z m ⟨g, k * z, none⟩ _ _ _ hcs hsrc
 by_cases hm0 : m = 0
 ·
  subst hm0
  have hke : k + 1 = ds.length := by omega
  obtain ⟨Ax, hsx⟩ : ∃ Ax, xI (k + 1) z v = .slice Ax 0 (c - (k + 1)) := by
   rw [H.val]
   unfold xI
   dsimp only
   exact ⟨_, by rw [hm]⟩
  have hc0 : ((rows.drop k).take 0).flatten = [] := by simp
  rw [hc0] at hfc
  refine ⟨w, g, ?_, by rw [H.val]; rfl, ⟨rfl, rfl, rfl, Nat.le_refl _, fun _ _ _ => rfl⟩, ?_⟩
  ·
   unfold execOp
   simp only [ho, resolve, invoke, builtin, XO, XR, XF, YW, X0, Yw, hx', hy', hsx, hs0]
   have hst0 : ∀ q : Addr, (storeCells q []).run Tryz.prog w = .ok () w := fun q => rfl
   cases Ax <;> simp [hst0, Builtin.copy_, run_underlying hT0.und, Builtin.lenOf, sizeOf, typeInfo, hinf.1, hinf.2, hfc, goInt]
  ·
   have : ds.take (k + 1) ++ (ds.drop k).take 0 = ds := by rw [hke]; simp
   rw [this]
   exact hat
 ·
  have hsx : xI (k + 1) z v = .slice (some ⟨g, (k + 1) * z, none⟩) m (c - (k + 1)) := by
   rw [H.val]
   unfold xI
   dsimp only
   rw [if_neg (by omega), YI, eu, XU, hm]
  have hcur : cur = ((rows.take (k + 1)).flatten ++ (rows.drop (k + 1)).flatten ++ sp).toArray := by
   rw [← Yz, X7, ← hsplit]
  have hheap := H.heap
  rw [hcur] at hheap
  have hset := jA ((rows.drop k).take m).flatten (rows.take (k + 1)).flatten (rows.drop (k + 1)).flatten sp w (by rw [hcs, hmid]) hheap
  rw [hA] at hset
  have hgr := fP g ((rows.drop k).take m).flatten ((k + 1) * z) w
  have hcell : ∀ q : Addr, ok q.block → (w.setCells g ((k + 1) * z) ((rows.drop k).take m).flatten).cell? q = w.cell? q := fun q hq => World.cell?_of_block (hgr.block _ (ha.lt _ hq) fun e => hno g (by rw [H.val]; rfl) (by injection e with e; rw [← e]; exact hq))
  have hrows := au.append _ _ _ _ (au.take ds rows (k + 1) H.rows) (au.take _ _ m (au.drop ds rows k H.rows))
  have hrows' := au.mono (fun _ h => h) hcell z _ _ hrows
  have hst : (storeCells ⟨g, (k + 1) * z, none⟩ ((rows.drop k).take m).flatten).run Tryz.prog w = .ok () (w.setCells g ((k + 1) * z) ((rows.drop k).take m).flatten) := by
   have := run_storeCells_cells (P := Tryz.prog) g ((k + 1) * z) ((rows.drop k).take m).flatten 0 w (fun j hj => ?_) (fun j hj => ?_) hone
   · simpa using this
   ·
    rw [cell_of_row w g _ _ _ _ hheap, Option.isSome_iff_exists]
    have hsz2 : (k + 1) * z + 0 + j < ((rows.take (k + 1)).flatten ++ (rows.drop (k + 1)).flatten ++ sp).toArray.size := by
     simp only [List.size_toArray, List.length_append]
     rw [hA, hmid]
     rw [hcs] at hj
     omega
    exact ⟨_, Y0 hsz2⟩
   · simp [World.frozen?, hheap]
  refine ⟨w.setCells g ((k + 1) * z) ((rows.drop k).take m).flatten, g, ?_, by rw [H.val]; rfl, hgr, Ac.at (g := g) (c := c) (cur := ((rows.take (k + 1)).flatten ++ ((rows.drop k).take m).flatten ++ sp).toArray) (rows := rows.take (k + 1) ++ (rows.drop k).take m) ⟨by rw [hnl]; exact H.val, hset, ?_, ?_, by rw [hnl]; exact H.le, H.max, hrows', H.mine⟩⟩
  ·
   unfold execOp
   simp only [ho, resolve, invoke, builtin, XO, XR, XF, YW, X0, Yw, hx', hy', hsx, hs0]
   simp [Builtin.copy_, run_underlying hT0.und, Builtin.lenOf, sizeOf, typeInfo, hinf.1, hinf.2, hmin, hfc, hst, goInt]
  ·
   rw [hnl, Yz]
   have : ds.length * z = ((rows.take (k + 1)).flatten ++ ((rows.drop k).take m).flatten).length := by
    rw [List.length_append, hA, hcs, ← YA, show k + 1 + m = ds.length by omega]
   rw [this]
   exact Za rfl
  ·
   have := congrArg List.length hsplit
   rw [Array.length_toList, H.size, ← X7 (k + 1) rows, Yz] at this
   simp only [List.size_toArray, List.length_append] at this ⊢
   rw [hcs, ← hmid]
   omega
end
end E
end Go.Proofs.YtelbhdobjdnglaaGreat
namespace Go.Proofs.YtelbhdobjdnglaaGreat
set_option linter.unusedVariables false
open Go.RowKit Mono Rlp Go.Sort
namespace E
theorem Nb {w : World} {g n : Nat} {os : Array Go.Obj} {cur : Array Value} {e : TypeId} {fr : Nat × Nat} (F : Array Value) (hb : w.heap[g]? = some (.cells cur e fr)) :
  (grow (putRow id (Sort.ahead w n) g 0 F) os).heap[g]? = some (.cells (putCells id 0 F cur) e fr) := by
 have hg : g < w.heap.size := (ZE.1 hb).1
 rw [heap_grow_old _ _ (by simpa using hg)]
 simp [putRow, mapBlock, Sort.ahead, Array.getElem?_modify, hb, onCells]
theorem zy {w : World} {g n : Nat} {os : Array Go.Obj} (F : Array Value) : w.grownBy (grow (putRow id (Sort.ahead w n) g 0 F) os) (some g) := by
 refine ⟨rfl, rfl, rfl, by simp, fun k hk hne => ?_⟩
 rw [heap_grow_old _ _ (by simpa using hk)]
 have : g ≠ k := fun e => hne (by rw [e])
 simp [putRow, mapBlock, Sort.ahead, Array.getElem?_modify, this]
theorem Ld (cur F : Array Value) (h : F.size ≤ cur.size) : (putCells id 0 F cur).toList.take F.size = F.toList := by
 apply Ze
 intro j
 by_cases hj : j < F.size
 ·
  rw [Zi hj, Y8]
  simp [putCells, hj, show j < cur.size by omega]
 · rw [List.getElem?_take_eq_none (by omega), Yx (by simp; omega)]
abbrev El {κ : Type} (dk : κ → D) (ok : Nat → Prop) (w : World) := {x : List Value × κ // Reads ok w (dk x.2) x.1}
theorem els {κ : Type} {dk : κ → D} {ok : Nat → Prop} {w : World} {z : Nat} : ∀ (ks : List κ) (rows : List (List Value)), au ok w z (ks.map dk) rows → ∃ es : List (El dk ok w), es.map (·.1.1) = rows ∧ es.map (·.1.2) = ks
 | [], rows, h => by
  rw [Yw, au] at h
  exact ⟨[], h.symm, rfl⟩
 | k :: ks, rows, h => by
  rw [X0, au] at h
  obtain ⟨r, rest, rfl, _, h2, h3⟩ := h
  obtain ⟨es, e1, e2⟩ := els ks rest h3
  exact ⟨⟨(r, k), h2⟩ :: es, by rw [X0, e1], by rw [X0, e2]⟩
theorem Gt {κ : Type} {dk : κ → D} {ok ok' : Nat → Prop} {w w' : World} {z : Nat} (hz : ∀ x, (dk x).size = z) (hm : ∀ d cs, Reads ok w d cs → Reads ok' w' d cs) : ∀ es : List (El dk ok w), au ok' w' z ((es.map (·.1.2)).map dk) (es.map (·.1.1))
 | [] => by rw [Yw, Yw, Yw, au]
 | e :: es => by
  rw [X0, X0, X0, au]
  exact ⟨_, _, rfl, (Reads.len _ _ e.2).trans (hz _), hm _ _ e.2, Gt hz hm es⟩
theorem Gh {α : Type} [Inhabited α] {enc : α → List Value} {n : Nat} (hn : 0 < n) (hk : ∀ x, (enc x).length = n) : ∀ (ks : List α) (t : Nat), t < ks.length * n → (ks.map enc).flatten[t]? = some ((enc (ks[t / n]!))[t % n]!)
 | [], t, h => by simp at h
 | k :: ks, t, h => by
  rw [X0, X8]
  by_cases ht : t < n
  ·
   rw [Yh (by rw [hk]; omega), Nat.div_eq_of_lt ht, Nat.mod_eq_of_lt ht]
   simp [hk, ht]
  ·
   rw [Yg (by rw [hk]; omega), hk, Gh hn hk ks (t - n) (by simp [Nat.add_mul] at h; omega)]
   have h1 : t / n = (t - n) / n + 1 := by
    conv => lhs; rw [show t = t - n + n by omega, Nat.add_div_right _ hn]
   have h2 : t % n = (t - n) % n := by
    conv => lhs; rw [show t = t - n + n by omega, Nat.add_mod_right]
   rw [h1, h2]
   simp
theorem zH {α : Type} [Inhabited α] {enc : α → List Value} {n : Nat} (hn : 0 < n) (hk : ∀ x, (enc x).length = n) (ks : List α) : (flatK enc n ks.toArray).toList = (ks.map enc).flatten := by
 have hl : (ks.map enc).flatten.length = ks.length * n := by
  have : ∀ ks : List α, (ks.map enc).flatten.length = ks.length * n := fun ks => by
   induction ks with
   | nil => simp
   | cons k ks ih => rw [X0, X8, List.length_append, ih, hk, List.length_cons, YA, YQ, YV]
  exact this ks
 refine Ze fun t => ?_
 by_cases ht : t < ks.length * n
 ·
  rw [Gh hn hk ks t ht, Y8]
  have hs : t < (flatK enc n ks.toArray).size := by simpa using ht
  have := get_flatK enc n ks.toArray t (by simpa using ht)
  rw [getElem!_pos _ t hs] at this
  rw [Y0 hs, this]
  simp
 · rw [Yx (by simp; omega), Yx (by omega)]
theorem Xa {α : Type} (key : α → List UInt8) : SWO (Go.Proofs.ltOf fun x y : α => xP (key x) (key y)) := by
 have h : ∀ x y : α, Go.Proofs.ltOf (fun x y : α => xP (key x) (key y)) x y = decide (key x < key y) := fun x y => Kz (key x) (key y)
 refine ⟨fun x => ?_, fun x y z h1 h2 => ?_, fun x y z h1 h2 => ?_⟩
 ·
  rw [h]
  simp [List.lt_irrefl]
 ·
  rw [h] at h1 h2 ⊢
  simp only [decide_eq_true_eq] at h1 h2 ⊢
  exact List.lt_trans h1 h2
 ·
  rw [h] at h1 h2 ⊢
  simp only [decide_eq_false_iff_not, List.not_lt] at h1 h2 ⊢
  exact List.le_trans h2 h1
theorem Oq {κ : Type} {ρ : Go.Shelf.Ren} (L : SlLaysF0.n6 Tryz.prog ρ) (T z : Nat) (hz : 0 < z) (aE : ∀ w, (isAgg (ρ.t 24)).run Tryz.prog w = .ok true w) (zE : ∀ w, (Go.sizeOf (ρ.t 24)).run Tryz.prog w = .ok z w)
  (dk : κ → D) (hag : ∀ x, (dk x).agg = true) (hsz : ∀ x, (dk x).size = z) (key : κ → List UInt8) (x0 : κ) (cs0 : List Value) (hx0 : ∀ ok w, Reads ok w (dk x0) cs0) (cf : FuncId)
  (hc : ∀ (ok : Nat → Prop) (w : World), (∀ b, ok b → b < w.heap.size) → ∀ x y v u, bY ok w (dk x) v → bY ok w (dk y) u → Calls Tryz.prog cf #[v, u] w fun e w' => e = .returned (.int .i64 (xP (key x) (key y))) ∧ ∃ q os', w' = grow (w.drewN q) os')
  (ec : ∀ args w, (callFunc cf args).run Tryz.prog w = .ok (.enter cf args) w) (v : Value) (ks : List κ) (hl : ks.length < 4611686018427387904) :
  FnM (ρ.f 6) [.v v, .v (.func (.func cf) #[] #[])] [.row v T z (ks.map dk)] (fun r os' => r = .tpl [] ∧ ∃ ks' : List κ, ks'.Perm ks ∧ ks'.Pairwise (fun x y => key x ≤ key y) ∧ os' = [.row v T z (ks'.map dk)]) := by
 constructor
 intro ok w xs hok hown hr
 obtain ⟨x1, _, rfl, hx1, x2, _, rfl, hx2, rfl⟩ := hr
 obtain rfl := (bg.1 hx1).2
 obtain rfl := (bg.1 hx2).2
 obtain ⟨rows, ⟨hrow, hbase⟩, hrows⟩ := hown.at_ _ (List.mem_cons_self ..)
 rw [List.length_map] at hrow
 rcases hrow.2 with ⟨rfl, h0⟩ | ⟨g, cap, cur, rfl, _, hgb, r1, r2, r3, r4⟩
 ·
  obtain rfl : ks = [] := X5 h0
  rw [Yw] at hrows
  refine (AnyF.slices_SortFunc_none L none 0 (.func (.func cf) #[] #[]) w).mono ?_
  rintro e w' ⟨rfl, rfl⟩
  refine ⟨_, .tpl [], _, rfl, ⟨rfl, [], .nil, .nil, rfl⟩, ⟨.refl _, hown.apart, fun o ho => ?_⟩, [], rfl, rfl⟩
  obtain rfl := YF.1 ho
  exact ⟨[], ⟨⟨by simp, .inl ⟨rfl, rfl⟩⟩, fun b hb => by cases hb⟩, by rw [Yw, au]⟩
 ·
  have hlt := (ZE.1 hgb).1
  have hng : ∀ b, ok b → b ≠ g := fun b hb e => hown.off b ⟨_, List.mem_cons_self .., by rw [e]; rfl⟩ hb
  obtain ⟨es, rfl, rfl⟩ := els ks rows hrows
  letI : Inhabited (El dk ok w) := ⟨⟨(cs0, x0), hx0 ok w⟩⟩
  have hk : ∀ x : El dk ok w, x.1.1.length = z := fun x => (Reads.len _ _ x.2).trans (hsz _)
  have hone : ∀ x : El dk ok w, ∀ u ∈ x.1.1, u.oneCell' = true := fun x => Reads.one _ _ x.2
  rw [List.length_map] at hl
  simp only [List.length_map] at r1 r3 r4 hrow
  have hH : HoldsK (fun x : El dk ok w => x.1.1) z w g 0 es.toArray := fun j hj => by
   have hj' : j < es.length * z := by simpa using hj
   have h1 : (cur.toList.take (es.length * z))[j]? = (es.map fun x : El dk ok w => x.1.1).flatten[j]? := by rw [r4]
   rw [Zi hj', ← zH hz hk] at h1
   refine ⟨?_, by simp [World.frozen?, hgb]⟩
   rw [cell_of_row w g (0 + j) cur T (0, 0) hgb, XU, ← Y8, h1, Y8, Y0 hj, getElem!_pos _ j hj]
   rfl
  have hkeep : ∀ (n : Nat) (F : Array Value) (os : Array Go.Obj) (b : Nat), ok b → (grow (putRow id (Sort.ahead w n) g 0 F) os).heap[b]? = w.heap[b]? := fun n F os b hb => (zy (w := w) (g := g) (n := n) (os := os) F).block b (hok b hb) fun e => hng b hb (X3 e)
  have hcmp : CmpLays Tryz.prog cf #[] (fun x : El dk ok w => x.1.1) z (fun x y : El dk ok w => xP (key x.1.2) (key y.1.2)) g 0 es.toArray.size w := fun m os dk' hs x y => by
   have hm : ∀ d cs, Reads ok w d cs → Reads ok (sortWorldK (fun x : El dk ok w => x.1.1) z w g 0 m dk' os) d cs := fun d cs h => Reads.mono (fun _ h => h) (fun p hp => World.cell?_of_block (hkeep m _ os p.block hp)) d cs h
   refine (hc ok _ (fun b hb => XM (hok b hb) (size_sortWorldK_c _ _ _ _ _ _ _ _)) x.1.2 y.1.2 _ _ ((jB (hag _)).2 ⟨_, hm _ _ x.2, rfl⟩) ((jB (hag _)).2 ⟨_, hm _ _ y.2, rfl⟩)).mono ?_
   rintro e w' ⟨rfl, h⟩
   exact ⟨rfl, h⟩
  have hsort := AnyQ.slices_SortFunc L z aE zE (fun x : El dk ok w => x.1.1) hk hone (fun x y : El dk ok w => xP (key x.1.2) (key y.1.2)) (Xa fun x : El dk ok w => key x.1.2) cf #[] g 0 cap es.toArray w ec hcmp hH hlt (by simpa using hl)
  have hl0 : (es.map fun x : El dk ok w => x.1.2).length = es.toArray.size := by simp
  rw [hl0]
  refine hsort.mono ?_
  rintro e w' ⟨rfl, d', n, os, hP, hS, rfl⟩
  have hd : d'.toList.Perm es := by
   obtain ⟨hs, _, hp⟩ := hP
   rw [show es.toArray.size = d'.size from hs.symm, Array.extract_size, hs, Array.extract_size] at hp
   simpa using hp
  have hdl : d'.toList.length = es.length := hd.length_eq
  have hsorted : (d'.toList.map fun x : El dk ok w => x.1.2).Pairwise fun x y => key x ≤ key y := by
   rw [Zg, Yn]
   intro i j hi hj hij
   have := hS i j (XQ _) hij (by simpa [hdl] using hj)
   have hi' : i < d'.size := by simpa using hi
   have hj' : j < d'.size := by simpa using hj
   rw [getElem!_pos d' j hj', getElem!_pos d' i hi', show ltOf (fun x y : El dk ok w => xP (key x.1.2) (key y.1.2)) d'[j] d'[i] = decide (key d'[j].1.2 < key d'[i].1.2) from Kz _ _] at this
   simpa using this
  have hg := zy (w := w) (g := g) (n := n) (os := os) (flatK (fun x : El dk ok w => x.1.1) z d')
  have hh := Nb (n := n) (os := os) (flatK (fun x : El dk ok w => x.1.1) z d') hgb
  have hF : (flatK (fun x : El dk ok w => x.1.1) z d').size = es.length * z := by rw [size_flatK]; rw [show d'.size = es.length by simpa using hdl]
  have htk := Ld cur (flatK (fun x : El dk ok w => x.1.1) z d') (by rw [hF, r3]; exact ZA _ r1)
  have hfl : (flatK (fun x : El dk ok w => x.1.1) z d').toList = (d'.toList.map fun x : El dk ok w => x.1.1).flatten := by rw [← zH hz hk d'.toList]
  rw [hF, hfl] at htk
  refine ⟨_, .tpl [], _, rfl, ⟨rfl, d'.toList.map fun x : El dk ok w => x.1.2, hd.map _, hsorted, rfl⟩, ⟨⟨hg.os, hg.tape, hg.output, hg.size, fun k hk hn => hg.block k hk fun e => hn ?_⟩, .cons (fun _ h => by simp at h) .nil, fun o ho => ?_⟩, [], rfl, rfl⟩
  ·
   cases e
   exact ⟨_, List.mem_cons_self .., rfl⟩
  ·
   obtain rfl := YF.1 ho
   have hlen : ((d'.toList.map fun x : El dk ok w => x.1.2).map dk).length = es.length := by simp [← hdl]
   have hrd : au (okM ok [.row (.slice (some ⟨g, 0, none⟩) es.toArray.size cap) T z ((es.map fun x : El dk ok w => x.1.2).map dk)] w [.row (.slice (some ⟨g, 0, none⟩) es.toArray.size cap) T z ((d'.toList.map fun x : El dk ok w => x.1.2).map dk)] (sortWorldK (fun x : El dk ok w => x.1.1) z w g 0 n d' os)) (sortWorldK (fun x : El dk ok w => x.1.1) z w g 0 n d' os) z ((d'.toList.map fun x : El dk ok w => x.1.2).map dk) (d'.toList.map fun x : El dk ok w => x.1.1) :=
    Gt hsz (fun d cs h => Reads.mono (fun b hb => ⟨.inl hb, XM (hok b hb) hg.size, fun o ho => by
     obtain rfl := YF.1 ho
     intro e
     cases e
     exact hng _ hb rfl⟩) (fun p hp => World.cell?_of_block (hkeep n _ os p.block hp)) d cs h) d'.toList
   refine ⟨d'.toList.map fun x : El dk ok w => x.1.1, ⟨⟨?_, .inr ⟨g, cap, _, ?_, XQ _, hh, ?_, r2, ?_, ?_⟩⟩, fun b hb => .inl ⟨_, List.mem_cons_self .., hb⟩⟩, hrd⟩
   · rw [← hfl, Array.length_toList, hF, hlen]
   ·
    rw [hlen]
    rfl
   ·
    rw [hlen]
    exact r1
   · simp [putCells, r3]
   ·
    rw [hlen]
    exact htk
end E
end Go.Proofs.YtelbhdobjdnglaaGreat
namespace Go.Proofs.YtelbhdobjdnglaaGreat
open Go.Shelf
def CV : Go.Shelf.Ren := ⟨fun | 6 => 146 | 15 => 177 | 14 => 176 | 28 => 200 | 29 => 201 | 20 => 192 | 21 => 193 | 22 => 194 | 23 => 195 | 24 => 196 | 25 => 197 | 26 => 198 | 27 => 199 | 46 => 213 | 47 => 214 | 48 => 215 | 49 => 216 | 50 => 217 | 57 => 223 | n => n, fun | 22 => 188 | 24 => 248 | 25 => 250 | 3 => 3 | 39 => 119 | 0 => 0 | 53 => 293 | 55 => 117 | 4 => 4 | 46 => 287 | 45 => 286 | 50 => 156 | 5 => 5 | 9 => 9 | 66 => 302 | 70 => 306 | 76 => 311 | 77 => 312 | n => n, fun | n => n⟩
theorem Ot : Go.Proofs.SlLaysF0.n6 Tryz.prog CV := {
 mixed := by kernel_rfl
 f6 := ⟨Tryz.f146.name, by decide, Tryz.func146.trans (congrArg some (by kernel_rfl))⟩
 f14 := ⟨Tryz.f176.name, by decide, Tryz.func176.trans (congrArg some (by kernel_rfl))⟩
 f15 := Tryz.func177.trans (congrArg some (by kernel_rfl))
 f20 := ⟨Tryz.f192.name, by decide, Tryz.func192.trans (congrArg some (by kernel_rfl))⟩
 f21 := ⟨Tryz.f193.name, by decide, Tryz.func193.trans (congrArg some (by kernel_rfl))⟩
 f22 := ⟨Tryz.f194.name, by decide, Tryz.func194.trans (congrArg some (by kernel_rfl))⟩
 f23 := ⟨Tryz.f195.name, by decide, Tryz.func195.trans (congrArg some (by kernel_rfl))⟩
 f24 := ⟨Tryz.f196.name, by decide, Tryz.func196.trans (congrArg some (by kernel_rfl))⟩
 f25 := ⟨Tryz.f197.name, by decide, Tryz.func197.trans (congrArg some (by kernel_rfl))⟩
 f26 := ⟨Tryz.f198.name, by decide, Tryz.func198.trans (congrArg some (by kernel_rfl))⟩
 f27 := ⟨Tryz.f199.name, by decide, Tryz.func199.trans (congrArg some (by kernel_rfl))⟩
 f28 := Tryz.func200.trans (congrArg some (by kernel_rfl))
 f29 := Tryz.func201.trans (congrArg some (by kernel_rfl))
 f46 := ⟨Tryz.f213.name, by decide, Tryz.func213.trans (congrArg some (by kernel_rfl))⟩
 f47 := Tryz.func214.trans (congrArg some (by kernel_rfl))
 f48 := Tryz.func215.trans (congrArg some (by kernel_rfl))
 f49 := ⟨Tryz.f216.name, by decide, Tryz.func216.trans (congrArg some (by kernel_rfl))⟩
 f50 := ⟨Tryz.f217.name, by decide, Tryz.func217.trans (congrArg some (by kernel_rfl))⟩
 f57 := ⟨Tryz.f223.name, by decide, Tryz.func223.trans (congrArg some (by kernel_rfl))⟩
 t0 := Tryz.underlying0
 a0 := Tryz.isAgg0
 z0 := Tryz.sizeOf0
 v0 := Tryz.zeroValue0
 t3 := Tryz.underlying3
 a3 := Tryz.isAgg3
 z3 := Tryz.sizeOf3
 v3 := Tryz.zeroValue3
 t4 := Tryz.underlying4
 a4 := Tryz.isAgg4
 z4 := Tryz.sizeOf4
 v4 := Tryz.zeroValue4
 t5 := Tryz.underlying5
 a5 := Tryz.isAgg5
 z5 := Tryz.sizeOf5
 v5 := Tryz.zeroValue5
 t9 := Tryz.underlying9
 a9 := Tryz.isAgg9
 z9 := Tryz.sizeOf9
 v9 := Tryz.zeroValue9
 t22 := Tryz.underlying188
 a22 := Tryz.isAgg188
 z22 := Tryz.sizeOf188
 v22 := Tryz.zeroValue188
 t25 := Tryz.underlying250
 a25 := Tryz.isAgg250
 z25 := Tryz.sizeOf250
 v25 := Tryz.zeroValue250
 t39 := Tryz.underlying119
 a39 := Tryz.isAgg119
 z39 := Tryz.sizeOf119
 v39 := Tryz.zeroValue119
 t45 := Tryz.underlying286
 a45 := Tryz.isAgg286
 z45 := Tryz.sizeOf286
 v45 := Tryz.zeroValue286
 t46 := Tryz.underlying287
 a46 := Tryz.isAgg287
 z46 := Tryz.sizeOf287
 v46 := Tryz.zeroValue287
 t50 := Tryz.underlying156
 a50 := Tryz.isAgg156
 z50 := Tryz.sizeOf156
 v50 := Tryz.zeroValue156
 t53 := Tryz.underlying293
 a53 := Tryz.isAgg293
 z53 := Tryz.sizeOf293
 v53 := Tryz.zeroValue293
 t55 := Tryz.underlying117
 a55 := Tryz.isAgg117
 z55 := Tryz.sizeOf117
 v55 := Tryz.zeroValue117
 t66 := Tryz.underlying302
 a66 := Tryz.isAgg302
 z66 := Tryz.sizeOf302
 v66 := Tryz.zeroValue302
 t70 := Tryz.underlying306
 a70 := Tryz.isAgg306
 z70 := Tryz.sizeOf306
 v70 := Tryz.zeroValue306
 t76 := Tryz.underlying311
 a76 := Tryz.isAgg311
 z76 := Tryz.sizeOf311
 v76 := Tryz.zeroValue311
 t77 := Tryz.underlying312
 a77 := Tryz.isAgg312
 z77 := Tryz.sizeOf312
 v77 := Tryz.zeroValue312 }
end Go.Proofs.YtelbhdobjdnglaaGreat
namespace Go.Proofs.YtelbhdobjdnglaaGreat
set_option linter.unusedVariables false
set_option maxRecDepth 20000
set_option maxHeartbeats 4000000
open Go.RowKit Mono Rlp Go.Sort
namespace E
def dPr (x : List UInt8 × List UInt8) : D := .tup [.bs x.1, .bs x.2]
theorem Fn.VT {f : FuncId} {ds : List D} {Φ : R → Prop} (h : Fn f ds Φ) : FnM f ds [] (fun r os' => Φ r ∧ os' = []) := ⟨fun ok w xs hok hown hr => (h.go ok w xs hok hr).mono fun e w' ⟨hg, v, r, he, hΦ, hv⟩ =>
 ⟨v, r, [], he, ⟨hΦ, rfl⟩, ⟨.of hg, .nil, fun o ho => by simp at ho⟩, hv.mono (fun b hb => ⟨hb.1.elim .inl fun h => .inr (.inr h), hb.2, fun o ho => by simp at ho⟩) fun _ _ => rfl⟩⟩
def lg (x : List UInt8 × List UInt8) : Bool := decide (64 < x.1.length) || decide (1048576 < x.2.length)
theorem Vf (x : List UInt8 × List UInt8) : Fn 145 [.bs x.1, .bs x.2] (· = .val (.v (.bool (lg x)))) := by
 unfold lg
 refine Fn.walk 13 Tryz.func145 rfl Tryz.ntmps145 (by simp) fun X => ?_
 by_cases h : 64 < x.1.length
 ·
  rw [decide_eq_true h]
  repeat
   (first
    | (apply eX; iterate 2 rfl) | (apply ak; iterate 3 rfl) | (apply ah; iterate 3 rfl) | (apply aS; iterate 4 rfl)
    | (apply aC (b := true); (iterate 2 rfl); exact aK; iterate 2 rfl) | (apply aP; iterate 4 rfl) | apply EL.nil
    | (with_reducible first | apply EK.nc | apply EC.seq | apply EC.r0 | apply EC.ret))
  exact EK.lZ rfl rfl rfl
 ·
  rw [decide_eq_false h]
  by_cases h2 : 1048576 < x.2.length
  ·
   rw [decide_eq_true h2]
   repeat
    (first
     | (apply ak; iterate 3 rfl) | (apply ah; iterate 3 rfl) | (apply aS; iterate 4 rfl)
     | (apply aC (b := true); (iterate 2 rfl); exact aK; iterate 2 rfl) | (apply aC (b := false); (iterate 2 rfl); exact aK; iterate 2 rfl)
     | (apply aP; iterate 4 rfl) | apply EL.nil | (with_reducible first | apply EK.nc | apply EC.seq | apply EC.r0 | apply EC.ret))
   exact EK.lZ rfl rfl rfl
  ·
   rw [decide_eq_false h2]
   repeat
    (first
     | (apply ak; iterate 3 rfl) | (apply ah; iterate 3 rfl) | (apply aS; iterate 4 rfl)
     | (apply aC (b := false); (iterate 2 rfl); exact aK; iterate 2 rfl) | (apply aP; iterate 4 rfl) | apply EL.nil
     | (with_reducible first | apply EK.nc | apply EC.seq | apply EC.r0 | apply EC.ret))
   exact EK.lZ rfl rfl rfl
theorem SN (x : List UInt8 × List UInt8) : Fn 144 [dPr x] (· = .val (.v (.bool (lg x)))) := by
 have h1 := Vf x
 unfold dPr
 refine Fn.walk 8 Tryz.func144 rfl Tryz.ntmps144 (by simp) fun X => ?_
 repeat
  (first
   | (apply aA (h1); rfl; exact aj.refl _ _; exact enA; iterate 2 rfl) | (apply ah; iterate 3 rfl) | (apply bn; iterate 6 rfl)
   | (apply bH; rfl; exact I.a; iterate 4 rfl) | (apply fU; rfl; rfl; rfl; intro _) | apply EL.nil
   | (with_reducible first | apply EK.nc | apply EC.seq | apply EC.r0 | apply EC.ret))
 exact EK.lZ rfl rfl rfl
def FH : List (List UInt8 × List UInt8) → Nat → Int
 | [], _ => -1
 | x :: l, k => if lg x then (k : Int) else FH l (k + 1)
theorem FD : ∀ (l : List (List UInt8 × List UInt8)) (k : Nat), decide (FH l k ≥ 0) = l.any lg
 | [], k => rfl
 | x :: l, k => by
  rw [FH, List.any_cons]
  cases hx : lg x
  · simpa using FD l (k + 1)
  · simp
theorem P6 (l : List (List UInt8 × List UInt8)) : Fn 175 [.sl 2 (l.map dPr), .v (.func (.func 144) #[] #[])] (· = .val (.v (.int .i64 (FH l 0)))) := by
 refine Fn.walk 19 Tryz.func175 rfl Tryz.ntmps175 (by simp) fun X => ?_
 have hl : (l.map dPr).length = l.length := by rw [List.length_map]
 refine EC.lenOf (t := 0) rfl fun hmax => ?_
 rw [hl] at hmax
 unfold maxLen at hmax
 repeat
  (first
   | (apply ak; iterate 3 rfl) | (apply ah; iterate 3 rfl) | (apply aJ; iterate 4 rfl) | apply EL.nil
   | (with_reducible first | apply EK.nc | apply EC.seq | apply EC.r0 | apply EC.b0))
 refine EC.loop (ι := {n : Nat // n ≤ l.length ∧ FH l 0 = FH (l.drop n) n})
  (fun n => ⟨[(8, .val (.v (.int .i64 (n.1 : Int)))), (7, .val (.v (.int .i64 ((l.map dPr).length : Int)))), (6, .val (.sl 2 (l.map dPr))), (4, .val (.v (.int .i64 0))), (0, .val (.sl 2 (l.map dPr))), (1, .val (.v (.func (.func 144) #[] #[])))], [], []⟩)
  (fun n => l.length - n.1) ⟨0, by omega, by rw [Xq]⟩ ?_ ?_
 · exact Le.kp
 rintro ⟨n, hn, hI⟩
 dsimp only
 by_cases hlt : n < l.length
 ·
  have hat : (l.map dPr)[n]? = some (.tup [.bs l[n].1, .bs l[n].2]) := by rw [XK, List.getElem?_eq_getElem hlt]; rfl
  have hc := SN l[n]
  rw [XI hlt, FH] at hI
  unfold dPr at hc
  cases hg : lg l[n] with
  | true =>
   rw [hg] at hc hI
   repeat
    (first
     | (apply GZ (os := []) (caps := []) (ds' := [.tup [.bs l[n].1, .bs l[n].2]]) (cds := []) hc.VT; (exact fun base ok L a w _ => rfl); (iterate 3 rfl); exact aj.refl _ _; (focus (intro _ _; simp [go_sem]; done)); (iterate 2 rfl); rintro _ _ ⟨rfl, rfl⟩; simp only [List.nil_append])
     | (apply ak; iterate 3 rfl) | (apply ah; iterate 3 rfl) | (apply aH; iterate 5 rfl)
     | (apply aC (b := true); (iterate 2 rfl); exact aK; iterate 2 rfl)
     | (apply bT; (iterate 4 rfl); exact ixA; iterate 2 rfl) | apply EL.nil
     | (apply EC.t0; rfl)
     | (with_reducible first | apply EK.nc | apply EC.seq | apply EC.r0 | apply EC.k0 | apply EC.b0 | apply EC.ret | apply EK.dK | apply EK.aG))
   refine EK.lZ rfl rfl ?_
   rw [hI, if_pos rfl]
  | false =>
   rw [hg] at hc hI
   rw [if_neg (by decide)] at hI
   repeat
    (first
     | (apply GZ (os := []) (caps := []) (ds' := [.tup [.bs l[n].1, .bs l[n].2]]) (cds := []) hc.VT; (exact fun base ok L a w _ => rfl); (iterate 3 rfl); exact aj.refl _ _; (focus (intro _ _; simp [go_sem]; done)); (iterate 2 rfl); rintro _ _ ⟨rfl, rfl⟩; simp only [List.nil_append])
     | (apply ak; iterate 3 rfl) | (apply ah; iterate 3 rfl) | (apply aH; iterate 5 rfl)
     | (apply aC (b := true); (iterate 2 rfl); exact aK; iterate 2 rfl) | (apply jh; (iterate 3 rfl); (focus omega); (focus omega); iterate 2 rfl)
     | (apply bT; (iterate 4 rfl); exact ixA; iterate 2 rfl) | apply EL.nil
     | (apply EC.t0; rfl) | (apply EC.f0; rfl)
     | (with_reducible first | apply EK.nc | apply EC.seq | apply EC.r0 | apply EC.k0 | apply EC.b0 | apply EK.n0))
   refine EK.again ⟨n + 1, hlt, hI⟩ (by dsimp only; omega) ?_
   dsimp only
   simp only [XV]
   exact Le.kp
 ·
  have hge : l.drop n = [] := XP (by omega)
  rw [hge, FH] at hI
  repeat
   (first
    | (apply ah; iterate 3 rfl) | (apply aC (b := false); (iterate 2 rfl); exact aK; iterate 2 rfl) | apply EL.nil
    | (apply EC.f0; rfl) | (with_reducible first | apply EK.nc | apply EC.seq | apply EC.r0 | apply EC.x0 | apply EC.ret | apply EK.s0 | apply EK.aY))
  refine EK.lZ rfl rfl ?_
  rw [hI]
theorem Gp (l : List (List UInt8 × List UInt8)) : Fn 143 [.sl 2 (l.map dPr), .v (.func (.func 144) #[] #[])] (· = .val (.v (.bool (l.any lg)))) := by
 have h1 := P6 l
 have h2 := FD l 0
 rw [← h2]
 refine Fn.walk 9 Tryz.func143 rfl Tryz.ntmps143 (by simp) fun X => ?_
 repeat
  (first
   | (apply aA (h1); rfl; exact aj.refl _ _; exact enA; iterate 2 rfl) | (apply ak; iterate 3 rfl) | (apply ah; iterate 3 rfl)
   | (apply aC; iterate 5 rfl) | apply EL.nil | (with_reducible first | apply EK.nc | apply EC.seq | apply EC.r0 | apply EC.ret))
 exact EK.lZ rfl rfl rfl
theorem NI : ∀ args w, (callFunc 147 args).run Tryz.prog w = .ok (.enter 147 args) w := enters_of Tryz.func147 (by kernel_rfl) rfl
set_option maxRecDepth 100000 in
theorem Qr (u1 v1 u2 v2 : Value) (l m : List UInt8) (w : World) (h1 : IsB w u1 l) (h2 : IsB w u2 m) (o1 : v1.oneCell' = true) (o2 : v2.oneCell' = true) : Calls Tryz.prog 147 #[.agg #[u1, v1], .agg #[u2, v2]] w fun e w' => e = .returned (.int .i64 (xP l m)) ∧ ∃ q os', w' = grow (w.drewN q) os' := by
 have g1 := h1.gr ((ay w (.cells #[u1, v1] 248)).trans (ay _ (.cells #[u2, v2] 248)))
 have g2 := h2.gr ((ay w (.cells #[u1, v1] 248)).trans (ay _ (.cells #[u2, v2] 248)))
 have hc := Lib.hid (zX _ _ _ _ _ g1 g2)
 obtain ⟨A1, c1, rfl, a1, a2, a3⟩ := h1
 obtain ⟨A2, c2, rfl, b1, b2, b3⟩ := h2
 clear a3 b3 g1 g2
 go_enter Tryz.func147, Tryz.ntmps147
 go_wp2_with fail
 refine hc.out.mono ?_
 rintro e w' ⟨rfl, rfl⟩
 go_wp2_with fail
 exact bodyPost_ret (results_tmp rfl _ _ _) rfl ⟨rfl, 0, _, by rw [alloc_eq_grow, alloc_eq_grow, grow_grow]; rfl⟩
theorem Lp (v : Value) (ps : List (List UInt8 × List UInt8)) (hl : ps.length < 4611686018427387904) :
  FnM 146 [.v v, .v (.func (.func 147) #[] #[])] [.row v 248 2 (ps.map dPr)] (fun r os' => r = .tpl [] ∧ ∃ qs : List (List UInt8 × List UInt8), qs.Perm ps ∧ qs.Pairwise (fun x y => x.1 ≤ y.1) ∧ os' = [.row v 248 2 (qs.map dPr)]) :=
 Oq Ot 248 2 (by decide) Tryz.isAgg248 Tryz.sizeOf248 dPr (fun _ => rfl) (fun _ => rfl) (·.1) ([], []) [.slice none 0 0, .slice none 0 0]
  (fun ok w => by
   unfold dPr
   rw [Reads, bU]
   refine ⟨[_], [_], rfl, by rw [Reads]; exact ⟨_, rfl, none, 0, rfl, Nat.le_refl _, by simp [maxLen], fun h => absurd rfl h⟩, ?_⟩
   rw [bU]
   refine ⟨[_], [], rfl, by rw [Reads]; exact ⟨_, rfl, none, 0, rfl, Nat.le_refl _, by simp [maxLen], fun h => absurd rfl h⟩, ?_⟩
   rw [bU]) 147
  (fun ok w hok x y v u hv hu => by
   have key : ∀ (z : List UInt8 × List UInt8) (t : Value), bY ok w (dPr z) t → ∃ a b, t = .agg #[a, b] ∧ IsB w a z.1 ∧ b.oneCell' = true := by
    intro z t ht
    obtain ⟨cs, h', rfl⟩ := (jB rfl).1 ht
    unfold dPr at h'
    rw [Reads, bU] at h'
    obtain ⟨k1, k2, rfl, g1, g2⟩ := h'
    rw [bU] at g2
    obtain ⟨k3, k4, rfl, g3, g4⟩ := g2
    rw [bU] at g4
    subst g4
    have g1' := g1
    rw [Reads] at g1'
    obtain ⟨a, rfl, _⟩ := g1'
    have g3' := g3
    rw [Reads] at g3'
    obtain ⟨b, rfl, _⟩ := g3'
    exact ⟨a, b, rfl, kS hok ((bM rfl).2 g1), Reads.one _ _ g3 b (by simp)⟩
   obtain ⟨a1, b1, rfl, e1, e2⟩ := key x v hv
   obtain ⟨a2, b2, rfl, e3, e4⟩ := key y u hu
   exact Qr a1 b1 a2 b2 x.1 y.1 w e1 e3 e2 e4) NI v ps hl
end E
end Go.Proofs.YtelbhdobjdnglaaGreat
namespace Go.Proofs.YtelbhdobjdnglaaGreat
set_option linter.unusedVariables false
open Go.RowKit Mono Rlp
namespace E

end E
end Go.Proofs.YtelbhdobjdnglaaGreat
