/-
 Merged: lemmas of this claim.
 Conditions: none.
-/
import Derived.Test.YtkhjanjlcdhdcaaZK15
import Derived.Test.YtkhjanjlcdhdcaaZK17
import Derived.Test.YtkhjanjlcdhdcaaZK12
import Derived.Test.YtkhjanjlcdhdcaaZK10
import Derived.Test.YtkhjanjlcdhdcaaZK6
import Derived.Test.YtkhjanjlcdhdcaaZK0
namespace Go.Proofs.Ytkhjanjlcdhdcaa
set_option linter.unusedVariables false
set_option maxRecDepth 20000
set_option maxHeartbeats 8000000
open Go.RowKit Mono Rlp Wd
namespace E
def sD (p : List UInt8 × List UInt8) : List Value := bvs p.1 ++ bvs p.2
def yP (p : List UInt8 × List UInt8) : Prop := p.1.length = 32 ∧ p.2.length = 32
theorem rZ {ok : Nat → Prop} {w : World} {s : List UInt8 × List UInt8} {v : Value} (h : bZ ok w (fZ s) v) : v = .agg (sD s).toArray ∧ yP s := by
 obtain ⟨cs, h', rfl⟩ := (jd rfl).1 h
 unfold fZ at h'
 rw [Reads, aX] at h'
 obtain ⟨c1, c2, rfl, h1, h2⟩ := h'
 rw [aX] at h2
 obtain ⟨c3, c4, rfl, h3, h4⟩ := h2
 rw [aX] at h4
 rw [Reads] at h1 h3
 rw [h1.2, h3.2, h4, ET]
 exact ⟨rfl, h1.1, h3.1⟩
theorem zL (w : World) (s : List UInt8 × List UInt8) (hs : yP s) : (Op.equalIn 10000 58 (.agg (sD s).toArray) (.agg (sD s).toArray)).run Try.prog w = .ok true w := by
 rw [show (10000 : Nat) = 9999 + 1 from rfl, run_equalIn_struct w 9999 58 _ _ (by kernel_rfl) (by kernel_rfl)]
 simp only [Program.fieldsOf, Try.underlying58]
 have hp : ∀ (x : List UInt8 × List UInt8) (o : Nat) (l : List UInt8), yP x → (o = 0 ∧ l = x.1 ∨ o = 32 ∧ l = x.2) → ∀ w, (part 35 (sD x).toArray o).run Try.prog w = .ok (bI l) w := by
  intro x o l hx ho w
  have h1 : (part 35 (sD x).toArray o).run Try.prog w = .ok (.agg ((sD x).toArray.extract o (o + 32))) w := by
   kernel_rfl
  rw [h1]
  have hk : (sD x).toArray.extract o (o + 32) = (bvs l).toArray := by
   apply Gv
   rw [Array.toList_extract]
   unfold sD
   rcases ho with ⟨rfl, rfl⟩ | ⟨rfl, rfl⟩
   · rw [List.extract_eq_take_drop, Ej, List.take_left' (by rw [bK, hx.1])]
   · rw [List.extract_eq_take_drop, List.drop_left' (by rw [bK, hx.1]), List.take_of_length_le (by rw [bK, hx.2]; decide)]
  rw [hk]
  rfl
 have hW := fun w l hl => Bj (T := 35) (n := 32) 9997 Try.underlying35 Try.underlying5 (fun w => by kernel_rfl) w l l hl hl
 simp only [Op.eqFields, ne_eq, String.reduceEq, not_false_eq_true, if_true, En, hp s 0 s.1 hs (.inl ⟨rfl, rfl⟩), Ei, hW _ _ hs.1, beq_self_eq_true]
 simp [hW _ _ hs.2, Sem.run_bind, hp s 32 s.2 hs (.inr ⟨rfl, rfl⟩)]
theorem yA (s : List UInt8 × List UInt8) : Bin .neq 58 (fZ s) (fZ s) (.bool false) := by
 refine ⟨rfl, fun ok w p q hp hq => ?_⟩
 obtain ⟨rfl, h1⟩ := rZ hp
 obtain ⟨rfl, h2⟩ := rZ hq
 refine ⟨fun x y => run_eqGuard_agg w _ _ _ _ _ _ (by kernel_rfl), ?_⟩
 rw [run_neq_struct, zL w s h1]
 rfl
theorem pO (x : AcL) (hx : x.sl.length ≤ 1099511627776) : Fn 31 [dX x, dX x] (· = .val (.v (.bool true))) := by
 obtain ⟨a1, a2, a3, a4, a5⟩ := x
 unfold dX
 dsimp only at hx ⊢
 have h1 := (zW a1 a1).2
 have h3 := (lY a3 a3).2
 have h4 := (wu a4 a4).2
 rw [bne_self_eq_false] at h1 h3 h4
 have hl : (a5.map fZ).length = a5.length := Eo _
 refine Fn.walk 61 Try.func31 rfl Try.ntmps31 (by simp) fun X => ?_
 repeat
  (first
   | (apply gX; (iterate 2 rfl); exact h1; iterate 2 rfl) | (apply gX; (iterate 2 rfl); exact h3; iterate 2 rfl)
   | (apply gX; (iterate 2 rfl); exact h4; iterate 2 rfl) | (apply aA; iterate 3 rfl) | (apply ay; iterate 3 rfl) | (apply aC; iterate 6 rfl)
   | (apply dQ; iterate 4 rfl) | (apply aH; rfl; exact I.a; iterate 4 rfl) | (apply aG (b := false); (iterate 2 rfl); exact bg; iterate 2 rfl)
   | (apply dR; iterate 4 rfl) | (apply D9; iterate 3 rfl) | (apply bW; rfl; rfl; rfl; intro _) | apply EL.nil
   | (apply EC.f0; rfl)
   | (with_reducible first | apply EK.nc | apply EC.seq | apply EC.r0 | apply EC.k0 | apply EC.label | apply EC.b0 | apply EC.x0 | apply EC.ret | apply EK.n0 | apply EK.s0 | apply EK.aB | apply EK.au | apply EK.ah))
 rename_i g2 g3
 refine EC.loop (ι := {k : Nat // k ≤ a5.length})
  (fun k => ⟨[(5, .val (.v (.int .i64 (k.1 : Int)))), (2, .val (.v (.pointer (some ⟨g2, 0, none⟩)))), (3, .val (.v (.pointer (some ⟨g3, 0, none⟩))))],
   [.var g3 46 (.tup [.arr 20 a1, .v (.int .i64 a2), .arr 32 a3, .bs a4, .sl 64 (a5.map fZ)]), .var g2 46 (.tup [.arr 20 a1, .v (.int .i64 a2), .arr 32 a3, .bs a4, .sl 64 (a5.map fZ)])], []⟩)
  (fun k => a5.length - k.1) ⟨0, by omega⟩ ?_ ?_
 · exact Le.kp
 rintro ⟨k, hk⟩
 dsimp only at hk ⊢
 by_cases hlt : k < a5.length
 ·
  have hy : (a5.map fZ)[k]? = some (fZ a5[k]) := by rw [Fp, Ez hlt]; rfl
  generalize a5[k] = s at hy
  have hb := yA s
  repeat
   (first
    | (apply aA; iterate 3 rfl) | (apply aC; iterate 6 rfl) | (apply aH; rfl; exact I.a; iterate 4 rfl)
    | (apply aG (b := true); (iterate 2 rfl); exact bg; iterate 2 rfl) | (apply dR; iterate 4 rfl) | apply EL.nil
    | (apply EC.t0; rfl)
    | (with_reducible first | apply EK.nc | apply EC.seq | apply EC.r0 | apply EC.k0 | apply EC.label | apply EC.b0 | apply EC.x0 | apply EC.ret | apply EK.n0 | apply EK.s0 | apply EK.aB | apply EK.au | apply EK.ah))
  refine EC.draw 11 (by kernel_rfl) ?_
  simp only [Eh, Ep, Ef, Ej]
  repeat
   (first
    | (apply uY; (iterate 2 rfl); exact hb; iterate 2 rfl) | (apply aS; iterate 3 rfl) | (apply aO; iterate 6 rfl) | (apply bT; iterate 5 rfl)
    | (apply aU; rfl; exact I.a; iterate 4 rfl)
    | (apply xG; (iterate 4 rfl); exact ixA; iterate 2 rfl)
    | ((with_reducible apply EH.nil); rfl))
  repeat
   (first
    | (apply aA; iterate 3 rfl) | (apply ay; iterate 3 rfl) | (apply gq; (iterate 3 rfl); (focus omega); (focus omega); iterate 2 rfl) | apply EL.nil
    | (apply EC.f0; rfl)
    | (with_reducible first | apply EK.nc | apply EC.seq | apply EC.r0 | apply EC.k0 | apply EC.label | apply EC.b0 | apply EC.x0 | apply EC.ret | apply EK.n0 | apply EK.s0 | apply EK.aB | apply EK.au | apply EK.ah))
  refine EK.again ⟨k + 1, hlt⟩ (by dsimp only; omega) ?_
  simp only [FC]
  exact Le.kp
 ·
  skip
  repeat
   (first
    | (apply aA; iterate 3 rfl) | (apply ay; iterate 3 rfl) | (apply aC; iterate 6 rfl) | (apply aH; rfl; exact I.a; iterate 4 rfl)
    | (apply aG (b := false); (iterate 2 rfl); exact bg; iterate 2 rfl) | (apply dR; iterate 4 rfl) | apply EL.nil
    | (apply EC.f0; rfl)
    | (with_reducible first | apply EK.nc | apply EC.seq | apply EC.r0 | apply EC.k0 | apply EC.label | apply EC.b0 | apply EC.x0 | apply EC.ret | apply EK.n0 | apply EK.s0 | apply EK.aB | apply EK.au | apply EK.ah))
  exact EK.xP rfl rfl rfl
theorem jV (l : List AcL) (hl : l.length ≤ 1099511627776) (hx : ∀ x ∈ l, x.sl.length ≤ 1099511627776) : Fn 14 [.sl 55 (l.map dX), .sl 55 (l.map dX)] (· = .val (.v (.bool true))) := by
 have hml : (l.map dX).length = l.length := Eo _
 refine Fn.walk 27 Try.func14 rfl Try.ntmps14 (by simp) fun X => ?_
 repeat
  (first
   | (apply aA; iterate 3 rfl) | (apply ay; iterate 3 rfl) | (apply aG (b := false); (iterate 2 rfl); exact bg; iterate 2 rfl)
   | (apply dR; iterate 4 rfl) | apply EL.nil | (apply EC.f0; rfl)
   | (with_reducible first | apply EK.nc | apply EC.seq | apply EC.r0 | apply EC.k0 | apply EC.label | apply EC.b0 | apply EC.x0 | apply EC.ret | apply EK.n0 | apply EK.s0 | apply EK.aB | apply EK.au | apply EK.ah))
 refine EC.loop (ι := {k : Nat // k ≤ l.length})
  (fun k => ⟨[(5, .val (.v (.int .i64 (k.1 : Int)))), (0, .val (.sl 55 (l.map dX))), (1, .val (.sl 55 (l.map dX)))], [], []⟩)
  (fun k => l.length - k.1) ⟨0, by omega⟩ ?_ ?_
 · exact Le.kp
 rintro ⟨k, hk⟩
 dsimp only at hk ⊢
 by_cases hlt : k < l.length
 ·
  have hy : (l.map dX)[k]? = some (dX l[k]) := by rw [Fp, Ez hlt]; rfl
  have hc := pO l[k] (hx _ (FV hlt))
  generalize l[k] = s at hy hc
  repeat
   (first
    | (apply aA; iterate 3 rfl) | (apply aG (b := true); (iterate 2 rfl); exact bg; iterate 2 rfl) | (apply dR; iterate 4 rfl) | apply EL.nil
    | (apply EC.t0; rfl)
    | (with_reducible first | apply EK.nc | apply EC.seq | apply EC.r0 | apply EC.k0 | apply EC.label | apply EC.b0 | apply EC.x0 | apply EC.ret | apply EK.n0 | apply EK.s0 | apply EK.aB | apply EK.au | apply EK.ah))
  refine EC.draw 10 (by kernel_rfl) ?_
  simp only [Eh, Ep, Ef, Ej]
  repeat
   (first
    | (apply pG (hc); rfl; exact RL.a; exact enA; iterate 2 rfl) | (apply aS; iterate 3 rfl) | (apply bT; iterate 5 rfl) | (apply uU; iterate 3 rfl)
    | (apply xG; (iterate 4 rfl); exact ixA; iterate 2 rfl)
    | ((with_reducible apply EH.nil); rfl))
  repeat
   (first
    | (apply aA; iterate 3 rfl) | (apply ay; iterate 3 rfl) | (apply gq; (iterate 3 rfl); (focus omega); (focus omega); iterate 2 rfl) | apply EL.nil
    | (apply EC.f0; rfl)
    | (with_reducible first | apply EK.nc | apply EC.seq | apply EC.r0 | apply EC.k0 | apply EC.label | apply EC.b0 | apply EC.x0 | apply EC.ret | apply EK.n0 | apply EK.s0 | apply EK.aB | apply EK.au | apply EK.ah))
  refine EK.again ⟨k + 1, hlt⟩ (by dsimp only; omega) ?_
  simp only [FC]
  exact Le.kp
 ·
  skip
  repeat
   (first
    | (apply aA; iterate 3 rfl) | (apply ay; iterate 3 rfl) | (apply aG (b := false); (iterate 2 rfl); exact bg; iterate 2 rfl)
    | (apply dR; iterate 4 rfl) | apply EL.nil | (apply EC.f0; rfl)
    | (with_reducible first | apply EK.nc | apply EC.seq | apply EC.r0 | apply EC.k0 | apply EC.label | apply EC.b0 | apply EC.x0 | apply EC.ret | apply EK.n0 | apply EK.s0 | apply EK.aB | apply EK.au | apply EK.ah))
  exact EK.xP rfl rfl rfl
end E
end Go.Proofs.Ytkhjanjlcdhdcaa
namespace Go.Proofs.Ytkhjanjlcdhdcaa
set_option linter.unusedVariables false
set_option maxRecDepth 20000
set_option maxHeartbeats 8000000
open Go.RowKit Mono Rlp Wd Go.Sort
namespace E
section
variable {N : Nat} {X : Cx N} {ops : Array Oper} {Q : Exit → Act → World → Prop}
theorem Bz {l' : List Oper} {t ty f : Nat} {pos : String} {af : Array Edge} {gd : Option (Nat × Bool)} {args : Array Operand} {tys : Array TypeId} {ds ds' : List D} {Φ : R → List Obj → Prop} {rs : List (Tmp × R)} {os os0 : List Obj} {fs : List (Value × D)} (hF : FnM f ds' os Φ) (l1 : List Obj) (hos : os0 = l1 ++ os)
  (hx : evs (⟨rs, l1, fs⟩ : St) args.toList = some ds) (hR : ak fs ds ds') (hf : Enters f) (hg : guardOf ops ⟨rs, os ++ l1, fs⟩ ⟨some t, .call { callee := .value (.func f), args := args, argTypes := tys }, ty, pos, af, gd⟩ = some true) (hN : Nat.blt t N = true) (k : ∀ r os', Φ r os' → EL X ops Q l' ⟨(t, r) :: rs, l1 ++ os', fs⟩) : EL X ops Q (⟨some t, .call { callee := .value (.func f), args := args, argTypes := tys }, ty, pos, af, gd⟩ :: l') ⟨rs, os0, fs⟩ := by
 subst hos
 exact EL.le (Le.perm Fj) (dw hF rfl hx hR hf hg hN fun r os' h => EL.le (Le.perm Fj) (k r os' h))
end
theorem PA.Is.mono {p : PA} {x : Ac} {N M : Nat} (h : p.Is x N) (hm : N ≤ M) : p.Is x M := ⟨h.n, h.w, h.cd, h.sl, h.ent, h.nod, EO h.len hm, h.cl⟩
theorem PSt.mono {g N M : Nat} {A : As} {os : List Obj} (h : PSt g A N os) (hm : N ≤ M) : PSt g A M os := by
 obtain ⟨m, c, es, u, k, n, us, ps, h1, hi, hu⟩ := h
 exact ⟨m, c, es, u, k, n, us, ps, h1, ⟨hi.out, fun a d h => by obtain ⟨p, h1, h2, h3⟩ := hi.inn a d h; exact ⟨p, h1, h2, h3.mono hm⟩, hi.inj, hi.nod, EO hi.len hm⟩, hu⟩
structure ChL where
 a : List UInt8
 gone : Bool
 n : Int
 w : List UInt8
 cd : List UInt8
 sl : List (List UInt8 × List UInt8)
def ChL.base (c : ChL) (A : As) : As :=
 let A1 := if c.gone = true then A.upd c.a Ac.zero else A
 let A2 := A1.upd c.a {A1 c.a with n := if c.n > 0 then c.n else 0}
 let A3 := A2.upd c.a {A2 c.a with w := c.w}
 A3.upd c.a {A3 c.a with cd := c.cd}
def Ce (a : List UInt8) (sl : List (List UInt8 × List UInt8)) (A : As) : As := sl.foldl (fun A p => A.upd a ((A a).slot p.1 p.2)) A
def ChL.of (c : ChL) (A : As) : As := Ce c.a c.sl (c.base A)
def zX (l : List AcL) : Bool := decide (20 < l.length) || l.any fun x => decide (300 < x.cd.length) || decide (20 < x.sl.length)
theorem Dx {α : Type} {p : α → Bool} {l : List α} {i : Nat} (h : i < l.length) (hp : p l[i] = true) : l.any p = true := List.any_eq_true.2 ⟨l[i], FV h, hp⟩
theorem Dj (l : List AcL) : Fn 5 [.sl 55 (l.map dX)] (· = .val (.v (.bool (zX l)))) := by
 have hml : (l.map dX).length = l.length := Eo _
 refine Fn.walk 29 Try.func5 rfl Try.ntmps5 (by simp) fun X => ?_
 unfold zX
 by_cases h20 : 20 < l.length
 ·
  rw [show decide (20 < l.length) = true by simp [h20], Bool.true_or]
  repeat
   (first
    | (apply gQ; iterate 2 rfl) | (apply aA; iterate 3 rfl) | (apply ay; iterate 3 rfl) | (apply aC; iterate 6 rfl)
    | (apply aY; iterate 7 rfl) | (apply aQ; iterate 5 rfl) | (apply dQ; iterate 4 rfl) | (apply aH; rfl; exact I.a; iterate 4 rfl)
    | (apply aG (b := true); (iterate 2 rfl); exact bg; iterate 2 rfl) | (apply aG (b := false); (iterate 2 rfl); exact bg; iterate 2 rfl)
    | (apply aG; iterate 5 rfl) | (apply gq; (iterate 3 rfl); (focus omega); (focus omega); iterate 2 rfl) | (apply iy; iterate 4 rfl)
    | (apply dR; iterate 4 rfl) | (apply dG; rfl; exact I.a; iterate 3 rfl) | (apply lF; iterate 4 rfl)
    | (apply gV; (iterate 4 rfl); exact ixA; iterate 2 rfl)
    | (apply iF; (iterate 3 rfl); exact ixA; iterate 2 rfl)
    | (apply gW; rfl; exact I.a; iterate 3 rfl) | (apply aJ; rfl; exact I.a; (focus (first | omega | (simp; done) | (simp; omega))); iterate 5 rfl)
    | (apply dF; rfl; exact I.a; (iterate 2 rfl); (focus (first | assumption | omega | (constructor <;> (first | (simp; done) | (simp; omega))))); iterate 2 rfl)
    | ((with_reducible apply EK.h0); apply EK.round) | apply EL.nil | (apply EC.t0; rfl) | (apply EC.f0; rfl)
    | ((with_reducible apply EK.aZ); rfl)
    | (with_reducible first | apply EK.nc | apply EC.seq | apply EC.r0 | apply EC.k0 | apply EC.label | apply EC.b0 | apply EC.x0 | apply EC.ret | apply EK.n0 | apply EK.s0 | apply EK.aB | apply EK.au | apply EK.ah))
  exact EK.xP rfl rfl rfl
 ·
  rw [show decide (20 < l.length) = false by simp [h20], Bool.false_or]
  repeat
   (first
    | (apply gQ; iterate 2 rfl) | (apply aA; iterate 3 rfl) | (apply ay; iterate 3 rfl) | (apply aC; iterate 6 rfl)
    | (apply aY; iterate 7 rfl) | (apply aQ; iterate 5 rfl) | (apply dQ; iterate 4 rfl) | (apply aH; rfl; exact I.a; iterate 4 rfl)
    | (apply aG (b := true); (iterate 2 rfl); exact bg; iterate 2 rfl) | (apply aG (b := false); (iterate 2 rfl); exact bg; iterate 2 rfl)
    | (apply aG; iterate 5 rfl) | (apply gq; (iterate 3 rfl); (focus omega); (focus omega); iterate 2 rfl) | (apply iy; iterate 4 rfl)
    | (apply dR; iterate 4 rfl) | (apply dG; rfl; exact I.a; iterate 3 rfl) | (apply lF; iterate 4 rfl)
    | (apply gV; (iterate 4 rfl); exact ixA; iterate 2 rfl)
    | (apply iF; (iterate 3 rfl); exact ixA; iterate 2 rfl)
    | (apply gW; rfl; exact I.a; iterate 3 rfl) | (apply aJ; rfl; exact I.a; (focus (first | omega | (simp; done) | (simp; omega))); iterate 5 rfl)
    | (apply dF; rfl; exact I.a; (iterate 2 rfl); (focus (first | assumption | omega | (constructor <;> (first | (simp; done) | (simp; omega))))); iterate 2 rfl)
    | ((with_reducible apply EK.h0); apply EK.round) | apply EL.nil | (apply EC.t0; rfl) | (apply EC.f0; rfl)
    | ((with_reducible apply EK.aZ); rfl)
    | (with_reducible first | apply EK.nc | apply EC.seq | apply EC.r0 | apply EC.k0 | apply EC.label | apply EC.b0 | apply EC.x0 | apply EC.ret | apply EK.n0 | apply EK.s0 | apply EK.aB | apply EK.au | apply EK.ah))
  refine EC.loop (ι := {i : Nat // i ≤ l.length ∧ (l.take i).any (fun x => decide (300 < x.cd.length) || decide (20 < x.sl.length)) = false})
   (fun i => ⟨[(3, .val (.v (.int .i64 (i.1 : Int)))), (0, .val (.sl 55 (l.map dX)))], [], []⟩)
   (fun i => l.length - i.1) ⟨0, Fa _, rfl⟩ ?_ ?_
  · exact Le.kp
  rintro ⟨i, hi, hno⟩
  dsimp only at hi ⊢
  by_cases hlt : i < l.length
  ·
   have hd : (l.map dX)[i]? = some (dX l[i]) := by rw [Fp, Ez hlt]; rfl
   have htk : l.take (i + 1) = l.take i ++ [l[i]] := Fq hlt
   have hat := Dx (p := fun x : AcL => decide (300 < x.cd.length) || decide (20 < x.sl.length)) hlt
   generalize l[i] = x at hd htk hat
   have hsl : (x.sl.map fZ).length = x.sl.length := Eo _
   unfold dX at hd
   by_cases hc : 300 < x.cd.length
   ·
    rw [hat (by simp [hc])]
    repeat
     (first
      | (apply gQ; iterate 2 rfl) | (apply aA; iterate 3 rfl) | (apply ay; iterate 3 rfl) | (apply aC; iterate 6 rfl)
      | (apply aY; iterate 7 rfl) | (apply aQ; iterate 5 rfl) | (apply dQ; iterate 4 rfl) | (apply aH; rfl; exact I.a; iterate 4 rfl)
      | (apply aG (b := true); (iterate 2 rfl); exact bg; iterate 2 rfl) | (apply aG (b := false); (iterate 2 rfl); exact bg; iterate 2 rfl)
      | (apply aG; iterate 5 rfl) | (apply gq; (iterate 3 rfl); (focus omega); (focus omega); iterate 2 rfl) | (apply iy; iterate 4 rfl)
      | (apply dR; iterate 4 rfl) | (apply dG; rfl; exact I.a; iterate 3 rfl) | (apply lF; iterate 4 rfl)
      | (apply gV; (iterate 4 rfl); exact ixA; iterate 2 rfl)
      | (apply iF; (iterate 3 rfl); exact ixA; iterate 2 rfl)
      | (apply gW; rfl; exact I.a; iterate 3 rfl) | (apply aJ; rfl; exact I.a; (focus (first | omega | (simp; done) | (simp; omega))); iterate 5 rfl)
      | (apply dF; rfl; exact I.a; (iterate 2 rfl); (focus (first | assumption | omega | (constructor <;> (first | (simp; done) | (simp; omega))))); iterate 2 rfl)
      | ((with_reducible apply EK.h0); apply EK.round) | apply EL.nil | (apply EC.t0; rfl) | (apply EC.f0; rfl)
      | ((with_reducible apply EK.aZ); rfl)
      | (with_reducible first | apply EK.nc | apply EC.seq | apply EC.r0 | apply EC.k0 | apply EC.label | apply EC.b0 | apply EC.x0 | apply EC.ret | apply EK.n0 | apply EK.s0 | apply EK.aB | apply EK.au | apply EK.ah))
    exact EK.xP rfl rfl rfl
   ·
    by_cases hs : 20 < x.sl.length
    ·
     rw [hat (by simp [hs])]
     repeat
      (first
       | (apply gQ; iterate 2 rfl) | (apply aA; iterate 3 rfl) | (apply ay; iterate 3 rfl) | (apply aC; iterate 6 rfl)
       | (apply aY; iterate 7 rfl) | (apply aQ; iterate 5 rfl) | (apply dQ; iterate 4 rfl) | (apply aH; rfl; exact I.a; iterate 4 rfl)
       | (apply aG (b := true); (iterate 2 rfl); exact bg; iterate 2 rfl) | (apply aG (b := false); (iterate 2 rfl); exact bg; iterate 2 rfl)
       | (apply aG; iterate 5 rfl) | (apply gq; (iterate 3 rfl); (focus omega); (focus omega); iterate 2 rfl) | (apply iy; iterate 4 rfl)
       | (apply dR; iterate 4 rfl) | (apply dG; rfl; exact I.a; iterate 3 rfl) | (apply lF; iterate 4 rfl)
       | (apply gV; (iterate 4 rfl); exact ixA; iterate 2 rfl)
       | (apply iF; (iterate 3 rfl); exact ixA; iterate 2 rfl)
       | (apply gW; rfl; exact I.a; iterate 3 rfl) | (apply aJ; rfl; exact I.a; (focus (first | omega | (simp; done) | (simp; omega))); iterate 5 rfl)
       | (apply dF; rfl; exact I.a; (iterate 2 rfl); (focus (first | assumption | omega | (constructor <;> (first | (simp; done) | (simp; omega))))); iterate 2 rfl)
       | ((with_reducible apply EK.h0); apply EK.round) | apply EL.nil | (apply EC.t0; rfl) | (apply EC.f0; rfl)
       | ((with_reducible apply EK.aZ); rfl)
       | (with_reducible first | apply EK.nc | apply EC.seq | apply EC.r0 | apply EC.k0 | apply EC.label | apply EC.b0 | apply EC.x0 | apply EC.ret | apply EK.n0 | apply EK.s0 | apply EK.aB | apply EK.au | apply EK.ah))
     exact EK.xP rfl rfl rfl
    ·
     skip
     repeat
      (first
       | (apply gQ; iterate 2 rfl) | (apply aA; iterate 3 rfl) | (apply ay; iterate 3 rfl) | (apply aC; iterate 6 rfl)
       | (apply aY; iterate 7 rfl) | (apply aQ; iterate 5 rfl) | (apply dQ; iterate 4 rfl) | (apply aH; rfl; exact I.a; iterate 4 rfl)
       | (apply aG (b := true); (iterate 2 rfl); exact bg; iterate 2 rfl) | (apply aG (b := false); (iterate 2 rfl); exact bg; iterate 2 rfl)
       | (apply aG; iterate 5 rfl) | (apply gq; (iterate 3 rfl); (focus omega); (focus omega); iterate 2 rfl) | (apply iy; iterate 4 rfl)
       | (apply dR; iterate 4 rfl) | (apply dG; rfl; exact I.a; iterate 3 rfl) | (apply lF; iterate 4 rfl)
       | (apply gV; (iterate 4 rfl); exact ixA; iterate 2 rfl)
       | (apply iF; (iterate 3 rfl); exact ixA; iterate 2 rfl)
       | (apply gW; rfl; exact I.a; iterate 3 rfl) | (apply aJ; rfl; exact I.a; (focus (first | omega | (simp; done) | (simp; omega))); iterate 5 rfl)
       | (apply dF; rfl; exact I.a; (iterate 2 rfl); (focus (first | assumption | omega | (constructor <;> (first | (simp; done) | (simp; omega))))); iterate 2 rfl)
       | ((with_reducible apply EK.h0); apply EK.round) | apply EL.nil | (apply EC.t0; rfl) | (apply EC.f0; rfl)
       | ((with_reducible apply EK.aZ); rfl)
       | (with_reducible first | apply EK.nc | apply EC.seq | apply EC.r0 | apply EC.k0 | apply EC.label | apply EC.b0 | apply EC.x0 | apply EC.ret | apply EK.n0 | apply EK.s0 | apply EK.aB | apply EK.au | apply EK.ah))
     refine EK.again ⟨i + 1, hlt, ?_⟩ (by dsimp only; omega) ?_
     ·
      rw [htk, List.any_append, hno]
      simp [hc, hs]
     ·
      simp only [FC]
      exact Le.kp
  ·
   have hiE : i = l.length := by omega
   subst hiE
   rw [GY] at hno
   rw [hno]
   repeat
    (first
     | (apply gQ; iterate 2 rfl) | (apply aA; iterate 3 rfl) | (apply ay; iterate 3 rfl) | (apply aC; iterate 6 rfl)
     | (apply aY; iterate 7 rfl) | (apply aQ; iterate 5 rfl) | (apply dQ; iterate 4 rfl) | (apply aH; rfl; exact I.a; iterate 4 rfl)
     | (apply aG (b := true); (iterate 2 rfl); exact bg; iterate 2 rfl) | (apply aG (b := false); (iterate 2 rfl); exact bg; iterate 2 rfl)
     | (apply aG; iterate 5 rfl) | (apply gq; (iterate 3 rfl); (focus omega); (focus omega); iterate 2 rfl) | (apply iy; iterate 4 rfl)
     | (apply dR; iterate 4 rfl) | (apply dG; rfl; exact I.a; iterate 3 rfl) | (apply lF; iterate 4 rfl)
     | (apply gV; (iterate 4 rfl); exact ixA; iterate 2 rfl)
     | (apply iF; (iterate 3 rfl); exact ixA; iterate 2 rfl)
     | (apply gW; rfl; exact I.a; iterate 3 rfl) | (apply aJ; rfl; exact I.a; (focus (first | omega | (simp; done) | (simp; omega))); iterate 5 rfl)
     | (apply dF; rfl; exact I.a; (iterate 2 rfl); (focus (first | assumption | omega | (constructor <;> (first | (simp; done) | (simp; omega))))); iterate 2 rfl)
     | ((with_reducible apply EK.h0); apply EK.round) | apply EL.nil | (apply EC.t0; rfl) | (apply EC.f0; rfl)
     | ((with_reducible apply EK.aZ); rfl)
     | (with_reducible first | apply EK.nc | apply EC.seq | apply EC.r0 | apply EC.k0 | apply EC.label | apply EC.b0 | apply EC.x0 | apply EC.ret | apply EK.n0 | apply EK.s0 | apply EK.aB | apply EK.au | apply EK.ah))
   exact EK.xP rfl rfl rfl
theorem Aq {l : List AcL} (h : zX l = false) : l.length ≤ 20 ∧ ∀ x ∈ l, x.cd.length ≤ 300 ∧ x.sl.length ≤ 20 := by
 unfold zX at h
 rw [Bool.or_eq_false_iff, decide_eq_false_iff_not, List.any_eq_false] at h
 refine ⟨by omega, fun x hx => ?_⟩
 have := h.2 x hx
 simp only [G7, decide_eq_true_eq, not_or] at this
 omega
end E
end Go.Proofs.Ytkhjanjlcdhdcaa
namespace Go.Proofs.Ytkhjanjlcdhdcaa
set_option linter.unusedVariables false
set_option maxRecDepth 20000
set_option maxHeartbeats 4000000
open Go.RowKit Mono Rlp
namespace E
def bytesOf : Nat → Nat → List UInt8 → List UInt8
 | 0, _, t => t
 | k + 1, m, t => bytesOf k (m / 256) (UInt8.ofNat m :: t)
def ofW (n : Nat) : List UInt8 := List.replicate 24 0 ++ bytesOf 8 n []
theorem DX (n : Nat) (hn : n ≤ 9223372036854775807) : Fn 10 [.v (.int .i64 (n : Int))] (· = .val (.arr 32 (ofW n))) := by
 refine Fn.walk 27 Try.func10 rfl Try.ntmps10 (by simp) fun X => ?_
 repeat
  (first
   | (apply ay; iterate 3 rfl) | (apply fF; rfl; rfl; rfl; intro _) | apply EL.nil
   | (with_reducible first | apply EK.nc | apply EC.seq | apply EC.r0 | apply EC.k0 | apply EC.label | apply EC.b0 | apply EC.x0 | apply EC.ret | apply EK.n0 | apply EK.s0 | apply EK.aB | apply EK.au | apply EK.ah))
 rename_i g2 g3
 refine EC.loop (ι := {x : Nat × Nat × List UInt8 // x.1 ≤ 8 ∧ x.2.2.length = x.1 ∧ x.2.1 ≤ n ∧ bytesOf (8 - x.1) x.2.1 x.2.2 = bytesOf 8 n [] ∧ x.2.1 < 256 ^ (8 - x.1)})
  (fun x => ⟨[(4, .val (.v (.int .i64 (31 - (x.1.1 : Int))))), (0, .val (.v (.int .i64 (x.1.2.1 : Int)))), (2, .val (.v (.pointer (some ⟨g2, 0, none⟩)))), (3, .val (.v (.pointer (some ⟨g3, 0, none⟩))))], [.var g3 35 (.arr 32 (List.replicate (32 - x.1.1) 0 ++ x.1.2.2)), .var g2 35 (.arr 32 zero32)], []⟩)
  (fun x => 8 - x.1.1) ⟨(0, n, []), by omega, rfl, ED _, rfl, by dsimp only; omega⟩ ?_ ?_
 · exact Le.kp
 rintro ⟨⟨j, m, t⟩, hj, ht, hm, hb, h8⟩
 dsimp only at hj ht hm hb h8 ⊢
 have st : ∀ (k : Nat) (b : UInt8) (u : List UInt8), (List.replicate (k + 1) 0 ++ u).set k b = List.replicate k 0 ++ b :: u := fun k b u => by
  rw [List.replicate_succ', Ey, List.set_append_right _ _ (by simp)]
  simp
 by_cases hlt : j < 8
 ·
  have r1 := xB 3 m 8 (by omega) (by decide) 255 (by decide)
  have r2 := Dt 3 m 8 (by decide)
  have c1 : ∀ w, (Go.convert 3 5 (n64 (m % 2 ^ 8))).run Try.prog w = .ok (bv (UInt8.ofNat m)) w := by
   rw [bv8]
   exact uH (T := 3) (U := 5) (k := .i64) (k' := .u8) Try.underlying3 Try.underlying5 ((m % 2 ^ 8 : Nat) : Int) ((m % 256 : Nat) : Int) (by rw [IntKind.wrap_u8]; omega)
  have o1 : 0 + ((31 : Int) - (j : Int)).toNat * 1 = 31 - j := by omega
  have hk1 : (0 : Int) ≤ (31 : Int) - (j : Int) ∧ ((31 : Int) - (j : Int)).toNat < 32 := ⟨by omega, by omega⟩
  have hst := st (31 - j) (UInt8.ofNat m) t
  rw [show 31 - j + 1 = 32 - j by omega] at hst
  generalize List.replicate (32 - j) 0 ++ t = Z at hst
  repeat
   (first
    | (apply gX; (iterate 2 rfl); exact r1; iterate 2 rfl) | (apply gX; (iterate 2 rfl); exact r2; iterate 2 rfl)
    | (apply Ai; rfl; exact c1; iterate 3 rfl) | (apply pz; (iterate 3 rfl); exact hk1; iterate 2 rfl)
    | (apply uP; rfl; exact .z; rfl; rfl; (omega); rfl) | (apply aA; iterate 3 rfl) | (apply ay; iterate 3 rfl)
    | (apply aG (b := true); (iterate 2 rfl); exact bg; iterate 2 rfl) | (apply gq; (iterate 3 rfl); (focus omega); (focus omega); iterate 2 rfl) | apply EL.nil
    | (apply EC.t0; rfl)
    | (with_reducible first | apply EK.nc | apply EC.seq | apply EC.r0 | apply EC.k0 | apply EC.label | apply EC.b0 | apply EC.x0 | apply EC.ret | apply EK.n0 | apply EK.s0 | apply EK.aB | apply EK.au | apply EK.ah))
  refine EK.again ⟨(j + 1, m / 256, UInt8.ofNat m :: t), by omega, by simp [ht], EO (Nat.div_le_self _ _) hm, ?_, ?_⟩ (by dsimp only; omega) ?_
  · rw [← hb, show 8 - j = 8 - (j + 1) + 1 by omega, bytesOf]
  ·
   dsimp only
   rw [show 8 - j = 8 - (j + 1) + 1 by omega, Nat.pow_succ] at h8
   exact (Nat.div_lt_iff_lt_mul (by decide)).2 h8
  dsimp only
  rw [o1, hst, show 31 - j = 32 - (j + 1) by omega]
  rw [show (31 - (j : Int) - 1) = 31 - ((j + 1 : Nat) : Int) by omega]
  exact Le.kp
 ·
  obtain rfl : j = 8 := (by omega)
  obtain rfl : m = 0 := (by simpa using h8)
  rw [show 8 - 8 = 0 from rfl, bytesOf] at hb
  have hof : ofW n = List.replicate 24 0 ++ t := by unfold ofW; rw [← hb]
  rw [hof]
  clear hof hb st
  repeat
   (first
    | (apply aA; iterate 3 rfl) | (apply ay; iterate 3 rfl) | (apply aG (b := false); (iterate 2 rfl); exact bg; iterate 2 rfl) | apply EL.nil
    | (apply EC.f0; rfl)
    | (with_reducible first | apply EK.nc | apply EC.seq | apply EC.r0 | apply EC.k0 | apply EC.label | apply EC.b0 | apply EC.x0 | apply EC.ret | apply EK.n0 | apply EK.s0 | apply EK.aB | apply EK.au | apply EK.ah))
  refine EC.loop (ι := {k : Nat // k ≤ 24})
   (fun k => ⟨[(5, .val (.v (.int .i64 (k.1 : Int)))), (0, .val (.v (.int .i64 ((0 : Nat) : Int)))), (2, .val (.v (.pointer (some ⟨g2, 0, none⟩)))), (3, .val (.v (.pointer (some ⟨g3, 0, none⟩))))], [.var g3 35 (.arr 32 (List.replicate (32 - 8) 0 ++ t)), .var g2 35 (.arr 32 zero32)], []⟩)
   (fun k => 24 - k.1) ⟨0, by omega⟩ ?_ ?_
  · exact Le.kp
  rintro ⟨k, hk⟩
  dsimp only at hk ⊢
  by_cases hkl : k < 24
  ·
   have r1 := xB 3 0 8 (by omega) (by decide) 255 (by decide)
   have c1 : ∀ w, (Go.convert 3 5 (n64 (0 % 2 ^ 8))).run Try.prog w = .ok (bv (UInt8.ofNat 0)) w := by
    rw [bv8]
    exact uH (T := 3) (U := 5) (k := .i64) (k' := .u8) Try.underlying3 Try.underlying5 ((0 % 2 ^ 8 : Nat) : Int) ((0 % 256 : Nat) : Int) (by rw [IntKind.wrap_u8]; omega)
   have o1 : 0 + (k : Int).toNat * 1 = k := by omega
   have hk1 : (0 : Int) ≤ (k : Int) ∧ (k : Int).toNat < 32 := ⟨by omega, by omega⟩
   have hst : (List.replicate (32 - 8) (0 : UInt8) ++ t).set k (UInt8.ofNat 0) = List.replicate (32 - 8) 0 ++ t := by
    rw [List.set_append_left _ _ (by simp; omega)]
    congr 1
    apply List.ext_getElem (by simp)
    intro q h3 h4
    rw [List.getElem_set]
    split
    ·
     rw [List.getElem_replicate]
     rfl
    · rfl
   generalize List.replicate (32 - 8) 0 ++ t = Z at hst
   repeat
    (first
     | (apply gX; (iterate 2 rfl); exact r1; iterate 2 rfl) | (apply Ai; rfl; exact c1; iterate 3 rfl)
     | (apply pz; (iterate 3 rfl); exact hk1; iterate 2 rfl) | (apply uP; rfl; exact .z; rfl; rfl; (omega); rfl) | (apply aA; iterate 3 rfl)
     | (apply ay; iterate 3 rfl) | (apply aG (b := true); (iterate 2 rfl); exact bg; iterate 2 rfl)
     | (apply gq; (iterate 3 rfl); (focus omega); (focus omega); iterate 2 rfl) | apply EL.nil | (apply EC.t0; rfl)
     | (with_reducible first | apply EK.nc | apply EC.seq | apply EC.r0 | apply EC.k0 | apply EC.label | apply EC.b0 | apply EC.x0 | apply EC.ret | apply EK.n0 | apply EK.s0 | apply EK.aB | apply EK.au | apply EK.ah))
   refine EK.again ⟨k + 1, hkl⟩ (by dsimp only; omega) ?_
   dsimp only
   rw [o1, hst]
   simp only [FC]
   exact Le.kp
  ·
   skip
   repeat
    (first
     | (apply aA; iterate 3 rfl) | (apply aH; rfl; exact I.a; iterate 4 rfl) | (apply aG (b := false); (iterate 2 rfl); exact bg; iterate 2 rfl)
     | (apply bF; rfl; exact saA; iterate 4 rfl) | apply EL.nil
     | (apply EC.f0; rfl)
     | (with_reducible first | apply EK.nc | apply EC.seq | apply EC.r0 | apply EC.k0 | apply EC.label | apply EC.b0 | apply EC.x0 | apply EC.ret | apply EK.n0 | apply EK.s0 | apply EK.aB | apply EK.au | apply EK.ah))
   refine EK.CB 1 rfl rfl rfl rfl ?_ rfl
   (exact RL.a)
section
variable {N : Nat} {X : Cx N} {ops : Array Oper} {Q : Exit → Act → World → Prop} {l : List Oper} {rs : List (Tmp × R)} {os : List Obj} {fs : List (Value × D)} {o : Oper} {S : St}
theorem zH {T n : Nat} {bl : List UInt8} {vs : List (Nat × Value)} (ho : o.op = .build T (vs.map fun p => (p.1, Operand.const p.2)).toArray) (hb : Try.prog.built T vs = some (bvs bl).toArray) (hn : bl.length = n) : Still ops S o (.val (.arr n bl)) := fun base ok a w ha => by
 refine ⟨.agg (bvs bl).toArray, ?_, (jd rfl).2 ⟨_, ⟨hn, rfl⟩, rfl⟩⟩
 have h1 := run_build w T vs.toArray (bvs bl).toArray (by simpa using hb)
 have he : ((vs.map fun p => (p.1, Operand.const p.2)).toArray.map fun (i, x) => (i, a.eval x)) = vs.toArray := by
  apply Gv
  simp [Act.eval, Function.comp_def]
 unfold execOp
 simp only [ho, En, he, h1, Ei, Eu]
theorem Aj {t ty T n : Nat} {pos : String} {af : Array Edge} {gd : Option (Nat × Bool)} {parts : Array (Nat × Operand)} (vs : List (Nat × Value)) (bl : List UInt8) (hp : parts = (vs.map fun p => (p.1, Operand.const p.2)).toArray) (hb : Try.prog.built T vs = some (bvs bl).toArray) (hn : bl.length = n) (hg : guardOf ops ⟨rs, os, fs⟩ ⟨some t, .build T parts, ty, pos, af, gd⟩ = some true) (hN : Nat.blt t N = true) (kk : EL X ops Q l ⟨(t, .val (.arr n bl)) :: rs, os, fs⟩) : EL X ops Q (⟨some t, .build T parts, ty, pos, af, gd⟩ :: l) ⟨rs, os, fs⟩ := ES.still (zH (by rw [hp]) hb hn) hg rfl hN kk
end
end E
end Go.Proofs.Ytkhjanjlcdhdcaa
