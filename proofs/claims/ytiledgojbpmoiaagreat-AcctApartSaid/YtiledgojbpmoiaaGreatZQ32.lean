/-
 Merged (wip/tools/merge.py): AA2.
 Conditions: none.
-/
import Derived.Test.YtiledgojbpmoiaaGreatZQ30
import Derived.Test.YtiledgojbpmoiaaGreatZQ31
namespace Go.Proofs.YtiledgojbpmoiaaGreat
set_option linter.unusedVariables false
set_option maxRecDepth 20000
set_option maxHeartbeats 16000000
open Go.RowKit Mono Rlp
namespace E
def Stop (p : Prop) : Prop := p
theorem EC.stop {N : Nat} {X : Cx N} {Q : Exit → Act → World → Prop} {c b y : Code} {id : Nat} {S : St} (h : Stop (EC X Q (.seq (.seq c (.block id b)) y) S)) : EC X Q (.seq (.seq c (.block id b)) y) S := h
structure Apt (l : List Acc) (k : Nat) (hk : k < l.length) (m : List Acc) (same : Bool) : Prop where
 len : m.length ≤ 20
 ok : ∀ x ∈ m, x.ok
 small : ∀ x ∈ m, x.cd.length ≤ 1099511627776 ∧ x.sl.length ≤ 1000
 law : (∀ s ∈ l[k].sl, s.1 ≠ kJ) → ∀ S, Srt S → (∀ u ∈ xC l, (hash u, u) ∈ S) → (∀ u ∈ xC m, (hash u, u) ∈ S) → Nk l = 0 ∧ Nk m = 0 ∧ (jB l == jB m) = same
theorem Vf {l : List Acc} {k : Nat} {hk : k < l.length} (hok : ∀ x ∈ l, x.ok) (h20 : l.length ≤ 20) (hsm : ∀ x ∈ l, x.cd.length ≤ 300 ∧ x.sl.length ≤ 20) (hm : qF none l = true) {z : Acc} (hz : z.ok) (hzc : z.cd.length ≤ 301) (hzs : z.sl.length ≤ 21) (hzn : 0 ≤ z.n) (hza : z.a = l[k].a) (hzk : (∀ s ∈ l[k].sl, s.1 ≠ kJ) → (z.sl.map (·.1)).Nodup) (hne : (∀ s ∈ l[k].sl, s.1 ≠ kJ) → (l[k].n ≠ z.n ∨ l[k].w ≠ z.w ∨ l[k].cd ≠ z.cd ∨ ∃ s ∈ z.sl, s.2 ≠ zero32 ∧ ∀ t ∈ l[k].sl, t.1 ≠ s.1)) : Apt l k hk (l.set k z) false where
 len := by rw [List.length_set]; exact h20
 ok := mG hok hz
 small := mG (fun x hx => by have := hsm x hx; omega) (by omega)
 law := fun hq S hS h1 h2 => by
  have c1 := Jv hok h20 (fun x hx => (hsm x hx).2) hm h1
  have c2 := Qa hk hok h20 (fun x hx => (hsm x hx).2) hm hz hzs hzn hza (hzk hq) h2
  exact ⟨(c1.err hS).1, (c2.err hS).1, c1.apart hS hk c2 hza (hne hq)⟩
theorem OD : (ofW 1).length = 32 := by decide +kernel
theorem Rj : ofW 1 ≠ zero32 := by decide +kernel
theorem Qs {l : List Acc} {k : Nat} {hk : k < l.length} (hok : ∀ x ∈ l, x.ok) (h20 : l.length ≤ 20) (hsm : ∀ x ∈ l, x.cd.length ≤ 300 ∧ x.sl.length ≤ 20) (hm : qF none l = true) (hz : Acc.ok { l[k] with sl := l[k].sl ++ [(kJ, zero32)] }) (hzs : (l[k].sl ++ [(kJ, zero32)]).length ≤ 21) : Apt l k hk (l.set k { l[k] with sl := l[k].sl ++ [(kJ, zero32)] }) true where
 len := by rw [List.length_set]; exact h20
 ok := mG hok hz
 small := mG (fun x hx => by have := hsm x hx; omega) (by have := hsm _ (List.getElem_mem hk); dsimp only; omega)
 law := fun hq S hS h1 h2 => by
  obtain ⟨_, _, hone⟩ := uU l none hm
  have ho := sJ (hone _ (List.getElem_mem hk))
  have c1 := Jv hok h20 (fun x hx => (hsm x hx).2) hm h1
  have c2 := Qa hk hok h20 (fun x hx => (hsm x hx).2) hm hz hzs ho.2 rfl (AB ho.1 hq) h2
  refine ⟨(c1.err hS).1, (c2.err hS).1, ?_⟩
  rw [← JE hS hk c1 c2, beq_self_eq_true]
theorem SK {l : List Acc} {k : Nat} {hk : k < l.length} (hok : ∀ x ∈ l, x.ok) (h20 : l.length ≤ 20) (hsm : ∀ x ∈ l, x.cd.length ≤ 300 ∧ x.sl.length ≤ 20) (hm : qF none l = true) : Apt l k hk (swp l k hk) true where
 len := by rw [(pI l k hk).length_eq]; exact h20
 ok := fun x hx => hok x ((pI l k hk).mem_iff.1 hx)
 small := fun x hx => by have := hsm x ((pI l k hk).mem_iff.1 hx); omega
 law := fun hq S hS h1 h2 => by
  have c1 := Jv hok h20 (fun x hx => (hsm x hx).2) hm h1
  refine ⟨(c1.err hS).1, ((P9 c1 h2).err hS).1, ?_⟩
  rw [← Nu hS c1 h2, beq_self_eq_true]
theorem Le.Qu {N : Nat} {X : Cx N} {rs : List (Tmp × R)} {u1 u2 u3 : Value} {T1 T2 T3 : TypeId} {a w cd : List UInt8} {n : Int} {B sl ds : List D} {k : Nat} {L : List D} (h10 : look rs 10 = some (.val (.v u1))) (hk : ds[k]? = some (.tup [.arr 20 a, .v (.int .i64 n), .arr 32 w, .v u3, .v u2])) (hB : B = bvD cd) (hL : ds.set k (.tup [.arr 20 a, .v (.int .i64 n), .arr 32 w, .bs cd, .sl 64 sl]) = L) : Le X ⟨rs, [.row u3 T1 1 B, .row u2 T2 64 sl, .row u1 T3 55 ds], []⟩ ⟨(10, .val (.sl 55 L)) :: rs, [], [(u1, .sl 55 L), (u2, .sl 64 sl), (u3, .bs cd)]⟩ := by
 subst hB
 subst hL
 refine Le.trans (Le.freeze (pre := []) rfl) ?_
 refine Le.trans Le.TF ?_
 refine Le.trans (Le.freeze (pre := []) rfl) ?_
 refine Le.trans (Le.Tj hk (d' := .tup [.arr 20 a, .v (.int .i64 n), .arr 32 w, .bs cd, .sl 64 sl]) (Rf.tup (RL.cons Rf.same (RL.cons Rf.same (RL.cons Rf.same (RL.cons (Rf.fact (by simp) rfl) (RL.cons (Rf.fact (by simp) rfl) RL.nil))))))) ?_
 refine Le.trans (Le.freeze (pre := []) rfl) ?_
 exact Le.refine h10 (Rf.fact List.mem_cons_self rfl)
theorem Le.Wh {N : Nat} {X : Cx N} {rs : List (Tmp × R)} {u1 u2 u3 : Value} {T1 T2 T3 : TypeId} {a w cd : List UInt8} {n : Int} {B sl ds : List D} {k : Nat} {L : List D} (hk : ds[k]? = some (.tup [.arr 20 a, .v (.int .i64 n), .arr 32 w, .v u3, .v u2])) (hB : B = bvD cd) (hL : ds.set k (.tup [.arr 20 a, .v (.int .i64 n), .arr 32 w, .bs cd, .sl 64 sl]) = L) : Le X ⟨rs, [.row u3 T1 1 B, .row u2 T2 64 sl, .row u1 T3 55 ds], []⟩ ⟨rs, [.row u1 T3 55 L], [(u2, .sl 64 sl), (u3, .bs cd)]⟩ := by
 subst hB
 subst hL
 refine Le.trans (Le.freeze (pre := []) rfl) ?_
 refine Le.trans Le.TF ?_
 refine Le.trans (Le.freeze (pre := []) rfl) ?_
 exact Le.Tj hk (d' := .tup [.arr 20 a, .v (.int .i64 n), .arr 32 w, .bs cd, .sl 64 sl]) (Rf.tup (RL.cons Rf.same (RL.cons Rf.same (RL.cons Rf.same (RL.cons (Rf.fact (by simp) rfl) (RL.cons (Rf.fact (by simp) rfl) RL.nil))))))
theorem MH (l : List Acc) (at_ which : Int) (hat : at_ ≤ 9223372036854775807) (hl : ∀ x ∈ l, x.a.length = 20 ∧ (-9223372036854775808 ≤ x.n ∧ x.n ≤ 9223372036854775807) ∧ x.w.length = 32 ∧ ∀ y ∈ x.sl, y.1.length = 32 ∧ y.2.length = 32) : FnM 3 [.sl 55 (l.map bM), .v (.int .i64 at_), .v (.int .i64 which)] [] (fun r os' => r = .val (.v (.bool true)) ∧ os' = []) := by
 have hB := UY l
 have hml : (l.map bM).length = l.length := List.length_map _
 refine FnM.walk 216 Tryz.func3 rfl Tryz.ntmps3 (by simp) fun X => ?_
 cases hb : Qj l with
 | true =>
  rw [hb] at hB
  repeat
   (first
    | (apply fP; iterate 2 rfl) | (apply aJ (qx); rfl; exact ak.refl _ _; exact enA; iterate 2 rfl)
    | (apply aJ (hB); rfl; exact ak.refl _ _; exact enA; iterate 2 rfl) | (apply au; iterate 3 rfl) | (apply aj; iterate 3 rfl)
    | (apply bV; iterate 4 rfl) | (apply jW; iterate 3 rfl) | apply EL.nil | ((with_reducible apply EK.ah); apply EK.code) | (apply EC.cond_true; rfl)
    | (with_reducible first | apply EC.seq | apply EC.region | apply EC.ret | apply EK.aI))
  exact EK.fM [] rfl rfl (List.nil_sublist _) ⟨rfl, rfl⟩
 | false =>
  rw [hb] at hB
  by_cases hl1 : l.length < 1
  ·
   skip
   repeat
    (first
     | (apply fP; iterate 2 rfl) | (apply aJ (qx); rfl; exact ak.refl _ _; exact enA; iterate 2 rfl)
     | (apply aJ (hB); rfl; exact ak.refl _ _; exact enA; iterate 2 rfl) | (apply au; iterate 3 rfl) | (apply aj; iterate 3 rfl)
     | (apply bV; iterate 4 rfl) | (apply jW; iterate 3 rfl) | (apply aA (b := true); (iterate 2 rfl); exact aG; iterate 2 rfl)
     | (apply aB; iterate 4 rfl) | apply EL.nil | ((with_reducible apply EK.ah); apply EK.code) | (apply EC.cond_true; rfl)
     | (with_reducible first | apply EC.seq | apply EC.region | apply EC.ret | apply EK.aI))
   exact EK.fM [] rfl rfl (List.nil_sublist _) ⟨rfl, rfl⟩
  by_cases ha : at_ < 0
  ·
   skip
   repeat
    (first
     | (apply fP; iterate 2 rfl) | (apply aJ (qx); rfl; exact ak.refl _ _; exact enA; iterate 2 rfl)
     | (apply aJ (hB); rfl; exact ak.refl _ _; exact enA; iterate 2 rfl) | (apply au; iterate 3 rfl) | (apply aj; iterate 3 rfl)
     | (apply bV; iterate 4 rfl) | (apply jW; iterate 3 rfl) | (apply aA (b := true); (iterate 2 rfl); exact aG; iterate 2 rfl)
     | (apply aA (b := false); (iterate 2 rfl); exact aG; iterate 2 rfl) | (apply aB; iterate 4 rfl) | apply EL.nil | ((with_reducible apply EK.ah); apply EK.code)
     | (apply EC.cond_true; rfl) | (with_reducible first | apply EC.seq | apply EC.region | apply EC.ret | apply EK.aI))
   exact EK.fM [] rfl rfl (List.nil_sublist _) ⟨rfl, rfl⟩
  obtain ⟨h20, hsm⟩ := QW hb
  have hok : ∀ x ∈ l, x.ok := fun x hx => by
   obtain ⟨h1, h2, h3, h4⟩ := hl x hx
   exact ⟨h1, h2.1, h2.2, h3, h4, by have := hsm x hx; omega⟩
  have hM := UU l (fun x hx => by have := hsm x hx; omega) (by omega)
  cases hm : qF none l with
  | false =>
   rw [hm] at hM
   repeat
    (first
     | (apply aJ (qx); rfl; exact ak.refl _ _; exact enA; iterate 2 rfl) | (apply aJ (hB); rfl; exact ak.refl _ _; exact enA; iterate 2 rfl)
     | (apply aJ (hM); rfl; exact ak.refl _ _; exact enA; iterate 2 rfl) | (apply au; iterate 3 rfl) | (apply aj; iterate 3 rfl)
     | (apply bV; iterate 4 rfl) | (apply jW; iterate 3 rfl) | (apply aA (b := false); (iterate 2 rfl); exact aG; iterate 2 rfl)
     | (apply aB; iterate 4 rfl) | apply EL.nil | ((with_reducible apply EK.ah); apply EK.code) | (apply EC.cond_true; rfl)
     | (with_reducible first | apply EC.seq | apply EC.region | apply EC.ret | apply EK.aI))
   exact EK.fM [] rfl rfl (List.nil_sublist _) ⟨rfl, rfl⟩
  | true =>
   rw [hm] at hM
   have hrem := Qe (n := at_) (m := l.length) (by omega) (by omega)
   obtain ⟨k, hk, hke⟩ : ∃ k : Nat, k < l.length ∧ at_.toNat % l.length = k := ⟨_, Nat.mod_lt _ (by omega), rfl⟩
   rw [hke] at hrem
   rw [← hml] at hrem
   have hd : (l.map bM)[k]? = some (.tup [.arr 20 l[k].a, .v (.int .i64 l[k].n), .arr 32 l[k].w, .bs l[k].cd, .sl 64 (l[k].sl.map gq)]) := by rw [List.getElem?_map, List.getElem?_eq_getElem hk]; rfl
   obtain ⟨hcd, hsl⟩ := hsm _ (List.getElem_mem hk)
   have hmsl : (l[k].sl.map gq).length = l[k].sl.length := List.length_map _
   clear hke hb
   generalize hxe : l[k] = x at hd hcd hsl hmsl
   repeat
    (first
     | (apply aJ (qx); rfl; exact ak.refl _ _; exact enA; iterate 2 rfl) | (apply aJ (hB); rfl; exact ak.refl _ _; exact enA; iterate 2 rfl)
     | (apply aJ (hM); rfl; exact ak.refl _ _; exact enA; iterate 2 rfl) | (apply iU; (iterate 2 rfl); exact hrem; iterate 2 rfl)
     | (apply au; iterate 3 rfl) | (apply aj; iterate 3 rfl) | (apply bV; iterate 4 rfl) | (apply jW; iterate 3 rfl)
     | (apply aA (b := false); (iterate 2 rfl); exact aG; iterate 2 rfl) | (apply aB; iterate 4 rfl) | apply EL.nil | ((with_reducible apply EK.ah); apply EK.code)
     | (apply EC.cond_false; rfl) | (with_reducible first | apply EC.seq | apply EC.region | apply EC.skip))
   refine EL.le (Le.row 32 55) ?_
   repeat
    (first
     | (apply fJ; rfl; exact .z; (iterate 5 rfl); (constructor <;> (simp; omega)); intro u1) | (apply au; iterate 3 rfl) | (apply aj; iterate 3 rfl)
     | (apply aP; iterate 7 rfl) | (apply aK; iterate 5 rfl)
     | (apply aX; (iterate 4 rfl); (focus (first | exact ⟨by decide, rfl⟩ | (refine ⟨by omega, ?_⟩; rw [Int.toNat_natCast]; assumption))); iterate 2 rfl) | apply EL.nil
     | ((with_reducible apply EK.ah); apply EK.code) | (with_reducible first | apply EC.seq | apply EC.region))
   refine EL.le (Le.row 36 64) ?_
   repeat
    (first
     | (apply fJ; rfl; exact .z; (iterate 5 rfl); (constructor <;> (simp; omega)); intro u2)
     | (apply l7; rfl; exact I1; rfl; rfl; exact ⟨by omega, by rw [Int.toNat_natCast]; simpa using hk⟩; iterate 2 rfl)
     | (apply jG (k := k) (off := 54) (d := .tup [.arr 20 x.a, .v (.int .i64 x.n), .arr 32 x.w, .bs x.cd, .sl 64 (x.sl.map gq)]) (d'' := .tup [.arr 20 x.a, .v (.int .i64 x.n), .arr 32 x.w, .bs x.cd, .v u2]); rfl; exact .s .z; exact ⟨by rw [Int.toNat_natCast], hd⟩; iterate 4 rfl)
     | (apply au; iterate 3 rfl) | (apply aP; iterate 7 rfl) | (apply aK; iterate 5 rfl)
     | (apply aX; (iterate 4 rfl); (focus (first | exact ⟨by decide, rfl⟩ | (refine ⟨by omega, ?_⟩; rw [Int.toNat_natCast]; assumption))); iterate 2 rfl)
     | (apply jH; rfl; exact I.a; (focus (first | omega | (simp; done) | (simp; omega))); iterate 5 rfl) | apply EL.nil | ((with_reducible apply EK.ah); apply EK.code)
     | (with_reducible first | apply EC.seq | apply EC.region))
   refine EL.le (Le.row 5 1) ?_
   have hmset : ∀ d : D, ((l.map bM).set k d)[k]? = some d := fun d => by simp [hk]
   repeat
    (first
     | (with_reducible first | apply EC.stop | apply EC.seq | apply EC.region) | (apply NC; rfl; exact .z; (iterate 4 rfl); (constructor <;> (simp; omega)); intro u3)
     | (apply l7; rfl; exact I2; rfl; rfl; exact ⟨by omega, by rw [Int.toNat_natCast]; simpa using hk⟩; iterate 2 rfl)
     | (apply jG (k := k) (off := 53) (d := .tup [.arr 20 x.a, .v (.int .i64 x.n), .arr 32 x.w, .bs x.cd, .v u2]) (d'' := .tup [.arr 20 x.a, .v (.int .i64 x.n), .arr 32 x.w, .v u3, .v u2]); rfl; exact .s (.s .z); exact ⟨by rw [Int.toNat_natCast], hmset _⟩; iterate 4 rfl)
     | (apply aj; iterate 3 rfl) | (apply jH; rfl; exact I.a; (focus (first | omega | (simp; done) | (simp; omega))); iterate 5 rfl) | apply EL.nil
     | ((with_reducible apply EK.ah); apply EK.code))
   unfold Stop
   rw [List.set_set]
   simp only [List.nil_append]
   refine EC.cut (ι := {y : List Acc × Bool // Apt l k hk y.1 y.2}) (fun y => ⟨[(9, .val (.v (.int .i64 (k : Int)))), (11, .val (.v (.bool y.1.2))), (10, .val (.sl 55 (y.1.1.map bM))), (0, .val (.sl 55 (l.map bM)))], [], []⟩) ?_ ?_
   ·
    have hds : ((l.map bM).set k (.tup [.arr 20 x.a, .v (.int .i64 x.n), .arr 32 x.w, .v u3, .v u2]))[k]? = some (.tup [.arr 20 x.a, .v (.int .i64 x.n), .arr 32 x.w, .v u3, .v u2]) := hmset _
    have hfin : ∀ d : D, ∀ z : Acc, (((l.map bM).set k (.tup [.arr 20 x.a, .v (.int .i64 x.n), .arr 32 x.w, .v u3, .v u2])).set k d).set k (bM z) = (l.set k z).map bM := fun d z => by rw [List.set_set, List.set_set, List.map_set]
    have hfin0 : ∀ z : Acc, ((l.map bM).set k (.tup [.arr 20 x.a, .v (.int .i64 x.n), .arr 32 x.w, .v u3, .v u2])).set k (bM z) = (l.set k z).map bM := fun z => by rw [List.set_set, List.map_set]
    have hdl : ((l.map bM).set k (.tup [.arr 20 x.a, .v (.int .i64 x.n), .arr 32 x.w, .v u3, .v u2])).length = l.length := by rw [List.length_set, hml]
    have hset2 : ∀ d : D, (((l.map bM).set k (.tup [.arr 20 x.a, .v (.int .i64 x.n), .arr 32 x.w, .v u3, .v u2])).set k d)[k]? = some d := fun d => by simp [hk]
    generalize (l.map bM).set k (.tup [.arr 20 x.a, .v (.int .i64 x.n), .arr 32 x.w, .v u3, .v u2]) = ds at *
    have hix : (0 : Int) ≤ (k : Int) ∧ (k : Int).toNat < ds.length := ⟨by omega, by omega⟩
    have hxok := hok _ (List.getElem_mem hk)
    obtain ⟨_, hup, hone⟩ := uU l none hm
    have hxn := (sJ (hone _ (List.getElem_mem hk))).2
    have hxk := (sJ (hone _ (List.getElem_mem hk))).1
    have hapt := @Vf l k hk hok h20 hsm hm
    rw [hxe] at hxok hxn hxk hapt
    have hN0 := PU
    have hO : Fn 18 [.v (.int .i64 1)] (· = .val (.arr 32 (ofW 1))) := WC 1 (by omega)
    have hzok : ∀ v : List UInt8, v.length = 32 → Acc.ok { x with sl := x.sl ++ [(kJ, v)] } := fun v hv => ⟨hxok.a, hxok.n0, hxok.n1, hxok.w, fun s hs => by
     rcases List.mem_append.1 hs with hs | hs
     · exact hxok.sl s hs
     ·
      rw [List.mem_singleton.1 hs]
      exact ⟨FV, hv⟩, by have := hxok.len; simp; omega⟩
    have hapt4 : Apt l k hk (l.set k { x with sl := x.sl ++ [(kJ, zero32)] }) true := by
     rw [← hxe] at hzok hxn hxk ⊢
     exact Qs hok h20 hsm hm (hzok zero32 rfl) (by simp; have := (hsm _ (List.getElem_mem hk)).2; omega)
    have hapt5 : Apt l k hk (swp l k hk) true := SK hok h20 hsm hm
    obtain ⟨y, hy⟩ : ∃ y, l[0]'(by omega) = y := ⟨_, rfl⟩
    have hd0 : (l.map bM)[0]? = some (bM y) := by rw [List.getElem?_map, List.getElem?_eq_getElem (show 0 < l.length by omega), hy]; rfl
    have hd1 : (l.map bM)[k]? = some (bM x) := hd
    have hd5 : ((l.map bM).set 0 (bM x))[k]? = some (bM x) := by
     rw [List.getElem?_set]
     split
     ·
      rename_i h
      subst h
      rw [if_pos (by omega)]
     · exact hd
    have hswp : ((l.map bM).set 0 (bM x)).set k (bM y) = (swp l k hk).map bM := by
     unfold swp
     rw [hxe, hy, List.map_set, List.map_set]
    have hi0 : (0 : Int) ≤ 0 ∧ (0 : Int).toNat < (l.map bM).length := ⟨by omega, by rw [hml]; omega⟩
    have hi1 : (0 : Int) ≤ (k : Int) ∧ (k : Int).toNat < (l.map bM).length := ⟨by omega, by rw [hml]; omega⟩
    have hi2 : (0 : Int) ≤ (k : Int) ∧ (k : Int).toNat < ((l.map bM).set 0 (bM x)).length := ⟨by omega, by rw [List.length_set, hml]; omega⟩
    by_cases w0 : which = 0
    ·
     subst w0
     by_cases hn : 4611686018427387904 ≤ x.n
     ·
      skip
      repeat
       (first
        | (apply l7; rfl; exact I2; rfl; rfl; exact hix; iterate 2 rfl)
        | (apply vZ (k := k) (off := 20) (d := .tup [.arr 20 x.a, .v (.int .i64 x.n), .arr 32 x.w, .v u3, .v u2]); rfl; exact I2; exact ⟨by rw [Int.toNat_natCast], hds⟩; iterate 4 rfl)
        | (apply au; iterate 3 rfl) | (apply aj; iterate 3 rfl) | (apply aA (b := true); (iterate 2 rfl); exact aG; iterate 2 rfl)
        | (apply jH; rfl; exact I.a; (focus (first | omega | (simp; done) | (simp; omega))); iterate 5 rfl) | apply EL.nil | ((with_reducible apply EK.ah); apply EK.code)
        | (apply EC.cond_true; rfl) | (with_reducible first | apply EC.seq | apply EC.region | apply EC.block | apply EC.ret | apply EK.dS | apply EK.aI))
      exact EK.fM [] rfl rfl (List.nil_sublist _) ⟨rfl, rfl⟩
     ·
      skip
      repeat
       (first
        | (apply l7; rfl; exact I2; rfl; rfl; exact hix; iterate 2 rfl)
        | (apply vZ (k := k) (off := 20) (d := .tup [.arr 20 x.a, .v (.int .i64 x.n), .arr 32 x.w, .v u3, .v u2]); rfl; exact I2; exact ⟨by rw [Int.toNat_natCast], hds⟩; iterate 4 rfl)
        | (apply jG (k := k) (off := 20) (d := .tup [.arr 20 x.a, .v (.int .i64 x.n), .arr 32 x.w, .v u3, .v u2]) (d'' := .tup [.arr 20 x.a, .v (.int .i64 (x.n + 1)), .arr 32 x.w, .v u3, .v u2]); rfl; exact .s (.s .z); exact ⟨by rw [Int.toNat_natCast], hds⟩; iterate 4 rfl)
        | (apply au; iterate 3 rfl) | (apply aj; iterate 3 rfl) | (apply aA (b := true); (iterate 2 rfl); exact aG; iterate 2 rfl)
        | (apply aA (b := false); (iterate 2 rfl); exact aG; iterate 2 rfl) | (apply eU; (iterate 3 rfl); (focus omega); (focus omega); iterate 2 rfl)
        | (apply jH; rfl; exact I.a; (focus (first | omega | (simp; done) | (simp; omega))); iterate 5 rfl) | apply EL.nil | ((with_reducible apply EK.ah); apply EK.code)
        | (apply EC.cond_true; rfl) | (apply EC.cond_false; rfl) | (with_reducible first | apply EC.seq | apply EC.region | apply EC.skip | apply EC.block | apply EK.aF))
      refine EK.le (Le.Qu rfl (hset2 _) rfl (hfin _ { x with n := x.n + 1 })) ?_
      refine EK.meet ⟨(_, false), hapt (z := { x with n := x.n + 1 }) ⟨hxok.a, by dsimp only; omega, by dsimp only; omega, hxok.w, hxok.sl, hxok.len⟩ (by dsimp only; omega) (by dsimp only; omega) (by dsimp only; omega) rfl (fun _ => hxk) (fun _ => .inl (by dsimp only; omega))⟩ ?_
      exact Le.kp
    by_cases w2 : which = 2
    ·
     subst w2
     have hbl : (bvD x.cd).length = x.cd.length := List.length_map _
     repeat
      (first
       | (apply l7; rfl; exact I2; rfl; rfl; exact hix; iterate 2 rfl)
       | (apply vZ (k := k) (off := 53) (d := .tup [.arr 20 x.a, .v (.int .i64 x.n), .arr 32 x.w, .v u3, .v u2]); rfl; exact I2; exact ⟨by rw [Int.toNat_natCast], hds⟩; iterate 4 rfl)
       | (apply fJ; rfl; exact .z; (iterate 5 rfl); (constructor <;> (simp; omega)); intro u4)
       | (apply jG (k := k) (off := 53) (d := .tup [.arr 20 x.a, .v (.int .i64 x.n), .arr 32 x.w, .v u3, .v u2]) (d'' := .tup [.arr 20 x.a, .v (.int .i64 x.n), .arr 32 x.w, .v u4, .v u2]); rfl; exact .s (.s .z); exact ⟨by rw [Int.toNat_natCast], hds⟩; iterate 4 rfl)
       | (apply au; iterate 3 rfl) | (apply aj; iterate 3 rfl) | (apply aA (b := true); (iterate 2 rfl); exact aG; iterate 2 rfl)
       | (apply aA (b := false); (iterate 2 rfl); exact aG; iterate 2 rfl) | (apply jo; iterate 9 rfl)
       | (apply jH; rfl; exact I.a; (focus (first | omega | (simp; done) | (simp; omega))); iterate 5 rfl) | apply EL.nil | ((with_reducible apply EK.ah); apply EK.code)
       | (apply EC.cond_true; rfl) | (apply EC.cond_false; rfl) | (with_reducible first | apply EC.seq | apply EC.region | apply EC.block | apply EK.aF))
     refine EK.le (Le.Qu rfl (hset2 _) (show bvD x.cd ++ [.v (.int .u8 0)] = bvD (x.cd ++ [0]) by simp [bvD]; rfl) (hfin _ { x with cd := x.cd ++ [0] })) ?_
     refine EK.meet ⟨(_, false), hapt (z := { x with cd := x.cd ++ [0] }) ⟨hxok.a, hxok.n0, hxok.n1, hxok.w, hxok.sl, hxok.len⟩ (by simp; omega) (by dsimp only; omega) hxn rfl (fun _ => hxk) (fun _ => .inr (.inr (.inl (by simp))))⟩ ?_
     exact Le.kp
    by_cases w1 : which = 1
    ·
     subst w1
     have hw32 := hxok.w
     obtain ⟨b, hb31⟩ : ∃ b, x.w[31]? = some b := ⟨x.w[31]'(by omega), List.getElem?_eq_getElem _⟩
     have hx1 := U8 b
     have hsub : D.sub (.tup [.arr 20 x.a, .v (.int .i64 x.n), .tup (bvD x.w), .v u3, .v u2]) 52 1 false = some (.v (bv b)) := QV rfl hw32 hb31
     have hupd : D.upd (.tup [.arr 20 x.a, .v (.int .i64 x.n), .tup (bvD x.w), .v u3, .v u2]) 52 (.v (bv (b ^^^ 1))) = some (.tup [.arr 20 x.a, .v (.int .i64 x.n), .tup (bvD (x.w.set 31 (b ^^^ 1))), .v u3, .v u2]) := QL rfl hw32
     have hw2 : (x.w.set 31 (b ^^^ 1)).length = 32 := by rw [List.length_set, hw32]
     have hwne : x.w ≠ x.w.set 31 (b ^^^ 1) := fun e => by
      have h1 := congrArg (·[31]?) e
      simp only [hb31, List.getElem?_set, hw32] at h1
      exact Vq b (by simpa using h1.symm)
     repeat
      (first
       | (apply au; iterate 3 rfl) | (apply aj; iterate 3 rfl) | (apply aA (b := true); (iterate 2 rfl); exact aG; iterate 2 rfl)
       | (apply aA (b := false); (iterate 2 rfl); exact aG; iterate 2 rfl) | apply EL.nil | ((with_reducible apply EK.ah); apply EK.code) | (apply EC.cond_true; rfl)
       | (apply EC.cond_false; rfl) | (with_reducible first | apply EC.seq | apply EC.region | apply EC.block))
     refine EC.le (Le.pick [2, 0, 1] [_, _, _] rfl (by decide) rfl) ?_
     refine EC.le (Le.rowAt hds (d' := .tup [.arr 20 x.a, .v (.int .i64 x.n), .tup (bvD x.w), .v u3, .v u2]) fun ok w hf r hr => LK hr) ?_
     have hse := hset2 (.tup [.arr 20 x.a, .v (.int .i64 x.n), .tup (bvD x.w), .v u3, .v u2])
     have hl1 : (ds.set k (.tup [.arr 20 x.a, .v (.int .i64 x.n), .tup (bvD x.w), .v u3, .v u2])).length = l.length := by rw [List.length_set, hdl]
     have hs2 : ∀ d d2 : D, ((ds.set k d).set k d2) = ds.set k d2 := fun d d2 => by rw [List.set_set]
     have hq2 := hset2 (.tup [.arr 20 x.a, .v (.int .i64 x.n), .tup (bvD (x.w.set 31 (b ^^^ 1))), .v u3, .v u2])
     generalize hes : ds.set k (.tup [.arr 20 x.a, .v (.int .i64 x.n), .tup (bvD x.w), .v u3, .v u2]) = es at *
     have hs3 : ∀ d : D, es.set k d = ds.set k d := fun d => by rw [← hes, List.set_set]
     have hp1 : 0 < es.length := by omega
     have hix1 : (0 : Int) ≤ (k : Int) ∧ (k : Int).toNat < es.length := ⟨by omega, by omega⟩
     refine EC.draw 11 (by kernel_rfl) ?_
     simp only [List.take_succ_cons, List.take_zero, List.drop_succ_cons, List.drop_zero]
     repeat
      (first
       | (apply cO; rfl; exact I0; rfl; rfl; exact hix1; iterate 2 rfl)
       | (apply QB; rfl; exact I0; exact hp1; rfl; rfl; exact ⟨by decide, by decide⟩; iterate 2 rfl)
       | (apply dP (k := k) (off := 52) (d := .tup [.arr 20 x.a, .v (.int .i64 x.n), .tup (bvD x.w), .v u3, .v u2]); rfl; exact I0; exact ⟨by omega, hse⟩; rfl; exact hsub; iterate 2 rfl)
       | (apply fK; (iterate 2 rfl); exact hx1; iterate 2 rfl) | (apply aU; iterate 3 rfl)
       | (apply jf; rfl; exact I.a; (focus (first | omega | (simp; done) | (simp; omega))); iterate 5 rfl) | ((with_reducible apply EH.nil); rfl))
     repeat
      (first
       | (apply Qy; rfl; exact I0; exact hp1; rfl; rfl; exact ⟨by decide, by decide⟩; iterate 2 rfl)
       | (apply jG (k := k) (off := 52) (d := .tup [.arr 20 x.a, .v (.int .i64 x.n), .tup (bvD x.w), .v u3, .v u2]) (d'' := .tup [.arr 20 x.a, .v (.int .i64 x.n), .tup (bvD (x.w.set 31 (b ^^^ 1))), .v u3, .v u2]); rfl; exact .z; exact ⟨by omega, hse⟩; rfl; rfl; exact hupd; rfl)
       | apply EL.nil | (with_reducible apply EK.aF))
     rw [hs3]
     refine EK.le (Le.rowAt hq2 (d' := .tup [.arr 20 x.a, .v (.int .i64 x.n), .arr 32 (x.w.set 31 (b ^^^ 1)), .v u3, .v u2]) fun ok w hf r hr => Iw hw2 hr) ?_
     rw [hs2]
     refine EK.le (Le.pick [1, 2, 0] [_, _, _] rfl (by decide) rfl) ?_
     refine EK.le (Le.Qu rfl (hset2 _) rfl (hfin _ { x with w := x.w.set 31 (b ^^^ 1) })) ?_
     refine EK.meet ⟨(_, false), hapt (z := { x with w := x.w.set 31 (b ^^^ 1) }) ⟨hxok.a, hxok.n0, hxok.n1, hw2, hxok.sl, hxok.len⟩ (by dsimp only; omega) (by dsimp only; omega) hxn rfl (fun _ => hxk) (fun _ => .inr (.inl hwne))⟩ ?_
     exact Le.kp
    by_cases w3 : which = 3
    ·
     subst w3
     repeat
      (first
       | (apply au; iterate 3 rfl) | (apply aj; iterate 3 rfl) | (apply aA (b := true); (iterate 2 rfl); exact aG; iterate 2 rfl)
       | (apply aA (b := false); (iterate 2 rfl); exact aG; iterate 2 rfl) | apply EL.nil | ((with_reducible apply EK.ah); apply EK.code) | (apply EC.cond_true; rfl)
       | (apply EC.cond_false; rfl) | (with_reducible first | apply EC.seq | apply EC.region | apply EC.block))
     refine EC.le (Le.pick [1, 2, 0] [_, _, _] rfl (by decide) rfl) ?_
     refine EC.jm 13 [0, 1, 2, 3, 7, 8, 9, 10, 11] [4, 5, 6, 12] [_, _, _] _ (by kernel_rfl) (by kernel_rfl) rfl ?_
     simp only [aQ, List.filterMap_cons, List.filterMap_nil, List.getElem?_cons_zero, List.getElem?_cons_succ]
     repeat
      (first
       | (apply bP (hN0); rfl; exact ak.refl _ _; exact enA; iterate 2 rfl) | (apply bP (hO); rfl; exact ak.refl _ _; exact enA; iterate 2 rfl)
       | (apply uX (d' := gq (kJ, ofW 1)); (iterate 5 rfl); (focus ((exact RL.a))); iterate 2 rfl) | (apply aU; iterate 3 rfl) | (apply iP; iterate 5 rfl)
       | (apply kP; iterate 9 rfl))
     refine EM.nil ?_
     repeat (first | rw [List.cons_append] | rw [List.nil_append])
     refine CH.cut 3 ?_
     simp only [List.take_succ_cons, List.take_zero, List.drop_succ_cons, List.drop_zero]
     repeat
      (first
       | (apply cO; rfl; exact I1; rfl; rfl; exact hix; iterate 2 rfl)
       | (apply dP (k := k) (off := 54) (d := .tup [.arr 20 x.a, .v (.int .i64 x.n), .arr 32 x.w, .v u3, .v u2]); rfl; exact I1; exact ⟨by rw [Int.toNat_natCast], hds⟩; iterate 4 rfl)
       | (apply jf; rfl; exact I.a; (focus (first | omega | (simp; done) | (simp; omega))); iterate 5 rfl))
     refine EM.nil ?_
     repeat (first | rw [List.cons_append] | rw [List.nil_append])
     refine CH.mut (os := [_]) (rest := [_, _]) rfl rfl (fZ rfl rfl rfl rfl rfl ?_) ?_
     · constructor <;> (simp; omega)
     rintro _ _ ⟨u4, rfl, rfl⟩
     try simp only [St.put]
     repeat (first | rw [List.cons_append] | rw [List.nil_append])
     refine CH.nil ?_
     try simp only [List.drop_succ_cons, List.drop_zero]
     repeat
      (first
       | (apply l7; rfl; exact I1; rfl; rfl; exact hix; iterate 2 rfl)
       | (apply jG (k := k) (off := 54) (d := .tup [.arr 20 x.a, .v (.int .i64 x.n), .arr 32 x.w, .v u3, .v u2]) (d'' := .tup [.arr 20 x.a, .v (.int .i64 x.n), .arr 32 x.w, .v u3, .v u4]); rfl; exact .s .z; exact ⟨by rw [Int.toNat_natCast], hds⟩; iterate 4 rfl)
       | (apply jH; rfl; exact I.a; (focus (first | omega | (simp; done) | (simp; omega))); iterate 5 rfl) | apply EL.nil | (with_reducible apply EK.aF))
     refine EK.le (Le.pick [2, 0, 1] [_, _, _] rfl (by decide) rfl) ?_
     rw [show x.sl.map gq ++ [gq (kJ, ofW 1)] = (x.sl ++ [(kJ, ofW 1)]).map gq by rw [List.map_append]; rfl]
     refine EK.le (Le.Qu (sl := (x.sl ++ [(kJ, ofW 1)]).map gq) rfl (hset2 _) rfl (hfin _ { x with sl := x.sl ++ [(kJ, ofW 1)] })) ?_
     refine EK.meet ⟨(_, false), hapt (z := { x with sl := x.sl ++ [(kJ, ofW 1)] }) (hzok (ofW 1) OD) (by dsimp only; omega) (by simp; omega) hxn rfl (fun hq => AB hxk hq) (fun hq => .inr (.inr (.inr ⟨(kJ, ofW 1), by simp, Rj, hq⟩)))⟩ ?_
     exact Le.kp
    by_cases w4 : which = 4
    ·
     subst w4
     repeat
      (first
       | (apply au; iterate 3 rfl) | (apply aj; iterate 3 rfl) | (apply aA (b := true); (iterate 2 rfl); exact aG; iterate 2 rfl)
       | (apply aA (b := false); (iterate 2 rfl); exact aG; iterate 2 rfl) | apply EL.nil | ((with_reducible apply EK.ah); apply EK.code) | (apply EC.cond_true; rfl)
       | (apply EC.cond_false; rfl) | (with_reducible first | apply EC.seq | apply EC.region | apply EC.block))
     refine EC.le (Le.pick [1, 2, 0] [_, _, _] rfl (by decide) rfl) ?_
     refine EC.jm 12 [0, 1, 2, 3, 7, 8, 9, 10] [4, 5, 6, 11] [_, _, _] _ (by kernel_rfl) (by kernel_rfl) rfl ?_
     simp only [aQ, List.filterMap_cons, List.filterMap_nil, List.getElem?_cons_zero, List.getElem?_cons_succ]
     repeat
      (first
       | (apply bP (hN0); rfl; exact ak.refl _ _; exact enA; iterate 2 rfl)
       | (apply uX (d' := gq (kJ, zero32)); (iterate 5 rfl); (focus ((exact RL.a))); iterate 2 rfl) | (apply aU; iterate 3 rfl) | (apply iP; iterate 5 rfl)
       | (apply kP; iterate 9 rfl))
     refine EM.nil ?_
     repeat (first | rw [List.cons_append] | rw [List.nil_append])
     refine CH.cut 3 ?_
     simp only [List.take_succ_cons, List.take_zero, List.drop_succ_cons, List.drop_zero]
     repeat
      (first
       | (apply cO; rfl; exact I1; rfl; rfl; exact hix; iterate 2 rfl)
       | (apply dP (k := k) (off := 54) (d := .tup [.arr 20 x.a, .v (.int .i64 x.n), .arr 32 x.w, .v u3, .v u2]); rfl; exact I1; exact ⟨by rw [Int.toNat_natCast], hds⟩; iterate 4 rfl)
       | (apply jf; rfl; exact I.a; (focus (first | omega | (simp; done) | (simp; omega))); iterate 5 rfl))
     refine EM.nil ?_
     repeat (first | rw [List.cons_append] | rw [List.nil_append])
     refine CH.mut (os := [_]) (rest := [_, _]) rfl rfl (fZ rfl rfl rfl rfl rfl ?_) ?_
     · constructor <;> (simp; omega)
     rintro _ _ ⟨u4, rfl, rfl⟩
     try simp only [St.put]
     repeat (first | rw [List.cons_append] | rw [List.nil_append])
     refine CH.nil ?_
     try simp only [List.drop_succ_cons, List.drop_zero]
     repeat
      (first
       | (apply l7; rfl; exact I1; rfl; rfl; exact hix; iterate 2 rfl)
       | (apply jG (k := k) (off := 54) (d := .tup [.arr 20 x.a, .v (.int .i64 x.n), .arr 32 x.w, .v u3, .v u2]) (d'' := .tup [.arr 20 x.a, .v (.int .i64 x.n), .arr 32 x.w, .v u3, .v u4]); rfl; exact .s .z; exact ⟨by rw [Int.toNat_natCast], hds⟩; iterate 4 rfl)
       | (apply aj; iterate 3 rfl) | (apply jH; rfl; exact I.a; (focus (first | omega | (simp; done) | (simp; omega))); iterate 5 rfl) | apply EL.nil
       | ((with_reducible apply EK.ah); apply EK.code) | (with_reducible first | apply EC.region | apply EK.aF))
     refine EK.le (Le.pick [2, 0, 1] [_, _, _] rfl (by decide) rfl) ?_
     rw [show x.sl.map gq ++ [gq (kJ, zero32)] = (x.sl ++ [(kJ, zero32)]).map gq by rw [List.map_append]; rfl]
     refine EK.le (Le.Qu (sl := (x.sl ++ [(kJ, zero32)]).map gq) rfl (hset2 _) rfl (hfin _ { x with sl := x.sl ++ [(kJ, zero32)] })) ?_
     refine EK.meet ⟨(_, true), hapt4⟩ ?_
     exact Le.kp
    by_cases w5 : which = 5
    ·
     subst w5
     repeat
      (first
       | (apply au; iterate 3 rfl) | (apply aj; iterate 3 rfl) | (apply aA (b := true); (iterate 2 rfl); exact aG; iterate 2 rfl)
       | (apply aA (b := false); (iterate 2 rfl); exact aG; iterate 2 rfl) | apply EL.nil | ((with_reducible apply EK.ah); apply EK.code) | (apply EC.cond_true; rfl)
       | (apply EC.cond_false; rfl) | (with_reducible first | apply EC.seq | apply EC.region | apply EC.block))
     refine EC.le (Le.Wh (hds) rfl (hfin0 x)) ?_
     rw [show (l.set k x).map bM = l.map bM by rw [← hxe, List.set_getElem_self]]
     refine EC.PX 14 [0, 1, 2, 3, 4, 7] [5, 6, 8, 9, 10, 11, 12, 13] [_] _ (by kernel_rfl) (by kernel_rfl) rfl ?_
     simp only [aQ, List.filterMap_cons, List.filterMap_nil, List.getElem?_cons_zero, List.getElem?_cons_succ]
     repeat
      (first
       | (apply aU; iterate 3 rfl))
     refine EM.nil ?_
     repeat (first | rw [List.cons_append] | rw [List.nil_append])
     refine CT.pick [5, 8] (by kernel_rfl) fun k hk => ?_
     rcases (show k = 5 ∨ k = 8 by simpa using hk) with rfl | rfl
     all_goals clear hk
     ·
      skip
      simp only [aQ, List.filterMap_cons, List.filterMap_nil, List.getElem?_cons_zero, List.getElem?_cons_succ]
      refine CH.cut 1 ?_
      simp only [List.take_succ_cons, List.take_zero, List.drop_succ_cons, List.drop_zero]
      repeat
       (first
        | (apply cO; rfl; exact I0; rfl; rfl; exact hi1; iterate 2 rfl))
      refine EM.nil ?_
      repeat (first | rw [List.cons_append] | rw [List.nil_append])
      refine CH.nil ?_
      refine CT.pick [6, 8] (by kernel_rfl) fun k hk => ?_
      rcases (show k = 6 ∨ k = 8 by simpa using hk) with rfl | rfl
      all_goals clear hk
      ·
       skip
       simp only [aQ, List.filterMap_cons, List.filterMap_nil, List.getElem?_cons_zero, List.getElem?_cons_succ]
       refine CH.cut 1 ?_
       simp only [List.take_succ_cons, List.take_zero, List.drop_succ_cons, List.drop_zero]
       repeat
        (first
         | (apply dP (k := k) (off := 0) (d := bM x); rfl; exact I0; exact ⟨by simp, hd1⟩; iterate 4 rfl))
       refine EM.nil ?_
       repeat (first | rw [List.cons_append] | rw [List.nil_append])
       refine CH.nil ?_
       refine CT.pick [8] (by kernel_rfl) fun k hk => ?_
       obtain rfl : k = 8 := (by simpa using hk)
       clear hk
       simp only [aQ, List.filterMap_cons, List.filterMap_nil, List.getElem?_cons_zero, List.getElem?_cons_succ]
       refine CH.cut 1 ?_
       simp only [List.take_succ_cons, List.take_zero, List.drop_succ_cons, List.drop_zero]
       repeat
        (first
         | (apply cO; rfl; exact I0; rfl; rfl; exact hi0; iterate 2 rfl))
       refine EM.nil ?_
       repeat (first | rw [List.cons_append] | rw [List.nil_append])
       refine CH.nil ?_
       refine CT.pick [9] (by kernel_rfl) fun k hk => ?_
       obtain rfl : k = 9 := (by simpa using hk)
       clear hk
       simp only [aQ, List.filterMap_cons, List.filterMap_nil, List.getElem?_cons_zero, List.getElem?_cons_succ]
       refine CH.cut 1 ?_
       simp only [List.take_succ_cons, List.take_zero, List.drop_succ_cons, List.drop_zero]
       repeat
        (first
         | (apply dP (k := 0) (off := 0) (d := bM y); rfl; exact I0; exact ⟨rfl, hd0⟩; iterate 4 rfl))
       refine EM.nil ?_
       repeat (first | rw [List.cons_append] | rw [List.nil_append])
       refine CH.nil ?_
       refine CT.pick [10] (by kernel_rfl) fun k hk => ?_
       obtain rfl : k = 10 := (by simpa using hk)
       clear hk
       simp only [aQ, List.filterMap_cons, List.filterMap_nil, List.getElem?_cons_zero, List.getElem?_cons_succ]
       refine CH.cut 1 ?_
       simp only [List.take_succ_cons, List.take_zero, List.drop_succ_cons, List.drop_zero]
       repeat
        (first
         | (apply cO; rfl; exact I0; rfl; rfl; exact hi0; iterate 2 rfl))
       refine EM.nil ?_
       repeat (first | rw [List.cons_append] | rw [List.nil_append])
       refine CH.nil ?_
       refine CT.pick [11] (by kernel_rfl) fun k hk => ?_
       obtain rfl : k = 11 := (by simpa using hk)
       clear hk
       simp only [aQ, List.filterMap_cons, List.filterMap_nil, List.getElem?_cons_zero, List.getElem?_cons_succ]
       refine CH.mut (os := [_]) (rest := []) rfl rfl (jl (dh (k := 0) (off := 0) (d := bM y) (d'' := bM x) ⟨by rfl, hd0⟩ rfl rfl rfl rfl rfl)) ?_
       rintro _ _ ⟨rfl, rfl⟩
       try simp only [St.put]
       repeat (first | rw [List.cons_append] | rw [List.nil_append])
       refine CH.nil ?_
       refine CT.pick [12] (by kernel_rfl) fun k hk => ?_
       obtain rfl : k = 12 := (by simpa using hk)
       clear hk
       simp only [aQ, List.filterMap_cons, List.filterMap_nil, List.getElem?_cons_zero, List.getElem?_cons_succ]
       refine CH.cut 1 ?_
       simp only [List.take_succ_cons, List.take_zero, List.drop_succ_cons, List.drop_zero]
       repeat
        (first
         | (apply cO; rfl; exact I0; rfl; rfl; exact hi2; iterate 2 rfl))
       refine EM.nil ?_
       repeat (first | rw [List.cons_append] | rw [List.nil_append])
       refine CH.nil ?_
       refine CT.pick [13] (by kernel_rfl) fun k hk => ?_
       obtain rfl : k = 13 := (by simpa using hk)
       clear hk
       simp only [aQ, List.filterMap_cons, List.filterMap_nil, List.getElem?_cons_zero, List.getElem?_cons_succ]
       refine CH.mut (os := [_]) (rest := []) rfl rfl (jl (dh (k := k) (off := 0) (d := bM x) (d'' := bM y) ⟨by simp, hd5⟩ rfl rfl rfl rfl rfl)) ?_
       rintro _ _ ⟨rfl, rfl⟩
       try simp only [St.put]
       repeat (first | rw [List.cons_append] | rw [List.nil_append])
       refine CH.nil ?_
       refine CT.nil ?_
       repeat
        (first
         | (apply aj; iterate 3 rfl) | apply EL.nil | ((with_reducible apply EK.ah); apply EK.code) | (with_reducible first | apply EC.region | apply EK.aF))
       refine EK.le (Le.freeze (pre := []) rfl) ?_
       refine EK.le (Le.refine (t := 10) (d' := .sl 55 ((swp l k hk).map bM)) rfl (Rf.fact (by rw [← hswp]; exact List.mem_cons_self) rfl)) ?_
       refine EK.meet ⟨(_, true), hapt5⟩ ?_
       exact Le.kp
      ·
       skip
       simp only [aQ, List.filterMap_cons, List.filterMap_nil, List.getElem?_cons_zero, List.getElem?_cons_succ]
       refine CH.cut 1 ?_
       simp only [List.take_succ_cons, List.take_zero, List.drop_succ_cons, List.drop_zero]
       repeat
        (first
         | (apply cO; rfl; exact I0; rfl; rfl; exact hi0; iterate 2 rfl))
       refine EM.nil ?_
       repeat (first | rw [List.cons_append] | rw [List.nil_append])
       refine CH.nil ?_
       refine CT.pick [6, 9] (by kernel_rfl) fun k hk => ?_
       rcases (show k = 6 ∨ k = 9 by simpa using hk) with rfl | rfl
       all_goals clear hk
       ·
        skip
        simp only [aQ, List.filterMap_cons, List.filterMap_nil, List.getElem?_cons_zero, List.getElem?_cons_succ]
        refine CH.cut 1 ?_
        simp only [List.take_succ_cons, List.take_zero, List.drop_succ_cons, List.drop_zero]
        repeat
         (first
          | (apply dP (k := k) (off := 0) (d := bM x); rfl; exact I0; exact ⟨by simp, hd1⟩; iterate 4 rfl))
        refine EM.nil ?_
        repeat (first | rw [List.cons_append] | rw [List.nil_append])
        refine CH.nil ?_
        refine CT.pick [9] (by kernel_rfl) fun k hk => ?_
        obtain rfl : k = 9 := (by simpa using hk)
        clear hk
        simp only [aQ, List.filterMap_cons, List.filterMap_nil, List.getElem?_cons_zero, List.getElem?_cons_succ]
        refine CH.cut 1 ?_
        simp only [List.take_succ_cons, List.take_zero, List.drop_succ_cons, List.drop_zero]
        repeat
         (first
          | (apply dP (k := 0) (off := 0) (d := bM y); rfl; exact I0; exact ⟨rfl, hd0⟩; iterate 4 rfl))
        refine EM.nil ?_
        repeat (first | rw [List.cons_append] | rw [List.nil_append])
        refine CH.nil ?_
        refine CT.pick [10] (by kernel_rfl) fun k hk => ?_
        obtain rfl : k = 10 := (by simpa using hk)
        clear hk
        simp only [aQ, List.filterMap_cons, List.filterMap_nil, List.getElem?_cons_zero, List.getElem?_cons_succ]
        refine CH.cut 1 ?_
        simp only [List.take_succ_cons, List.take_zero, List.drop_succ_cons, List.drop_zero]
        repeat
         (first
          | (apply cO; rfl; exact I0; rfl; rfl; exact hi0; iterate 2 rfl))
        refine EM.nil ?_
        repeat (first | rw [List.cons_append] | rw [List.nil_append])
        refine CH.nil ?_
        refine CT.pick [11] (by kernel_rfl) fun k hk => ?_
        obtain rfl : k = 11 := (by simpa using hk)
        clear hk
        simp only [aQ, List.filterMap_cons, List.filterMap_nil, List.getElem?_cons_zero, List.getElem?_cons_succ]
        refine CH.mut (os := [_]) (rest := []) rfl rfl (jl (dh (k := 0) (off := 0) (d := bM y) (d'' := bM x) ⟨by rfl, hd0⟩ rfl rfl rfl rfl rfl)) ?_
        rintro _ _ ⟨rfl, rfl⟩
        try simp only [St.put]
        repeat (first | rw [List.cons_append] | rw [List.nil_append])
        refine CH.nil ?_
        refine CT.pick [12] (by kernel_rfl) fun k hk => ?_
        obtain rfl : k = 12 := (by simpa using hk)
        clear hk
        simp only [aQ, List.filterMap_cons, List.filterMap_nil, List.getElem?_cons_zero, List.getElem?_cons_succ]
        refine CH.cut 1 ?_
        simp only [List.take_succ_cons, List.take_zero, List.drop_succ_cons, List.drop_zero]
        repeat
         (first
          | (apply cO; rfl; exact I0; rfl; rfl; exact hi2; iterate 2 rfl))
        refine EM.nil ?_
        repeat (first | rw [List.cons_append] | rw [List.nil_append])
        refine CH.nil ?_
        refine CT.pick [13] (by kernel_rfl) fun k hk => ?_
        obtain rfl : k = 13 := (by simpa using hk)
        clear hk
        simp only [aQ, List.filterMap_cons, List.filterMap_nil, List.getElem?_cons_zero, List.getElem?_cons_succ]
        refine CH.mut (os := [_]) (rest := []) rfl rfl (jl (dh (k := k) (off := 0) (d := bM x) (d'' := bM y) ⟨by simp, hd5⟩ rfl rfl rfl rfl rfl)) ?_
        rintro _ _ ⟨rfl, rfl⟩
        try simp only [St.put]
        repeat (first | rw [List.cons_append] | rw [List.nil_append])
        refine CH.nil ?_
        refine CT.nil ?_
        repeat
         (first
          | (apply aj; iterate 3 rfl) | apply EL.nil | ((with_reducible apply EK.ah); apply EK.code) | (with_reducible first | apply EC.region | apply EK.aF))
        refine EK.le (Le.freeze (pre := []) rfl) ?_
        refine EK.le (Le.refine (t := 10) (d' := .sl 55 ((swp l k hk).map bM)) rfl (Rf.fact (by rw [← hswp]; exact List.mem_cons_self) rfl)) ?_
        refine EK.meet ⟨(_, true), hapt5⟩ ?_
        exact Le.kp
       ·
        skip
        simp only [aQ, List.filterMap_cons, List.filterMap_nil, List.getElem?_cons_zero, List.getElem?_cons_succ]
        refine CH.cut 1 ?_
        simp only [List.take_succ_cons, List.take_zero, List.drop_succ_cons, List.drop_zero]
        repeat
         (first
          | (apply dP (k := 0) (off := 0) (d := bM y); rfl; exact I0; exact ⟨rfl, hd0⟩; iterate 4 rfl))
        refine EM.nil ?_
        repeat (first | rw [List.cons_append] | rw [List.nil_append])
        refine CH.nil ?_
        refine CT.pick [6] (by kernel_rfl) fun k hk => ?_
        obtain rfl : k = 6 := (by simpa using hk)
        clear hk
        simp only [aQ, List.filterMap_cons, List.filterMap_nil, List.getElem?_cons_zero, List.getElem?_cons_succ]
        refine CH.cut 1 ?_
        simp only [List.take_succ_cons, List.take_zero, List.drop_succ_cons, List.drop_zero]
        repeat
         (first
          | (apply dP (k := k) (off := 0) (d := bM x); rfl; exact I0; exact ⟨by simp, hd1⟩; iterate 4 rfl))
        refine EM.nil ?_
        repeat (first | rw [List.cons_append] | rw [List.nil_append])
        refine CH.nil ?_
        refine CT.pick [10] (by kernel_rfl) fun k hk => ?_
        obtain rfl : k = 10 := (by simpa using hk)
        clear hk
        simp only [aQ, List.filterMap_cons, List.filterMap_nil, List.getElem?_cons_zero, List.getElem?_cons_succ]
        refine CH.cut 1 ?_
        simp only [List.take_succ_cons, List.take_zero, List.drop_succ_cons, List.drop_zero]
        repeat
         (first
          | (apply cO; rfl; exact I0; rfl; rfl; exact hi0; iterate 2 rfl))
        refine EM.nil ?_
        repeat (first | rw [List.cons_append] | rw [List.nil_append])
        refine CH.nil ?_
        refine CT.pick [11] (by kernel_rfl) fun k hk => ?_
        obtain rfl : k = 11 := (by simpa using hk)
        clear hk
        simp only [aQ, List.filterMap_cons, List.filterMap_nil, List.getElem?_cons_zero, List.getElem?_cons_succ]
        refine CH.mut (os := [_]) (rest := []) rfl rfl (jl (dh (k := 0) (off := 0) (d := bM y) (d'' := bM x) ⟨by rfl, hd0⟩ rfl rfl rfl rfl rfl)) ?_
        rintro _ _ ⟨rfl, rfl⟩
        try simp only [St.put]
        repeat (first | rw [List.cons_append] | rw [List.nil_append])
        refine CH.nil ?_
        refine CT.pick [12] (by kernel_rfl) fun k hk => ?_
        obtain rfl : k = 12 := (by simpa using hk)
        clear hk
        simp only [aQ, List.filterMap_cons, List.filterMap_nil, List.getElem?_cons_zero, List.getElem?_cons_succ]
        refine CH.cut 1 ?_
        simp only [List.take_succ_cons, List.take_zero, List.drop_succ_cons, List.drop_zero]
        repeat
         (first
          | (apply cO; rfl; exact I0; rfl; rfl; exact hi2; iterate 2 rfl))
        refine EM.nil ?_
        repeat (first | rw [List.cons_append] | rw [List.nil_append])
        refine CH.nil ?_
        refine CT.pick [13] (by kernel_rfl) fun k hk => ?_
        obtain rfl : k = 13 := (by simpa using hk)
        clear hk
        simp only [aQ, List.filterMap_cons, List.filterMap_nil, List.getElem?_cons_zero, List.getElem?_cons_succ]
        refine CH.mut (os := [_]) (rest := []) rfl rfl (jl (dh (k := k) (off := 0) (d := bM x) (d'' := bM y) ⟨by simp, hd5⟩ rfl rfl rfl rfl rfl)) ?_
        rintro _ _ ⟨rfl, rfl⟩
        try simp only [St.put]
        repeat (first | rw [List.cons_append] | rw [List.nil_append])
        refine CH.nil ?_
        refine CT.nil ?_
        repeat
         (first
          | (apply aj; iterate 3 rfl) | apply EL.nil | ((with_reducible apply EK.ah); apply EK.code) | (with_reducible first | apply EC.region | apply EK.aF))
        refine EK.le (Le.freeze (pre := []) rfl) ?_
        refine EK.le (Le.refine (t := 10) (d' := .sl 55 ((swp l k hk).map bM)) rfl (Rf.fact (by rw [← hswp]; exact List.mem_cons_self) rfl)) ?_
        refine EK.meet ⟨(_, true), hapt5⟩ ?_
        exact Le.kp
     ·
      skip
      simp only [aQ, List.filterMap_cons, List.filterMap_nil, List.getElem?_cons_zero, List.getElem?_cons_succ]
      refine CH.cut 1 ?_
      simp only [List.take_succ_cons, List.take_zero, List.drop_succ_cons, List.drop_zero]
      repeat
       (first
        | (apply cO; rfl; exact I0; rfl; rfl; exact hi0; iterate 2 rfl))
      refine EM.nil ?_
      repeat (first | rw [List.cons_append] | rw [List.nil_append])
      refine CH.nil ?_
      refine CT.pick [5, 9] (by kernel_rfl) fun k hk => ?_
      rcases (show k = 5 ∨ k = 9 by simpa using hk) with rfl | rfl
      all_goals clear hk
      ·
       skip
       simp only [aQ, List.filterMap_cons, List.filterMap_nil, List.getElem?_cons_zero, List.getElem?_cons_succ]
       refine CH.cut 1 ?_
       simp only [List.take_succ_cons, List.take_zero, List.drop_succ_cons, List.drop_zero]
       repeat
        (first
         | (apply cO; rfl; exact I0; rfl; rfl; exact hi1; iterate 2 rfl))
       refine EM.nil ?_
       repeat (first | rw [List.cons_append] | rw [List.nil_append])
       refine CH.nil ?_
       refine CT.pick [6, 9] (by kernel_rfl) fun k hk => ?_
       rcases (show k = 6 ∨ k = 9 by simpa using hk) with rfl | rfl
       all_goals clear hk
       ·
        skip
        simp only [aQ, List.filterMap_cons, List.filterMap_nil, List.getElem?_cons_zero, List.getElem?_cons_succ]
        refine CH.cut 1 ?_
        simp only [List.take_succ_cons, List.take_zero, List.drop_succ_cons, List.drop_zero]
        repeat
         (first
          | (apply dP (k := k) (off := 0) (d := bM x); rfl; exact I0; exact ⟨by simp, hd1⟩; iterate 4 rfl))
        refine EM.nil ?_
        repeat (first | rw [List.cons_append] | rw [List.nil_append])
        refine CH.nil ?_
        refine CT.pick [9] (by kernel_rfl) fun k hk => ?_
        obtain rfl : k = 9 := (by simpa using hk)
        clear hk
        simp only [aQ, List.filterMap_cons, List.filterMap_nil, List.getElem?_cons_zero, List.getElem?_cons_succ]
        refine CH.cut 1 ?_
        simp only [List.take_succ_cons, List.take_zero, List.drop_succ_cons, List.drop_zero]
        repeat
         (first
          | (apply dP (k := 0) (off := 0) (d := bM y); rfl; exact I0; exact ⟨rfl, hd0⟩; iterate 4 rfl))
        refine EM.nil ?_
        repeat (first | rw [List.cons_append] | rw [List.nil_append])
        refine CH.nil ?_
        refine CT.pick [10] (by kernel_rfl) fun k hk => ?_
        obtain rfl : k = 10 := (by simpa using hk)
        clear hk
        simp only [aQ, List.filterMap_cons, List.filterMap_nil, List.getElem?_cons_zero, List.getElem?_cons_succ]
        refine CH.cut 1 ?_
        simp only [List.take_succ_cons, List.take_zero, List.drop_succ_cons, List.drop_zero]
        repeat
         (first
          | (apply cO; rfl; exact I0; rfl; rfl; exact hi0; iterate 2 rfl))
        refine EM.nil ?_
        repeat (first | rw [List.cons_append] | rw [List.nil_append])
        refine CH.nil ?_
        refine CT.pick [11] (by kernel_rfl) fun k hk => ?_
        obtain rfl : k = 11 := (by simpa using hk)
        clear hk
        simp only [aQ, List.filterMap_cons, List.filterMap_nil, List.getElem?_cons_zero, List.getElem?_cons_succ]
        refine CH.mut (os := [_]) (rest := []) rfl rfl (jl (dh (k := 0) (off := 0) (d := bM y) (d'' := bM x) ⟨by rfl, hd0⟩ rfl rfl rfl rfl rfl)) ?_
        rintro _ _ ⟨rfl, rfl⟩
        try simp only [St.put]
        repeat (first | rw [List.cons_append] | rw [List.nil_append])
        refine CH.nil ?_
        refine CT.pick [12] (by kernel_rfl) fun k hk => ?_
        obtain rfl : k = 12 := (by simpa using hk)
        clear hk
        simp only [aQ, List.filterMap_cons, List.filterMap_nil, List.getElem?_cons_zero, List.getElem?_cons_succ]
        refine CH.cut 1 ?_
        simp only [List.take_succ_cons, List.take_zero, List.drop_succ_cons, List.drop_zero]
        repeat
         (first
          | (apply cO; rfl; exact I0; rfl; rfl; exact hi2; iterate 2 rfl))
        refine EM.nil ?_
        repeat (first | rw [List.cons_append] | rw [List.nil_append])
        refine CH.nil ?_
        refine CT.pick [13] (by kernel_rfl) fun k hk => ?_
        obtain rfl : k = 13 := (by simpa using hk)
        clear hk
        simp only [aQ, List.filterMap_cons, List.filterMap_nil, List.getElem?_cons_zero, List.getElem?_cons_succ]
        refine CH.mut (os := [_]) (rest := []) rfl rfl (jl (dh (k := k) (off := 0) (d := bM x) (d'' := bM y) ⟨by simp, hd5⟩ rfl rfl rfl rfl rfl)) ?_
        rintro _ _ ⟨rfl, rfl⟩
        try simp only [St.put]
        repeat (first | rw [List.cons_append] | rw [List.nil_append])
        refine CH.nil ?_
        refine CT.nil ?_
        repeat
         (first
          | (apply aj; iterate 3 rfl) | apply EL.nil | ((with_reducible apply EK.ah); apply EK.code) | (with_reducible first | apply EC.region | apply EK.aF))
        refine EK.le (Le.freeze (pre := []) rfl) ?_
        refine EK.le (Le.refine (t := 10) (d' := .sl 55 ((swp l k hk).map bM)) rfl (Rf.fact (by rw [← hswp]; exact List.mem_cons_self) rfl)) ?_
        refine EK.meet ⟨(_, true), hapt5⟩ ?_
        exact Le.kp
       ·
        skip
        simp only [aQ, List.filterMap_cons, List.filterMap_nil, List.getElem?_cons_zero, List.getElem?_cons_succ]
        refine CH.cut 1 ?_
        simp only [List.take_succ_cons, List.take_zero, List.drop_succ_cons, List.drop_zero]
        repeat
         (first
          | (apply dP (k := 0) (off := 0) (d := bM y); rfl; exact I0; exact ⟨rfl, hd0⟩; iterate 4 rfl))
        refine EM.nil ?_
        repeat (first | rw [List.cons_append] | rw [List.nil_append])
        refine CH.nil ?_
        refine CT.pick [6] (by kernel_rfl) fun k hk => ?_
        obtain rfl : k = 6 := (by simpa using hk)
        clear hk
        simp only [aQ, List.filterMap_cons, List.filterMap_nil, List.getElem?_cons_zero, List.getElem?_cons_succ]
        refine CH.cut 1 ?_
        simp only [List.take_succ_cons, List.take_zero, List.drop_succ_cons, List.drop_zero]
        repeat
         (first
          | (apply dP (k := k) (off := 0) (d := bM x); rfl; exact I0; exact ⟨by simp, hd1⟩; iterate 4 rfl))
        refine EM.nil ?_
        repeat (first | rw [List.cons_append] | rw [List.nil_append])
        refine CH.nil ?_
        refine CT.pick [10] (by kernel_rfl) fun k hk => ?_
        obtain rfl : k = 10 := (by simpa using hk)
        clear hk
        simp only [aQ, List.filterMap_cons, List.filterMap_nil, List.getElem?_cons_zero, List.getElem?_cons_succ]
        refine CH.cut 1 ?_
        simp only [List.take_succ_cons, List.take_zero, List.drop_succ_cons, List.drop_zero]
        repeat
         (first
          | (apply cO; rfl; exact I0; rfl; rfl; exact hi0; iterate 2 rfl))
        refine EM.nil ?_
        repeat (first | rw [List.cons_append] | rw [List.nil_append])
        refine CH.nil ?_
        refine CT.pick [11] (by kernel_rfl) fun k hk => ?_
        obtain rfl : k = 11 := (by simpa using hk)
        clear hk
        simp only [aQ, List.filterMap_cons, List.filterMap_nil, List.getElem?_cons_zero, List.getElem?_cons_succ]
        refine CH.mut (os := [_]) (rest := []) rfl rfl (jl (dh (k := 0) (off := 0) (d := bM y) (d'' := bM x) ⟨by rfl, hd0⟩ rfl rfl rfl rfl rfl)) ?_
        rintro _ _ ⟨rfl, rfl⟩
        try simp only [St.put]
        repeat (first | rw [List.cons_append] | rw [List.nil_append])
        refine CH.nil ?_
        refine CT.pick [12] (by kernel_rfl) fun k hk => ?_
        obtain rfl : k = 12 := (by simpa using hk)
        clear hk
        simp only [aQ, List.filterMap_cons, List.filterMap_nil, List.getElem?_cons_zero, List.getElem?_cons_succ]
        refine CH.cut 1 ?_
        simp only [List.take_succ_cons, List.take_zero, List.drop_succ_cons, List.drop_zero]
        repeat
         (first
          | (apply cO; rfl; exact I0; rfl; rfl; exact hi2; iterate 2 rfl))
        refine EM.nil ?_
        repeat (first | rw [List.cons_append] | rw [List.nil_append])
        refine CH.nil ?_
        refine CT.pick [13] (by kernel_rfl) fun k hk => ?_
        obtain rfl : k = 13 := (by simpa using hk)
        clear hk
        simp only [aQ, List.filterMap_cons, List.filterMap_nil, List.getElem?_cons_zero, List.getElem?_cons_succ]
        refine CH.mut (os := [_]) (rest := []) rfl rfl (jl (dh (k := k) (off := 0) (d := bM x) (d'' := bM y) ⟨by simp, hd5⟩ rfl rfl rfl rfl rfl)) ?_
        rintro _ _ ⟨rfl, rfl⟩
        try simp only [St.put]
        repeat (first | rw [List.cons_append] | rw [List.nil_append])
        refine CH.nil ?_
        refine CT.nil ?_
        repeat
         (first
          | (apply aj; iterate 3 rfl) | apply EL.nil | ((with_reducible apply EK.ah); apply EK.code) | (with_reducible first | apply EC.region | apply EK.aF))
        refine EK.le (Le.freeze (pre := []) rfl) ?_
        refine EK.le (Le.refine (t := 10) (d' := .sl 55 ((swp l k hk).map bM)) rfl (Rf.fact (by rw [← hswp]; exact List.mem_cons_self) rfl)) ?_
        refine EK.meet ⟨(_, true), hapt5⟩ ?_
        exact Le.kp
      ·
       skip
       simp only [aQ, List.filterMap_cons, List.filterMap_nil, List.getElem?_cons_zero, List.getElem?_cons_succ]
       refine CH.cut 1 ?_
       simp only [List.take_succ_cons, List.take_zero, List.drop_succ_cons, List.drop_zero]
       repeat
        (first
         | (apply dP (k := 0) (off := 0) (d := bM y); rfl; exact I0; exact ⟨rfl, hd0⟩; iterate 4 rfl))
       refine EM.nil ?_
       repeat (first | rw [List.cons_append] | rw [List.nil_append])
       refine CH.nil ?_
       refine CT.pick [5] (by kernel_rfl) fun k hk => ?_
       obtain rfl : k = 5 := (by simpa using hk)
       clear hk
       simp only [aQ, List.filterMap_cons, List.filterMap_nil, List.getElem?_cons_zero, List.getElem?_cons_succ]
       refine CH.cut 1 ?_
       simp only [List.take_succ_cons, List.take_zero, List.drop_succ_cons, List.drop_zero]
       repeat
        (first
         | (apply cO; rfl; exact I0; rfl; rfl; exact hi1; iterate 2 rfl))
       refine EM.nil ?_
       repeat (first | rw [List.cons_append] | rw [List.nil_append])
       refine CH.nil ?_
       refine CT.pick [6] (by kernel_rfl) fun k hk => ?_
       obtain rfl : k = 6 := (by simpa using hk)
       clear hk
       simp only [aQ, List.filterMap_cons, List.filterMap_nil, List.getElem?_cons_zero, List.getElem?_cons_succ]
       refine CH.cut 1 ?_
       simp only [List.take_succ_cons, List.take_zero, List.drop_succ_cons, List.drop_zero]
       repeat
        (first
         | (apply dP (k := k) (off := 0) (d := bM x); rfl; exact I0; exact ⟨by simp, hd1⟩; iterate 4 rfl))
       refine EM.nil ?_
       repeat (first | rw [List.cons_append] | rw [List.nil_append])
       refine CH.nil ?_
       refine CT.pick [10] (by kernel_rfl) fun k hk => ?_
       obtain rfl : k = 10 := (by simpa using hk)
       clear hk
       simp only [aQ, List.filterMap_cons, List.filterMap_nil, List.getElem?_cons_zero, List.getElem?_cons_succ]
       refine CH.cut 1 ?_
       simp only [List.take_succ_cons, List.take_zero, List.drop_succ_cons, List.drop_zero]
       repeat
        (first
         | (apply cO; rfl; exact I0; rfl; rfl; exact hi0; iterate 2 rfl))
       refine EM.nil ?_
       repeat (first | rw [List.cons_append] | rw [List.nil_append])
       refine CH.nil ?_
       refine CT.pick [11] (by kernel_rfl) fun k hk => ?_
       obtain rfl : k = 11 := (by simpa using hk)
       clear hk
       simp only [aQ, List.filterMap_cons, List.filterMap_nil, List.getElem?_cons_zero, List.getElem?_cons_succ]
       refine CH.mut (os := [_]) (rest := []) rfl rfl (jl (dh (k := 0) (off := 0) (d := bM y) (d'' := bM x) ⟨by rfl, hd0⟩ rfl rfl rfl rfl rfl)) ?_
       rintro _ _ ⟨rfl, rfl⟩
       try simp only [St.put]
       repeat (first | rw [List.cons_append] | rw [List.nil_append])
       refine CH.nil ?_
       refine CT.pick [12] (by kernel_rfl) fun k hk => ?_
       obtain rfl : k = 12 := (by simpa using hk)
       clear hk
       simp only [aQ, List.filterMap_cons, List.filterMap_nil, List.getElem?_cons_zero, List.getElem?_cons_succ]
       refine CH.cut 1 ?_
       simp only [List.take_succ_cons, List.take_zero, List.drop_succ_cons, List.drop_zero]
       repeat
        (first
         | (apply cO; rfl; exact I0; rfl; rfl; exact hi2; iterate 2 rfl))
       refine EM.nil ?_
       repeat (first | rw [List.cons_append] | rw [List.nil_append])
       refine CH.nil ?_
       refine CT.pick [13] (by kernel_rfl) fun k hk => ?_
       obtain rfl : k = 13 := (by simpa using hk)
       clear hk
       simp only [aQ, List.filterMap_cons, List.filterMap_nil, List.getElem?_cons_zero, List.getElem?_cons_succ]
       refine CH.mut (os := [_]) (rest := []) rfl rfl (jl (dh (k := k) (off := 0) (d := bM x) (d'' := bM y) ⟨by simp, hd5⟩ rfl rfl rfl rfl rfl)) ?_
       rintro _ _ ⟨rfl, rfl⟩
       try simp only [St.put]
       repeat (first | rw [List.cons_append] | rw [List.nil_append])
       refine CH.nil ?_
       refine CT.nil ?_
       repeat
        (first
         | (apply aj; iterate 3 rfl) | apply EL.nil | ((with_reducible apply EK.ah); apply EK.code) | (with_reducible first | apply EC.region | apply EK.aF))
       refine EK.le (Le.freeze (pre := []) rfl) ?_
       refine EK.le (Le.refine (t := 10) (d' := .sl 55 ((swp l k hk).map bM)) rfl (Rf.fact (by rw [← hswp]; exact List.mem_cons_self) rfl)) ?_
       refine EK.meet ⟨(_, true), hapt5⟩ ?_
       exact Le.kp
    ·
     skip
     repeat
      (first
       | (apply au; iterate 3 rfl) | (apply aj; iterate 3 rfl) | (apply aA (b := false); (iterate 2 rfl); exact aG; iterate 2 rfl) | apply EL.nil
       | ((with_reducible apply EK.ah); apply EK.code) | (apply EC.cond_false; rfl)
       | (with_reducible first | apply EC.seq | apply EC.region | apply EC.block | apply EC.ret | apply EK.dS | apply EK.aI))
     exact EK.fM [] rfl rfl (List.nil_sublist _) ⟨rfl, rfl⟩
   rintro ⟨⟨m, same⟩, hA⟩
   dsimp only at hA ⊢
   obtain ⟨hA1, hA2, hA3, hA4⟩ := hA
   rw [hxe] at hA4
   have hN := PU
   repeat
    (first
     | (apply aj; iterate 3 rfl) | apply EL.nil | ((with_reducible apply EK.ah); apply EK.code) | (with_reducible first | apply EC.seq | apply EC.region | apply EC.block))
   refine EC.loop (ι := {i : Nat // i ≤ x.sl.length ∧ ∀ s ∈ x.sl.take i, s.1 ≠ kJ})
    (fun i => ⟨[(12, .val (.v (.int .i64 (i.1 : Int)))), (9, .val (.v (.int .i64 (k : Int)))), (11, .val (.v (.bool same))), (10, .val (.sl 55 (m.map bM))), (0, .val (.sl 55 (l.map bM)))], [], []⟩)
    (fun i => x.sl.length - i.1) ⟨0, Nat.zero_le _, fun s hs => by simp at hs⟩ ?_ ?_
   · exact Le.kp
   rintro ⟨i, hi, hne⟩
   dsimp only at hi hne ⊢
   by_cases hil : i < x.sl.length
   ·
    have hdi : (x.sl.map gq)[i]? = some (.tup [.arr 32 x.sl[i].1, .arr 32 x.sl[i].2]) := by rw [List.getElem?_map, List.getElem?_eq_getElem hil]; rfl
    have hw := (jd x.sl[i].1 kJ).1
    cases hq : (x.sl[i].1 == kJ) with
    | true =>
     rw [hq] at hw
     repeat
      (first
       | (apply au; iterate 3 rfl) | (apply aP; iterate 7 rfl) | (apply aK; iterate 5 rfl)
       | (apply aA (b := true); (iterate 2 rfl); exact aG; iterate 2 rfl) | (apply aB; iterate 4 rfl)
       | (apply aX; (iterate 4 rfl); (focus (first | exact ⟨by decide, rfl⟩ | (refine ⟨by omega, ?_⟩; rw [Int.toNat_natCast]; assumption))); iterate 2 rfl) | apply EL.nil
       | ((with_reducible apply EK.ah); apply EK.code) | (apply EC.cond_true; rfl) | (with_reducible first | apply EC.seq | apply EC.region | apply EC.skip | apply EC.block))
     refine EC.draw 12 (by kernel_rfl) ?_
     simp only [List.take_succ_cons, List.take_zero, List.drop_succ_cons, List.drop_zero]
     repeat
      (first
       | (apply bP (hN); rfl; exact ak.refl _ _; exact enA; iterate 2 rfl) | (apply fK; (iterate 2 rfl); exact hw; iterate 2 rfl) | (apply aU; iterate 3 rfl)
       | (apply aW; iterate 7 rfl) | (apply bG; iterate 5 rfl)
       | (apply bD; (iterate 4 rfl); (focus (first | exact ⟨by decide, rfl⟩ | (refine ⟨by omega, ?_⟩; rw [Int.toNat_natCast]; assumption))); iterate 2 rfl)
       | (apply iP; iterate 5 rfl) | ((with_reducible apply EH.nil); rfl))
     repeat
      (first
       | (apply aj; iterate 3 rfl) | apply EL.nil | ((with_reducible apply EK.ah); apply EK.code) | (apply EC.cond_true; rfl)
       | (with_reducible first | apply EC.seq | apply EC.region | apply EC.ret | apply EK.dS | apply EK.aI))
     exact EK.fM [] rfl rfl (List.nil_sublist _) ⟨rfl, rfl⟩
    | false =>
     rw [hq] at hw
     have hne2 : ∀ s ∈ x.sl.take (i + 1), s.1 ≠ kJ := fun s hs => by
      rw [List.take_succ_eq_append_getElem hil] at hs
      rcases List.mem_append.1 hs with hs | hs
      · exact hne s hs
      ·
       rw [List.mem_singleton.1 hs]
       simpa using hq
     repeat
      (first
       | (apply au; iterate 3 rfl) | (apply aP; iterate 7 rfl) | (apply aK; iterate 5 rfl)
       | (apply aA (b := true); (iterate 2 rfl); exact aG; iterate 2 rfl) | (apply aB; iterate 4 rfl)
       | (apply aX; (iterate 4 rfl); (focus (first | exact ⟨by decide, rfl⟩ | (refine ⟨by omega, ?_⟩; rw [Int.toNat_natCast]; assumption))); iterate 2 rfl) | apply EL.nil
       | ((with_reducible apply EK.ah); apply EK.code) | (apply EC.cond_true; rfl) | (with_reducible first | apply EC.seq | apply EC.region | apply EC.skip | apply EC.block))
     refine EC.draw 12 (by kernel_rfl) ?_
     simp only [List.take_succ_cons, List.take_zero, List.drop_succ_cons, List.drop_zero]
     repeat
      (first
       | (apply bP (hN); rfl; exact ak.refl _ _; exact enA; iterate 2 rfl) | (apply fK; (iterate 2 rfl); exact hw; iterate 2 rfl) | (apply aU; iterate 3 rfl)
       | (apply aW; iterate 7 rfl) | (apply bG; iterate 5 rfl)
       | (apply bD; (iterate 4 rfl); (focus (first | exact ⟨by decide, rfl⟩ | (refine ⟨by omega, ?_⟩; rw [Int.toNat_natCast]; assumption))); iterate 2 rfl)
       | (apply iP; iterate 5 rfl) | ((with_reducible apply EH.nil); rfl))
     repeat
      (first
       | (apply au; iterate 3 rfl) | (apply aj; iterate 3 rfl) | (apply eU; (iterate 3 rfl); (focus omega); (focus omega); iterate 2 rfl) | apply EL.nil
       | ((with_reducible apply EK.ah); apply EK.code) | (apply EC.cond_false; rfl) | (with_reducible first | apply EC.region | apply EC.skip | apply EK.aF))
     refine EK.again ⟨i + 1, hil, hne2⟩ (by dsimp only; omega) ?_
     simp only [Int.natCast_add]
     exact Le.kp
   ·
    have hie : i = x.sl.length := by omega
    rw [show x.sl.take i = x.sl by rw [hie, List.take_length]] at hne
    have hsx : ∀ x ∈ l, x.cd.length ≤ 1099511627776 ∧ x.sl.length ≤ 1000 := fun x hx => by have := hsm x hx; omega
    repeat
     (first
      | (apply jD; rfl; rfl; rfl; intro gs) | (apply au; iterate 3 rfl) | (apply aj; iterate 3 rfl) | (apply aP; iterate 7 rfl)
      | (apply aK; iterate 5 rfl) | (apply aA (b := false); (iterate 2 rfl); exact aG; iterate 2 rfl) | (apply aB; iterate 4 rfl)
      | (apply aX; (iterate 4 rfl); (focus (first | exact ⟨by decide, rfl⟩ | (refine ⟨by omega, ?_⟩; rw [Int.toNat_natCast]; assumption))); iterate 2 rfl)
      | (apply fE; iterate 7 rfl) | apply EL.nil | ((with_reducible apply EK.ah); apply EK.code) | (apply EC.cond_false; rfl)
      | (with_reducible first | apply EC.seq | apply EC.region | apply EC.exit | apply EK.aZ | apply EK.aH))
    refine EL.le (Le.row 56 33) ?_
    refine EL.le (Le.pick [1, 0] [_, _] rfl (by decide) rfl) ?_
    refine fH (wJ gs _ [] l .nil (by simp) (by omega) hok hsx) [] [] rfl rfl (ak.refl _ _) (by intro _ _; simp [go_sem]) rfl rfl ?_
    rintro _ _ ⟨b, v1, S1, hsn, rfl, rfl⟩
    simp only [List.cons_append, List.nil_append]
    have hl1 := hsn.2.1
    cases b with
    | false =>
     repeat
      (first
       | (apply fP; iterate 2 rfl) | (apply au; iterate 3 rfl) | (apply aj; iterate 3 rfl) | (apply bV; iterate 4 rfl) | (apply jW; iterate 3 rfl)
       | apply EL.nil | ((with_reducible apply EK.ah); apply EK.code) | (apply EC.cond_true; rfl) | (with_reducible first | apply EC.seq | apply EC.region | apply EC.ret | apply EK.aI))
     exact EK.fM [] rfl rfl (List.nil_sublist _) ⟨rfl, rfl⟩
    | true =>
     repeat
      (first
       | (apply au; iterate 3 rfl))
     refine fH (wJ gs v1 S1 m hsn.1 (by simp at hl1; omega) (by omega) hA2 hA3) [] [] rfl rfl (ak.refl _ _) (by intro _ _; simp [go_sem]) rfl rfl ?_
     rintro _ _ ⟨b, v2, S2, hsn2, rfl, rfl⟩
     simp only [List.cons_append, List.nil_append]
     cases b with
     | false =>
      repeat
       (first
        | (apply au; iterate 3 rfl) | (apply aj; iterate 3 rfl) | (apply bV; iterate 4 rfl) | (apply jW; iterate 3 rfl) | apply EL.nil
        | ((with_reducible apply EK.ah); apply EK.code) | (apply EC.cond_true; rfl) | (with_reducible first | apply EC.seq | apply EC.region | apply EC.ret | apply EK.aI))
      exact EK.fM [] rfl rfl (List.nil_sublist _) ⟨rfl, rfl⟩
     | true =>
      obtain ⟨e1, e2, e3⟩ := hA4 hne S2 hsn2.1 (fun u hu => hsn2.2.2.1 _ (hsn.2.2.2 rfl u hu)) (hsn2.2.2.2 rfl)
      have r1 := zA l hok (by omega)
      have r2 := zA m hA2 (by omega)
      have n1 := PI ((0 : Nat) : Int)
      have w1 := (jd (jB l) (jB m)).1
      have b1 := (Qh same same).1
      rw [beq_self_eq_true] at b1
      rw [e1] at r1
      rw [e2] at r2
      rw [e3] at w1
      generalize jB l = ra at r1 w1
      generalize jB m = rm at r2 w1
      repeat
       (first
        | (apply aJ (r1); rfl; exact ak.refl _ _; exact enA; iterate 2 rfl) | (apply aJ (r2); rfl; exact ak.refl _ _; exact enA; iterate 2 rfl)
        | (apply aJ (n1); rfl; exact ak.refl _ _; exact enA; iterate 2 rfl) | (apply iU; (iterate 2 rfl); exact w1; iterate 2 rfl)
        | (apply iU; (iterate 2 rfl); exact b1; iterate 2 rfl) | (apply au; iterate 3 rfl) | (apply aj; iterate 3 rfl) | (apply aS; iterate 4 rfl)
        | (apply bV; iterate 4 rfl) | (apply jW; iterate 3 rfl) | (apply dA; rfl; exact I.a; iterate 4 rfl)
        | (apply aA (b := true); (iterate 2 rfl); exact aG; iterate 2 rfl) | (apply eU; (iterate 3 rfl); (focus omega); (focus omega); iterate 2 rfl)
        | (apply aV; rfl; rfl; rfl; intro _) | (apply aO; rfl; (focus (repeat first | exact .z | apply aY.s | apply aN.s)); iterate 4 rfl) | apply EL.nil
        | ((with_reducible apply EK.ah); apply EK.code) | (apply EC.cond_false; rfl) | (with_reducible first | apply EC.seq | apply EC.region | apply EC.skip | apply EC.ret))
      exact EK.fM [] rfl rfl (List.nil_sublist _) ⟨rfl, rfl⟩
end E
end Go.Proofs.YtiledgojbpmoiaaGreat
