/-
 Merged (wip/tools/merge.py): BR1, AL3, BR2, BR3.
 Conditions: none.
-/
import Derived.Test.YtiledgojbpmoiaaGreatZR26
import Derived.Test.YtiledgojbpmoiaaGreatZR25
import Derived.Test.YtiledgojbpmoiaaGreatZR17
import Derived.Test.YtiledgojbpmoiaaGreatZR12
namespace Go.Proofs.YtiledgojbpmoiaaGreat
set_option linter.unusedVariables false
set_option maxRecDepth 20000
set_option maxHeartbeats 8000000
open Go.RowKit Mono Rlp
namespace E
theorem Gn (l m : List UInt8) : Fn 30 [.arr 32 l, .arr 32 m] (· = .val (.v (.bool (Op.bytesLess l m)))) := by
 have hb := NP l m
 refine Fn.walk 10 Tryz.func30 rfl Tryz.ntmps30 (by simp) fun X => ?_
 repeat
  (first
   | (apply ak; iterate 3 rfl) | (apply gU; rfl; rfl; rfl; intro _) | apply EL.nil | ((with_reducible apply EK.ah); apply EK.code)
   | (with_reducible first | apply EC.seq | apply EC.region))
 refine EC.draw 5 (by kernel_rfl) ?_
 simp only [List.take_succ_cons, List.take_zero, List.drop_succ_cons, List.drop_zero]
 repeat
  (first
   | (apply Tz; exact CJ; iterate 3 rfl) | (apply G6; rfl; exact I0; iterate 4 rfl) | (apply G6; rfl; exact I1; iterate 4 rfl)
   | (apply lD; (iterate 2 rfl); exact hb; iterate 2 rfl) | ((with_reducible apply EH.nil); rfl))
 repeat
  (first
   | (apply ak; iterate 3 rfl) | apply EL.nil | ((with_reducible apply EK.ah); apply EK.code) | (with_reducible apply EC.ret))
 exact EK.kC rfl rfl rfl
def iw (x : List UInt8 × List UInt8) : List (List UInt8 × List UInt8) → List (List UInt8 × List UInt8)
 | [] => [x]
 | y :: l => if Op.bytesLess y.1 x.1 then y :: iw x l else if (y.1 == x.1) then y :: l else x :: y :: l
theorem qh (x : List UInt8 × List UInt8) : ∀ l, (iw x l).length ≤ l.length + 1
 | [] => by simp [iw]
 | y :: l => by
  have := qh x l
  rw [iw]
  split
  · simp; omega
  · split <;> simp
theorem BM (ns : List (List UInt8 × List UInt8)) (x : List UInt8 × List UInt8) (hl : ns.length ≤ 1000000000) : Fn 56 [.sl 33 (ns.map dNd), dNd x] (· = .val (.sl 33 ((iw x ns).map dNd))) := by
 have hml : (ns.map dNd).length = ns.length := List.length_map _
 obtain ⟨xh, xb⟩ := x
 unfold dNd
 dsimp only
 refine FnM.toFn ?_
 generalize hres : iw (xh, xb) ns = res
 refine FnM.walk 51 Tryz.func56 rfl Tryz.ntmps56 (by simp) fun X => ?_
 have hfn : (fun x : List UInt8 × List UInt8 => D.tup [.arr 32 x.1, .bs x.2]) = dNd := rfl
 rw [hfn]
 repeat
  (first
   | (apply ak; iterate 3 rfl) | (apply gU; rfl; rfl; rfl; intro _) | apply EL.nil | ((with_reducible apply EK.ah); apply EK.code)
   | (with_reducible first | apply EC.seq | apply EC.region | apply EC.block))
 rename_i gx
 refine EC.loop (ι := {k : Nat // k ≤ ns.length ∧ res = ns.take k ++ iw (xh, xb) (ns.drop k)})
  (fun k => ⟨[(5, .val (.v (.int .i64 (k.1 : Int)))), (0, .val (.sl 33 (ns.map dNd))), (3, .val (.v (.pointer (some ⟨gx, 0, none⟩))))], [.var gx 56 (.tup [.arr 32 xh, .bs xb])], []⟩)
  (fun k => ns.length - k.1) ⟨0, Nat.zero_le _, by rw [← hres]; rfl⟩ ?_ ?_
 · exact Le.kp
 rintro ⟨k, hk, hI⟩
 dsimp only at hk ⊢
 have htk : (ns.map dNd).take k = (ns.take k).map dNd := by rw [List.map_take]
 have hdr : (ns.map dNd).drop k = (ns.drop k).map dNd := by rw [List.map_drop]
 have htl : ((ns.take k).map dNd).length = k := by rw [List.length_map, List.length_take]; omega
 have hdl : ((ns.drop k).map dNd).length = ns.length - k := by rw [List.length_map, List.length_drop]
 by_cases hlt : k < ns.length
 ·
  have hd : (ns.map dNd)[k]? = some (.tup [.arr 32 ns[k].1, .bs ns[k].2]) := by rw [List.getElem?_map, List.getElem?_eq_getElem hlt]; rfl
  have hL := Gn ns[k].1 xh
  have he := (nY ns[k].1 xh).1
  rw [List.drop_eq_getElem_cons hlt, iw] at hI
  cases hb : Op.bytesLess ns[k].1 xh with
  | true =>
   rw [hb] at hL
   rw [if_pos hb] at hI
   have hI2 : res = ns.take (k + 1) ++ iw (xh, xb) (ns.drop (k + 1)) := by
    rw [hI, List.take_succ_eq_append_getElem hlt, List.append_assoc]
    rfl
   repeat
    (first
     | (with_reducible apply EC.seq))
   refine EC.draw 14 (by kernel_rfl) ?_
   simp only [List.take_succ_cons, List.take_zero, List.drop_succ_cons, List.drop_zero]
   repeat
    (first
     | (apply dW (hL); rfl; exact aj.refl _ _; exact enA; iterate 2 rfl) | (apply aY; iterate 3 rfl) | (apply dB; iterate 6 rfl)
     | (apply dn; iterate 7 rfl) | (apply bM; iterate 5 rfl) | (apply jB; iterate 4 rfl) | (apply dH; rfl; exact I.a; iterate 4 rfl)
     | (apply jw (b := true); (iterate 2 rfl); exact aO; iterate 2 rfl) | (apply gV; iterate 4 rfl)
     | (apply dI; (iterate 4 rfl); (focus (first | exact ⟨by decide, rfl⟩ | (refine ⟨by omega, ?_⟩; rw [Int.toNat_natCast]; assumption))); iterate 2 rfl)
     | ((with_reducible apply EH.nil); rfl))
   repeat
    (first
     | (apply au; iterate 3 rfl) | (apply ak; iterate 3 rfl) | (apply jd; (iterate 3 rfl); (focus omega); (focus omega); iterate 2 rfl) | apply EL.nil
     | ((with_reducible apply EK.ah); apply EK.code) | (apply EC.cond_true; rfl) | (with_reducible first | apply EC.region | apply EC.skip | apply EC.block | apply EK.aI))
   refine EK.again ⟨k + 1, hlt, hI2⟩ (by dsimp only; omega) ?_
   simp only [Int.natCast_add]
   exact Le.kp
  | false =>
   rw [hb] at hL
   rw [if_neg (by rw [hb]; decide)] at hI
   cases hq : (ns[k].1 == xh) with
   | true =>
    rw [hq] at he
    rw [if_pos hq, ← List.drop_eq_getElem_cons hlt, List.take_append_drop] at hI
    repeat
     (first
      | (with_reducible apply EC.seq))
    refine EC.draw 14 (by kernel_rfl) ?_
    simp only [List.take_succ_cons, List.take_zero, List.drop_succ_cons, List.drop_zero]
    repeat
     (first
      | (apply dW (hL); rfl; exact aj.refl _ _; exact enA; iterate 2 rfl) | (apply aY; iterate 3 rfl) | (apply dB; iterate 6 rfl)
      | (apply dn; iterate 7 rfl) | (apply bM; iterate 5 rfl) | (apply jB; iterate 4 rfl) | (apply dH; rfl; exact I.a; iterate 4 rfl)
      | (apply jw (b := true); (iterate 2 rfl); exact aO; iterate 2 rfl) | (apply gV; iterate 4 rfl)
      | (apply dI; (iterate 4 rfl); (focus (first | exact ⟨by decide, rfl⟩ | (refine ⟨by omega, ?_⟩; rw [Int.toNat_natCast]; assumption))); iterate 2 rfl)
      | ((with_reducible apply EH.nil); rfl))
    repeat
     (first
      | apply EL.nil | ((with_reducible apply EK.ah); apply EK.code) | (apply EC.cond_false; rfl) | (with_reducible first | apply EC.seq | apply EC.exit | apply EK.bG | apply EK.aQ))
    refine EC.draw 14 (by kernel_rfl) ?_
    simp only [List.take_succ_cons, List.take_zero, List.drop_succ_cons, List.drop_zero]
    repeat
     (first
      | (apply lD; (iterate 2 rfl); exact he; iterate 2 rfl) | (apply aY; iterate 3 rfl) | (apply dB; iterate 6 rfl) | (apply dn; iterate 7 rfl)
      | (apply bM; iterate 5 rfl) | (apply jB; iterate 4 rfl) | (apply dH; rfl; exact I.a; iterate 4 rfl)
      | (apply jw (b := true); (iterate 2 rfl); exact aO; iterate 2 rfl) | (apply gV; iterate 4 rfl)
      | (apply dI; (iterate 4 rfl); (focus (first | exact ⟨by decide, rfl⟩ | (refine ⟨by omega, ?_⟩; rw [Int.toNat_natCast]; assumption))); iterate 2 rfl)
      | ((with_reducible apply EH.nil); rfl))
    repeat
     (first
      | (apply au; iterate 3 rfl) | (apply ak; iterate 3 rfl) | apply EL.nil | ((with_reducible apply EK.ah); apply EK.code) | (apply EC.cond_true; rfl)
      | (with_reducible first | apply EC.seq | apply EC.region | apply EC.ret | apply EK.aH))
    rw [hI]
    exact EK.CV [] rfl rfl (RL.cons Rf.same RL.nil) (List.nil_sublist _) ⟨rfl, rfl⟩
   | false =>
    rw [hq] at he
    rw [if_neg (by rw [hq]; decide), ← List.drop_eq_getElem_cons hlt] at hI
    have hfin : res.map dNd = [] ++ (ns.take k).map dNd ++ [.tup [.arr 32 xh, .bs xb]] ++ (ns.drop k).map dNd := by
     rw [hI]
     simp [dNd]
    repeat
     (first
      | (with_reducible apply EC.seq))
    refine EC.draw 14 (by kernel_rfl) ?_
    simp only [List.take_succ_cons, List.take_zero, List.drop_succ_cons, List.drop_zero]
    repeat
     (first
      | (apply dW (hL); rfl; exact aj.refl _ _; exact enA; iterate 2 rfl) | (apply aY; iterate 3 rfl) | (apply dB; iterate 6 rfl)
      | (apply dn; iterate 7 rfl) | (apply bM; iterate 5 rfl) | (apply jB; iterate 4 rfl) | (apply dH; rfl; exact I.a; iterate 4 rfl)
      | (apply jw (b := true); (iterate 2 rfl); exact aO; iterate 2 rfl) | (apply gV; iterate 4 rfl)
      | (apply dI; (iterate 4 rfl); (focus (first | exact ⟨by decide, rfl⟩ | (refine ⟨by omega, ?_⟩; rw [Int.toNat_natCast]; assumption))); iterate 2 rfl)
      | ((with_reducible apply EH.nil); rfl))
    repeat
     (first
      | apply EL.nil | ((with_reducible apply EK.ah); apply EK.code) | (apply EC.cond_false; rfl) | (with_reducible first | apply EC.seq | apply EC.exit | apply EK.bG | apply EK.aQ))
    refine EC.draw 14 (by kernel_rfl) ?_
    simp only [List.take_succ_cons, List.take_zero, List.drop_succ_cons, List.drop_zero]
    repeat
     (first
      | (apply lD; (iterate 2 rfl); exact he; iterate 2 rfl) | (apply aY; iterate 3 rfl) | (apply dB; iterate 6 rfl) | (apply dn; iterate 7 rfl)
      | (apply bM; iterate 5 rfl) | (apply jB; iterate 4 rfl) | (apply dH; rfl; exact I.a; iterate 4 rfl)
      | (apply jw (b := true); (iterate 2 rfl); exact aO; iterate 2 rfl) | (apply gV; iterate 4 rfl)
      | (apply dI; (iterate 4 rfl); (focus (first | exact ⟨by decide, rfl⟩ | (refine ⟨by omega, ?_⟩; rw [Int.toNat_natCast]; assumption))); iterate 2 rfl)
      | ((with_reducible apply EH.nil); rfl))
    repeat
     (first
      | (apply au; iterate 3 rfl) | apply EL.nil | ((with_reducible apply EK.ah); apply EK.code) | (apply EC.cond_false; rfl)
      | (with_reducible first | apply EC.seq | apply EC.region | apply EC.skip))
    refine EL.le (Le.row 56 33) ?_
    repeat
     (first
      | (apply l9; (iterate 3 rfl); exact ⟨by omega, by rw [hml, Int.toNat_natCast]; omega⟩; iterate 2 rfl) | (apply ak; iterate 3 rfl)
      | ((apply je; rfl; (focus (repeat first | exact .z | apply bC.s | apply aP.s)); (iterate 5 rfl); (focus (constructor <;> (first | (simp; done) | (simp; omega))))); intro _)
      | apply EL.nil | ((with_reducible apply EK.ah); apply EK.code) | (with_reducible apply EC.seq))
    refine EC.le (Le.freeze (pre := []) rfl) ?_
    refine EC.le (Le.refine (t := 6) (d' := .sl 33 ((ns.drop k).map dNd)) rfl (Rf.fact (by rw [← hdr]; exact List.mem_cons_self) rfl)) ?_
    simp only [List.nil_append]
    refine EC.le (Le.row 56 33) ?_
    refine EC.jO 9 [0, 1, 2, 4, 5, 7] [3, 6, 8] [_] _ (by kernel_rfl) (by kernel_rfl) rfl ?_
    simp only [bQ, List.filterMap_cons, List.filterMap_nil, List.getElem?_cons_zero, List.getElem?_cons_succ]
    repeat
     (first
      | (apply vW; (iterate 3 rfl); exact ⟨by omega, by rw [hml, Int.toNat_natCast]; omega⟩; iterate 2 rfl) | (apply aY; iterate 3 rfl)
      | (apply dH; rfl; exact I.a; iterate 4 rfl) | (apply kY; iterate 9 rfl))
    rw [Int.toNat_natCast, htk]
    refine EM.nil ?_
    repeat (first | rw [List.cons_append] | rw [List.nil_append])
    refine CH.mut (os := [_]) (rest := []) rfl rfl (iM rfl rfl rfl rfl rfl ?_) ?_
    ·
     rw [htl]
     constructor <;> (simp; omega)
    rintro _ _ ⟨v2, rfl, rfl⟩
    try simp only [St.put]
    repeat (first | rw [List.cons_append] | rw [List.nil_append])
    refine CH.mut (os := [_]) (rest := []) rfl rfl (iM rfl rfl rfl rfl rfl ?_) ?_
    ·
     rw [htl]
     constructor <;> (simp; omega)
    rintro _ _ ⟨v3, rfl, rfl⟩
    try simp only [St.put]
    repeat (first | rw [List.cons_append] | rw [List.nil_append])
    refine CH.mut (os := [_]) (rest := []) rfl rfl (iM rfl rfl rfl rfl rfl ?_) ?_
    ·
     rw [List.length_append, htl, hdl]
     constructor <;> (simp; omega)
    rintro _ _ ⟨v4, rfl, rfl⟩
    try simp only [St.put]
    repeat (first | rw [List.cons_append] | rw [List.nil_append])
    refine CH.nil ?_
    try simp only [List.drop_succ_cons, List.drop_zero]
    refine EL.le (Le.freeze (pre := []) rfl) ?_
    simp only [List.nil_append]
    repeat
     (first
      | (apply ak; iterate 3 rfl) | apply EL.nil | ((with_reducible apply EK.ah); apply EK.code) | (with_reducible apply EC.ret))
    exact EK.CV [] rfl rfl (RL.cons (Rf.fact (by rw [hfin]; exact List.mem_cons_self) rfl) RL.nil) (List.nil_sublist _) ⟨rfl, rfl⟩
 ·
  have hke : k = ns.length := by omega
  rw [List.drop_eq_nil_of_le (by omega), iw] at hI
  have hfin : res.map dNd = [] ++ (ns.take k).map dNd ++ [.tup [.arr 32 xh, .bs xb]] ++ (ns.drop k).map dNd := by
   rw [hI, List.drop_eq_nil_of_le (by omega)]
   simp [dNd]
  repeat
   (first
    | (with_reducible apply EC.seq))
  refine EC.draw 14 (by kernel_rfl) ?_
  simp only [List.take_succ_cons, List.take_zero, List.drop_succ_cons, List.drop_zero]
  repeat
   (first
    | (apply tJ; iterate 2 rfl) | (apply aY; iterate 3 rfl) | (apply jB; iterate 4 rfl)
    | (apply jw (b := false); (iterate 2 rfl); exact aO; iterate 2 rfl) | (apply gV; iterate 4 rfl) | ((with_reducible apply EH.nil); rfl))
  repeat
   (first
    | apply EL.nil | ((with_reducible apply EK.ah); apply EK.code) | (apply EC.cond_false; rfl) | (with_reducible first | apply EC.seq | apply EC.exit | apply EK.bG | apply EK.aQ))
  refine EC.draw 14 (by kernel_rfl) ?_
  simp only [List.take_succ_cons, List.take_zero, List.drop_succ_cons, List.drop_zero]
  repeat
   (first
    | (apply tJ; iterate 2 rfl) | (apply aY; iterate 3 rfl) | (apply jB; iterate 4 rfl)
    | (apply jw (b := false); (iterate 2 rfl); exact aO; iterate 2 rfl) | (apply gV; iterate 4 rfl) | ((with_reducible apply EH.nil); rfl))
  repeat
   (first
    | (apply au; iterate 3 rfl) | apply EL.nil | ((with_reducible apply EK.ah); apply EK.code) | (apply EC.cond_false; rfl)
    | (with_reducible first | apply EC.seq | apply EC.region | apply EC.skip))
  refine EL.le (Le.row 56 33) ?_
  repeat
   (first
    | (apply l9; (iterate 3 rfl); exact ⟨by omega, by rw [hml, Int.toNat_natCast]; omega⟩; iterate 2 rfl) | (apply ak; iterate 3 rfl)
    | ((apply je; rfl; (focus (repeat first | exact .z | apply bC.s | apply aP.s)); (iterate 5 rfl); (focus (constructor <;> (first | (simp; done) | (simp; omega))))); intro _)
    | apply EL.nil | ((with_reducible apply EK.ah); apply EK.code) | (with_reducible apply EC.seq))
  refine EC.le (Le.freeze (pre := []) rfl) ?_
  refine EC.le (Le.refine (t := 6) (d' := .sl 33 ((ns.drop k).map dNd)) rfl (Rf.fact (by rw [← hdr]; exact List.mem_cons_self) rfl)) ?_
  simp only [List.nil_append]
  refine EC.le (Le.row 56 33) ?_
  refine EC.jO 9 [0, 1, 2, 4, 5, 7] [3, 6, 8] [_] _ (by kernel_rfl) (by kernel_rfl) rfl ?_
  simp only [bQ, List.filterMap_cons, List.filterMap_nil, List.getElem?_cons_zero, List.getElem?_cons_succ]
  repeat
   (first
    | (apply vW; (iterate 3 rfl); exact ⟨by omega, by rw [hml, Int.toNat_natCast]; omega⟩; iterate 2 rfl) | (apply aY; iterate 3 rfl)
    | (apply dH; rfl; exact I.a; iterate 4 rfl) | (apply kY; iterate 9 rfl))
  rw [Int.toNat_natCast, htk]
  refine EM.nil ?_
  repeat (first | rw [List.cons_append] | rw [List.nil_append])
  refine CH.mut (os := [_]) (rest := []) rfl rfl (iM rfl rfl rfl rfl rfl ?_) ?_
  ·
   rw [htl]
   constructor <;> (simp; omega)
  rintro _ _ ⟨v2, rfl, rfl⟩
  try simp only [St.put]
  repeat (first | rw [List.cons_append] | rw [List.nil_append])
  refine CH.mut (os := [_]) (rest := []) rfl rfl (iM rfl rfl rfl rfl rfl ?_) ?_
  ·
   rw [htl]
   constructor <;> (simp; omega)
  rintro _ _ ⟨v3, rfl, rfl⟩
  try simp only [St.put]
  repeat (first | rw [List.cons_append] | rw [List.nil_append])
  refine CH.mut (os := [_]) (rest := []) rfl rfl (iM rfl rfl rfl rfl rfl ?_) ?_
  ·
   rw [List.length_append, htl, hdl]
   constructor <;> (simp; omega)
  rintro _ _ ⟨v4, rfl, rfl⟩
  try simp only [St.put]
  repeat (first | rw [List.cons_append] | rw [List.nil_append])
  refine CH.nil ?_
  try simp only [List.drop_succ_cons, List.drop_zero]
  refine EL.le (Le.freeze (pre := []) rfl) ?_
  simp only [List.nil_append]
  repeat
   (first
    | (apply ak; iterate 3 rfl) | apply EL.nil | ((with_reducible apply EK.ah); apply EK.code) | (with_reducible apply EC.ret))
  exact EK.CV [] rfl rfl (RL.cons (Rf.fact (by rw [hfin]; exact List.mem_cons_self) rfl) RL.nil) (List.nil_sublist _) ⟨rfl, rfl⟩
theorem vJ (ks : Nat → Tn) (v : List UInt8) : eu (.br ks v) = .mk true [] ((List.range 16).map (fun i => mF (ks i)) ++ [.mk false v []]) := rfl
def bU (n : Nat) (l : List Pr) : List Pr := l.map fun x => (x.1.drop n, x.2)
theorem Qa (l : List Pr) (n : Nat) (hl : l.length ≤ 1000000) (hn : ∀ x ∈ l, n ≤ x.1.length) : Fn 128 [.sl 2 (l.map dPr), .v (.int .i64 (n : Int))] (· = .val (.sl 2 ((bU n l).map dPr))) := by
 have hml : (l.map dPr).length = l.length := List.length_map _
 refine FnM.toFn ?_
 refine FnM.walk 30 Tryz.func128 rfl Tryz.ntmps128 (by simp) fun X => ?_
 repeat
  (first
   | (apply ak; iterate 3 rfl) | apply EL.nil | ((with_reducible apply EK.ah); apply EK.code) | (with_reducible first | apply EC.seq | apply EC.region | apply EC.block))
 refine EC.le (Le.row 149 2) ?_
 refine EC.loop (ι := {x : Nat × Value // x.1 ≤ l.length})
  (fun x => ⟨[(6, .val (.v (.int .i64 (x.1.1 : Int)))), (5, .val (.v x.1.2)), (0, .val (.sl 2 (l.map dPr))), (1, .val (.v (.int .i64 (n : Int))))], [.row x.1.2 149 2 ((bU n (l.take x.1.1)).map dPr)], []⟩)
  (fun x => l.length - x.1.1) ⟨(0, .slice none 0 0), Nat.zero_le _⟩ ?_ ?_
 · exact Le.kp
 rintro ⟨⟨i, v⟩, hi⟩
 dsimp only at hi ⊢
 by_cases hlt : i < l.length
 ·
  have hd : (l.map dPr)[i]? = some (.tup [.bs l[i].1, .bs l[i].2]) := by rw [List.getElem?_map, List.getElem?_eq_getElem hlt]; rfl
  have hx := hn _ (List.getElem_mem hlt)
  have hl3 : ((bU n (l.take i)).map dPr).length = i := by unfold bU; rw [List.length_map, List.length_map, List.length_take]; omega
  have htk : (bU n (l.take (i + 1))).map dPr = (bU n (l.take i)).map dPr ++ [.tup [.bs (l[i].1.drop n), .bs l[i].2]] := by
   unfold bU
   rw [List.take_succ_eq_append_getElem hlt, List.map_append, List.map_append]
   rfl
  repeat
   (first
    | (apply au; iterate 3 rfl) | (apply aC (b := true); (iterate 2 rfl); exact aO; iterate 2 rfl) | (apply aJ; iterate 4 rfl) | apply EL.nil
    | ((with_reducible apply EK.ah); apply EK.code) | (apply EC.cond_true; rfl) | (with_reducible first | apply EC.seq | apply EC.region | apply EC.skip | apply EC.block))
  refine EC.jO 16 [0, 1, 2, 3, 4, 5, 6, 7, 8, 9, 10, 11, 12, 13, 14] [15] [_] _ (by kernel_rfl) (by kernel_rfl) rfl ?_
  simp only [bQ, List.filterMap_cons, List.filterMap_nil, List.getElem?_cons_zero, List.getElem?_cons_succ]
  repeat
   (first
    | (apply ou; (iterate 3 rfl); exact ⟨by omega, by rw [Int.toNat_natCast]; omega⟩; iterate 2 rfl) | (apply aY; iterate 3 rfl) | (apply dn; iterate 7 rfl)
    | (apply bM; iterate 5 rfl)
    | (apply dI; (iterate 4 rfl); (focus (first | exact ⟨by decide, rfl⟩ | (refine ⟨by omega, ?_⟩; rw [Int.toNat_natCast]; assumption))); iterate 2 rfl)
    | (apply iZ; iterate 7 rfl) | (apply kY; iterate 9 rfl))
  refine EM.nil ?_
  repeat (first | rw [List.cons_append] | rw [List.nil_append])
  refine CH.mut (os := [_]) (rest := []) rfl rfl (iM rfl rfl rfl rfl rfl ?_) ?_
  ·
   rw [hl3]
   constructor <;> (simp; omega)
  rintro _ _ ⟨v', rfl, rfl⟩
  try simp only [St.put]
  repeat (first | rw [List.cons_append] | rw [List.nil_append])
  refine CH.nil ?_
  try simp only [List.drop_succ_cons, List.drop_zero]
  repeat
   (first
    | (apply au; iterate 3 rfl) | (apply ak; iterate 3 rfl) | (apply jd; (iterate 3 rfl); (focus omega); (focus omega); iterate 2 rfl) | apply EL.nil
    | ((with_reducible apply EK.ah); apply EK.code) | (with_reducible first | apply EC.region | apply EK.aI))
  refine EK.again ⟨(i + 1, v'), hlt⟩ (by dsimp only; omega) ?_
  dsimp only
  rw [htk]
  simp only [Int.natCast_add]
  exact Le.kp
 ·
  obtain rfl : i = l.length := by omega
  rw [List.take_length]
  refine EC.le (Le.freeze (pre := []) rfl) ?_
  simp only [List.nil_append]
  repeat
   (first
    | (apply au; iterate 3 rfl) | (apply ak; iterate 3 rfl) | (apply aC (b := false); (iterate 2 rfl); exact aO; iterate 2 rfl)
    | (apply aJ; iterate 4 rfl) | apply EL.nil | ((with_reducible apply EK.ah); apply EK.code) | (apply EC.cond_false; rfl)
    | (with_reducible first | apply EC.seq | apply EC.region | apply EC.exit | apply EC.ret | apply EK.bG | apply EK.aQ))
  exact EK.CV [] rfl rfl (RL.cons (Rf.fact List.mem_cons_self rfl) RL.nil) (List.nil_sublist _) ⟨rfl, rfl⟩
theorem xG (x : Raw) : (pkB x).length ≤ 1099511627776 := by
 have h : ∀ b, packed x = some b → b.length ≤ most := fun b h => by
  rw [sN] at h
  split at h
  · cases h
  ·
   split at h
   ·
    split at h
    · cases h
    ·
     cases h
     omega
   · cases h
 unfold pkB
 cases hp : packed x with
 | none => exact Nat.zero_le _
 | some b =>
  have := h b hp
  simp only [most] at this
  show b.length ≤ _
  omega
def kD (l : List Pr) (U : List (List UInt8)) (x : Raw) : List (List UInt8) := if l.isEmpty then [] else U ++ (if (pkB x).length < 32 then [] else [pkB x])
def dZ (l : List Pr) (x : Raw) : Raw := if l.isEmpty then .mk false [] [] else oI x
theorem xQ {N : Nat} {X : Cx N} {ops : Array Oper} {Q : Exit → Act → World → Prop} {l' : List Oper} {t ty f : Nat} {pos : String} {af : Array Edge} {gd : Option (Nat × Bool)} {args : Array Operand} {tys : Array TypeId} {ds ds' : List D} {Φ : R → List Obj → Prop} {rs : List (Tmp × R)} {os os0 : List Obj} {fs : List (Value × D)} (hF : FnM f ds' os Φ) (l1 : List Obj) (hos : os0 = l1 ++ os)
  (hx : evs (⟨rs, l1, fs⟩ : St) args.toList = some ds) (hR : aj fs ds ds') (hf : Enters f) (hg : guardOf ops ⟨rs, os ++ l1, fs⟩ ⟨some t, .call { callee := .value (.func f), args := args, argTypes := tys }, ty, pos, af, gd⟩ = some true) (hN : Nat.blt t N = true) (k : ∀ r os', Φ r os' → EL X ops Q l' ⟨(t, r) :: rs, l1 ++ os', fs⟩) : EL X ops Q (⟨some t, .call { callee := .value (.func f), args := args, argTypes := tys }, ty, pos, af, gd⟩ :: l') ⟨rs, os0, fs⟩ :=
 jE hF l1 [] (by rw [List.append_nil]; exact hos) (by rw [List.append_nil]; exact hx) hR hf (by rw [List.append_nil]; exact hg) hN fun r os' h => by
  rw [List.append_nil]
  exact k r os' h
structure Bld (g : Nat) where
 σ : Type
 os : σ → List Obj
 sz : σ → Nat
 Rl : List (List UInt8) → Nat → σ → σ → Prop
 none : ∀ s, Rl [] 0 s s
 app : ∀ {U V : List (List UInt8)} {C E : Nat} {s t u : σ}, Rl U C s t → Rl V E t u → Rl (U ++ V) (C + E) s u
 more : ∀ {U : List (List UInt8)} {C E : Nat} {s t : σ}, Rl U C s t → C ≤ E → Rl U E s t
 size : ∀ {U : List (List UInt8)} {C : Nat} {s t : σ}, Rl U C s t → sz t ≤ sz s + C
 put : ∀ (s : σ) (x : List UInt8), sz s ≤ 1000000000 → x.length ≤ 1099511627776 → FnM 79 [.v (ptr g), .bs x] (os s) (fun r os' => ∃ t, Rl [x] 1 s t ∧ r = .val (.arr 32 (hash x)) ∧ os' = os t)
theorem TV {g : Nat} (B : Bld g) (s : B.σ) (l : List Pr) (x : Raw) (U : List (List UInt8)) (C : Nat) (hc : B.sz s + C ≤ 1000000000)
  (H : l.isEmpty = false → FnM 78 [.v (ptr g), .sl 2 (l.map dPr)] (B.os s) (fun r os' => ∃ t, B.Rl U C s t ∧ r = .val (aW x) ∧ os' = B.os t)) :
  FnM 127 [.v (ptr g), .sl 2 (l.map dPr)] (B.os s) (fun r os' => ∃ t, B.Rl (kD l U x) (if l.isEmpty then 0 else C + 1) s t ∧ r = .val (aW (dZ l x)) ∧ os' = B.os t) := by
 unfold dZ kD
 have hb0 := nX []
 refine FnM.walk 30 Tryz.func127 rfl Tryz.ntmps127 (by simp) fun X => ?_
 cases l with
 | nil =>
  rw [if_pos (show ([] : List Pr).isEmpty = true from rfl), if_pos (show ([] : List Pr).isEmpty = true from rfl), if_pos (show ([] : List Pr).isEmpty = true from rfl)]
  repeat
   (first
    | (apply aA (hb0); rfl; exact RL.a; exact enA; iterate 2 rfl) | (apply au; iterate 3 rfl)
    | (apply aC (b := true); (iterate 2 rfl); exact aO; iterate 2 rfl) | (apply aJ; iterate 4 rfl) | (apply aZ; rfl; rfl; rfl; intro _)
    | (apply aN; rfl; (focus (repeat first | exact .z | apply bC.s | apply aP.s)); iterate 4 rfl) | apply EL.nil | ((with_reducible apply EK.ah); apply EK.code)
    | (apply EC.cond_true; rfl) | (with_reducible first | apply EC.seq | apply EC.region | apply EC.ret | apply EK.aH))
  refine EK.kQ 0 (B.os s) rfl rfl rfl rfl ?_ (by (repeat first | exact List.Sublist.refl _ | apply List.Sublist.cons_cons | apply List.Sublist.cons)) ⟨s, B.none s, rfl, rfl⟩
  (exact RL.a)
 | cons y l =>
  have h1 := H rfl
  rw [if_neg (show ¬ ((y :: l).isEmpty = true) from Bool.false_ne_true), if_neg (show ¬ ((y :: l).isEmpty = true) from Bool.false_ne_true), if_neg (show ¬ ((y :: l).isEmpty = true) from Bool.false_ne_true)]
  have h2 := DI x
  unfold oI
  repeat
   (first
    | (apply au; iterate 3 rfl) | (apply aC (b := false); (iterate 2 rfl); exact aO; iterate 2 rfl) | (apply aJ; iterate 4 rfl)
    | (apply aZ; rfl; rfl; rfl; intro _) | apply EL.nil | ((with_reducible apply EK.ah); apply EK.code) | (apply EC.cond_false; rfl)
    | (with_reducible first | apply EC.seq | apply EC.region | apply EC.skip))
  refine xQ h1 [_] rfl rfl (aj.refl _ _) (by intro _ _; simp [go_sem]) rfl rfl ?_
  rintro _ _ ⟨t, hn1, rfl, rfl⟩
  simp only [List.cons_append, List.nil_append]
  have hle := xG x
  have hpb : packed x = none ∨ packed x = some (pkB x) := by
   unfold pkB
   cases h : packed x with
   | none => exact .inl rfl
   | some b => exact .inr rfl
  rcases hpb with hp | hp
  ·
   have h0 : pkB x = [] := by unfold pkB; rw [hp]; rfl
   rw [hp] at h2
   rw [h0, if_pos (by decide), if_pos (by decide), List.append_nil]
   unfold nM at h2
   dsimp only at h2
   cases x with
   | mk xb xs xl =>
    unfold aW at h2 ⊢
    repeat
     (first
      | (apply aA (h2); rfl; exact aj.refl _ _; exact enA; iterate 2 rfl) | (apply au; iterate 3 rfl) | (apply ak; iterate 3 rfl)
      | (apply aF; iterate 4 rfl) | (apply dh; rfl; exact I.a; iterate 4 rfl) | (apply aC (b := true); (iterate 2 rfl); exact aO; iterate 2 rfl)
      | (apply Vu; iterate 4 rfl) | (apply aZ; rfl; rfl; rfl; intro _)
      | (apply aN; rfl; (focus (repeat first | exact .z | apply bC.s | apply aP.s)); iterate 4 rfl) | apply EL.nil | ((with_reducible apply EK.ah); apply EK.code)
      | (apply EC.cond_true; rfl) | (with_reducible first | apply EC.seq | apply EC.region | apply EC.ret | apply EK.aH))
    refine EK.kQ 1 (B.os t) rfl rfl rfl rfl ?_ (by (repeat first | exact List.Sublist.refl _ | apply List.Sublist.cons_cons | apply List.Sublist.cons)) ⟨t, B.more hn1 (by omega), rfl, rfl⟩
    (exact RL.a)
  ·
   rw [hp] at h2
   unfold nM at h2
   dsimp only at h2
   generalize pkB x = pb at h2 hle
   by_cases h32 : pb.length < 32
   ·
    rw [if_pos h32, if_pos h32, List.append_nil]
    cases x with
    | mk xb xs xl =>
     unfold aW at h2 ⊢
     repeat
      (first
       | (apply aA (h2); rfl; exact aj.refl _ _; exact enA; iterate 2 rfl) | (apply au; iterate 3 rfl) | (apply ak; iterate 3 rfl)
       | (apply aF; iterate 4 rfl) | (apply dh; rfl; exact I.a; iterate 4 rfl) | (apply aC (b := true); (iterate 2 rfl); exact aO; iterate 2 rfl)
       | (apply aU; iterate 4 rfl) | (apply aZ; rfl; rfl; rfl; intro _)
       | (apply aN; rfl; (focus (repeat first | exact .z | apply bC.s | apply aP.s)); iterate 4 rfl) | apply EL.nil | ((with_reducible apply EK.ah); apply EK.code)
       | (apply EC.cond_true; rfl) | (with_reducible first | apply EC.seq | apply EC.region | apply EC.ret | apply EK.aH))
     refine EK.kQ 1 (B.os t) rfl rfl rfl rfl ?_ (by (repeat first | exact List.Sublist.refl _ | apply List.Sublist.cons_cons | apply List.Sublist.cons)) ⟨t, B.more hn1 (by omega), rfl, rfl⟩
     (exact RL.a)
   ·
    rw [if_neg h32, if_neg h32]
    have hsz := B.size hn1
    have h3 := B.put t pb (by omega) hle
    have h4 := nX (hash pb)
    cases x with
    | mk xb xs xl =>
     unfold aW at h2
     repeat
      (first
       | (apply aA (h2); rfl; exact aj.refl _ _; exact enA; iterate 2 rfl) | (apply au; iterate 3 rfl) | (apply ak; iterate 3 rfl)
       | (apply aF; iterate 4 rfl) | (apply dh; rfl; exact I.a; iterate 4 rfl) | (apply aC (b := false); (iterate 2 rfl); exact aO; iterate 2 rfl)
       | (apply aU; iterate 4 rfl) | (apply aZ; rfl; rfl; rfl; intro _)
       | (apply aN; rfl; (focus (repeat first | exact .z | apply bC.s | apply aP.s)); iterate 4 rfl) | apply EL.nil | ((with_reducible apply EK.ah); apply EK.code)
       | (apply EC.cond_false; rfl) | (with_reducible first | apply EC.seq | apply EC.region | apply EC.skip))
     refine xQ h3 [_, _] rfl rfl (aj.refl _ _) (by intro _ _; simp [go_sem]) rfl rfl ?_
     rintro _ _ ⟨u, hu, rfl, rfl⟩
     simp only [List.cons_append, List.nil_append]
     repeat
      (first
       | (apply aZ; rfl; rfl; rfl; intro _) | (apply aN; rfl; (focus (repeat first | exact .z | apply bC.s | apply aP.s)); iterate 4 rfl) | apply EL.nil
       | ((with_reducible apply EK.ah); apply EK.code) | (with_reducible first | apply EC.seq | apply EC.region))
     refine EL.le (Le.pin (p := 8) (pre := []) rfl rfl) ?_
     simp only [List.nil_append]
     repeat
      (first
       | (apply QK CJ; iterate 6 rfl) | (apply aA (h4); rfl; exact aj.refl _ _; exact enA; iterate 2 rfl)
       | (apply aN; rfl; (focus (repeat first | exact .z | apply bC.s | apply aP.s)); iterate 4 rfl) | apply EL.nil | ((with_reducible apply EK.ah); apply EK.code)
       | (with_reducible apply EC.ret))
     refine EK.kQ 1 (B.os u) rfl rfl rfl rfl ?_ (by (repeat first | exact List.Sublist.refl _ | apply List.Sublist.cons_cons | apply List.Sublist.cons)) ⟨u, B.app hn1 hu, rfl, rfl⟩
     (exact RL.a)
def bD (p : List UInt8) (l : List Pr) : Nat := l.foldl (fun n x => if common p x.1 < n then common p x.1 else n) p.length
theorem Jf (p : List UInt8) (l : List Pr) (x : Pr) : bD p (l ++ [x]) = if common p x.1 < bD p l then common p x.1 else bD p l := by
 unfold bD
 rw [List.foldl_append]
 rfl
theorem BO (a b : List UInt8) : common a b ≤ a.length ∧ common a b ≤ b.length := ⟨(fA a b).2.1, (fA a b).2.2⟩
theorem jl (p : List UInt8) : ∀ (l : List Pr) (m : Nat), m ≤ p.length → (l.foldl (fun n x => if common p x.1 < n then common p x.1 else n) m) ≤ m ∧ ∀ x ∈ l, (l.foldl (fun n x => if common p x.1 < n then common p x.1 else n) m) ≤ common p x.1
 | [], m, h => ⟨Nat.le_refl _, fun x hx => by cases hx⟩
 | y :: l, m, h => by
  rw [List.foldl_cons]
  split
  ·
   rename_i hlt
   obtain ⟨h1, h2⟩ := jl p l (common p y.1) (BO p y.1).1
   refine ⟨by omega, fun x hx => ?_⟩
   rcases List.mem_cons.1 hx with rfl | hx
   · exact h1
   · exact h2 x hx
  ·
   rename_i hge
   obtain ⟨h1, h2⟩ := jl p l m h
   refine ⟨h1, fun x hx => ?_⟩
   rcases List.mem_cons.1 hx with rfl | hx
   · omega
   · exact h2 x hx
def headD (d : Nat) (x : Pr) : Bool := match x.1 with
 | [] => false
 | c :: _ => c.toNat == d
def gQ (d : Nat) (x : Pr) : Bool := match x.1 with
 | [] => false
 | c :: _ => decide (c.toNat < d)
def aV (d : Nat) (l : List Pr) : List Pr := bU 1 (l.filter (headD d))
def iI (l : List Pr) : List UInt8 := l.foldl (fun v x => if x.1.isEmpty then x.2 else v) []
theorem KZ (l : List Pr) (x : Pr) : iI (l ++ [x]) = if x.1.isEmpty then x.2 else iI l := by
 unfold iI
 rw [List.foldl_append]
 rfl
def aG : Nat → List Pr → Raw
 | 0, _ => .mk false [] []
 | f + 1, l => match l with
  | [] => .mk true [] []
  | [x] => .mk true [] [.mk false (ppk x.1 true) [], .mk false x.2 []]
  | x :: y :: r =>
   if 0 < bD x.1 (y :: r) then .mk true [] [.mk false (ppk (x.1.take (bD x.1 (y :: r))) false) [], dZ (bU (bD x.1 (y :: r)) (x :: y :: r)) (aG f (bU (bD x.1 (y :: r)) (x :: y :: r)))]
   else .mk true [] ((List.range 16).map (fun d => dZ (aV d (x :: y :: r)) (aG f (aV d (x :: y :: r)))) ++ [.mk false (iI (x :: y :: r)) []])
def dF : Nat → List Pr → List (List UInt8)
 | 0, _ => []
 | f + 1, l => match l with
  | [] => []
  | [_] => []
  | x :: y :: r =>
   if 0 < bD x.1 (y :: r) then kD (bU (bD x.1 (y :: r)) (x :: y :: r)) (dF f (bU (bD x.1 (y :: r)) (x :: y :: r))) (aG f (bU (bD x.1 (y :: r)) (x :: y :: r)))
   else ((List.range 16).map fun d => kD (aV d (x :: y :: r)) (dF f (aV d (x :: y :: r))) (aG f (aV d (x :: y :: r)))).flatten
theorem Qu (l : List Pr) (d : Nat) : (l.filter (gQ (d + 1))).length = (l.filter (gQ d)).length + (l.filter (headD d)).length := by
 induction l with
 | nil => rfl
 | cons x l ih =>
  obtain ⟨p, v⟩ := x
  cases p with
  | nil =>
   rw [List.filter_cons_of_neg (p := gQ (d + 1)) (by simp [gQ]; try omega), List.filter_cons_of_neg (p := gQ d) (by simp [gQ]; try omega), List.filter_cons_of_neg (p := headD d) (by simp [headD]; try omega)]
   exact ih
  | cons c p =>
   by_cases h1 : c.toNat = d
   ·
    rw [List.filter_cons_of_pos (p := gQ (d + 1)) (by simp [gQ]; try omega), List.filter_cons_of_neg (p := gQ d) (by simp [gQ]; try omega), List.filter_cons_of_pos (p := headD d) (by simp [headD]; try omega), List.length_cons, List.length_cons]
    omega
   ·
    by_cases h2 : c.toNat < d
    ·
     rw [List.filter_cons_of_pos (p := gQ (d + 1)) (by simp [gQ]; try omega), List.filter_cons_of_pos (p := gQ d) (by simp [gQ]; try omega), List.filter_cons_of_neg (p := headD d) (by simp [headD]; try omega), List.length_cons, List.length_cons]
     omega
    ·
     rw [List.filter_cons_of_neg (p := gQ (d + 1)) (by simp [gQ]; try omega), List.filter_cons_of_neg (p := gQ d) (by simp [gQ]; try omega), List.filter_cons_of_neg (p := headD d) (by simp [headD]; try omega)]
     exact ih
theorem cnt_le (l : List Pr) (d : Nat) : (l.filter (gQ d)).length ≤ l.length := List.length_filter_le _ _
theorem uX (n : Nat) (l : List Pr) : (bU n l).length = l.length := List.length_map _
theorem Px (d : Nat) (l : List Pr) : (aV d l).length = (l.filter (headD d)).length := uX _ _
theorem nP {d : Nat} {l : List Pr} {y : Pr} (h : y ∈ aV d l) : ∃ x ∈ l, headD d x = true ∧ y = (x.1.drop 1, x.2) := by
 obtain ⟨x, hx, rfl⟩ := List.mem_map.1 h
 exact ⟨x, (List.mem_filter.1 hx).1, (List.mem_filter.1 hx).2, rfl⟩
theorem nS {d : Nat} {x : Pr} (h : headD d x = true) : 1 ≤ x.1.length := by
 unfold headD at h
 split at h
 · cases h
 ·
  rename_i e
  rw [e]
  simp
end E
end Go.Proofs.YtiledgojbpmoiaaGreat
