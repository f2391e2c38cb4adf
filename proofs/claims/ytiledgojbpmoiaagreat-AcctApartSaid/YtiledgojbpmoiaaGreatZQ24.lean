/-
 Merged (wip/tools/merge.py): SD1, SD2.
 Conditions: none.
-/
import Derived.Test.YtiledgojbpmoiaaGreatZQ23
import Derived.Test.YtiledgojbpmoiaaGreatZQ21
namespace Go.Proofs.YtiledgojbpmoiaaGreat
set_option linter.unusedVariables false
set_option maxRecDepth 20000
set_option maxHeartbeats 16000000
open Go.RowKit Mono Rlp
namespace E
def Srt (S : List Pr) : Prop := S.Pairwise fun a b => Op.bytesLess a.1 b.1 = true
def okN (x : Pr) : List Pr → Bool
 | [] => true
 | y :: l => if Op.bytesLess y.1 x.1 then okN x l else if y.1 == x.1 then y.2 == x.2 else true
theorem JY (x : Pr) : ∀ (S : List Pr) (k : Nat), k ≤ S.length → (∀ j, (h : j < S.length) → j < k → Op.bytesLess S[j].1 x.1 = true) → (∀ h : k < S.length, Op.bytesLess S[k].1 x.1 = false) →
  fO x S = S.take k ++ (match S.drop k with | [] => [x] | y :: l => if y.1 == x.1 then y :: l else x :: y :: l) ∧ okN x S = (match S.drop k with | [] => true | y :: _ => if y.1 == x.1 then y.2 == x.2 else true)
 | [], k, _, _, _ => by simp [fO, okN]
 | y :: S, 0, _, _, h2 => by
  have := h2 (by simp)
  simp only [List.getElem_cons_zero] at this
  rw [fO, okN, this, if_neg (show ¬ (false = true) from Bool.false_ne_true), if_neg (show ¬ (false = true) from Bool.false_ne_true)]
  simp
 | y :: S, k + 1, hk, h1, h2 => by
  have h0 := h1 0 (by simp) (by omega)
  simp only [List.getElem_cons_zero] at h0
  obtain ⟨e1, e2⟩ := JY x S k (by simpa using hk) (fun j h hj => by
   have := h1 (j + 1) (by simpa using h) (by omega)
   simpa using this) (fun h => by
   have := h2 (by simpa using h)
   simpa using this)
  rw [fO, okN, h0, if_pos rfl, if_pos rfl, e1, e2]
  simp
theorem Fz (x : Pr) : ∀ (S : List Pr) (y : Pr), y ∈ fO x S → y = x ∨ y ∈ S
 | [], y, h => .inl (by simpa [fO] using h)
 | z :: S, y, h => by
  rw [fO] at h
  split at h
  ·
   rcases List.mem_cons.1 h with rfl | h
   · exact .inr List.mem_cons_self
   ·
    rcases Fz x S y h with h | h
    · exact .inl h
    · exact .inr (List.mem_cons_of_mem _ h)
  ·
   split at h
   · exact .inr h
   ·
    rcases List.mem_cons.1 h with rfl | h
    · exact .inl rfl
    · exact .inr h
theorem nM (x : Pr) : ∀ (S : List Pr) (y : Pr), y ∈ S → y ∈ fO x S
 | [], y, h => by cases h
 | z :: S, y, h => by
  rw [fO]
  split
  ·
   rcases List.mem_cons.1 h with rfl | h
   · exact List.mem_cons_self
   · exact List.mem_cons_of_mem _ (nM x S y h)
  ·
   split
   · exact h
   · exact List.mem_cons_of_mem _ h
theorem vO (x : Pr) : ∀ (S : List Pr), okN x S = true → x ∈ fO x S
 | [], _ => by simp [fO]
 | z :: S, h => by
  rw [okN] at h
  rw [fO]
  split
  ·
   rename_i h1
   rw [if_pos h1] at h
   exact List.mem_cons_of_mem _ (vO x S h)
  ·
   rename_i h1
   rw [if_neg h1] at h
   split
   ·
    rename_i h2
    rw [if_pos h2] at h
    have : z = x := Prod.ext (by simpa using h2) (by simpa using h)
    rw [this]
    exact List.mem_cons_self
   · exact List.mem_cons_self
theorem zL {a b c : List UInt8} (h1 : Op.bytesLess a b = true) (h2 : Op.bytesLess b c = true) : Op.bytesLess a c = true := by
 rw [DZ] at *
 simp only [decide_eq_true_eq] at *
 exact List.lt_trans h1 h2
theorem U7 {a b : List UInt8} (h1 : Op.bytesLess a b = false) (h2 : (a == b) = false) : Op.bytesLess b a = true := by
 rw [DZ] at *
 simp only [decide_eq_true_eq, decide_eq_false_iff_not] at *
 rcases List.le_total a b with h | h
 · exact absurd (List.le_antisymm h (List.not_lt.1 h1)) (by simpa using h2)
 · exact Classical.byContradiction fun hn => absurd (List.le_antisymm (List.not_lt.1 hn) h) (by simpa using h2)
theorem nN (x : Pr) : ∀ (S : List Pr), Srt S → Srt (fO x S)
 | [], _ => by unfold Srt; simp [fO]
 | z :: S, h => by
  obtain ⟨h1, h2⟩ := List.pairwise_cons.1 h
  rw [fO]
  split
  ·
   rename_i hz
   refine List.pairwise_cons.2 ⟨fun y hy => ?_, nN x S h2⟩
   rcases Fz x S y hy with rfl | hy
   · exact hz
   · exact h1 y hy
  ·
   rename_i hz
   split
   · exact h
   ·
    rename_i hq
    refine List.pairwise_cons.2 ⟨fun y hy => ?_, h⟩
    have hxz := U7 (by simpa using hz) (by simpa using hq)
    rcases List.mem_cons.1 hy with rfl | hy
    · exact hxz
    · exact zL hxz (h1 y hy)
theorem NV {S : List Pr} (h : Srt S) {i j : Nat} (hi : i < S.length) (hj : j < S.length) (hij : i < j) : Op.bytesLess S[i].1 S[j].1 = true := List.pairwise_iff_getElem.1 h i j hi hj hij
theorem Qg (a : Nat) (h : a < 9223372036854775808) : Bin .quo 3 (.v (.int .i64 (a : Int))) (.v (.int .i64 2)) (.int .i64 ((a / 2 : Nat) : Int)) := zM rfl fun w => by
 have h2 : ((a : Int).tdiv 2) = ((a / 2 : Nat) : Int) := by
  rw [Int.tdiv_eq_ediv_of_nonneg (by omega)]
  omega
 have h3 : IntKind.i64.wrap ((a / 2 : Nat) : Int) = ((a / 2 : Nat) : Int) := IntWalk.i64_in _ ⟨by omega, by omega⟩
 simp only [binOp, Op.intDiv]
 rw [if_neg (by decide), h2]
 simp only [h3]
 rfl
theorem AL (S : List Pr) (x : Nat) (hx : x ≤ S.length) (dz d : D) : (((S.map dNd ++ [dz]).take (x + 1)) ++ ((S.map dNd ++ [dz]).drop x).take (S.length + 1 - (x + 1))).set x d = (S.take x).map dNd ++ d :: (S.drop x).map dNd := by
 have hml : (S.map dNd).length = S.length := List.length_map _
 have h1 : ((S.map dNd ++ [dz]).drop x).take (S.length + 1 - (x + 1)) = (S.drop x).map dNd := by
  rw [List.drop_append_of_le_length (by omega), List.take_left' (by rw [List.length_drop]; omega), List.map_drop]
 have h2 : ∃ e, (S.map dNd ++ [dz]).take (x + 1) = (S.take x).map dNd ++ [e] := by
  have hlt : x < (S.map dNd ++ [dz]).length := by rw [List.length_append, hml]; simp; omega
  refine ⟨(S.map dNd ++ [dz])[x], ?_⟩
  rw [List.take_succ_eq_append_getElem hlt, List.take_append_of_le_length (by omega), List.map_take]
 obtain ⟨e, h2⟩ := h2
 have hlx : ((S.take x).map dNd).length = x := by rw [List.length_map, List.length_take]; omega
 rw [h1, h2, List.append_assoc, List.set_append_right _ _ (by omega), hlx, Nat.sub_self]
 rfl
abbrev sdO (g : Nat) (v : Value) : Obj := .var g 40 (.tup [.v v])
abbrev sdR (v : Value) (S : List Pr) : Obj := .row v 56 33 (S.map dNd)
theorem Oa (g : Nat) (v : Value) (S : List Pr) (h b : List UInt8) (hs : Srt S) (hl : S.length ≤ 1000000000) (hb : b.length ≤ 140737488355328) : FnM 84 [.v (ptr g), .arr 32 h, .bs b] [sdO g v, sdR v S] (fun r os' => ∃ v', r = .val (.v (.bool (okN (h, b) S))) ∧ os' = [sdO g v', sdR v' (fO (h, b) S)]) := by
 have hml : (S.map dNd).length = S.length := List.length_map _
 refine FnM.walk 100 Tryz.func84 rfl Tryz.ntmps84 (by simp) fun X => ?_
 repeat
  (first
   | (apply au; iterate 3 rfl) | (apply aj; iterate 3 rfl) | (apply dF; iterate 6 rfl) | (apply dA; rfl; exact I.a; iterate 4 rfl)
   | (apply Qz; rfl; exact I.a; iterate 3 rfl) | (apply oM; iterate 3 rfl) | (apply jD; rfl; rfl; rfl; intro _) | apply EL.nil
   | ((with_reducible apply EK.ah); apply EK.code) | (with_reducible first | apply EC.seq | apply EC.region | apply EC.block))
 rename_i g4
 refine EC.loop (ι := {p : Nat × Nat // p.1 ≤ p.2 ∧ p.2 ≤ S.length ∧ (∀ j, (hj : j < S.length) → j < p.1 → Op.bytesLess S[j].1 h = true) ∧ (∀ j, (hj : j < S.length) → p.2 ≤ j → Op.bytesLess S[j].1 h = false)})
  (fun p => ⟨[(7, .val (.v (.int .i64 (p.1.1 : Int)))), (8, .val (.v (.int .i64 (p.1.2 : Int)))), (0, .val (.v (ptr g))), (2, .val (.bs b)), (4, .val (.v (.pointer (some ⟨g4, 0, none⟩))))], [.var g4 29 (.arr 32 h), sdO g v, sdR v S], []⟩)
  (fun p => p.1.2 - p.1.1) ⟨(0, S.length), Nat.zero_le _, Nat.le_refl _, fun j _ hj => absurd hj (Nat.not_lt_zero _), fun j hj h1 => by dsimp only at h1; omega⟩ ?_ ?_
 ·
  simp only [hml]
  exact Le.kp
 rintro ⟨⟨x, y⟩, hxy, hy, hlo, hhi⟩
 dsimp only at hxy hy hlo hhi ⊢
 by_cases hlt : x < y
 ·
  have hq := Qg (x + y) (by omega)
  obtain ⟨m, hm⟩ : ∃ m, (x + y) / 2 = m := ⟨_, rfl⟩
  rw [hm, Int.natCast_add] at hq
  have hmS : m < S.length := by omega
  have hd : (S.map dNd)[m]? = some (dNd S[m]) := by rw [List.getElem?_map, List.getElem?_eq_getElem hmS]; rfl
  have hL := uM S[m].1 h
  cases hbl : Op.bytesLess S[m].1 h with
  | true =>
   rw [hbl] at hL
   repeat
    (first
     | (apply iU; (iterate 2 rfl); exact hq; iterate 2 rfl) | (apply au; iterate 3 rfl) | (apply aj; iterate 3 rfl)
     | (apply aA (b := true); (iterate 2 rfl); exact aG; iterate 2 rfl) | (apply eU; (iterate 3 rfl); (focus omega); (focus omega); iterate 2 rfl) | apply EL.nil
     | ((with_reducible apply EK.ah); apply EK.code) | (apply EC.cond_true; rfl) | (with_reducible first | apply EC.seq | apply EC.region | apply EC.skip | apply EC.block))
   refine EC.draw 10 (by kernel_rfl) ?_
   simp only [List.take_succ_cons, List.take_zero, List.drop_succ_cons, List.drop_zero]
   repeat
    (first
     | (apply bP (hL); rfl; exact ak.refl _ _; exact enA; iterate 2 rfl)
     | (apply dP (k := m) (off := 0) (d := dNd S[m]) (d' := .arr 32 S[m].1); rfl; (first | exact I0 | exact I1 | exact I2); exact ⟨by simp, hd⟩; iterate 4 rfl)
     | (apply aU; iterate 3 rfl) | (apply bH; iterate 6 rfl) | (apply bT; rfl; exact I.a; iterate 4 rfl) | (apply eP; iterate 3 rfl)
     | (apply jf; rfl; exact I.a; (focus (first | omega | (simp; done) | (simp; omega))); iterate 5 rfl)
     | (apply cO; rfl; exact I.a; (iterate 2 rfl); (focus (first | assumption | omega | (constructor <;> (first | (simp; done) | (simp; omega))))); iterate 2 rfl)
     | ((with_reducible apply EH.nil); rfl))
   repeat
    (first
     | (apply au; iterate 3 rfl) | (apply aj; iterate 3 rfl) | (apply eU; (iterate 3 rfl); (focus omega); (focus omega); iterate 2 rfl) | apply EL.nil
     | ((with_reducible apply EK.ah); apply EK.code) | (apply EC.cond_true; rfl) | (with_reducible first | apply EC.region | apply EK.aF))
   refine EK.again ⟨(m + 1, y), by dsimp only; omega, hy, fun j hj h1 => ?_, hhi⟩ (by dsimp only; omega) ?_
   ·
    dsimp only at h1
    rcases Nat.lt_or_ge j m with h2 | h2
    · exact zL (NV hs hj hmS h2) hbl
    ·
     obtain rfl : j = m := by omega
     exact hbl
   ·
    simp only [Int.natCast_add]
    exact Le.kp
  | false =>
   rw [hbl] at hL
   repeat
    (first
     | (apply iU; (iterate 2 rfl); exact hq; iterate 2 rfl) | (apply au; iterate 3 rfl) | (apply aj; iterate 3 rfl)
     | (apply aA (b := true); (iterate 2 rfl); exact aG; iterate 2 rfl) | (apply eU; (iterate 3 rfl); (focus omega); (focus omega); iterate 2 rfl) | apply EL.nil
     | ((with_reducible apply EK.ah); apply EK.code) | (apply EC.cond_true; rfl) | (with_reducible first | apply EC.seq | apply EC.region | apply EC.skip | apply EC.block))
   refine EC.draw 10 (by kernel_rfl) ?_
   simp only [List.take_succ_cons, List.take_zero, List.drop_succ_cons, List.drop_zero]
   repeat
    (first
     | (apply bP (hL); rfl; exact ak.refl _ _; exact enA; iterate 2 rfl)
     | (apply dP (k := m) (off := 0) (d := dNd S[m]) (d' := .arr 32 S[m].1); rfl; (first | exact I0 | exact I1 | exact I2); exact ⟨by simp, hd⟩; iterate 4 rfl)
     | (apply aU; iterate 3 rfl) | (apply bH; iterate 6 rfl) | (apply bT; rfl; exact I.a; iterate 4 rfl) | (apply eP; iterate 3 rfl)
     | (apply jf; rfl; exact I.a; (focus (first | omega | (simp; done) | (simp; omega))); iterate 5 rfl)
     | (apply cO; rfl; exact I.a; (iterate 2 rfl); (focus (first | assumption | omega | (constructor <;> (first | (simp; done) | (simp; omega))))); iterate 2 rfl)
     | ((with_reducible apply EH.nil); rfl))
   repeat
    (first
     | (apply au; iterate 3 rfl) | (apply aj; iterate 3 rfl) | apply EL.nil | ((with_reducible apply EK.ah); apply EK.code) | (apply EC.cond_false; rfl)
     | (with_reducible first | apply EC.region | apply EK.aF))
   refine EK.again ⟨(x, m), by dsimp only; omega, by dsimp only; omega, hlo, fun j hj h1 => ?_⟩ (by dsimp only; omega) ?_
   ·
    dsimp only at h1
    rcases Nat.lt_or_ge m j with h2 | h2
    ·
     cases hc : Op.bytesLess S[j].1 h with
     | false => rfl
     | true => exact absurd (zL (NV hs hmS hj h2) hc) (by rw [hbl]; decide)
    ·
     obtain rfl : j = m := by omega
     exact hbl
   · exact Le.kp
 ·
  obtain rfl : x = y := by omega
  obtain ⟨hpN, hoN⟩ := JY (h, b) S x hy (fun j hj h1 => hlo j hj h1) (fun hj => hhi x hj (Nat.le_refl _))
  by_cases hxl : x < S.length
  ·
   have hd : (S.map dNd)[x]? = some (dNd S[x]) := by rw [List.getElem?_map, List.getElem?_eq_getElem hxl]; rfl
   rw [List.drop_eq_getElem_cons hxl] at hpN hoN
   have hw := (jd S[x].1 h).1
   dsimp only at hpN hoN
   cases hq : (S[x].1 == h) with
   | true =>
    rw [hq] at hw hpN hoN
    rw [if_pos rfl, ← List.drop_eq_getElem_cons hxl, List.take_append_drop] at hpN
    rw [if_pos rfl] at hoN
    have hbs := (oK S[x].2 b).1
    rw [hpN, hoN]
    repeat
     (first
      | (apply au; iterate 3 rfl) | (apply aA (b := false); (iterate 2 rfl); exact aG; iterate 2 rfl) | apply EL.nil | ((with_reducible apply EK.ah); apply EK.code)
      | (apply EC.cond_false; rfl) | (with_reducible first | apply EC.seq | apply EC.region | apply EC.exit | apply EK.aZ | apply EK.aH))
    refine EC.draw 19 (by kernel_rfl) ?_
    simp only [List.take_succ_cons, List.take_zero, List.drop_succ_cons, List.drop_zero]
    repeat
     (first
      | (apply fK; (iterate 2 rfl); exact hw; iterate 2 rfl)
      | (apply dP (k := x) (off := 0) (d := dNd S[x]) (d' := .arr 32 S[x].1); rfl; (first | exact I0 | exact I1 | exact I2); exact ⟨by simp, hd⟩; iterate 4 rfl)
      | (apply aU; iterate 3 rfl) | (apply bH; iterate 6 rfl) | (apply dX; iterate 4 rfl) | (apply bT; rfl; exact I.a; iterate 4 rfl)
      | (apply gy (b := true); (iterate 2 rfl); exact aG; iterate 2 rfl) | (apply Aa; rfl; exact I.a; iterate 3 rfl) | (apply eP; iterate 3 rfl)
      | (apply jf; rfl; exact I.a; (focus (first | omega | (simp; done) | (simp; omega))); iterate 5 rfl)
      | (apply cO; rfl; exact I.a; (iterate 2 rfl); (focus (first | assumption | omega | (constructor <;> (first | (simp; done) | (simp; omega))))); iterate 2 rfl)
      | ((with_reducible apply EH.nil); rfl))
    repeat
     (first
      | apply EL.nil | ((with_reducible apply EK.ah); apply EK.code) | (apply EC.cond_true; rfl) | (with_reducible apply EC.seq))
    refine EC.draw 13 (by kernel_rfl) ?_
    simp only [List.take_succ_cons, List.take_zero, List.drop_succ_cons, List.drop_zero]
    repeat
     (first
      | (apply fK; (iterate 2 rfl); exact hbs; iterate 2 rfl)
      | (apply dP (k := x) (off := 32) (d := dNd S[x]) (d' := .bs S[x].2); rfl; (first | exact I0 | exact I1 | exact I2); exact ⟨by simp, hd⟩; iterate 4 rfl)
      | (apply aU; iterate 3 rfl) | (apply iE; iterate 3 rfl) | (apply bH; iterate 6 rfl) | (apply bT; rfl; exact I.a; iterate 4 rfl)
      | (apply rW; iterate 3 rfl) | (apply eP; iterate 3 rfl) | (apply jf; rfl; exact I.a; (focus (first | omega | (simp; done) | (simp; omega))); iterate 5 rfl)
      | (apply cO; rfl; exact I.a; (iterate 2 rfl); (focus (first | assumption | omega | (constructor <;> (first | (simp; done) | (simp; omega))))); iterate 2 rfl)
      | ((with_reducible apply EH.nil); rfl))
    repeat
     (first
      | apply EL.nil | ((with_reducible apply EK.ah); apply EK.code) | (with_reducible first | apply EC.ret | apply EK.aI))
    exact EK.fM [sdO g v, sdR v S] rfl rfl (by (repeat first | exact List.nil_sublist _ | apply List.Sublist.cons_cons | apply List.Sublist.cons)) ⟨v, rfl, rfl⟩
   | false =>
    rw [hq] at hw hpN hoN
    rw [if_neg (show ¬ (false = true) from Bool.false_ne_true), ← List.drop_eq_getElem_cons hxl] at hpN
    rw [if_neg (show ¬ (false = true) from Bool.false_ne_true)] at hoN
    repeat
     (first
      | (apply au; iterate 3 rfl) | (apply aA (b := false); (iterate 2 rfl); exact aG; iterate 2 rfl) | apply EL.nil | ((with_reducible apply EK.ah); apply EK.code)
      | (apply EC.cond_false; rfl) | (with_reducible first | apply EC.seq | apply EC.region | apply EC.exit | apply EK.aZ | apply EK.aH))
    refine EC.draw 19 (by kernel_rfl) ?_
    simp only [List.take_succ_cons, List.take_zero, List.drop_succ_cons, List.drop_zero]
    repeat
     (first
      | (apply fK; (iterate 2 rfl); exact hw; iterate 2 rfl)
      | (apply dP (k := x) (off := 0) (d := dNd S[x]) (d' := .arr 32 S[x].1); rfl; (first | exact I0 | exact I1 | exact I2); exact ⟨by simp, hd⟩; iterate 4 rfl)
      | (apply aU; iterate 3 rfl) | (apply bH; iterate 6 rfl) | (apply dX; iterate 4 rfl) | (apply bT; rfl; exact I.a; iterate 4 rfl)
      | (apply gy (b := true); (iterate 2 rfl); exact aG; iterate 2 rfl) | (apply Aa; rfl; exact I.a; iterate 3 rfl) | (apply eP; iterate 3 rfl)
      | (apply jf; rfl; exact I.a; (focus (first | omega | (simp; done) | (simp; omega))); iterate 5 rfl)
      | (apply cO; rfl; exact I.a; (iterate 2 rfl); (focus (first | assumption | omega | (constructor <;> (first | (simp; done) | (simp; omega))))); iterate 2 rfl)
      | ((with_reducible apply EH.nil); rfl))
    have hds1 : (S.map dNd ++ [D.tup [.arr 32 zero32, .v (.slice none 0 0)]]).length = S.length + 1 := by rw [List.length_append, hml]; rfl
    have hfin := AL S x hy (D.tup [.arr 32 zero32, .v (.slice none 0 0)]) (dNd (h, b))
    have hgx : (((S.map dNd ++ [D.tup [.arr 32 zero32, .v (.slice none 0 0)]]).take (x + 1)) ++ ((S.map dNd ++ [D.tup [.arr 32 zero32, .v (.slice none 0 0)]]).drop x).take (S.length + 1 - (x + 1)))[x]? = some (dNd S[x]) := by
     rw [List.getElem?_append_left (by rw [List.length_take, hds1]; omega), List.getElem?_take_of_lt (by omega)]
     rw [List.getElem?_append_left (by rw [hml]; exact hxl)]
     exact hd
    have hmap : (fO (h, b) S).map dNd = (S.take x).map dNd ++ dNd (h, b) :: (S.drop x).map dNd := by
     rw [hpN]
     simp
    rw [hoN]
    repeat
     (first
      | (apply au; iterate 3 rfl) | (apply dF; iterate 6 rfl) | (apply dA; rfl; exact I.a; iterate 4 rfl) | (apply fE; iterate 7 rfl)
      | (apply jo; iterate 9 rfl) | (apply oM; iterate 3 rfl) | (apply aO; rfl; (focus (repeat first | exact .z | apply aY.s | apply aN.s)); iterate 4 rfl)
      | ((apply fJ; rfl; (focus (repeat first | exact .z | apply aY.s | apply aN.s)); (iterate 5 rfl); (focus (constructor <;> (first | (simp; done) | (simp; omega))))); intro _)
      | apply EL.nil | ((with_reducible apply EK.ah); apply EK.code) | (apply EC.cond_false; rfl) | (with_reducible first | apply EC.seq | apply EC.region | apply EC.skip))
    rename_i v2
    refine EC.le (Le.pick [2, 0, 1] [_, _, _] rfl (by decide) rfl) ?_
    refine EC.PX 14 [0, 1, 2, 3, 4, 5, 7, 8, 9, 10, 11] [6, 12, 13] [_] _ (by kernel_rfl) (by kernel_rfl) rfl ?_
    simp only [aQ, List.filterMap_cons, List.filterMap_nil, List.getElem?_cons_zero, List.getElem?_cons_succ]
    repeat
     (first
      | (apply aU; iterate 3 rfl) | (apply bH; iterate 6 rfl) | (apply bT; rfl; exact I.a; iterate 4 rfl)
      | (apply mF; (iterate 3 rfl); (focus omega); (focus omega); iterate 2 rfl) | (apply eP; iterate 3 rfl))
    refine EM.nil ?_
    repeat (first | rw [List.cons_append] | rw [List.nil_append])
    refine CT.pick [6, 12] (by kernel_rfl) fun k hk => ?_
    rcases (show k = 6 ∨ k = 12 by simpa using hk) with rfl | rfl
    all_goals clear hk
    ·
     skip
     simp only [aQ, List.filterMap_cons, List.filterMap_nil, List.getElem?_cons_zero, List.getElem?_cons_succ]
     refine CH.cut 1 ?_
     simp only [List.take_succ_cons, List.take_zero, List.drop_succ_cons, List.drop_zero]
     (apply EH.still; apply kL (i := 0); (iterate 5 rfl); exact ⟨by omega, by rw [hds1]; omega⟩; iterate 3 rfl)
     refine EM.nil ?_
     repeat (first | rw [List.cons_append] | rw [List.nil_append])
     refine CH.nil ?_
     refine CT.pick [12] (by kernel_rfl) fun k hk => ?_
     obtain rfl : k = 12 := (by simpa using hk)
     clear hk
     simp only [aQ, List.filterMap_cons, List.filterMap_nil, List.getElem?_cons_zero, List.getElem?_cons_succ]
     refine CH.cut 1 ?_
     simp only [List.take_succ_cons, List.take_zero, List.drop_succ_cons, List.drop_zero]
     (apply EH.still; apply kL (i := 0); (iterate 5 rfl); exact ⟨by omega, by rw [hds1]; omega⟩; iterate 3 rfl)
     refine EM.nil ?_
     repeat (first | rw [List.cons_append] | rw [List.nil_append])
     refine CH.nil ?_
     refine CT.pick [13] (by kernel_rfl) fun k hk => ?_
     obtain rfl : k = 13 := (by simpa using hk)
     clear hk
     simp only [aQ, List.filterMap_cons, List.filterMap_nil, List.getElem?_cons_zero, List.getElem?_cons_succ]
     refine CH.mut (os := [_]) (rest := []) rfl rfl (Dy rfl (qP (k := x) rfl rfl rfl rfl rfl (by rw [hds1]; omega))) ?_
     rintro _ _ ⟨rfl, rfl⟩
     try simp only [St.put]
     repeat (first | rw [List.cons_append] | rw [List.nil_append])
     refine CH.nil ?_
     refine CT.nil ?_
     rw [hds1]
     repeat
      (first
       | apply EL.nil | ((with_reducible apply EK.ah); apply EK.code) | (with_reducible apply EC.seq))
     generalize ((S.map dNd ++ [D.tup [.arr 32 zero32, .v (.slice none 0 0)]]).take (x + 1)) ++ ((S.map dNd ++ [D.tup [.arr 32 zero32, .v (.slice none 0 0)]]).drop x).take (S.length + 1 - (x + 1)) = Z at hfin hgx ⊢
     have hxZ : x < Z.length := (List.getElem?_eq_some_iff.1 hgx).1
     refine EC.jm 11 [0, 1, 2, 3, 4, 5, 6, 7, 8] [9, 10] [_] _ (by kernel_rfl) (by kernel_rfl) rfl ?_
     simp only [aQ, List.filterMap_cons, List.filterMap_nil, List.getElem?_cons_zero, List.getElem?_cons_succ]
     repeat
      (first
       | (apply EH.grow (xO rfl rfl hb); rfl; rfl; rfl) | (apply aU; iterate 3 rfl) | (apply bH; iterate 6 rfl)
       | (apply bT; rfl; exact I.a; iterate 4 rfl) | (apply iL; iterate 7 rfl) | (apply eP; iterate 3 rfl))
     refine EM.nil ?_
     repeat (first | rw [List.cons_append] | rw [List.nil_append])
     refine CH.cut 1 ?_
     simp only [List.take_succ_cons, List.take_zero, List.drop_succ_cons, List.drop_zero]
     repeat
      (first
       | (apply cO; rfl; exact I0; rfl; rfl; exact ⟨by omega, by rw [Int.toNat_natCast]; exact hxZ⟩; iterate 2 rfl))
     refine EM.nil ?_
     repeat (first | rw [List.cons_append] | rw [List.nil_append])
     refine CH.mut (os := [_]) (rest := []) rfl rfl (jl (dh (k := x) (off := 0) (d := (dNd S[x])) (d'' := dNd (h, b)) ⟨by rw [Int.toNat_natCast]; rfl, hgx⟩ rfl rfl rfl rfl rfl)) ?_
     rintro _ _ ⟨rfl, rfl⟩
     try simp only [St.put]
     repeat (first | rw [List.cons_append] | rw [List.nil_append])
     refine CH.nil ?_
     try simp only [List.drop_succ_cons, List.drop_zero]
     rw [hfin, ← hmap]
     repeat
      (first
       | (apply aj; iterate 3 rfl) | apply EL.nil | ((with_reducible apply EK.ah); apply EK.code) | (with_reducible first | apply EC.seq | apply EC.region | apply EC.ret))
     refine EK.le (Le.pick [2, 0, 1] [_, _, _] rfl (by decide) rfl) ?_
     exact EK.fM [sdO g v2, sdR v2 (fO (h, b) S)] rfl rfl (by (repeat first | exact List.nil_sublist _ | apply List.Sublist.cons_cons | apply List.Sublist.cons)) ⟨v2, rfl, rfl⟩
    ·
     skip
     simp only [aQ, List.filterMap_cons, List.filterMap_nil, List.getElem?_cons_zero, List.getElem?_cons_succ]
     refine CH.cut 1 ?_
     simp only [List.take_succ_cons, List.take_zero, List.drop_succ_cons, List.drop_zero]
     (apply EH.still; apply kL (i := 0); (iterate 5 rfl); exact ⟨by omega, by rw [hds1]; omega⟩; iterate 3 rfl)
     refine EM.nil ?_
     repeat (first | rw [List.cons_append] | rw [List.nil_append])
     refine CH.nil ?_
     refine CT.pick [6] (by kernel_rfl) fun k hk => ?_
     obtain rfl : k = 6 := (by simpa using hk)
     clear hk
     simp only [aQ, List.filterMap_cons, List.filterMap_nil, List.getElem?_cons_zero, List.getElem?_cons_succ]
     refine CH.cut 1 ?_
     simp only [List.take_succ_cons, List.take_zero, List.drop_succ_cons, List.drop_zero]
     (apply EH.still; apply kL (i := 0); (iterate 5 rfl); exact ⟨by omega, by rw [hds1]; omega⟩; iterate 3 rfl)
     refine EM.nil ?_
     repeat (first | rw [List.cons_append] | rw [List.nil_append])
     refine CH.nil ?_
     refine CT.pick [13] (by kernel_rfl) fun k hk => ?_
     obtain rfl : k = 13 := (by simpa using hk)
     clear hk
     simp only [aQ, List.filterMap_cons, List.filterMap_nil, List.getElem?_cons_zero, List.getElem?_cons_succ]
     refine CH.mut (os := [_]) (rest := []) rfl rfl (Dy rfl (qP (k := x) rfl rfl rfl rfl rfl (by rw [hds1]; omega))) ?_
     rintro _ _ ⟨rfl, rfl⟩
     try simp only [St.put]
     repeat (first | rw [List.cons_append] | rw [List.nil_append])
     refine CH.nil ?_
     refine CT.nil ?_
     rw [hds1]
     repeat
      (first
       | apply EL.nil | ((with_reducible apply EK.ah); apply EK.code) | (with_reducible apply EC.seq))
     generalize ((S.map dNd ++ [D.tup [.arr 32 zero32, .v (.slice none 0 0)]]).take (x + 1)) ++ ((S.map dNd ++ [D.tup [.arr 32 zero32, .v (.slice none 0 0)]]).drop x).take (S.length + 1 - (x + 1)) = Z at hfin hgx ⊢
     have hxZ : x < Z.length := (List.getElem?_eq_some_iff.1 hgx).1
     refine EC.jm 11 [0, 1, 2, 3, 4, 5, 6, 7, 8] [9, 10] [_] _ (by kernel_rfl) (by kernel_rfl) rfl ?_
     simp only [aQ, List.filterMap_cons, List.filterMap_nil, List.getElem?_cons_zero, List.getElem?_cons_succ]
     repeat
      (first
       | (apply EH.grow (xO rfl rfl hb); rfl; rfl; rfl) | (apply aU; iterate 3 rfl) | (apply bH; iterate 6 rfl)
       | (apply bT; rfl; exact I.a; iterate 4 rfl) | (apply iL; iterate 7 rfl) | (apply eP; iterate 3 rfl))
     refine EM.nil ?_
     repeat (first | rw [List.cons_append] | rw [List.nil_append])
     refine CH.cut 1 ?_
     simp only [List.take_succ_cons, List.take_zero, List.drop_succ_cons, List.drop_zero]
     repeat
      (first
       | (apply cO; rfl; exact I0; rfl; rfl; exact ⟨by omega, by rw [Int.toNat_natCast]; exact hxZ⟩; iterate 2 rfl))
     refine EM.nil ?_
     repeat (first | rw [List.cons_append] | rw [List.nil_append])
     refine CH.mut (os := [_]) (rest := []) rfl rfl (jl (dh (k := x) (off := 0) (d := (dNd S[x])) (d'' := dNd (h, b)) ⟨by rw [Int.toNat_natCast]; rfl, hgx⟩ rfl rfl rfl rfl rfl)) ?_
     rintro _ _ ⟨rfl, rfl⟩
     try simp only [St.put]
     repeat (first | rw [List.cons_append] | rw [List.nil_append])
     refine CH.nil ?_
     try simp only [List.drop_succ_cons, List.drop_zero]
     rw [hfin, ← hmap]
     repeat
      (first
       | (apply aj; iterate 3 rfl) | apply EL.nil | ((with_reducible apply EK.ah); apply EK.code) | (with_reducible first | apply EC.seq | apply EC.region | apply EC.ret))
     refine EK.le (Le.pick [2, 0, 1] [_, _, _] rfl (by decide) rfl) ?_
     exact EK.fM [sdO g v2, sdR v2 (fO (h, b) S)] rfl rfl (by (repeat first | exact List.nil_sublist _ | apply List.Sublist.cons_cons | apply List.Sublist.cons)) ⟨v2, rfl, rfl⟩
  ·
   have hxe : x = S.length := by omega
   rw [show S.drop x = [] by rw [List.drop_eq_nil_of_le (by omega)]] at hoN
   replace hpN : fO (h, b) S = S.take x ++ (h, b) :: S.drop x := by rw [hpN, List.drop_eq_nil_of_le (by omega)]
   dsimp only at hoN
   repeat
    (first
     | (apply au; iterate 3 rfl) | (apply aA (b := false); (iterate 2 rfl); exact aG; iterate 2 rfl) | apply EL.nil | ((with_reducible apply EK.ah); apply EK.code)
     | (apply EC.cond_false; rfl) | (with_reducible first | apply EC.seq | apply EC.region | apply EC.exit | apply EK.aZ | apply EK.aH))
   refine EC.draw 19 (by kernel_rfl) ?_
   simp only [List.take_succ_cons, List.take_zero, List.drop_succ_cons, List.drop_zero]
   repeat
    (first
     | (apply jI; iterate 2 rfl) | (apply aU; iterate 3 rfl) | (apply bH; iterate 6 rfl) | (apply dX; iterate 4 rfl)
     | (apply bT; rfl; exact I.a; iterate 4 rfl) | (apply gy (b := false); (iterate 2 rfl); exact aG; iterate 2 rfl)
     | (apply Aa; rfl; exact I.a; iterate 3 rfl) | (apply eP; iterate 3 rfl) | ((with_reducible apply EH.nil); rfl))
   have hds1 : (S.map dNd ++ [D.tup [.arr 32 zero32, .v (.slice none 0 0)]]).length = S.length + 1 := by rw [List.length_append, hml]; rfl
   have hfin := AL S x hy (D.tup [.arr 32 zero32, .v (.slice none 0 0)]) (dNd (h, b))
   have hgx : (((S.map dNd ++ [D.tup [.arr 32 zero32, .v (.slice none 0 0)]]).take (x + 1)) ++ ((S.map dNd ++ [D.tup [.arr 32 zero32, .v (.slice none 0 0)]]).drop x).take (S.length + 1 - (x + 1)))[x]? = some (D.tup [.arr 32 zero32, .v (.slice none 0 0)]) := by
    rw [List.getElem?_append_left (by rw [List.length_take, hds1]; omega), List.getElem?_take_of_lt (by omega)]
    rw [List.getElem?_append_right (by omega), hml, hxe, Nat.sub_self]
    rfl
   have hmap : (fO (h, b) S).map dNd = (S.take x).map dNd ++ dNd (h, b) :: (S.drop x).map dNd := by
    rw [hpN]
    simp
   rw [hoN]
   repeat
    (first
     | (apply au; iterate 3 rfl) | (apply dF; iterate 6 rfl) | (apply dA; rfl; exact I.a; iterate 4 rfl) | (apply fE; iterate 7 rfl)
     | (apply jo; iterate 9 rfl) | (apply oM; iterate 3 rfl) | (apply aO; rfl; (focus (repeat first | exact .z | apply aY.s | apply aN.s)); iterate 4 rfl)
     | ((apply fJ; rfl; (focus (repeat first | exact .z | apply aY.s | apply aN.s)); (iterate 5 rfl); (focus (constructor <;> (first | (simp; done) | (simp; omega))))); intro _)
     | apply EL.nil | ((with_reducible apply EK.ah); apply EK.code) | (apply EC.cond_false; rfl) | (with_reducible first | apply EC.seq | apply EC.region | apply EC.skip))
   rename_i v2
   refine EC.le (Le.pick [2, 0, 1] [_, _, _] rfl (by decide) rfl) ?_
   refine EC.PX 14 [0, 1, 2, 3, 4, 5, 7, 8, 9, 10, 11] [6, 12, 13] [_] _ (by kernel_rfl) (by kernel_rfl) rfl ?_
   simp only [aQ, List.filterMap_cons, List.filterMap_nil, List.getElem?_cons_zero, List.getElem?_cons_succ]
   repeat
    (first
     | (apply aU; iterate 3 rfl) | (apply bH; iterate 6 rfl) | (apply bT; rfl; exact I.a; iterate 4 rfl)
     | (apply mF; (iterate 3 rfl); (focus omega); (focus omega); iterate 2 rfl) | (apply eP; iterate 3 rfl))
   refine EM.nil ?_
   repeat (first | rw [List.cons_append] | rw [List.nil_append])
   refine CT.pick [6, 12] (by kernel_rfl) fun k hk => ?_
   rcases (show k = 6 ∨ k = 12 by simpa using hk) with rfl | rfl
   all_goals clear hk
   ·
    skip
    simp only [aQ, List.filterMap_cons, List.filterMap_nil, List.getElem?_cons_zero, List.getElem?_cons_succ]
    refine CH.cut 1 ?_
    simp only [List.take_succ_cons, List.take_zero, List.drop_succ_cons, List.drop_zero]
    (apply EH.still; apply kL (i := 0); (iterate 5 rfl); exact ⟨by omega, by rw [hds1]; omega⟩; iterate 3 rfl)
    refine EM.nil ?_
    repeat (first | rw [List.cons_append] | rw [List.nil_append])
    refine CH.nil ?_
    refine CT.pick [12] (by kernel_rfl) fun k hk => ?_
    obtain rfl : k = 12 := (by simpa using hk)
    clear hk
    simp only [aQ, List.filterMap_cons, List.filterMap_nil, List.getElem?_cons_zero, List.getElem?_cons_succ]
    refine CH.cut 1 ?_
    simp only [List.take_succ_cons, List.take_zero, List.drop_succ_cons, List.drop_zero]
    (apply EH.still; apply kL (i := 0); (iterate 5 rfl); exact ⟨by omega, by rw [hds1]; omega⟩; iterate 3 rfl)
    refine EM.nil ?_
    repeat (first | rw [List.cons_append] | rw [List.nil_append])
    refine CH.nil ?_
    refine CT.pick [13] (by kernel_rfl) fun k hk => ?_
    obtain rfl : k = 13 := (by simpa using hk)
    clear hk
    simp only [aQ, List.filterMap_cons, List.filterMap_nil, List.getElem?_cons_zero, List.getElem?_cons_succ]
    refine CH.mut (os := [_]) (rest := []) rfl rfl (Dy rfl (qP (k := x) rfl rfl rfl rfl rfl (by rw [hds1]; omega))) ?_
    rintro _ _ ⟨rfl, rfl⟩
    try simp only [St.put]
    repeat (first | rw [List.cons_append] | rw [List.nil_append])
    refine CH.nil ?_
    refine CT.nil ?_
    rw [hds1]
    repeat
     (first
      | apply EL.nil | ((with_reducible apply EK.ah); apply EK.code) | (with_reducible apply EC.seq))
    generalize ((S.map dNd ++ [D.tup [.arr 32 zero32, .v (.slice none 0 0)]]).take (x + 1)) ++ ((S.map dNd ++ [D.tup [.arr 32 zero32, .v (.slice none 0 0)]]).drop x).take (S.length + 1 - (x + 1)) = Z at hfin hgx ⊢
    have hxZ : x < Z.length := (List.getElem?_eq_some_iff.1 hgx).1
    refine EC.jm 11 [0, 1, 2, 3, 4, 5, 6, 7, 8] [9, 10] [_] _ (by kernel_rfl) (by kernel_rfl) rfl ?_
    simp only [aQ, List.filterMap_cons, List.filterMap_nil, List.getElem?_cons_zero, List.getElem?_cons_succ]
    repeat
     (first
      | (apply EH.grow (xO rfl rfl hb); rfl; rfl; rfl) | (apply aU; iterate 3 rfl) | (apply bH; iterate 6 rfl)
      | (apply bT; rfl; exact I.a; iterate 4 rfl) | (apply iL; iterate 7 rfl) | (apply eP; iterate 3 rfl))
    refine EM.nil ?_
    repeat (first | rw [List.cons_append] | rw [List.nil_append])
    refine CH.cut 1 ?_
    simp only [List.take_succ_cons, List.take_zero, List.drop_succ_cons, List.drop_zero]
    repeat
     (first
      | (apply cO; rfl; exact I0; rfl; rfl; exact ⟨by omega, by rw [Int.toNat_natCast]; exact hxZ⟩; iterate 2 rfl))
    refine EM.nil ?_
    repeat (first | rw [List.cons_append] | rw [List.nil_append])
    refine CH.mut (os := [_]) (rest := []) rfl rfl (jl (dh (k := x) (off := 0) (d := (D.tup [.arr 32 zero32, .v (.slice none 0 0)])) (d'' := dNd (h, b)) ⟨by rw [Int.toNat_natCast]; rfl, hgx⟩ rfl rfl rfl rfl rfl)) ?_
    rintro _ _ ⟨rfl, rfl⟩
    try simp only [St.put]
    repeat (first | rw [List.cons_append] | rw [List.nil_append])
    refine CH.nil ?_
    try simp only [List.drop_succ_cons, List.drop_zero]
    rw [hfin, ← hmap]
    repeat
     (first
      | (apply aj; iterate 3 rfl) | apply EL.nil | ((with_reducible apply EK.ah); apply EK.code) | (with_reducible first | apply EC.seq | apply EC.region | apply EC.ret))
    refine EK.le (Le.pick [2, 0, 1] [_, _, _] rfl (by decide) rfl) ?_
    exact EK.fM [sdO g v2, sdR v2 (fO (h, b) S)] rfl rfl (by (repeat first | exact List.nil_sublist _ | apply List.Sublist.cons_cons | apply List.Sublist.cons)) ⟨v2, rfl, rfl⟩
   ·
    skip
    simp only [aQ, List.filterMap_cons, List.filterMap_nil, List.getElem?_cons_zero, List.getElem?_cons_succ]
    refine CH.cut 1 ?_
    simp only [List.take_succ_cons, List.take_zero, List.drop_succ_cons, List.drop_zero]
    (apply EH.still; apply kL (i := 0); (iterate 5 rfl); exact ⟨by omega, by rw [hds1]; omega⟩; iterate 3 rfl)
    refine EM.nil ?_
    repeat (first | rw [List.cons_append] | rw [List.nil_append])
    refine CH.nil ?_
    refine CT.pick [6] (by kernel_rfl) fun k hk => ?_
    obtain rfl : k = 6 := (by simpa using hk)
    clear hk
    simp only [aQ, List.filterMap_cons, List.filterMap_nil, List.getElem?_cons_zero, List.getElem?_cons_succ]
    refine CH.cut 1 ?_
    simp only [List.take_succ_cons, List.take_zero, List.drop_succ_cons, List.drop_zero]
    (apply EH.still; apply kL (i := 0); (iterate 5 rfl); exact ⟨by omega, by rw [hds1]; omega⟩; iterate 3 rfl)
    refine EM.nil ?_
    repeat (first | rw [List.cons_append] | rw [List.nil_append])
    refine CH.nil ?_
    refine CT.pick [13] (by kernel_rfl) fun k hk => ?_
    obtain rfl : k = 13 := (by simpa using hk)
    clear hk
    simp only [aQ, List.filterMap_cons, List.filterMap_nil, List.getElem?_cons_zero, List.getElem?_cons_succ]
    refine CH.mut (os := [_]) (rest := []) rfl rfl (Dy rfl (qP (k := x) rfl rfl rfl rfl rfl (by rw [hds1]; omega))) ?_
    rintro _ _ ⟨rfl, rfl⟩
    try simp only [St.put]
    repeat (first | rw [List.cons_append] | rw [List.nil_append])
    refine CH.nil ?_
    refine CT.nil ?_
    rw [hds1]
    repeat
     (first
      | apply EL.nil | ((with_reducible apply EK.ah); apply EK.code) | (with_reducible apply EC.seq))
    generalize ((S.map dNd ++ [D.tup [.arr 32 zero32, .v (.slice none 0 0)]]).take (x + 1)) ++ ((S.map dNd ++ [D.tup [.arr 32 zero32, .v (.slice none 0 0)]]).drop x).take (S.length + 1 - (x + 1)) = Z at hfin hgx ⊢
    have hxZ : x < Z.length := (List.getElem?_eq_some_iff.1 hgx).1
    refine EC.jm 11 [0, 1, 2, 3, 4, 5, 6, 7, 8] [9, 10] [_] _ (by kernel_rfl) (by kernel_rfl) rfl ?_
    simp only [aQ, List.filterMap_cons, List.filterMap_nil, List.getElem?_cons_zero, List.getElem?_cons_succ]
    repeat
     (first
      | (apply EH.grow (xO rfl rfl hb); rfl; rfl; rfl) | (apply aU; iterate 3 rfl) | (apply bH; iterate 6 rfl)
      | (apply bT; rfl; exact I.a; iterate 4 rfl) | (apply iL; iterate 7 rfl) | (apply eP; iterate 3 rfl))
    refine EM.nil ?_
    repeat (first | rw [List.cons_append] | rw [List.nil_append])
    refine CH.cut 1 ?_
    simp only [List.take_succ_cons, List.take_zero, List.drop_succ_cons, List.drop_zero]
    repeat
     (first
      | (apply cO; rfl; exact I0; rfl; rfl; exact ⟨by omega, by rw [Int.toNat_natCast]; exact hxZ⟩; iterate 2 rfl))
    refine EM.nil ?_
    repeat (first | rw [List.cons_append] | rw [List.nil_append])
    refine CH.mut (os := [_]) (rest := []) rfl rfl (jl (dh (k := x) (off := 0) (d := (D.tup [.arr 32 zero32, .v (.slice none 0 0)])) (d'' := dNd (h, b)) ⟨by rw [Int.toNat_natCast]; rfl, hgx⟩ rfl rfl rfl rfl rfl)) ?_
    rintro _ _ ⟨rfl, rfl⟩
    try simp only [St.put]
    repeat (first | rw [List.cons_append] | rw [List.nil_append])
    refine CH.nil ?_
    try simp only [List.drop_succ_cons, List.drop_zero]
    rw [hfin, ← hmap]
    repeat
     (first
      | (apply aj; iterate 3 rfl) | apply EL.nil | ((with_reducible apply EK.ah); apply EK.code) | (with_reducible first | apply EC.seq | apply EC.region | apply EC.ret))
    refine EK.le (Le.pick [2, 0, 1] [_, _, _] rfl (by decide) rfl) ?_
    exact EK.fM [sdO g v2, sdR v2 (fO (h, b) S)] rfl rfl (by (repeat first | exact List.nil_sublist _ | apply List.Sublist.cons_cons | apply List.Sublist.cons)) ⟨v2, rfl, rfl⟩
abbrev oB (g gs : Nat) (ns : List Pr) (c : Bool) : Obj := .var g 152 (.tup [.sl 33 (ns.map dNd), .v (ptr gs), .v (.bool c)])
theorem Vd (g gs : Nat) (ns : List Pr) (c : Bool) (v : Value) (S : List Pr) (x : List UInt8) (hs : Srt S) (hl : ns.length ≤ 1000000000) (hS : S.length ≤ 1000000000) (hx : x.length ≤ 1099511627776) :
  FnM 79 [.v (ptr g), .bs x] [oB g gs ns c, sdO gs v, sdR v S] (fun r os' => ∃ v', r = .val (.arr 32 (hash x)) ∧ os' = [oB g gs (fO (hash x, x) ns) (c || !okN (hash x, x) S), sdO gs v', sdR v' (fO (hash x, x) S)]) := by
 have hK := nP x hx
 have hP := BU ns (hash x, x) hl
 have hA := Oa gs v S (hash x) x hs hS (by omega)
 have hnl := (KF (T := 37) (by kernel_rfl) (some ⟨gs, 0, none⟩)).2
 refine FnM.walk 38 Tryz.func79 rfl Tryz.ntmps79 (by simp) fun X => ?_
 repeat
  (first
   | (apply aJ (hK); rfl; exact ak.refl _ _; exact enA; iterate 2 rfl) | (apply au; iterate 3 rfl) | (apply aV; rfl; rfl; rfl; intro _)
   | (apply aO; rfl; (focus (repeat first | exact .z | apply aY.s | apply aN.s)); iterate 4 rfl) | apply EL.nil | ((with_reducible apply EK.ah); apply EK.code)
   | (with_reducible first | apply EC.seq | apply EC.region))
 refine EC.le (Le.pick [3, 4, 0, 1, 2] [_, _, _, _, _] rfl (by decide) rfl) ?_
 refine EC.jm 15 [0, 1, 2, 3, 4, 5, 6, 7, 8, 9, 10, 11] [12, 13, 14] [_, _] _ (by kernel_rfl) (by kernel_rfl) rfl ?_
 simp only [aQ, List.filterMap_cons, List.filterMap_nil, List.getElem?_cons_zero, List.getElem?_cons_succ]
 repeat
  (first
   | (apply fK; (iterate 2 rfl); exact hnl; iterate 2 rfl) | (apply aU; iterate 3 rfl) | (apply bH; iterate 6 rfl)
   | (apply bT; rfl; exact I.a; iterate 4 rfl) | (apply eP; iterate 3 rfl))
 refine EM.nil ?_
 repeat (first | rw [List.cons_append] | rw [List.nil_append])
 refine CH.mut (os := [_, _]) (rest := []) rfl rfl (Jd hA rfl rfl (ak.refl _ _) (by intro _ _; simp [go_sem])) ?_
 rintro _ _ ⟨v', rfl, rfl⟩
 try simp only [St.put]
 repeat (first | rw [List.cons_append] | rw [List.nil_append])
 cases hok : okN (hash x, x) S with
 | true =>
  rw [show (c || !true) = c by cases c <;> rfl]
  refine CH.cut 2 ?_
  simp only [List.take_succ_cons, List.take_zero, List.drop_succ_cons, List.drop_zero]
  repeat
   (first
    | (apply dX; iterate 4 rfl) | (apply CG; iterate 3 rfl))
  refine EM.nil ?_
  repeat (first | rw [List.cons_append] | rw [List.nil_append])
  refine CH.nil ?_
  try simp only [List.drop_succ_cons, List.drop_zero]
  repeat
   (first
    | apply EL.nil | ((with_reducible apply EK.ah); apply EK.code) | (apply EC.cond_false; rfl) | (with_reducible first | apply EC.seq | apply EC.skip))
  refine EC.le (Le.pick [4, 0, 1, 2, 3] [_, _, _, _, _] rfl (by decide) rfl) ?_
  refine EC.jm 12 [0, 1, 2, 3, 5, 6, 7, 9, 10] [4, 8, 11] [_] _ (by kernel_rfl) (by kernel_rfl) rfl ?_
  simp only [aQ, List.filterMap_cons, List.filterMap_nil, List.getElem?_cons_zero, List.getElem?_cons_succ]
  repeat
   (first
    | (apply aU; iterate 3 rfl) | (apply bH; iterate 6 rfl) | (apply bT; rfl; exact I.a; iterate 4 rfl) | (apply iL; iterate 7 rfl)
    | (apply eP; iterate 3 rfl))
  refine EM.nil ?_
  repeat (first | rw [List.cons_append] | rw [List.nil_append])
  refine CH.cut 2 ?_
  simp only [List.take_succ_cons, List.take_zero, List.drop_succ_cons, List.drop_zero]
  repeat
   (first
    | (apply bP (hP); rfl; exact ak.refl _ _; exact enA; iterate 2 rfl) | (apply bT; rfl; exact I.a; iterate 4 rfl))
  refine EM.nil ?_
  repeat (first | rw [List.cons_append] | rw [List.nil_append])
  refine CH.mut (os := [_]) (rest := []) rfl rfl (jl (lD rfl rfl rfl rfl rfl)) ?_
  rintro _ _ ⟨rfl, rfl⟩
  try simp only [St.put]
  repeat (first | rw [List.cons_append] | rw [List.nil_append])
  refine CH.nil ?_
  try simp only [List.drop_succ_cons, List.drop_zero]
  repeat
   (first
    | (apply dA; rfl; exact I.a; iterate 4 rfl) | (apply aO; rfl; (focus (repeat first | exact .z | apply aY.s | apply aN.s)); iterate 4 rfl) | apply EL.nil
    | ((with_reducible apply EK.ah); apply EK.code) | (with_reducible first | apply EC.seq | apply EC.region | apply EC.ret))
  refine EK.kE 4 [oB g gs (fO (hash x, x) ns) c, sdO gs v', sdR v' (fO (hash x, x) S)] rfl rfl rfl rfl ?_ (by (repeat first | exact List.nil_sublist _ | apply List.Sublist.cons_cons | apply List.Sublist.cons)) ⟨v', rfl, rfl⟩
  (exact RL.a)
 | false =>
  rw [show (c || !false) = true by cases c <;> rfl]
  refine CH.cut 2 ?_
  simp only [List.take_succ_cons, List.take_zero, List.drop_succ_cons, List.drop_zero]
  repeat
   (first
    | (apply dX; iterate 4 rfl) | (apply CG; iterate 3 rfl))
  refine EM.nil ?_
  repeat (first | rw [List.cons_append] | rw [List.nil_append])
  refine CH.nil ?_
  try simp only [List.drop_succ_cons, List.drop_zero]
  repeat
   (first
    | (apply au; iterate 3 rfl) | (apply dF; iterate 6 rfl) | (apply oM; iterate 3 rfl)
    | (apply aO; rfl; (focus (repeat first | exact .z | apply aY.s | apply aN.s)); iterate 4 rfl) | apply EL.nil | ((with_reducible apply EK.ah); apply EK.code)
    | (apply EC.cond_true; rfl) | (with_reducible first | apply EC.seq | apply EC.region))
  refine EC.le (Le.pick [4, 0, 1, 2, 3] [_, _, _, _, _] rfl (by decide) rfl) ?_
  refine EC.jm 12 [0, 1, 2, 3, 5, 6, 7, 9, 10] [4, 8, 11] [_] _ (by kernel_rfl) (by kernel_rfl) rfl ?_
  simp only [aQ, List.filterMap_cons, List.filterMap_nil, List.getElem?_cons_zero, List.getElem?_cons_succ]
  repeat
   (first
    | (apply aU; iterate 3 rfl) | (apply bH; iterate 6 rfl) | (apply bT; rfl; exact I.a; iterate 4 rfl) | (apply iL; iterate 7 rfl)
    | (apply eP; iterate 3 rfl))
  refine EM.nil ?_
  repeat (first | rw [List.cons_append] | rw [List.nil_append])
  refine CH.cut 2 ?_
  simp only [List.take_succ_cons, List.take_zero, List.drop_succ_cons, List.drop_zero]
  repeat
   (first
    | (apply bP (hP); rfl; exact ak.refl _ _; exact enA; iterate 2 rfl) | (apply bT; rfl; exact I.a; iterate 4 rfl))
  refine EM.nil ?_
  repeat (first | rw [List.cons_append] | rw [List.nil_append])
  refine CH.mut (os := [_]) (rest := []) rfl rfl (jl (lD rfl rfl rfl rfl rfl)) ?_
  rintro _ _ ⟨rfl, rfl⟩
  try simp only [St.put]
  repeat (first | rw [List.cons_append] | rw [List.nil_append])
  refine CH.nil ?_
  try simp only [List.drop_succ_cons, List.drop_zero]
  repeat
   (first
    | (apply dA; rfl; exact I.a; iterate 4 rfl) | (apply aO; rfl; (focus (repeat first | exact .z | apply aY.s | apply aN.s)); iterate 4 rfl) | apply EL.nil
    | ((with_reducible apply EK.ah); apply EK.code) | (with_reducible first | apply EC.seq | apply EC.region | apply EC.ret))
  refine EK.kE 4 [oB g gs (fO (hash x, x) ns) true, sdO gs v', sdR v' (fO (hash x, x) S)] rfl rfl rfl rfl ?_ (by (repeat first | exact List.nil_sublist _ | apply List.Sublist.cons_cons | apply List.Sublist.cons)) ⟨v', rfl, rfl⟩
  (exact RL.a)
structure SS where
 ns : List Pr
 c : Bool
 v : Value
 S : List Pr
 srt : Srt S
def SSR (U : List (List UInt8)) (C : Nat) (s t : SS) : Prop := t.ns.length ≤ s.ns.length + C ∧ t.S.length ≤ s.S.length + C ∧ (∀ y ∈ s.S, y ∈ t.S) ∧ (t.c = false → s.c = false ∧ ∀ x ∈ U, (hash x, x) ∈ t.S)
def V5 (g gs : Nat) : Bld g where
 σ := SS
 os s := [oB g gs s.ns s.c, sdO gs s.v, sdR s.v s.S]
 sz s := max s.ns.length s.S.length
 Rl U C s t := SSR U C s t
 none s := ⟨Nat.le_refl _, Nat.le_refl _, fun _ h => h, fun h => ⟨h, fun x hx => by cases hx⟩⟩
 app h1 h2 := ⟨by have := h1.1; have := h2.1; omega, by have := h1.2.1; have := h2.2.1; omega, fun y hy => h2.2.2.1 y (h1.2.2.1 y hy), fun h => by
  obtain ⟨a1, a2⟩ := h2.2.2.2 h
  obtain ⟨b1, b2⟩ := h1.2.2.2 a1
  refine ⟨b1, fun x hx => ?_⟩
  rcases List.mem_append.1 hx with hx | hx
  · exact h2.2.2.1 _ (b2 x hx)
  · exact a2 x hx⟩
 more h1 h2 := ⟨by have := h1.1; omega, by have := h1.2.1; omega, h1.2.2.1, h1.2.2.2⟩
 size h := by have := h.1; have := h.2.1; omega
 put s x h1 h2 := (Vd g gs s.ns s.c s.v s.S x s.srt (by omega) (by omega) h2).mono fun r os' ⟨v', hr, ho⟩ => ⟨⟨fO (hash x, x) s.ns, s.c || !okN (hash x, x) s.S, v', fO (hash x, x) s.S, nN _ _ s.srt⟩, ⟨kH _ _, kH _ _, fun y hy => nM _ _ _ hy, fun h => by
  have h1 : s.c = false ∧ okN (hash x, x) s.S = true := by simpa using h
  refine ⟨h1.1, fun y hy => ?_⟩
  obtain rfl : y = x := by simpa using hy
  exact vO _ _ h1.2⟩, hr, ho⟩
end E
end Go.Proofs.YtiledgojbpmoiaaGreat
