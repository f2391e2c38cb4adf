/-
  Merged (wip/tools/merge.py): SP7, SN1.
  Conditions: none.
-/
import Derived.Test.YtdhicdnmgmkpkaaGreatZC24
import Derived.Test.YtdhicdnmgmkpkaaGreatZC14
import Derived.Test.YtdhicdnmgmkpkaaGreatZC12
import Derived.Test.YtdhicdnmgmkpkaaGreatZC20
/-
  slices.Compact of addresses.
  Conditions: none.
-/
namespace Go.Proofs.YtdhicdnmgmkpkaaGreat
set_option linter.unusedVariables false
open Go.RowKit Mono Rlp Wd Go.Sort
namespace E
def ddF (l : List (List UInt8)) : List (List UInt8) := l.foldl (fun acc x => if acc.getLast? = some x then acc else acc ++ [x]) []
theorem ddF_snoc' (l : List (List UInt8)) (x : List UInt8) : ddF (l ++ [x]) = if (ddF l).getLast? = some x then ddF l else ddF l ++ [x] := by unfold ddF; rw [List.foldl_append]; rfl
theorem snoc_ind {P : List (List UInt8) → Prop} (h0 : P []) (h1 : ∀ l x, P l → P (l ++ [x])) (l : List (List UInt8)) : P l := by
  have h : ∀ n, ∀ l : List (List UInt8), l.length = n → P l := fun n => by
    induction n with
    | zero =>
      intro l hl
      rw [List.eq_nil_of_length_eq_zero hl]
      exact h0
    | succ n ih =>
      intro l hl
      have hne : l ≠ [] := fun e => by rw [e] at hl; cases hl
      rw [← List.dropLast_concat_getLast hne]
      exact h1 _ _ (ih _ (by rw [List.length_dropLast, hl]; rfl))
  exact h _ l rfl
theorem ddF_last (l : List (List UInt8)) : (ddF l).getLast? = l.getLast? := by
  refine snoc_ind (P := fun l => (ddF l).getLast? = l.getLast?) rfl (fun l x ih => ?_) l
  rw [ddF_snoc']
  split
  · rename_i h
    rw [h, List.getLast?_append]
    rfl
  · simp
theorem ddF_snoc (l : List (List UInt8)) (x : List UInt8) : ddF (l ++ [x]) = if l.getLast? = some x then ddF l else ddF l ++ [x] := by rw [ddF_snoc', ddF_last]
theorem ddF_mem (l : List (List UInt8)) : ∀ x, x ∈ ddF l ↔ x ∈ l := by
  refine snoc_ind (P := fun l => ∀ x, x ∈ ddF l ↔ x ∈ l) (fun x => Iff.rfl) (fun l y ih x => ?_) l
  rw [ddF_snoc]
  split
  · rename_i h
    rw [ih x, List.mem_append]
    constructor
    · exact .inl
    · rintro (h1 | h1)
      · exact h1
      · obtain rfl : x = y := by simpa using h1
        exact List.mem_of_getLast? h
  · rw [List.mem_append, List.mem_append, ih x]
theorem ddF_len (l : List (List UInt8)) : (ddF l).length ≤ l.length := by
  refine snoc_ind (P := fun l => (ddF l).length ≤ l.length) (Nat.le_refl _) (fun l y ih => ?_) l
  rw [ddF_snoc]
  split <;> simp <;> omega
theorem ddF_sorted (l : List (List UInt8)) : l.Pairwise (· ≤ ·) → (ddF l).Pairwise (· < ·) := by
  refine snoc_ind (P := fun l => l.Pairwise (· ≤ ·) → (ddF l).Pairwise (· < ·)) (fun _ => .nil) (fun l y ih h => ?_) l
  obtain ⟨h1, h2, h3⟩ := List.pairwise_append.1 h
  have ih := ih h1
  rw [ddF_snoc]
  split
  · exact ih
  · rename_i hne
    refine List.pairwise_append.2 ⟨ih, List.pairwise_singleton _ _, fun a ha b hb => ?_⟩
    obtain rfl : b = y := by simpa using hb
    have hle : a ≤ b := h3 a ((ddF_mem l a).1 ha) b (by simp)
    refine Classical.byContradiction fun hn => ?_
    have hab : a = b := List.le_antisymm hle (List.not_lt.1 hn)
    subst hab
    -- the last one is at least a, and at most a
    cases hl : l.getLast? with
    | none =>
      rw [List.getLast?_eq_none_iff.1 hl] at ha
      simp [ddF] at ha
    | some z =>
      have hz := List.mem_of_getLast? hl
      have hza : z ≤ a := h3 z hz a (by simp)
      have hm := (ddF_mem l a).1 ha
      have hne' : l ≠ [] := fun e => by rw [e] at hm; cases hm
      have haz : a ≤ z := by
        have e : l = l.dropLast ++ [l.getLast hne'] := (List.dropLast_concat_getLast hne').symm
        have ez : l.getLast hne' = z := by
          rw [List.getLast?_eq_some_getLast hne'] at hl
          exact Option.some.inj hl
        rw [ez] at e
        rw [e] at h1 hm
        rcases List.mem_append.1 hm with hm | hm
        · exact (List.pairwise_append.1 h1).2.2 a hm z (by simp)
        · obtain rfl : a = z := by simpa using hm
          exact List.le_refl _
      exact hne (by rw [hl, List.le_antisymm hza haz])
theorem take_last (K : List (List UInt8)) {k : Nat} (h0 : 0 < k) (hk : k ≤ K.length) : (K.take k).getLast? = some K[k - 1] := by
  rw [List.getLast?_eq_getElem?, List.length_take, Nat.min_eq_left hk, List.getElem?_take_of_lt (by omega), List.getElem?_eq_getElem (by omega)]
theorem ddF_take (K : List (List UInt8)) {p : Nat} (h0 : 0 < p) (hp : p < K.length) : ddF (K.take (p + 1)) = if K[p - 1] = K[p] then ddF (K.take p) else ddF (K.take p) ++ [K[p]] := by
  rw [List.take_succ_eq_append_getElem hp, ddF_snoc, take_last K h0 (by omega)]
  simp only [Option.some.injEq]
structure Cpt (K R : List (List UInt8)) (q kk p : Nat) : Prop where
  len : R.length = K.length
  kp : kk < p
  qk : q ≤ kk
  pn : p ≤ K.length
  hd : R.take kk = ddF (K.take p)
  tl : R.drop (p - 1) = K.drop (p - 1)
theorem Cpt.at_ {K R : List (List UInt8)} {q kk p j : Nat} (h : Cpt K R q kk p) (hj : p - 1 ≤ j) (hn : j < K.length) : R[j]? = some K[j] := by
  have h1 := congrArg (fun l => l[j - (p - 1)]?) h.tl
  simp only [List.getElem?_drop] at h1
  rw [show p - 1 + (j - (p - 1)) = j by omega, List.getElem?_eq_getElem hn] at h1
  exact h1
theorem Cpt.dup {K R : List (List UInt8)} {q kk p : Nat} (h : Cpt K R q kk p) (h0 : 0 < p) (hp : p < K.length) (he : K[p - 1] = K[p]) : Cpt K R q kk (p + 1) :=
  ⟨h.len, by have := h.kp; omega, h.qk, hp, by rw [ddF_take K h0 hp, if_pos he]; exact h.hd, by
    have := congrArg (List.drop 1) h.tl
    rw [List.drop_drop, List.drop_drop] at this
    rw [show p + 1 - 1 = p - 1 + 1 by omega]
    exact this⟩
theorem Cpt.new {K R : List (List UInt8)} {q kk p : Nat} (h : Cpt K R q kk p) (h0 : 0 < p) (hp : p < K.length) (he : K[p - 1] ≠ K[p]) : Cpt K (R.set kk K[p]) q (kk + 1) (p + 1) := by
  have hkp := h.kp
  have hRl := h.len
  refine ⟨by rw [List.length_set]; exact h.len, by omega, by have := h.qk; omega, hp, ?_, ?_⟩
  · rw [ddF_take K h0 hp, if_neg he, ← h.hd, List.take_succ_eq_append_getElem (by rw [List.length_set]; omega), List.getElem_set_self, List.take_set_of_le (Nat.le_refl _)]
  · have := congrArg (List.drop 1) h.tl
    rw [List.drop_drop, List.drop_drop] at this
    rw [show p + 1 - 1 = p - 1 + 1 by omega, List.drop_set_of_lt (by omega)]
    exact this
abbrev adO (v : Value) (K : List (List UInt8)) : Obj := .row v 32 20 (K.map (D.arr 20))
set_option maxRecDepth 20000 in
set_option maxHeartbeats 16000000 in
theorem compact_ (v : Value) (K : List (List UInt8)) (hK : K.length ≤ 1000000) : FnM 97 [.v v] [adO v K] (fun r os' => ∃ v', r = .val (.v v') ∧ os' = [adO v' (ddF K)]) := by
  have hml : (K.map (D.arr 20)).length = K.length := List.length_map _
  refine FnM.walk 61 Tryz.func97 rfl Tryz.ntmps97 (by simp) fun X => ?_
  by_cases h2 : K.length < 2
  · have hd : ddF K = K := by
      match K, h2 with
      | [], _ => rfl
      | [x], _ => rfl
      | _ :: _ :: _, h => simp at h; omega
    rw [hd]
    repeat
      (first
       | (apply P_move; (iterate 3 exact rfl)) | (apply P_assign; (iterate 3 exact rfl))
       | (apply P_cmp (b := true); (iterate 2 exact rfl); (focus (first | (simp [cmpI]; done) | (simp [cmpI]; omega))); (iterate 2 exact rfl))
       | (apply P_lenrow; exact rfl; (first | exact I0 | exact I1 | exact I2 | exact I3 | exact I4 | exact I5 | exact I6); (iterate 3 exact rfl)) | apply EL.nil
       | ((with_reducible apply EK.then_normal); apply EK.code) | (apply EC.cond_true; exact rfl)
       | (with_reducible first | apply EC.seq | apply EC.region | apply EC.skip | apply EC.label | apply EC.block | apply EC.exit | apply EC.ret | apply EK.in_normal | apply EK.in_same | apply EK.in_ret | apply EK.then_ret | apply EK.then_exit))
    exact EK.retM1s [adO v K] rfl rfl (by (repeat first | exact List.nil_sublist _ | apply List.Sublist.cons_cons | apply List.Sublist.cons)) ⟨v, rfl, rfl⟩
  · skip
    repeat
      (first
       | (apply P_move; (iterate 3 exact rfl)) | (apply P_assign; (iterate 3 exact rfl))
       | (apply P_cmp (b := false); (iterate 2 exact rfl); (focus (first | (simp [cmpI]; done) | (simp [cmpI]; omega))); (iterate 2 exact rfl))
       | (apply P_lenrow; exact rfl; (first | exact I0 | exact I1 | exact I2 | exact I3 | exact I4 | exact I5 | exact I6); (iterate 3 exact rfl)) | apply EL.nil
       | ((with_reducible apply EK.then_normal); apply EK.code) | (apply EC.cond_false; exact rfl)
       | (with_reducible first | apply EC.seq | apply EC.region | apply EC.skip | apply EC.label | apply EC.block | apply EC.exit | apply EC.ret | apply EK.in_normal | apply EK.in_same | apply EK.in_ret | apply EK.then_ret | apply EK.then_exit))
    refine EC.loop (ι := {k : Nat // 1 ≤ k ∧ k ≤ K.length ∧ ddF (K.take k) = K.take k})
      (fun k => ⟨[(3, .val (.v (.int .i64 (k.1 : Int)))), (0, .val (.v v))], [adO v K], []⟩)
      (fun k => K.length - k.1) ⟨1, Nat.le_refl _, by omega, by rw [List.take_one]; cases K <;> rfl⟩ ?_ ?_
    · exact (Le.keep (by repeat first | exact trivial | refine ⟨rfl, ?_⟩) (by repeat first | exact List.nil_sublist _ | apply List.Sublist.cons_cons | apply List.Sublist.cons) (by simp))
    rintro ⟨k, hk1, hkn, hdd⟩
    dsimp only at hk1 hkn hdd ⊢
    by_cases hlt : k < K.length
    · have hd1 : (K.map (D.arr 20))[k]? = some (.arr 20 K[k]) := by rw [List.getElem?_map, List.getElem?_eq_getElem hlt]; rfl
      have hd0 : (K.map (D.arr 20))[k - 1]? = some (.arr 20 K[k - 1]) := by rw [List.getElem?_map, List.getElem?_eq_getElem (by omega)]; rfl
      have hb := (bin_addr K[k] K[k - 1]).1
      have ek : ((k : Int) - 1).toNat = k - 1 := by omega
      have hdt := ddF_take K hk1 hlt
      by_cases he : K[k - 1] = K[k]
      · have hC : Cpt K K k k (k + 1) := ⟨rfl, by omega, Nat.le_refl _, hlt, by rw [hdt, if_pos he, hdd], rfl⟩
        rw [show (K[k] == K[k - 1]) = true by simp [he]] at hb
        repeat
          (first
           | (apply P_move; (iterate 3 exact rfl)) | (apply P_cmp (b := true); (iterate 2 exact rfl); (focus (first | (simp [cmpI]; done) | (simp [cmpI]; omega))); (iterate 2 exact rfl))
           | (apply P_lenrow; exact rfl; (first | exact I0 | exact I1 | exact I2 | exact I3 | exact I4 | exact I5 | exact I6); (iterate 3 exact rfl)) | apply EL.nil
           | ((with_reducible apply EK.then_normal); apply EK.code) | (apply EC.cond_true; exact rfl)
           | (with_reducible first | apply EC.seq | apply EC.region | apply EC.skip | apply EC.label | apply EC.block | apply EC.exit | apply EC.ret | apply EK.in_normal | apply EK.in_same | apply EK.in_ret | apply EK.then_ret | apply EK.then_exit))
        refine EC.draw 10 (by kernel_rfl) ?_
        simp only [List.take_succ_cons, List.take_zero, List.drop_succ_cons, List.drop_zero]
        repeat
          (first
           | (apply H_rowload (k := k) (off := 0) (d := .arr 20 K[k]); exact rfl; exact I0; (exact ⟨by rw [Int.toNat_natCast]; rfl, hd1⟩); (iterate 4 exact rfl))
           | (apply H_rowload (k := k - 1) (off := 0) (d := .arr 20 K[k - 1]); exact rfl; exact I0; (exact ⟨by rw [ek]; rfl, hd0⟩); (iterate 4 exact rfl))
           | (apply H_bin; (iterate 2 exact rfl); exact hb; (iterate 2 exact rfl)) | (apply H_move; (iterate 3 exact rfl)) | (apply H_ar; (iterate 3 exact rfl); (focus omega); (focus omega); (iterate 2 exact rfl))
           | (apply H_rowidx; exact rfl; (first | exact I0 | exact I1 | exact I2 | exact I3 | exact I4 | exact I5 | exact I6); (iterate 2 exact rfl); (focus (first | assumption | omega | (constructor <;> (first | (simp; done) | (simp; omega))))); (iterate 2 exact rfl))
           | ((with_reducible apply EH.nil); exact rfl))
        repeat
          (first
           | (apply P_rowsuf; exact rfl; exact I0; (iterate 2 exact rfl); (focus (constructor <;> (first | omega | (rw [Int.toNat_natCast, hml]; omega)))); (iterate 2 exact rfl))
           | (apply P_move; (iterate 3 exact rfl)) | (apply P_assign; (iterate 3 exact rfl)) | apply EL.nil | ((with_reducible apply EK.then_normal); apply EK.code) | (apply EC.cond_true; exact rfl)
           | (with_reducible first | apply EC.seq | apply EC.region | apply EC.skip | apply EC.label | apply EC.block | apply EC.exit | apply EC.ret | apply EK.in_normal | apply EK.in_same | apply EK.in_ret | apply EK.then_ret | apply EK.then_exit))
        rw [Int.toNat_natCast]
        refine EC.loop (ι := {x : Nat × Nat × List (List UInt8) // 1 ≤ x.1 ∧ Cpt K x.2.2 k x.2.1 (k + x.1)})
          (fun x => ⟨[(5, .val (.v (.int .i64 (x.1.1 : Int)))), (4, .val (.v (sufV k 20 v))), (3, .val (.v (.int .i64 (x.1.2.1 : Int)))), (0, .val (.v v))], [adO v x.1.2.2], []⟩)
          (fun x => K.length - (k + x.1.1)) ⟨(1, k, K), Nat.le_refl _, hC⟩ ?_ ?_
        · exact (Le.keep (by repeat first | exact trivial | refine ⟨rfl, ?_⟩) (by repeat first | exact List.nil_sublist _ | apply List.Sublist.cons_cons | apply List.Sublist.cons) (by simp))
        rintro ⟨⟨j, kk, R⟩, hj1, hC⟩
        dsimp only at hj1 hC ⊢
        have hRl := hC.len
        have hmr : (R.map (D.arr 20)).length = K.length := by rw [List.length_map, hRl]
        have hkp := hC.kp
        have hpn := hC.pn
        have hqk := hC.qk
        by_cases hltj : k + j < K.length
        · have g1 := hC.at_ (j := k + j) (by omega) hltj
          have g0 := hC.at_ (j := k + j - 1) (by omega) (by omega)
          have hnew := hC.new (by omega) hltj
          have hdup := hC.dup (by omega) hltj
          have gk : ∃ y, R[kk]? = some y := ⟨R[kk]'(by omega), List.getElem?_eq_getElem (by omega)⟩
          obtain ⟨y, gk⟩ := gk
          have hb := (bin_addr K[k + j] K[k + j - 1]).2
          generalize K[k + j - 1] = x0 at g0 hnew hdup hb
          generalize K[k + j] = x1 at g1 hnew hdup hb
          have f1 : (R.map (D.arr 20))[k + j]? = some (.arr 20 x1) := by rw [List.getElem?_map, g1]; rfl
          have f0 : (R.map (D.arr 20))[k + j - 1]? = some (.arr 20 x0) := by rw [List.getElem?_map, g0]; rfl
          have fk : (R.map (D.arr 20))[kk]? = some (.arr 20 y) := by rw [List.getElem?_map, gk]; rfl
          have e0 : (k + ((j : Int) - 1).toNat) = k + j - 1 := by omega
          have e1 : ((R.map (D.arr 20)).length - k : Nat) = K.length - k := by rw [hmr]
          by_cases hne : x0 = x1
          · rw [show (x1 != x0) = false by simp [hne]] at hb
            repeat
              (first
               | (apply P_suflen; exact rfl; exact I0; (iterate 3 exact rfl)) | (apply P_move; (iterate 3 exact rfl))
               | (apply P_cmp (b := true); (iterate 2 exact rfl); (focus (first | (simp [cmpI]; done) | (simp [cmpI]; omega))); (iterate 2 exact rfl)) | apply EL.nil
               | ((with_reducible apply EK.then_normal); apply EK.code) | (apply EC.cond_true; exact rfl)
               | (with_reducible first | apply EC.seq | apply EC.region | apply EC.skip | apply EC.label | apply EC.block | apply EC.exit | apply EC.ret | apply EK.in_normal | apply EK.in_same | apply EK.in_ret | apply EK.then_ret | apply EK.then_exit))
            refine EC.draw 10 (by kernel_rfl) ?_
            simp only [List.take_succ_cons, List.take_zero, List.drop_succ_cons, List.drop_zero]
            repeat
              (first
               | (apply H_sufidx; exact rfl; exact I0; (iterate 2 exact rfl); exact ⟨by omega, by rw [hmr]; omega⟩; (iterate 2 exact rfl))
               | (apply H_rowload (k := k + j) (off := 0) (d := .arr 20 x1); exact rfl; exact I0; (exact ⟨by rw [Int.toNat_natCast]; rfl, f1⟩); (iterate 4 exact rfl))
               | (apply H_rowload (k := k + j - 1) (off := 0) (d := .arr 20 x0); exact rfl; exact I0; (exact ⟨by rw [e0]; rfl, f0⟩); (iterate 4 exact rfl))
               | (apply H_bin; (iterate 2 exact rfl); exact hb; (iterate 2 exact rfl)) | (apply H_move; (iterate 3 exact rfl)) | (apply H_ar; (iterate 3 exact rfl); (focus omega); (focus omega); (iterate 2 exact rfl))
               | ((with_reducible apply EH.nil); exact rfl))
            repeat
              (first
               | (apply P_move; (iterate 3 exact rfl)) | (apply P_assign; (iterate 3 exact rfl)) | (apply P_ar; (iterate 3 exact rfl); (focus omega); (focus omega); (iterate 2 exact rfl)) | apply EL.nil
               | ((with_reducible apply EK.then_normal); apply EK.code) | (apply EC.cond_false; exact rfl)
               | (with_reducible first | apply EC.seq | apply EC.region | apply EC.skip | apply EC.label | apply EC.block | apply EC.exit | apply EC.ret | apply EK.in_normal | apply EK.in_same | apply EK.in_ret | apply EK.then_ret | apply EK.then_exit))
            refine EK.again ⟨(j + 1, kk, R), by omega, hdup hne⟩ (by dsimp only; omega) ?_
            simp only [Int.natCast_add]
            exact (Le.keep (by repeat first | exact trivial | refine ⟨rfl, ?_⟩) (by repeat first | exact List.nil_sublist _ | apply List.Sublist.cons_cons | apply List.Sublist.cons) (by simp))
          · rw [show (x1 != x0) = true by simpa using fun e => hne e.symm] at hb
            repeat
              (first
               | (apply P_suflen; exact rfl; exact I0; (iterate 3 exact rfl)) | (apply P_move; (iterate 3 exact rfl))
               | (apply P_cmp (b := true); (iterate 2 exact rfl); (focus (first | (simp [cmpI]; done) | (simp [cmpI]; omega))); (iterate 2 exact rfl)) | apply EL.nil
               | ((with_reducible apply EK.then_normal); apply EK.code) | (apply EC.cond_true; exact rfl)
               | (with_reducible first | apply EC.seq | apply EC.region | apply EC.skip | apply EC.label | apply EC.block | apply EC.exit | apply EC.ret | apply EK.in_normal | apply EK.in_same | apply EK.in_ret | apply EK.then_ret | apply EK.then_exit))
            refine EC.draw 10 (by kernel_rfl) ?_
            simp only [List.take_succ_cons, List.take_zero, List.drop_succ_cons, List.drop_zero]
            repeat
              (first
               | (apply H_sufidx; exact rfl; exact I0; (iterate 2 exact rfl); exact ⟨by omega, by rw [hmr]; omega⟩; (iterate 2 exact rfl))
               | (apply H_rowload (k := k + j) (off := 0) (d := .arr 20 x1); exact rfl; exact I0; (exact ⟨by rw [Int.toNat_natCast]; rfl, f1⟩); (iterate 4 exact rfl))
               | (apply H_rowload (k := k + j - 1) (off := 0) (d := .arr 20 x0); exact rfl; exact I0; (exact ⟨by rw [e0]; rfl, f0⟩); (iterate 4 exact rfl))
               | (apply H_bin; (iterate 2 exact rfl); exact hb; (iterate 2 exact rfl)) | (apply H_move; (iterate 3 exact rfl)) | (apply H_ar; (iterate 3 exact rfl); (focus omega); (focus omega); (iterate 2 exact rfl))
               | ((with_reducible apply EH.nil); exact rfl))
            repeat
              (first
               | (apply P_sufidx; exact rfl; exact I0; (iterate 2 exact rfl); exact ⟨by omega, by rw [hmr]; omega⟩; (iterate 2 exact rfl))
               | (apply P_rowload (k := k + j) (off := 0) (d := .arr 20 x1); exact rfl; exact I0; (exact ⟨by rw [Int.toNat_natCast]; rfl, f1⟩); (iterate 4 exact rfl))
               | (apply P_rowstore (k := kk) (off := 0) (d := .arr 20 y) (d'' := .arr 20 x1); exact rfl; exact .z; exact ⟨by rw [Int.toNat_natCast]; rfl, fk⟩; (iterate 4 exact rfl))
               | (apply P_move; (iterate 3 exact rfl)) | (apply P_assign; (iterate 3 exact rfl)) | (apply P_ar; (iterate 3 exact rfl); (focus omega); (focus omega); (iterate 2 exact rfl))
               | (apply P_rowidx; exact rfl; (first | exact I0 | exact I1 | exact I2 | exact I3 | exact I4 | exact I5 | exact I6); (iterate 2 exact rfl); (focus (first | assumption | omega | (constructor <;> (first | (simp; done) | (simp; omega))))); (iterate 2 exact rfl))
               | apply EL.nil | ((with_reducible apply EK.then_normal); apply EK.code) | (apply EC.cond_true; exact rfl)
               | (with_reducible first | apply EC.seq | apply EC.region | apply EC.skip | apply EC.label | apply EC.block | apply EC.exit | apply EC.ret | apply EK.in_normal | apply EK.in_same | apply EK.in_ret | apply EK.then_ret | apply EK.then_exit))
            rw [show (R.map (D.arr 20)).set kk (.arr 20 x1) = (R.set kk x1).map (D.arr 20) by rw [List.map_set]]
            refine EK.again ⟨(j + 1, kk + 1, R.set kk x1), by omega, hnew hne⟩ (by dsimp only; omega) ?_
            simp only [Int.natCast_add]
            exact (Le.keep (by repeat first | exact trivial | refine ⟨rfl, ?_⟩) (by repeat first | exact List.nil_sublist _ | apply List.Sublist.cons_cons | apply List.Sublist.cons) (by simp))
        · have hpE : k + j = K.length := by omega
          have hd := hC.hd
          rw [hpE, List.take_length] at hd
          repeat
            (first
             | (apply P_suflen; exact rfl; exact I0; (iterate 3 exact rfl))
             | (apply P_rowsuf; exact rfl; exact I0; (iterate 2 exact rfl); (focus (constructor <;> (first | omega | (rw [Int.toNat_natCast, hmr]; omega)))); (iterate 2 exact rfl))
             | (apply P_clearK (k := kk) (dz := .arr 20 (List.replicate 20 0)); exact rfl; exact .z; (rw [hmr]; omega); (iterate 6 exact rfl)) | (apply P_move; (iterate 3 exact rfl))
             | (apply P_cmp (b := false); (iterate 2 exact rfl); (focus (first | (simp [cmpI]; done) | (simp [cmpI]; omega))); (iterate 2 exact rfl)) | apply EL.nil
             | ((with_reducible apply EK.then_normal); apply EK.code) | (apply EC.cond_false; exact rfl)
             | (with_reducible first | apply EC.seq | apply EC.region | apply EC.skip | apply EC.label | apply EC.block | apply EC.exit | apply EC.ret | apply EK.in_normal | apply EK.in_same | apply EK.in_ret | apply EK.then_ret | apply EK.then_exit))
          have hcl : ((R.map (D.arr 20)).take kk ++ List.replicate ((R.map (D.arr 20)).length - kk) (D.arr 20 (List.replicate 20 0))).length = K.length := by
            rw [List.length_append, List.length_take, List.length_replicate, hmr]
            omega
          have hct : ((R.map (D.arr 20)).take kk ++ List.replicate ((R.map (D.arr 20)).length - kk) (D.arr 20 (List.replicate 20 0))).take kk = (ddF K).map (D.arr 20) := by
            rw [List.take_left' (by rw [List.length_take, hmr]; omega), ← List.map_take, hd]
          generalize (R.map (D.arr 20)).take kk ++ List.replicate ((R.map (D.arr 20)).length - kk) (D.arr 20 (List.replicate 20 0)) = Z at hcl hct ⊢
          repeat
            (first
             | (apply P_rowcut; exact rfl; exact I0; (iterate 2 exact rfl); (focus (constructor <;> (first | omega | (rw [Int.toNat_natCast, hcl]; omega)))); (iterate 2 exact rfl))
             | (apply P_assign; (iterate 3 exact rfl)) | apply EL.nil | ((with_reducible apply EK.then_normal); apply EK.code)
             | (with_reducible first | apply EC.seq | apply EC.region | apply EC.skip | apply EC.label | apply EC.block | apply EC.exit | apply EC.ret | apply EK.in_normal | apply EK.in_same | apply EK.in_ret | apply EK.then_ret | apply EK.then_exit))
          rw [Int.toNat_natCast]
          refine EK.le (Le.cutRow (k := kk) (by rw [hcl]; omega) .z) ?_
          rw [hct]
          exact EK.retM1s [adO (cutV v kk) (ddF K)] rfl rfl (by (repeat first | exact List.nil_sublist _ | apply List.Sublist.cons_cons | apply List.Sublist.cons)) ⟨_, rfl, rfl⟩
      · have hb2 : (K[k] == K[k - 1]) = false := by simpa using fun e => he e.symm
        have hdd2 : ddF (K.take (k + 1)) = K.take (k + 1) := by rw [hdt, if_neg he, hdd, List.take_succ_eq_append_getElem hlt]
        rw [hb2] at hb
        repeat
          (first
           | (apply P_move; (iterate 3 exact rfl)) | (apply P_cmp (b := true); (iterate 2 exact rfl); (focus (first | (simp [cmpI]; done) | (simp [cmpI]; omega))); (iterate 2 exact rfl))
           | (apply P_lenrow; exact rfl; (first | exact I0 | exact I1 | exact I2 | exact I3 | exact I4 | exact I5 | exact I6); (iterate 3 exact rfl)) | apply EL.nil
           | ((with_reducible apply EK.then_normal); apply EK.code) | (apply EC.cond_true; exact rfl)
           | (with_reducible first | apply EC.seq | apply EC.region | apply EC.skip | apply EC.label | apply EC.block | apply EC.exit | apply EC.ret | apply EK.in_normal | apply EK.in_same | apply EK.in_ret | apply EK.then_ret | apply EK.then_exit))
        refine EC.draw 10 (by kernel_rfl) ?_
        simp only [List.take_succ_cons, List.take_zero, List.drop_succ_cons, List.drop_zero]
        repeat
          (first
           | (apply H_rowload (k := k) (off := 0) (d := .arr 20 K[k]); exact rfl; exact I0; (exact ⟨by rw [Int.toNat_natCast]; rfl, hd1⟩); (iterate 4 exact rfl))
           | (apply H_rowload (k := k - 1) (off := 0) (d := .arr 20 K[k - 1]); exact rfl; exact I0; (exact ⟨by rw [ek]; rfl, hd0⟩); (iterate 4 exact rfl))
           | (apply H_bin; (iterate 2 exact rfl); exact hb; (iterate 2 exact rfl)) | (apply H_move; (iterate 3 exact rfl)) | (apply H_ar; (iterate 3 exact rfl); (focus omega); (focus omega); (iterate 2 exact rfl))
           | (apply H_rowidx; exact rfl; (first | exact I0 | exact I1 | exact I2 | exact I3 | exact I4 | exact I5 | exact I6); (iterate 2 exact rfl); (focus (first | assumption | omega | (constructor <;> (first | (simp; done) | (simp; omega))))); (iterate 2 exact rfl))
           | ((with_reducible apply EH.nil); exact rfl))
        repeat
          (first
           | (apply P_move; (iterate 3 exact rfl)) | (apply P_assign; (iterate 3 exact rfl)) | (apply P_ar; (iterate 3 exact rfl); (focus omega); (focus omega); (iterate 2 exact rfl)) | apply EL.nil
           | ((with_reducible apply EK.then_normal); apply EK.code) | (apply EC.cond_false; exact rfl)
           | (with_reducible first | apply EC.seq | apply EC.region | apply EC.skip | apply EC.label | apply EC.block | apply EC.exit | apply EC.ret | apply EK.in_normal | apply EK.in_same | apply EK.in_ret | apply EK.then_ret | apply EK.then_exit))
        refine EK.again ⟨k + 1, by omega, hlt, hdd2⟩ (by dsimp only; omega) ?_
        simp only [Int.natCast_add]
        exact (Le.keep (by repeat first | exact trivial | refine ⟨rfl, ?_⟩) (by repeat first | exact List.nil_sublist _ | apply List.Sublist.cons_cons | apply List.Sublist.cons) (by simp))
    · have hkE : k = K.length := by omega
      subst hkE
      rw [List.take_length] at hdd
      rw [hdd]
      repeat
        (first
         | (apply P_move; (iterate 3 exact rfl)) | (apply P_assign; (iterate 3 exact rfl))
         | (apply P_cmp (b := false); (iterate 2 exact rfl); (focus (first | (simp [cmpI]; done) | (simp [cmpI]; omega))); (iterate 2 exact rfl))
         | (apply P_lenrow; exact rfl; (first | exact I0 | exact I1 | exact I2 | exact I3 | exact I4 | exact I5 | exact I6); (iterate 3 exact rfl)) | apply EL.nil
         | ((with_reducible apply EK.then_normal); apply EK.code) | (apply EC.cond_false; exact rfl)
         | (with_reducible first | apply EC.seq | apply EC.region | apply EC.skip | apply EC.label | apply EC.block | apply EC.exit | apply EC.ret | apply EK.in_normal | apply EK.in_same | apply EK.in_ret | apply EK.then_ret | apply EK.then_exit))
      exact EK.retM1s [adO v K] rfl rfl (by (repeat first | exact List.nil_sublist _ | apply List.Sublist.cons_cons | apply List.Sublist.cons)) ⟨v, rfl, rfl⟩
end E
end Go.Proofs.YtdhicdnmgmkpkaaGreat
/-
  The reference's Of, the law's num.
  Conditions: none.
-/
namespace Go.Proofs.YtdhicdnmgmkpkaaGreat
set_option linter.unusedVariables false
open Go.RowKit Mono Rlp Wd
namespace E
def bytesOf : Nat → Nat → List UInt8 → List UInt8
  | 0, _, t => t
  | k + 1, m, t => bytesOf k (m / 256) (UInt8.ofNat m :: t)
def ofW (n : Nat) : List UInt8 := List.replicate 24 0 ++ bytesOf 8 n []
set_option maxRecDepth 20000 in
set_option maxHeartbeats 4000000 in
theorem f_Of (n : Nat) (hn : n ≤ 9223372036854775807) : Fn 47 [.v (.int .i64 (n : Int))] (· = .val (.arr 32 (ofW n))) := by
  refine Fn.walk 27 Tryz.func47 rfl Tryz.ntmps47 (by simp) fun X => ?_
  repeat
    (first
     | (apply P_assign; (iterate 3 exact rfl)) | (apply P_alloc; exact rfl; exact rfl; exact rfl; intro _) | apply EL.nil | ((with_reducible apply EK.then_normal); apply EK.code)
     | (with_reducible first | apply EC.seq | apply EC.region | apply EC.skip | apply EC.label | apply EC.block | apply EC.exit | apply EC.ret | apply EK.in_normal | apply EK.in_same | apply EK.in_ret | apply EK.then_ret | apply EK.then_exit))
  rename_i g2 g3
  refine EC.loop (ι := {x : Nat × Nat × List UInt8 // x.1 ≤ 8 ∧ x.2.2.length = x.1 ∧ x.2.1 ≤ n ∧ bytesOf (8 - x.1) x.2.1 x.2.2 = bytesOf 8 n [] ∧ x.2.1 < 256 ^ (8 - x.1)})
    (fun x => ⟨[(4, .val (.v (.int .i64 (31 - (x.1.1 : Int))))), (0, .val (.v (.int .i64 (x.1.2.1 : Int)))), (2, .val (.v (.pointer (some ⟨g2, 0, none⟩)))), (3, .val (.v (.pointer (some ⟨g3, 0, none⟩))))], [.var g3 34 (.arr 32 (List.replicate (32 - x.1.1) 0 ++ x.1.2.2)), .var g2 34 (.arr 32 zero32)], []⟩)
    (fun x => 8 - x.1.1) ⟨(0, n, []), by omega, rfl, Nat.le_refl _, rfl, by dsimp only; omega⟩ ?_ ?_
  · exact (Le.keep (by repeat first | exact trivial | refine ⟨rfl, ?_⟩) (by repeat first | exact List.nil_sublist _ | apply List.Sublist.cons_cons | apply List.Sublist.cons) (by simp))
  rintro ⟨⟨j, m, t⟩, hj, ht, hm, hb, h8⟩
  dsimp only at hj ht hm hb h8 ⊢
  have st : ∀ (k : Nat) (b : UInt8) (u : List UInt8), (List.replicate (k + 1) 0 ++ u).set k b = List.replicate k 0 ++ b :: u := fun k b u => by
    rw [List.replicate_succ', List.append_assoc, List.set_append_right _ _ (by simp)]
    simp
  by_cases hlt : j < 8
  · have r1 := binMask 3 m 8 (by omega) (by decide) 255 (by decide)
    have r2 := binShr 3 m 8 (by decide)
    have c1 : ∀ w, (Go.convert 3 5 (n64 (m % 2 ^ 8))).run Tryz.prog w = .ok (bv (UInt8.ofNat m)) w := by
      rw [bv8]
      exact conv_int (T := 3) (U := 5) (k := .i64) (k' := .u8) Tryz.underlying3 Tryz.underlying5 ((m % 2 ^ 8 : Nat) : Int) ((m % 256 : Nat) : Int) (by rw [IntKind.wrap_u8]; omega)
    have o1 : 0 + ((31 : Int) - (j : Int)).toNat * 1 = 31 - j := by omega
    have hk1 : (0 : Int) ≤ (31 : Int) - (j : Int) ∧ ((31 : Int) - (j : Int)).toNat < 32 := ⟨by omega, by omega⟩
    have hst := st (31 - j) (UInt8.ofNat m) t
    rw [show 31 - j + 1 = 32 - j by omega] at hst
    generalize List.replicate (32 - j) 0 ++ t = Z at hst
    repeat
      (first
       | (apply P_bin; (iterate 2 exact rfl); exact r1; (iterate 2 exact rfl)) | (apply P_bin; (iterate 2 exact rfl); exact r2; (iterate 2 exact rfl))
       | (apply P_conv; exact rfl; exact c1; (iterate 3 exact rfl)) | (apply P_indexptr; (iterate 3 exact rfl); exact hk1; (iterate 2 exact rfl))
       | (apply P_store8; exact rfl; exact .z; exact rfl; exact rfl; (omega); exact rfl) | (apply P_move; (iterate 3 exact rfl)) | (apply P_assign; (iterate 3 exact rfl))
       | (apply P_cmp (b := true); (iterate 2 exact rfl); (focus (first | (simp [cmpI]; done) | (simp [cmpI]; omega))); (iterate 2 exact rfl))
       | (apply P_ar; (iterate 3 exact rfl); (focus omega); (focus omega); (iterate 2 exact rfl)) | apply EL.nil | ((with_reducible apply EK.then_normal); apply EK.code) | (apply EC.cond_true; exact rfl)
       | (with_reducible first | apply EC.seq | apply EC.region | apply EC.skip | apply EC.label | apply EC.block | apply EC.exit | apply EC.ret | apply EK.in_normal | apply EK.in_same | apply EK.in_ret | apply EK.then_ret | apply EK.then_exit))
    refine EK.again ⟨(j + 1, m / 256, UInt8.ofNat m :: t), by omega, by simp [ht], Nat.le_trans (Nat.div_le_self _ _) hm, ?_, ?_⟩ (by dsimp only; omega) ?_
    · rw [← hb, show 8 - j = 8 - (j + 1) + 1 by omega, bytesOf]
    · dsimp only
      rw [show 8 - j = 8 - (j + 1) + 1 by omega, Nat.pow_succ] at h8
      exact (Nat.div_lt_iff_lt_mul (by decide)).2 h8
    dsimp only
    rw [o1, hst, show 31 - j = 32 - (j + 1) by omega]
    rw [show (31 - (j : Int) - 1) = 31 - ((j + 1 : Nat) : Int) by omega]
    exact (Le.keep (by repeat first | exact trivial | refine ⟨rfl, ?_⟩) (by repeat first | exact List.nil_sublist _ | apply List.Sublist.cons_cons | apply List.Sublist.cons) (by simp))
  · obtain rfl : j = 8 := (by omega)
    obtain rfl : m = 0 := (by simpa using h8)
    rw [show 8 - 8 = 0 from rfl, bytesOf] at hb
    have hof : ofW n = List.replicate 24 0 ++ t := by unfold ofW; rw [← hb]
    rw [hof]
    clear hof hb st
    repeat
      (first
       | (apply P_move; (iterate 3 exact rfl)) | (apply P_assign; (iterate 3 exact rfl))
       | (apply P_cmp (b := false); (iterate 2 exact rfl); (focus (first | (simp [cmpI]; done) | (simp [cmpI]; omega))); (iterate 2 exact rfl)) | apply EL.nil
       | ((with_reducible apply EK.then_normal); apply EK.code) | (apply EC.cond_false; exact rfl)
       | (with_reducible first | apply EC.seq | apply EC.region | apply EC.skip | apply EC.label | apply EC.block | apply EC.exit | apply EC.ret | apply EK.in_normal | apply EK.in_same | apply EK.in_ret | apply EK.then_ret | apply EK.then_exit))
    refine EC.loop (ι := {k : Nat // k ≤ 24})
      (fun k => ⟨[(5, .val (.v (.int .i64 (k.1 : Int)))), (0, .val (.v (.int .i64 ((0 : Nat) : Int)))), (2, .val (.v (.pointer (some ⟨g2, 0, none⟩)))), (3, .val (.v (.pointer (some ⟨g3, 0, none⟩))))], [.var g3 34 (.arr 32 (List.replicate (32 - 8) 0 ++ t)), .var g2 34 (.arr 32 zero32)], []⟩)
      (fun k => 24 - k.1) ⟨0, by omega⟩ ?_ ?_
    · exact (Le.keep (by repeat first | exact trivial | refine ⟨rfl, ?_⟩) (by repeat first | exact List.nil_sublist _ | apply List.Sublist.cons_cons | apply List.Sublist.cons) (by simp))
    rintro ⟨k, hk⟩
    dsimp only at hk ⊢
    by_cases hkl : k < 24
    · have r1 := binMask 3 0 8 (by omega) (by decide) 255 (by decide)
      have c1 : ∀ w, (Go.convert 3 5 (n64 (0 % 2 ^ 8))).run Tryz.prog w = .ok (bv (UInt8.ofNat 0)) w := by
        rw [bv8]
        exact conv_int (T := 3) (U := 5) (k := .i64) (k' := .u8) Tryz.underlying3 Tryz.underlying5 ((0 % 2 ^ 8 : Nat) : Int) ((0 % 256 : Nat) : Int) (by rw [IntKind.wrap_u8]; omega)
      have o1 : 0 + (k : Int).toNat * 1 = k := by omega
      have hk1 : (0 : Int) ≤ (k : Int) ∧ (k : Int).toNat < 32 := ⟨by omega, by omega⟩
      have hst : (List.replicate (32 - 8) (0 : UInt8) ++ t).set k (UInt8.ofNat 0) = List.replicate (32 - 8) 0 ++ t := by
        rw [List.set_append_left _ _ (by simp; omega)]
        congr 1
        apply List.ext_getElem (by simp)
        intro q h3 h4
        rw [List.getElem_set]
        split
        · rw [List.getElem_replicate]
          rfl
        · rfl
      generalize List.replicate (32 - 8) 0 ++ t = Z at hst
      repeat
        (first
         | (apply P_bin; (iterate 2 exact rfl); exact r1; (iterate 2 exact rfl)) | (apply P_conv; exact rfl; exact c1; (iterate 3 exact rfl))
         | (apply P_indexptr; (iterate 3 exact rfl); exact hk1; (iterate 2 exact rfl)) | (apply P_store8; exact rfl; exact .z; exact rfl; exact rfl; (omega); exact rfl) | (apply P_move; (iterate 3 exact rfl))
         | (apply P_assign; (iterate 3 exact rfl)) | (apply P_cmp (b := true); (iterate 2 exact rfl); (focus (first | (simp [cmpI]; done) | (simp [cmpI]; omega))); (iterate 2 exact rfl))
         | (apply P_ar; (iterate 3 exact rfl); (focus omega); (focus omega); (iterate 2 exact rfl)) | apply EL.nil | ((with_reducible apply EK.then_normal); apply EK.code) | (apply EC.cond_true; exact rfl)
         | (with_reducible first | apply EC.seq | apply EC.region | apply EC.skip | apply EC.label | apply EC.block | apply EC.exit | apply EC.ret | apply EK.in_normal | apply EK.in_same | apply EK.in_ret | apply EK.then_ret | apply EK.then_exit))
      refine EK.again ⟨k + 1, hkl⟩ (by dsimp only; omega) ?_
      dsimp only
      rw [o1, hst]
      simp only [Int.natCast_add]
      exact (Le.keep (by repeat first | exact trivial | refine ⟨rfl, ?_⟩) (by repeat first | exact List.nil_sublist _ | apply List.Sublist.cons_cons | apply List.Sublist.cons) (by simp))
    · skip
      repeat
        (first
         | (apply P_move; (iterate 3 exact rfl)) | (apply P_load; exact rfl; (first | exact I0 | exact I1 | exact I2 | exact I3 | exact I4 | exact I5 | exact I6); (iterate 4 exact rfl))
         | (apply P_cmp (b := false); (iterate 2 exact rfl); (focus (first | (simp [cmpI]; done) | (simp [cmpI]; omega))); (iterate 2 exact rfl))
         | (apply P_store; exact rfl; (focus (repeat first | exact .z | apply SetAt.s | apply SetAtF.s)); (iterate 4 exact rfl)) | apply EL.nil | ((with_reducible apply EK.then_normal); apply EK.code)
         | (apply EC.cond_false; exact rfl)
         | (with_reducible first | apply EC.seq | apply EC.region | apply EC.skip | apply EC.label | apply EC.block | apply EC.exit | apply EC.ret | apply EK.in_normal | apply EK.in_same | apply EK.in_ret | apply EK.then_ret | apply EK.then_exit))
      refine EK.retc1r 1 rfl rfl rfl rfl ?_ rfl
      (repeat first | exact RefineL.refl _ _ | exact RL.nil | exact Rf.same | exact Rf.bs0 | exact Rf.sl0 | (apply Rf.fact; (focus (simp; done)); exact rfl) | apply Rf.tup | apply RL.cons)
theorem f_num (n : Int) : Fn 27 [.v (.int .i64 n)] (· = .val (.v (.int .i64 n))) := by
  refine Fn.walk 4 Tryz.func27 rfl Tryz.ntmps27 (by simp) fun X => ?_
  repeat
    (first
     | (apply P_move; (iterate 3 exact rfl)) | (apply P_assign; (iterate 3 exact rfl)) | apply EL.nil | ((with_reducible apply EK.then_normal); apply EK.code)
     | (with_reducible first | apply EC.seq | apply EC.region | apply EC.skip | apply EC.label | apply EC.block | apply EC.exit | apply EC.ret | apply EK.in_normal | apply EK.in_same | apply EK.in_ret | apply EK.then_ret | apply EK.then_exit))
  exact EK.ret1 rfl rfl rfl
end E
end Go.Proofs.YtdhicdnmgmkpkaaGreat
