/-
  Merged (wip/tools/merge.py): JBuild, JRead, JOneP, EJ0.
  Conditions: none.
-/
import Derived.Test.YtekacgocjplfjaaZJ12
import Derived.Laws.Tables
import Derived.Test.YtekacgocjplfjaaZJ13
import Derived.Great.BuildSlice
import Derived.Test.YtekacgocjplfjaaZJ6
/-
  Slots, changes, diffs: literals, rows that grow, results.
  Conditions: none.
-/
namespace Go.Proofs.Ytekacgocjplfjaa
set_option linter.unusedVariables false
open Go.RowKit Mono Rlp Jn

/-! ### Literals -/
theorem splice_list (o : Nat) : ∀ (vs A M Z : List Value) (s : Nat), A.length = o + s → M.length = vs.length → (vs.zipIdx s).foldl (fun (cs : Array Value) (x : Value × Nat) => cs.setIfInBounds (o + x.2) x.1) (A ++ M ++ Z).toArray = (A ++ vs ++ Z).toArray
  | [], A, M, Z, s, _, hM => by
    obtain rfl : M = [] := List.length_eq_zero_iff.1 hM
    rfl
  | v :: vs, A, m :: M, Z, s, hA, hM => by
    rw [List.zipIdx_cons, List.foldl_cons]
    have h1 : ((A ++ (m :: M) ++ Z).toArray).setIfInBounds (o + s) v = ((A ++ [v]) ++ M ++ Z).toArray := by
      rw [← hA]
      simp [List.set_append_right]
    rw [h1, splice_list o vs (A ++ [v]) M Z (s + 1) (by simp; omega) (by simpa using hM)]
    simp
theorem splice_mid (vs A M Z : List Value) (hM : M.length = vs.length) : vs.toArray.zipIdx.foldl (fun (cs : Array Value) (x : Value × Nat) => cs.setIfInBounds (A.length + x.2) x.1) (A ++ M ++ Z).toArray = (A ++ vs ++ Z).toArray := by
  rw [← Array.foldl_toList, Array.toList_zipIdx]
  exact splice_list A.length vs A M Z 0 rfl hM
theorem fill_cons (place : Nat → Option (Nat × Nat)) (i : Nat) (v : Value) (vs A M Z : List Value) (rest : List (Nat × Value)) (hp : place i = some (A.length, vs.length)) (hv : v.cells = vs.toArray) (hM : M.length = vs.length) :
    Instr.fill place (A ++ M ++ Z).toArray ((i, v) :: rest) = Instr.fill place (A ++ vs ++ Z).toArray rest := by
  rw [Instr.fill, hp]
  dsimp only
  rw [hv, if_neg (by simp [hM])]
  congr 1
  exact splice_mid vs A M Z hM
theorem cells_arr (l : List UInt8) : (arrV l).cells = (bvs l).toArray := rfl
theorem built_of {P : Program} {t : TypeId} {fields : Array Field} {it : TypeInfo} {z : Value} {places : List (Nat × Nat)} {parts : List (Nat × Value)} {cells : Array Value} (hi : P.info? t = some it) (hu : P.underlying t = some (.struct fields)) (hz : it.zero = some z)
    (hp : fields.toList.mapM (fun f => (P.info? f.type).map fun i => (f.offset, i.size)) = some places) (h : Instr.fill (places.toArray[·]?) z.cells parts = some cells) : P.built t parts = some cells := by
  unfold Program.built
  rw [hi, hu]
  dsimp only
  rw [hz, hp]
  exact h
def slPlaces : List (Nat × Nat) := [(0, 32), (32, 32)]
def chPlaces : List (Nat × Nat) := [(0, 20), (20, 1), (21, 1), (22, 32), (54, 1), (55, 1)]
def dfPlaces : List (Nat × Nat) := [(0, 32), (32, 32), (64, 1)]
theorem struct_parts {P : Program} {t : TypeId} {z : Value} {places : List (Nat × Nat)}
    (h : (match P.info? t, P.underlying t with | some it, some (.struct fields) => (it.zero, fields.toList.mapM (fun f => (P.info? f.type).map fun i => (f.offset, i.size))) | _, _ => (none, none)) = (some z, some places)) {parts : List (Nat × Value)} {cells : Array Value}
    (hf : Instr.fill (places.toArray[·]?) z.cells parts = some cells) : P.built t parts = some cells := by
  cases hi : P.info? t with
  | none => rw [hi] at h; cases h
  | some it =>
    cases hu : P.underlying t with
    | none => rw [hi, hu] at h; cases h
    | some d =>
      rw [hi, hu] at h
      cases d <;> try (cases h; done)
      rename_i fields
      injection h with h1 h2
      exact built_of hi hu h1 h2 hf
set_option maxRecDepth 100000 in
theorem slot_parts : (match Try.prog.info? 48, Try.prog.underlying 48 with | some it, some (.struct fields) => (it.zero, fields.toList.mapM (fun f => (Try.prog.info? f.type).map fun i => (f.offset, i.size))) | _, _ => (none, none)) = (some (.agg (slC zeroS).toArray), some slPlaces) := by kernel_rfl
set_option maxRecDepth 100000 in
theorem change_parts : (match Try.prog.info? 51, Try.prog.underlying 51 with | some it, some (.struct fields) => (it.zero, fields.toList.mapM (fun f => (Try.prog.info? f.type).map fun i => (f.offset, i.size))) | _, _ => (none, none)) = (some (.agg (chC zeroC nilV nilV).toArray), some chPlaces) := by kernel_rfl
set_option maxRecDepth 100000 in
theorem diff_parts : (match Try.prog.info? 26, Try.prog.underlying 26 with | some it, some (.struct fields) => (it.zero, fields.toList.mapM (fun f => (Try.prog.info? f.type).map fun i => (f.offset, i.size))) | _, _ => (none, none)) = (some (.agg (dfC zeroD nilV).toArray), some dfPlaces) := by kernel_rfl
set_option maxRecDepth 100000 in
theorem build_slot (k v : List UInt8) (hk : k.length = 32) (hv : v.length = 32) (w : World) : (Instr.build 48 #[(0, arrV k), (1, arrV v)]).run Try.prog w = .ok (.agg (slC ⟨k, v⟩).toArray) w := by
  refine run_build w _ _ _ (struct_parts slot_parts ?_)
  have h1 := fill_cons (slPlaces.toArray[·]?) 0 (arrV k) (bvs k) [] (bvs zero32) (bvs zero32) [(1, arrV v)] (by rw [bvs_length, hk]; rfl) rfl (by rw [bvs_length, bvs_length, hk]; rfl)
  have h2 := fill_cons (slPlaces.toArray[·]?) 1 (arrV v) (bvs v) (bvs k) (bvs zero32) [] [] (by rw [bvs_length, bvs_length, hk, hv]; rfl) rfl (by rw [bvs_length, bvs_length, hv]; rfl)
  simp only [List.nil_append, List.append_nil] at h1 h2
  show Instr.fill _ (slC zeroS).toArray [(0, arrV k), (1, arrV v)] = _
  unfold slC zeroS
  rw [h1, h2]
  rfl
set_option maxRecDepth 100000 in
theorem build_diff (i p : List UInt8) (hi : i.length = 32) (hp : p.length = 32) (w : World) : (Instr.build 26 #[(0, arrV i), (1, arrV p)]).run Try.prog w = .ok (.agg (dfC ⟨i, p, []⟩ nilV).toArray) w := by
  refine run_build w _ _ _ (struct_parts diff_parts ?_)
  have h1 := fill_cons (dfPlaces.toArray[·]?) 0 (arrV i) (bvs i) [] (bvs zero32) (bvs zero32 ++ [nilV]) [(1, arrV p)] (by rw [bvs_length, hi]; rfl) rfl (by rw [bvs_length, bvs_length, hi]; rfl)
  have h2 := fill_cons (dfPlaces.toArray[·]?) 1 (arrV p) (bvs p) (bvs i) (bvs zero32) [nilV] [] (by rw [bvs_length, bvs_length, hi, hp]; rfl) rfl (by rw [bvs_length, bvs_length, hp]; rfl)
  simp only [List.nil_append, List.append_assoc] at h1 h2
  show Instr.fill _ (dfC zeroD nilV).toArray [(0, arrV i), (1, arrV p)] = _
  unfold dfC zeroD
  rw [h1, h2]
  rfl
set_option maxRecDepth 100000 in
theorem build_change (a b : List UInt8) (g : Bool) (n : Int) (A : Option Addr) (m c : Nat) (ha : a.length = 20) (hb : b.length = 32) (w : World) :
    (Instr.build 51 #[(0, arrV a), (1, .bool g), (2, .int .i64 n), (3, arrV b), (4, .slice A m c)]).run Try.prog w = .ok (.agg (chC ⟨a, g, n, b, [], []⟩ (.slice A m c) nilV).toArray) w := by
  refine run_build w _ _ _ (struct_parts change_parts ?_)
  have h1 := fill_cons (chPlaces.toArray[·]?) 0 (arrV a) (bvs a) [] (bvs (List.replicate 20 0)) ([.bool false, .int .i64 0] ++ (bvs zero32 ++ [nilV, nilV])) [(1, .bool g), (2, .int .i64 n), (3, arrV b), (4, .slice A m c)] (by rw [bvs_length, ha]; rfl) rfl (by rw [bvs_length, bvs_length, ha]; rfl)
  have h2 := fill_cons (chPlaces.toArray[·]?) 1 (.bool g) [.bool g] (bvs a) [.bool false] ([.int .i64 0] ++ (bvs zero32 ++ [nilV, nilV])) [(2, .int .i64 n), (3, arrV b), (4, .slice A m c)] (by rw [bvs_length, ha]; rfl) rfl rfl
  have h3 := fill_cons (chPlaces.toArray[·]?) 2 (.int .i64 n) [.int .i64 n] (bvs a ++ [.bool g]) [.int .i64 0] (bvs zero32 ++ [nilV, nilV]) [(3, arrV b), (4, .slice A m c)] (by rw [List.length_append, bvs_length, ha]; rfl) rfl rfl
  have h4 := fill_cons (chPlaces.toArray[·]?) 3 (arrV b) (bvs b) (bvs a ++ [.bool g, .int .i64 n]) (bvs zero32) [nilV, nilV] [(4, .slice A m c)] (by rw [List.length_append, bvs_length, bvs_length, ha, hb]; rfl) rfl (by rw [bvs_length, bvs_length, hb]; rfl)
  have h5 := fill_cons (chPlaces.toArray[·]?) 4 (.slice A m c) [.slice A m c] (bvs a ++ ([.bool g, .int .i64 n] ++ bvs b)) [nilV] [nilV] [] (by simp only [List.length_append, bvs_length, ha, hb]; rfl) rfl rfl
  simp only [List.nil_append, List.append_assoc, List.cons_append] at h1 h2 h3 h4 h5
  show Instr.fill _ (chC zeroC nilV nilV).toArray [(0, arrV a), (1, .bool g), (2, .int .i64 n), (3, arrV b), (4, .slice A m c)] = _
  unfold chC zeroC
  simp only [List.cons_append, List.nil_append]
  rw [h1, h2, h3, h4, h5]
  rfl
set_option maxRecDepth 100000 in
theorem build_slot0 (w : World) : (Instr.build 48 #[]).run Try.prog w = .ok (.agg (slC zeroS).toArray) w := run_build w _ _ _ (struct_parts slot_parts rfl)
set_option maxRecDepth 100000 in
theorem build_change0 (w : World) : (Instr.build 51 #[]).run Try.prog w = .ok (.agg (chC zeroC nilV nilV).toArray) w := run_build w _ _ _ (struct_parts change_parts rfl)
set_option maxRecDepth 100000 in
theorem build_diff0 (w : World) : (Instr.build 26 #[]).run Try.prog w = .ok (.agg (dfC zeroD nilV).toArray) w := run_build w _ _ _ (struct_parts diff_parts rfl)
/-- A literal, as a step of the walk. -/
theorem wpL_build {w : World} {ops : Array Oper} {rest : List Oper} {o : Oper} {a : Act} {Q : Exit → Act → World → Prop} {t : TypeId} {v : Value} (parts : Array (Nat × Operand)) (pv : Array (Nat × Value)) (hr : (Instr.build t pv).run Try.prog w = .ok v w)
    (hgd : o.guard = none) (ho : o.op = .build t parts) (hx : (parts.map fun (i, x) => (i, a.eval x)) = pv) (h : wpList Try.prog ops Q rest (a.put o.dst v) w) : wpList Try.prog ops Q (o :: rest) a w := by
  refine wpList_plain hgd fun _ hK => ?_
  have h1 := hK _ _ h
  unfold Oper.wp execOp
  simp only [ho, hx, Sem.run_bind, hr, Result.andThen_ok, Sem.run_pure]
  exact h1
/-- A value that an operation without a trace in memory gives. -/
theorem wpL_value {w : World} {ops : Array Oper} {rest : List Oper} {o : Oper} {a : Act} {Q : Exit → Act → World → Prop} (v : Value) (hgd : o.guard = none) (hr : (execOp a.eval o).run Try.prog w = .ok (.value v) w)
    (h : wpList Try.prog ops Q rest (a.put o.dst v) w) : wpList Try.prog ops Q (o :: rest) a w := by
  refine wpList_plain hgd fun _ hK => ?_
  have h1 := hK _ _ h
  unfold Oper.wp
  simp only [hr]
  exact h1

/-! ### Rows -/
theorem slT_slots : SlT Try.prog 49 48 64 64 :=
  ⟨Try.underlying49, by
    have h : (Try.prog.info? 48).map (fun i => (i.zero, i.size, i.bytes)) = some (some (.agg (slC zeroS).toArray), 64, 64) := by kernel_rfl
    obtain ⟨i, hi, hz, h1, h2⟩ := info_parts h
    exact ⟨i, _, hi, hz, h1, h2, rfl⟩, by omega⟩
theorem change_bytes : (Try.prog.info? 51).map (fun i => (i.zero, i.size, i.bytes)) = some (some (.agg (chC zeroC nilV nilV).toArray), 56, 112) := by kernel_rfl
theorem slT_changes : SlT Try.prog 24 51 56 112 :=
  ⟨Try.underlying24, by
    obtain ⟨i, hi, hz, h1, h2⟩ := info_parts change_bytes
    exact ⟨i, _, hi, hz, h1, h2, rfl⟩, by omega⟩
/-- A slice of slots that the call owns. -/
structure OwnSl (w : World) (B : Nat) (v : Value) (ss : List Sl) : Prop where
  own : w.ownsRow B 48 64 v ss.length (ss.map slC).flatten
  oks : ∀ s ∈ ss, s.ok
theorem OwnSl.nil (w : World) (B : Nat) : OwnSl w B nilV [] := ⟨World.ownsRow_nil _ _ _ _, by simp⟩
theorem OwnSl.gr {w w' : World} {B : Nat} {v : Value} {ss : List Sl} (h : OwnSl w B v ss) (hg : Gr w w') : OwnSl w' B v ss := ⟨own_gr h.own hg, h.oks⟩
theorem OwnSl.form {w : World} {B : Nat} {v : Value} {ss : List Sl} (h : OwnSl w B v ss) : ∃ A c, v = .slice A ss.length c ∧ ss.length ≤ c ∧ c ≤ maxLen := own_form h.own
theorem OwnSl.isP {w : World} {B : Nat} {v : Value} {ss : List Sl} (h : OwnSl w B v ss) : IsSlP (fun k => B ≤ k ∧ k < w.heap.size) w v ss := by
  obtain ⟨A, c, rfl, h1, h2⟩ := h.form
  exact ⟨A, c, rfl, h1, h2, own_RdP h.own, h.oks⟩
theorem OwnSl.push {w5 : World} {B : Nat} {v5 : Value} {ss : List Sl} {s : Sl} (hs : ∀ s ∈ ss, s.ok) (h : w5.ownsRow B 48 64 v5 (ss.length + 1) ((ss.map slC).flatten ++ slC s)) (hok : s.ok) : OwnSl w5 B v5 (ss ++ [s]) :=
  ⟨by simpa using h, fun t ht => by
    rcases List.mem_append.1 ht with ht | ht
    · exact hs t ht
    · obtain rfl : t = s := by simpa using ht
      exact hok⟩
/-- A slice of changes that the call owns. -/
structure OwnCh (w : World) (B : Nat) (v : Value) (l : List Ch) (rows : List (List Value)) : Prop where
  own : w.ownsRow B 51 56 v l.length rows.flatten
  at_ : ChsAtP (fun k => k < w.heap.size ∧ v.ownBlock ≠ some k) w l rows
theorem OwnCh.nil (w : World) (B : Nat) : OwnCh w B nilV [] [] := ⟨World.ownsRow_nil _ _ _ _, by rw [ChsAtP]⟩
theorem OwnCh.gr {w w' : World} {B : Nat} {v : Value} {l : List Ch} {rows : List (List Value)} (h : OwnCh w B v l rows) (hg : Gr w w') : OwnCh w' B v l rows :=
  ⟨own_gr h.own hg, ChsAtP.mono (fun k hk => ⟨Nat.lt_of_lt_of_le hk.1 hg.size, hk.2⟩) (fun p hp => hg.cell hp.1) _ _ h.at_⟩
theorem OwnCh.form {w : World} {B : Nat} {v : Value} {l : List Ch} {rows : List (List Value)} (h : OwnCh w B v l rows) : ∃ A c, v = .slice A l.length c ∧ l.length ≤ c ∧ c ≤ maxLen := own_form h.own
theorem OwnCh.is {w : World} {B : Nat} {v : Value} {l : List Ch} {rows : List (List Value)} (h : OwnCh w B v l rows) : IsChs w v l := by
  obtain ⟨A, c, rfl, h1, h2⟩ := h.form
  exact ⟨A, c, rows, rfl, h1, h2, (own_RdP h.own).mono (fun b hb => hb.2) (fun _ _ => rfl), ChsAtP.mono (fun k hk => hk.1) (fun _ _ => rfl) _ _ h.at_⟩
theorem ChsAtP.append {ok : Nat → Prop} {w : World} : ∀ (xs ys : List Ch) (rows rest : List (List Value)), ChsAtP ok w xs rows → ChsAtP ok w ys rest → ChsAtP ok w (xs ++ ys) (rows ++ rest)
  | [], ys, rows, rest, h1, h2 => by
    rw [ChsAtP] at h1
    subst h1
    exact h2
  | x :: xs, ys, rows, rest, h1, h2 => by
    rw [ChsAtP] at h1
    obtain ⟨r, rs, rfl, h3, h4⟩ := h1
    rw [List.cons_append, ChsAtP]
    exact ⟨r, rs ++ rest, rfl, h3, ChsAtP.append xs ys rs rest h4 h2⟩
theorem OwnCh.push {B : Nat} {w1 w5 : World} {l : List Ch} {c : Ch} {v v5 : Value} {rows : List (List Value)} {r : List Value} (h : OwnCh w1 B v l rows) (hix : ChAtP (fun k => k < w1.heap.size ∧ v.ownBlock ≠ some k) w1 c r) (hg5 : w1.grownBy w5 v.ownBlock)
    (hown5 : w5.ownsRow B 51 56 v5 (l.length + 1) (rows.flatten ++ r)) (hbk5 : v5.ownBlock = v.ownBlock ∨ v5.ownBlock = some w1.heap.size) : OwnCh w5 B v5 (l ++ [c]) (rows ++ [r]) := by
  have hs5 := hg5.size
  have hmono : ∀ k, (k < w1.heap.size ∧ v.ownBlock ≠ some k) → (k < w5.heap.size ∧ v5.ownBlock ≠ some k) := fun k hk => ⟨Nat.lt_of_lt_of_le hk.1 hs5, fun e => by
    rcases hbk5 with h5 | h5
    · exact hk.2 (h5 ▸ e)
    · rw [h5] at e
      injection e with e
      have := hk.1
      omega⟩
  have hcell : ∀ p : Addr, (p.block < w1.heap.size ∧ v.ownBlock ≠ some p.block) → w5.cell? p = w1.cell? p := fun p hp => World.cell?_of_block (hg5.block p.block hp.1 (fun e => hp.2 e.symm))
  refine ⟨by simpa using hown5, ChsAtP.append l [c] rows [r] (ChsAtP.mono hmono hcell _ _ h.at_) ?_⟩
  rw [ChsAtP]
  exact ⟨r, [], rfl, ChAtP.mono hix hmono hcell, by rw [ChsAtP]⟩

/-! ### Results -/
theorem results_row2 {fn : Func} {p u : Tmp} {ty : TypeId} (h : fn.results = #[.cell p ty, .tmp u]) (tmps : Array Value) (w : World) (g : Nat) (t : TypeId) (cs : Array Value) {fs : Array Field}
    (hp : tmps.getD p undef = .pointer (some ⟨g, 0, none⟩)) (hg : w.heap[g]? = some (.cells cs t (0, 0))) (hu : Try.prog.underlying ty = some (.struct fs)) (hi : (Try.prog.info? ty).map (·.size) = some cs.size) :
    (results fn tmps).run Try.prog w = .ok (.tuple #[.agg cs, tmps.getD u undef]) w := by
  have hp' : tmps[p]?.getD undef = .pointer (some ⟨g, 0, none⟩) := by simpa using hp
  have hr := run_loadVar_row w g t ty cs (0, 0) _ hg hu rfl hi
  simp [results, h, hp', asAddr, hr]
theorem zeroS_ok : zeroS.ok := ⟨rfl, rfl⟩
theorem zeroC_ok : zeroC.ok := ⟨rfl, rfl, by decide, by decide, by simp [zeroC]⟩
theorem zeroD_ok : zeroD.ok := ⟨rfl, rfl, by simp [zeroD]⟩
theorem diff_info (d : Df) (h : d.ok) (vl : Value) : (Try.prog.info? 26).map (·.size) = some (dfC d vl).length := by
  rw [dfC_length h]
  kernel_rfl
theorem dfC_one {d : Df} {vl : Value} (h1 : vl.oneCell' = true) : ∀ u ∈ dfC d vl, u.oneCell' = true := by
  intro u hu
  simp only [dfC, List.mem_append, List.mem_cons, List.not_mem_nil, or_false] at hu
  rcases hu with hu | hu | rfl
  · exact bvs_one _ u hu
  · exact bvs_one _ u hu
  · exact h1
theorem chAt_zero {ok : Nat → Prop} (w : World) : ChAtP ok w zeroC (chC zeroC nilV nilV) :=
  ⟨nilV, nilV, rfl, ⟨none, 0, rfl, Nat.le_refl _, by simp [maxLen], fun hn => absurd rfl hn⟩, ⟨none, 0, rfl, Nat.le_refl _, by simp [maxLen], fun hn => absurd rfl hn, by simp [zeroC]⟩, zeroC_ok⟩
end Go.Proofs.Ytekacgocjplfjaa
/-
  journal: whole, slot.
  Conditions: none.
-/
namespace Go.Proofs.Ytekacgocjplfjaa
set_option linter.unusedVariables false
open Go.RowKit Mono Rlp Jn

theorem isBP_at {ok : Nat → Prop} {w : World} {A : Option Addr} {n c : Nat} {l : List UInt8} (h : IsBP ok w (.slice A n c) l) (h0 : 0 < l.length) : ∃ b o, A = some ⟨b, o, none⟩ ∧ ok b ∧ w.rangeAt b o (bvs l) := by
  obtain ⟨A', c', e, _, _, hr⟩ := h
  injection e with e1 e2 e3
  subst e1
  obtain ⟨b, o, e, hb, hc⟩ := hr (fun e => by have := congrArg List.length e; rw [bvs_length] at this; simp at this; rw [this] at h0; simp at h0)
  exact ⟨b, o, e, hb, fun j v hv => hc j v hv⟩
set_option maxRecDepth 100000 in
theorem build_word0 (w : World) : (Instr.build 23 #[]).run Try.prog w = .ok (arrV zero32) w := by kernel_rfl
theorem to_word (w : World) (A : Option Addr) (n c : Nat) (h : 32 ≤ n) : (Instr.arrayAt 23 (.slice A n c)).run Try.prog w = .ok (.pointer A) w := run_arrayAt _ _ _ 32 A n c Try.underlying23 h
/-- The 32 bytes of an item. -/
def wholeR (x : Raw) : Option (List UInt8) := match isB x with
  | some l => if l.length = 32 then some l else none
  | none => none
def wholeV (x : Raw) : Value := .tuple #[arrV ((wholeR x).getD zero32), .bool (wholeR x).isSome]
theorem wholeV_none {x : Raw} (h : wholeR x = none) : wholeV x = .tuple #[arrV zero32, .bool false] := by unfold wholeV; rw [h]; rfl
theorem wholeV_some {x : Raw} {l : List UInt8} (h : wholeR x = some l) : wholeV x = .tuple #[arrV l, .bool true] := by unfold wholeV; rw [h]; rfl
theorem whole_length {x : Raw} : ((wholeR x).getD zero32).length = 32 := by
  unfold wholeR
  split
  · split
    · assumption
    · rfl
  · rfl
set_option maxRecDepth 20000 in
set_option maxHeartbeats 1000000 in
theorem j_whole (v : Value) (x : Raw) (w : World) (h : IsItem w v x) : Calls Try.prog 44 #[v] w (Ret (eqV (wholeV x)) w) := by
  obtain ⟨lx, bx, xs⟩ := x
  obtain ⟨vb1, vl1, rfl, hb, A1, c1, rows1, rfl, hc1, hm1, _⟩ := isItem_form h
  have HB := Lib.hid hb
  obtain ⟨A0, c0, rfl, hc0, hm0, _⟩ := hb
  unfold maxLen at hm0 hm1
  clear h
  go_enter Try.func44, Try.ntmps44
  cases lx with
  | true =>
    have HI := Lib.hid (wholeV_none (x := .mk true bx xs) rfl)
    go_wp2_with first
      | (guard_target = wpList _ _ _ (Oper.mk _ (Op.alloc _) _ _ _ _ :: _) _ _; refine wpL_alloc_word (w.heap.size + 1) (by simp) rfl rfl ?_; intro w0 hA0 hG0 hs0; obtain ⟨q0, q1, q2⟩ := cells_of3 ((hG0.out.block w.heap.size (by simp)).trans (heap_alloc_new w _)))
      | (guard_target = wpList _ _ _ (Oper.mk _ (Op.build _ _) _ _ _ _ :: _) _ _; refine wpL_build #[] #[] (build_word0 _) rfl rfl (by simp) ?_)
      | (guard_target = wpList _ _ _ (Oper.mk _ (Op.store _ _ _) _ _ _ _ :: _) _ _; refine wpList_store_row rfl 23 (.tmp 2) (.tmp 12) rfl (w.heap.size + 1) (bvs zero32).toArray rfl rfl 23 _ hA0.out (arr_info _ zero32_length) rfl (arr_one _) ?_)
    have HG0 := Lib.hid ((gr_alloc w (.cells #[.bool true, .slice A0 bx.length c0, .slice A1 xs.length c1] 56)).trans hG0.out)
    refine bodyPost_ret (results_word2 rfl _ _ (w.heap.size + 1) 23 zero32 rfl (arr_setRow hA0.out) zero32_length) rfl ?_
    exact ⟨_, rfl, gr_setRow HG0.out _ _ (by omega), by unfold eqV; rw [HI.out]; rfl⟩
  | false =>
    by_cases hn : bx.length = 32
    · have HI := Lib.hid (wholeV_some (x := .mk false bx xs) (l := bx) (by unfold wholeR; simp [isB, hn]))
      have HN := Lib.hid hn
      obtain ⟨b, o, rfl, hbb, hrg⟩ := isBP_at HB.out (by omega)
      have HRG := Lib.hid hrg
      rw [hn] at hc0 ⊢
      clear hn hrg
      go_wp2_with first
        | (guard_target = wpList _ _ _ (Oper.mk _ (Op.alloc _) _ _ _ _ :: _) _ _; refine wpL_alloc_word (w.heap.size + 1) (by simp) rfl rfl ?_; intro w0 hA0 hG0 hs0; obtain ⟨q0, q1, q2⟩ := cells_of3 ((hG0.out.block w.heap.size (by simp)).trans (heap_alloc_new w _)); have HG0 := Lib.hid ((gr_alloc w (.cells #[.bool false, .slice (some ⟨b, o, none⟩) 32 c0, .slice A1 xs.length c1] 56)).trans hG0.out))
        | (guard_target = wpList _ _ _ (Oper.mk _ (Op.sliceToArrayPointer _ _) _ _ _ _ :: _) _ _; refine wpL_value (.pointer (some ⟨b, o, none⟩)) rfl (by simp [execOp, Act.eval, to_word]) ?_)
        | (guard_target = wpList _ _ _ (Oper.mk _ (Op.load _ _) _ _ _ _ :: _) _ _; refine wpList_load_mid rfl 23 (.tmp 15) rfl b o rfl (bvs bx) _ (range_gr HRG.out HG0.out hbb) Try.underlying23 rfl (word_size _ HN.out) ?_)
        | (guard_target = wpList _ _ _ (Oper.mk _ (Op.store _ _ _) _ _ _ _ :: _) _ _; refine wpList_store_row rfl 23 (.tmp 2) (.tmp 16) rfl (w.heap.size + 1) (bvs bx).toArray rfl rfl 23 _ hA0.out (arr_info _ HN.out) (by rw [arr_size _ HN.out]; rfl) (arr_one _) ?_)
      refine bodyPost_ret (results_word2 rfl _ _ (w.heap.size + 1) 23 bx rfl (arr_setRow hA0.out) HN.out) rfl ?_
      exact ⟨_, rfl, gr_setRow HG0.out _ _ (by omega), by unfold eqV; rw [HI.out]; rfl⟩
    · have HI := Lib.hid (wholeV_none (x := .mk false bx xs) (by unfold wholeR; simp [isB, hn]))
      go_wp2_with first
        | (guard_target = wpList _ _ _ (Oper.mk _ (Op.alloc _) _ _ _ _ :: _) _ _; refine wpL_alloc_word (w.heap.size + 1) (by simp) rfl rfl ?_; intro w0 hA0 hG0 hs0; obtain ⟨q0, q1, q2⟩ := cells_of3 ((hG0.out.block w.heap.size (by simp)).trans (heap_alloc_new w _)))
        | (guard_target = wpList _ _ _ (Oper.mk _ (Op.build _ _) _ _ _ _ :: _) _ _; refine wpL_build #[] #[] (build_word0 _) rfl rfl (by simp) ?_)
        | (guard_target = wpList _ _ _ (Oper.mk _ (Op.store _ _ _) _ _ _ _ :: _) _ _; refine wpList_store_row rfl 23 (.tmp 2) (.tmp 12) rfl (w.heap.size + 1) (bvs zero32).toArray rfl rfl 23 _ hA0.out (arr_info _ zero32_length) rfl (arr_one _) ?_)
      have HG0 := Lib.hid ((gr_alloc w (.cells #[.bool false, .slice A0 bx.length c0, .slice A1 xs.length c1] 56)).trans hG0.out)
      refine bodyPost_ret (results_word2 rfl _ _ (w.heap.size + 1) 23 zero32 rfl (arr_setRow hA0.out) zero32_length) rfl ?_
      exact ⟨_, rfl, gr_setRow HG0.out _ _ (by omega), by unfold eqV; rw [HI.out]; rfl⟩
/-- The slot that 'slot' tells. -/
def slotP (x : Raw) : Sl × Bool := match isL x with
  | some [a, b] => (⟨(wordR a).getD zero32, (wordR b).getD zero32⟩, (wordR a).isSome && (wordR b).isSome)
  | _ => (zeroS, false)
theorem word_len (x : Raw) : ((wordR x).getD zero32).length = 32 := by
  cases h : wordR x with
  | none => rfl
  | some l =>
    unfold wordR at h
    cases hn : numB x with
    | none => rw [hn] at h; cases h
    | some bs =>
      rw [hn, Option.bind_some] at h
      split at h
      · rename_i h9
        cases h
        exact pad_length bs h9
      · cases h
theorem slotP_ok (x : Raw) : (slotP x).1.ok := by
  unfold slotP
  split
  · exact ⟨word_len _, word_len _⟩
  · exact zeroS_ok
theorem slotP_some {x : Raw} {s : Sl} (h : slotR x = some s) : slotP x = (s, true) := by
  unfold slotR at h
  split at h
  · rename_i a b hl
    split at h
    · rename_i k v hk hv
      cases h
      unfold slotP
      rw [hl]
      dsimp only
      rw [hk, hv]
      rfl
    · cases h
  · cases h
theorem slotP_none {x : Raw} (h : slotR x = none) : (slotP x).2 = false := by
  unfold slotR at h
  split at h
  · rename_i a b hl
    split at h
    · cases h
    · rename_i hn
      unfold slotP
      rw [hl]
      dsimp only
      cases h1 : wordR a with
      | none => rfl
      | some k =>
        cases h2 : wordR b with
        | none => rfl
        | some v => exact absurd h2 (hn k v h1)
  · rename_i hn
    unfold slotP
    split
    · rename_i a b hl
      exact absurd hl (hn a b)
    · rfl
def slotV (x : Raw) : Value := .tuple #[.agg (slC (slotP x).1).toArray, .bool (slotP x).2]
theorem slotV_bad {x : Raw} (h : ∀ a b, isL x ≠ some [a, b]) : slotV x = .tuple #[.agg (slC zeroS).toArray, .bool false] := by
  unfold slotV slotP
  split
  · rename_i a b hl
    exact absurd hl (h a b)
  · rfl
set_option maxRecDepth 20000 in
set_option maxHeartbeats 2000000 in
theorem j_slot (v : Value) (x : Raw) (w : World) (h : IsItem w v x) : Calls Try.prog 58 #[v] w (Ret (eqV (slotV x)) w) := by
  obtain ⟨lx, bx, xs⟩ := x
  obtain ⟨vb1, vl1, rfl, ⟨A0, c0, rfl, hc0, hm0, _⟩, A1, c1, rows1, rfl, hc1, hm1, _, hrd, hit⟩ := isItem_form h
  unfold maxLen at hm0 hm1
  clear h
  have HRD := Lib.hid hrd
  have HIT := Lib.hid hit
  clear hrd hit
  generalize bx.length = n0 at hc0
  go_enter Try.func58, Try.ntmps58
  by_cases hl : lx = true ∧ xs.length = 2
  · obtain ⟨rfl, hl⟩ := hl
    obtain ⟨a, b, rfl⟩ : ∃ a b, xs = [a, b] := by
      match xs, hl with
      | [a, b], _ => exact ⟨a, b, rfl⟩
    clear hl
    simp only [List.length_cons, List.length_nil] at hc1 ⊢
    obtain ⟨bl, o, f, vb, vl, rfl, hbl, e1, e2, e3, hx, ⟨A3, n3, c3, rfl⟩, A4, n4, c4, rfl⟩ := items_at HRD.out HIT.out 0 (by simp)
    obtain ⟨bl2, o2, f2, vb2, vl2, e0, hbl2, g1, g2, g3, hy, ⟨A5, n5, c5, rfl⟩, A6, n6, c6, rfl⟩ := items_at HRD.out HIT.out 1 (by simp)
    injection e0 with e0
    injection e0 with e0 e0'
    subst e0 e0'
    simp only [Nat.zero_mul, Nat.add_zero, Nat.one_mul, List.getElem_cons_zero, List.getElem_cons_succ] at e1 e2 e3 hx g1 g2 g3 hy
    have HX := Lib.hid hx
    have HY := Lib.hid hy
    have E1 := Lib.hid e1
    have E2 := Lib.hid e2
    have E3 := Lib.hid e3
    have G1 := Lib.hid g1
    have G2 := Lib.hid g2
    have G3 := Lib.hid g3
    clear hx hy e1 e2 e3 g1 g2 g3 HRD HIT
    have HKA := Lib.hid (word_len a)
    have HKB := Lib.hid (word_len b)
    have HI : Hid (slotV (.mk true bx [a, b]) = .tuple #[.agg (slC ⟨(wordR a).getD zero32, (wordR b).getD zero32⟩).toArray, .bool ((wordR a).isSome && (wordR b).isSome)]) := Lib.hid rfl
    obtain ⟨ka, hka⟩ : ∃ k, k = (wordR a).getD zero32 := ⟨_, rfl⟩
    obtain ⟨oa, hoa⟩ : ∃ k, k = (wordR a).isSome := ⟨_, rfl⟩
    obtain ⟨kb, hkb⟩ : ∃ k, k = (wordR b).getD zero32 := ⟨_, rfl⟩
    obtain ⟨ob, hob⟩ : ∃ k, k = (wordR b).isSome := ⟨_, rfl⟩
    rw [← hka] at HKA
    rw [← hkb] at HKB
    rw [← hka, ← hkb, ← hoa, ← hob] at HI
    have HVA : Hid (wordV a = .tuple #[arrV ka, .bool oa]) := Lib.hid (by unfold wordV; rw [hka, hoa])
    have HVB : Hid (wordV b = .tuple #[arrV kb, .bool ob]) := Lib.hid (by unfold wordV; rw [hkb, hob])
    clear hka hkb hoa hob
    go_upto_region 4 with first
      | (guard_target = wpList _ _ _ (Oper.mk _ (Op.alloc _) _ _ _ _ :: _) _ _; refine wpL_alloc_of alloc_slot (w.heap.size + 1) (by simp) rfl rfl ?_; intro w0 hA0 hG0 hs0; have HG0 := Lib.hid ((gr_alloc w (.cells #[.bool true, .slice A0 n0 c0, .slice (some ⟨bl, o, none⟩) 2 c1] 56)).trans hG0.out); have HR0 := Lib.hid ((hG0.out.block w.heap.size (by simp)).trans (heap_alloc_new w _)); obtain ⟨q0, q1, q2⟩ := cells_of3 HR0.out; have e1 := (HG0.out.cell (p := ⟨bl, o, none⟩) hbl).trans E1.out; have e2 := (HG0.out.cell (p := ⟨bl, o + 1, none⟩) hbl).trans E2.out; have e3 := (HG0.out.cell (p := ⟨bl, o + 2, none⟩) hbl).trans E3.out)
      | (go_at_call 57; refine (rlp_Word _ a _ (HX.out.gr HG0.out)).mono ?_; rintro e w1 ⟨v1, rfl, hg1, hv1⟩; obtain rfl : v1 = .tuple #[arrV ka, .bool oa] := hv1.trans HVA.out; have HG1 := Lib.hid (HG0.out.trans hg1); have HA1 := Lib.hid ((hg1.block _ (lt_of_some hA0.out)).trans hA0.out); have HR1 := Lib.hid ((hg1.block _ (lt_of_some HR0.out)).trans HR0.out); have hs1 := hg1.size; clear hg1)
      | (guard_target = wpList _ _ _ (Oper.mk _ (Op.alloc _) _ _ _ _ :: _) _ _; refine wpL_alloc_word w1.heap.size rfl rfl rfl ?_; intro w2 hA2 hG2 hs2)
      | (guard_target = wpList _ _ _ (Oper.mk _ (Op.store _ _ _) _ _ _ _ :: _) _ _; refine wpList_store_row rfl 23 (.tmp 4) (.tmp 24) rfl w1.heap.size (bvs ka).toArray rfl rfl 23 _ hA2.out (arr_info _ HKA.out) (by rw [arr_size _ HKA.out]; rfl) (arr_one _) ?_)
    try go_frame
    have HA3 : Hid (Arr (w2.setRow w1.heap.size (bvs ka).toArray) w1.heap.size 23 ka) := Lib.hid (arr_setRow hA2.out)
    have HGv : Hid (Gr w1 (w2.setRow w1.heap.size (bvs ka).toArray)) := Lib.hid (gr_setRow hG2.out _ _ (Nat.le_refl _))
    have hs3 : (w2.setRow w1.heap.size (bvs ka).toArray).heap.size = w1.heap.size + 1 := by rw [size_setRow, hs2]
    generalize w2.setRow w1.heap.size (bvs ka).toArray = w3 at HA3 HGv hs3 ⊢
    have HG3 := Lib.hid (HG1.out.trans HGv.out)
    have HR3 := Lib.hid ((HGv.out.block _ (lt_of_some HR1.out)).trans HR1.out)
    have HZ3 := Lib.hid ((HGv.out.block _ (lt_of_some HA1.out)).trans HA1.out)
    clear hA2 hG2 hs2 q0 q1 q2 e1 e2 e3 HA1 HR1 HGv
    obtain ⟨q0, q1, q2⟩ := cells_of3 HR3.out
    have e1 := (HG3.out.cell (p := ⟨bl, o + 3, none⟩) hbl).trans G1.out
    have e2 := (HG3.out.cell (p := ⟨bl, o + 3 + 1, none⟩) hbl).trans G2.out
    have e3 := (HG3.out.cell (p := ⟨bl, o + 3 + 2, none⟩) hbl).trans G3.out
    go_upto_region 5 with first
      | (go_at_call 57; refine (rlp_Word _ b _ (HY.out.gr HG3.out)).mono ?_; rintro e w4 ⟨v4, rfl, hg4, hv4⟩; obtain rfl : v4 = .tuple #[arrV kb, .bool ob] := hv4.trans HVB.out; have HG4 := Lib.hid (HG3.out.trans hg4); have HA4 := Lib.hid (HA3.out.gr hg4); have HZ4 := Lib.hid ((hg4.block _ (lt_of_some HZ3.out)).trans HZ3.out); have hs4 := hg4.size; clear hg4)
      | (guard_target = wpList _ _ _ (Oper.mk _ (Op.alloc _) _ _ _ _ :: _) _ _; refine wpL_alloc_word w4.heap.size rfl rfl rfl ?_; intro w5 hA5 hG5 hs5)
      | (guard_target = wpList _ _ _ (Oper.mk _ (Op.store _ _ _) _ _ _ _ :: _) _ _; refine wpList_store_row rfl 23 (.tmp 6) (.tmp 32) rfl w4.heap.size (bvs kb).toArray rfl rfl 23 _ hA5.out (arr_info _ HKB.out) (by rw [arr_size _ HKB.out]; rfl) (arr_one _) ?_)
    try go_frame
    have HA6 : Hid (Arr (w5.setRow w4.heap.size (bvs kb).toArray) w4.heap.size 23 kb) := Lib.hid (arr_setRow hA5.out)
    have HGv : Hid (Gr w4 (w5.setRow w4.heap.size (bvs kb).toArray)) := Lib.hid (gr_setRow hG5.out _ _ (Nat.le_refl _))
    generalize w5.setRow w4.heap.size (bvs kb).toArray = w6 at HA6 HGv ⊢
    have HG6 := Lib.hid (HG4.out.trans HGv.out)
    have HA36 := Lib.hid (HA4.out.gr HGv.out)
    have HZ6 := Lib.hid ((HGv.out.block _ (lt_of_some HZ4.out)).trans HZ4.out)
    have hbs := Lib.hid (build_slot ka kb HKA.out HKB.out w6)
    have hsok : (Sl.mk ka kb).ok := ⟨HKA.out, HKB.out⟩
    have HOK := Lib.hid hsok
    clear hA5 hG5 hs5 q0 q1 q2 e1 e2 e3 HGv HA4 hsok
    cases oa <;> cases ob
    all_goals
      go_wp2_with first
        | (refine wpList_load_row rfl 23 (.tmp 4) rfl w1.heap.size rfl 23 (bvs ka).toArray (0, 0) _ HA36.out rfl rfl (arr_info _ HKA.out) ?_)
        | (refine wpList_load_row rfl 23 (.tmp 6) rfl w4.heap.size rfl 23 (bvs kb).toArray (0, 0) _ HA6.out rfl rfl (arr_info _ HKB.out) ?_)
        | (guard_target = wpList _ _ _ (Oper.mk _ (Op.build _ _) _ _ _ _ :: _) _ _; refine wpL_build #[(0, .tmp 34), (1, .tmp 35)] #[(0, arrV ka), (1, arrV kb)] hbs.out rfl rfl (by simp only [List.map_toArray, List.map_cons, List.map_nil, Act.eval]; rfl) ?_)
        | (guard_target = wpList _ _ _ (Oper.mk _ (Op.store _ _ _) _ _ _ _ :: _) _ _; refine wpList_store_row rfl 48 (.tmp 2) (.tmp 36) rfl (w.heap.size + 1) (slC ⟨ka, kb⟩).toArray rfl rfl 48 _ HZ6.out (slot_info' _ HOK.out) (slC_zero _ HOK.out) (all_oneCell_toArray (slC_one _)) ?_)
      refine bodyPost_ret (results_row2 rfl _ _ (w.heap.size + 1) 48 (slC ⟨ka, kb⟩).toArray rfl (heap_setRow_same _ _ _ _ _ HZ6.out) Try.underlying48 (slot_info' _ HOK.out)) rfl ?_
      exact ⟨_, rfl, gr_setRow HG6.out _ _ (by omega), by unfold eqV; rw [HI.out]; rfl⟩
  · have HI := Lib.hid (slotV_bad (x := .mk lx bx xs) (fun a b e => hl (by
      obtain ⟨c, e⟩ := isL_E e
      injection e with e1 e2 e3
      subst e1 e3
      exact ⟨rfl, rfl⟩)))
    cases lx with
    | false =>
      clear hl
      go_wp2_with first
        | (guard_target = wpList _ _ _ (Oper.mk _ (Op.alloc _) _ _ _ _ :: _) _ _; refine wpL_alloc_of alloc_slot (w.heap.size + 1) (by simp) rfl rfl ?_; intro w0 hA0 hG0 hs0; obtain ⟨q0, q1, q2⟩ := cells_of3 ((hG0.out.block w.heap.size (by simp)).trans (heap_alloc_new w _)))
        | (guard_target = wpList _ _ _ (Oper.mk _ (Op.build _ _) _ _ _ _ :: _) _ _; refine wpL_build #[] #[] (build_slot0 _) rfl rfl (by simp) ?_)
        | (guard_target = wpList _ _ _ (Oper.mk _ (Op.store _ _ _) _ _ _ _ :: _) _ _; refine wpList_store_row rfl 48 (.tmp 2) (.tmp 17) rfl (w.heap.size + 1) (slC zeroS).toArray rfl rfl 48 _ hA0.out (slot_info' _ zeroS_ok) rfl (all_oneCell_toArray (slC_one _)) ?_)
      have HG0 := Lib.hid ((gr_alloc w (.cells #[.bool false, .slice A0 n0 c0, .slice A1 xs.length c1] 56)).trans hG0.out)
      refine bodyPost_ret (results_row2 rfl _ _ (w.heap.size + 1) 48 (slC zeroS).toArray rfl (heap_setRow_same _ _ _ _ _ hA0.out) Try.underlying48 (slot_info' _ zeroS_ok)) rfl ?_
      exact ⟨_, rfl, gr_setRow HG0.out _ _ (by omega), by unfold eqV; rw [HI.out]; rfl⟩
    | true =>
      have h2 : ¬ xs.length = 2 := fun e => hl ⟨rfl, e⟩
      clear hl
      go_wp2_with first
        | (guard_target = wpList _ _ _ (Oper.mk _ (Op.alloc _) _ _ _ _ :: _) _ _; refine wpL_alloc_of alloc_slot (w.heap.size + 1) (by simp) rfl rfl ?_; intro w0 hA0 hG0 hs0; obtain ⟨q0, q1, q2⟩ := cells_of3 ((hG0.out.block w.heap.size (by simp)).trans (heap_alloc_new w _)))
        | (guard_target = wpList _ _ _ (Oper.mk _ (Op.build _ _) _ _ _ _ :: _) _ _; refine wpL_build #[] #[] (build_slot0 _) rfl rfl (by simp) ?_)
        | (guard_target = wpList _ _ _ (Oper.mk _ (Op.store _ _ _) _ _ _ _ :: _) _ _; refine wpList_store_row rfl 48 (.tmp 2) (.tmp 17) rfl (w.heap.size + 1) (slC zeroS).toArray rfl rfl 48 _ hA0.out (slot_info' _ zeroS_ok) rfl (all_oneCell_toArray (slC_one _)) ?_)
      have HG0 := Lib.hid ((gr_alloc w (.cells #[.bool true, .slice A0 n0 c0, .slice A1 xs.length c1] 56)).trans hG0.out)
      refine bodyPost_ret (results_row2 rfl _ _ (w.heap.size + 1) 48 (slC zeroS).toArray rfl (heap_setRow_same _ _ _ _ _ hA0.out) Try.underlying48 (slot_info' _ zeroS_ok)) rfl ?_
      exact ⟨_, rfl, gr_setRow HG0.out _ _ (by omega), by unfold eqV; rw [HI.out]; rfl⟩
end Go.Proofs.Ytekacgocjplfjaa
/-
  What 'one' and 'of' need: lists of parsed items, rows at an index, slice literals of one row, cells that are set.
  Conditions: none.
-/
namespace Go.Proofs.Ytekacgocjplfjaa
set_option linter.unusedVariables false
open Go.RowKit Mono Rlp Jn

namespace Jn
theorem allR_len {α : Type} {f : Raw → Option α} : ∀ (xs : List Raw) (ys : List α), allR f xs = some ys → ys.length = xs.length
  | [], ys, h => by cases h; rfl
  | x :: xs, ys, h => by
    rw [allR] at h
    cases hx : f x with
    | none => rw [hx] at h; cases h
    | some y =>
      rw [hx] at h
      dsimp only at h
      cases ht : allR f xs with
      | none => rw [ht] at h; cases h
      | some zs =>
        rw [ht] at h
        cases h
        simp [allR_len xs zs ht]
theorem allR_snoc {α : Type} {f : Raw → Option α} {x : Raw} {y : α} (hx : f x = some y) : ∀ (xs : List Raw) (ys : List α), allR f xs = some ys → allR f (xs ++ [x]) = some (ys ++ [y])
  | [], ys, h => by
    cases h
    simp [allR, hx]
  | a :: xs, ys, h => by
    rw [List.cons_append, allR]
    rw [allR] at h
    cases ha : f a with
    | none => rw [ha] at h; cases h
    | some b =>
      rw [ha] at h
      dsimp only at h ⊢
      cases ht : allR f xs with
      | none => rw [ht] at h; cases h
      | some zs =>
        rw [ht] at h
        cases h
        rw [allR_snoc hx xs zs ht]
        rfl
theorem allR_none {α : Type} {f : Raw → Option α} {x : Raw} (hx : f x = none) : ∀ (xs : List Raw), x ∈ xs → allR f xs = none
  | [], h => by simp at h
  | a :: xs, h => by
    rw [allR]
    rcases List.mem_cons.1 h with rfl | h
    · rw [hx]
    · cases ha : f a with
      | none => rfl
      | some b =>
        dsimp only
        rw [allR_none hx xs h]
theorem allR_take {α : Type} {f : Raw → Option α} {xs : List Raw} {ys : List α} {y : α} {k : Nat} (h : allR f (xs.take k) = some ys) (hk : k < xs.length) (hx : f xs[k] = some y) : allR f (xs.take (k + 1)) = some (ys ++ [y]) := by
  rw [← List.take_append_getElem hk]
  exact allR_snoc hx _ _ h
/-- What makes six items a change, but for its slots. -/
def goodC (f0 : Bool) (b0 : List UInt8) (i1 i2 i3 : Raw) (f4 f5 : Bool) : Bool := !f0 && (b0.length == 20) && (intR i1).isSome && decide ((intR i1).getD 0 ≤ 1) && (intR i2).isSome && (wordR i3).isSome && !f4 && f5
theorem chR_good {f0 f4 f5 : Bool} {b0 b4 b5 bx : List UInt8} {x0 x4 x5 : List Raw} {i1 i2 i3 : Raw} (h : goodC f0 b0 i1 i2 i3 f4 f5 = true) :
    chR (.mk true bx [.mk f0 b0 x0, i1, i2, i3, .mk f4 b4 x4, .mk f5 b5 x5]) = (allR slotR x5).map fun ss => ⟨b0, (intR i1).getD 0 == 1, ((intR i2).getD 0 : Nat), (wordR i3).getD zero32, b4, ss⟩ := by
  unfold goodC at h
  simp only [Bool.and_eq_true, Bool.not_eq_true', beq_iff_eq, decide_eq_true_eq] at h
  obtain ⟨⟨⟨⟨⟨⟨⟨h0, h20⟩, h1⟩, hg⟩, h2⟩, h3⟩, h4⟩, h5⟩ := h
  subst h0 h4 h5
  obtain ⟨n1, e1⟩ := Option.isSome_iff_exists.1 h1
  obtain ⟨n2, e2⟩ := Option.isSome_iff_exists.1 h2
  obtain ⟨n3, e3⟩ := Option.isSome_iff_exists.1 h3
  rw [e1] at hg
  simp only [chR, isL, isB, e1, e2, e3]
  rw [if_pos ⟨h20, hg⟩]
  cases allR slotR x5 <;> rfl
theorem chR_bad {f0 f4 f5 : Bool} {b0 b4 b5 bx : List UInt8} {x0 x4 x5 : List Raw} {i1 i2 i3 : Raw} (h : goodC f0 b0 i1 i2 i3 f4 f5 = false) :
    chR (.mk true bx [.mk f0 b0 x0, i1, i2, i3, .mk f4 b4 x4, .mk f5 b5 x5]) = none := by
  cases hc : chR (.mk true bx [.mk f0 b0 x0, i1, i2, i3, .mk f4 b4 x4, .mk f5 b5 x5]) with
  | none => rfl
  | some c =>
    exfalso
    unfold chR at hc
    simp only [isL] at hc
    cases f0 <;> cases f4 <;> cases f5 <;> simp only [isB] at hc <;> try (simp at hc; done)
    split at hc <;> try (cases hc; done)
    rename_i h0 h1 h2 h3 h4 h5
    split at hc <;> try (cases hc; done)
    rename_i hcond
    unfold goodC at h
    cases h0
    rw [h1, h2, h3] at h
    simp [hcond.1, hcond.2] at h
theorem chR_list {x : Raw} (h : ∀ a g n w c s, isL x ≠ some [a, g, n, w, c, s]) : chR x = none := by
  unfold chR
  split
  · rename_i a g n w c s hl
    exact absurd hl (h a g n w c s)
  · rfl
theorem intR_bound (x : Raw) : (intR x).getD 0 ≤ 9223372036854775807 := by
  cases h : intR x with
  | none => simp
  | some n => exact (intR_E h).2.1
theorem EL_len : ∀ xs : List Raw, xs.length ≤ (EL xs).length
  | [] => by simp [EL]
  | x :: xs => by
    rw [EL, List.length_append, List.length_cons]
    have := E_pos x
    have := EL_len xs
    omega
theorem E_list_len (bs : List UInt8) (xs : List Raw) : (EL xs).length ≤ (E (.mk true bs xs)).length := by
  rw [E_list, List.length_append]
  omega
theorem EL_mem : ∀ (xs : List Raw) (x : Raw), x ∈ xs → (E x).length ≤ (EL xs).length
  | [], x, h => by simp at h
  | a :: xs, x, h => by
    rw [EL, List.length_append]
    rcases List.mem_cons.1 h with rfl | h
    · omega
    · have := EL_mem xs x h
      omega
end Jn
theorem itemP_form {ok : Nat → Prop} {w : World} {b : Bool} {bs : List UInt8} {xs : List Raw} {cs : List Value} (h : ItemAtP ok w (.mk b bs xs) cs) :
    ∃ vb A c rows, cs = [.bool b, vb, .slice A xs.length c] ∧ IsBP ok w vb bs ∧ xs.length ≤ c ∧ c ≤ maxLen ∧ (A = none → xs.length = 0 ∧ c = 0) ∧ RdP ok w A rows.flatten ∧ ItemsAtP ok w xs rows := by
  rw [ItemAtP] at h
  exact h
theorem ItemsAtP.get {ok : Nat → Prop} {w : World} : ∀ (xs : List Raw) (rows : List (List Value)), ItemsAtP ok w xs rows → ∀ k (hk : k < xs.length), ∃ cs, ItemAtP ok w xs[k] cs ∧ ∀ j u, cs[j]? = some u → rows.flatten[k * 3 + j]? = some u
  | [], rows, _, k, hk => by simp at hk
  | x :: xs, rows, h, k, hk => by
    rw [ItemsAtP] at h
    obtain ⟨r, rest, rfl, h2, h3⟩ := h
    obtain ⟨b, A1, n1, c1, A, n, c, hr⟩ := h2.len
    have hr3 : r.length = 3 := by rw [hr]; rfl
    cases k with
    | zero =>
      refine ⟨r, h2, fun j u hu => ?_⟩
      have hj := (List.getElem?_eq_some_iff.1 hu).1
      rw [Nat.zero_mul, Nat.zero_add, List.flatten_cons, List.getElem?_append_left hj]
      exact hu
    | succ k =>
      obtain ⟨cs, h4, h5⟩ := ItemsAtP.get xs rest h3 k (by simpa using hk)
      refine ⟨cs, h4, fun j u hu => ?_⟩
      rw [List.flatten_cons, List.getElem?_append_right (by omega), hr3, ← h5 j u hu]
      congr 1
      omega
/-- The k-th item of a list. -/
theorem itemsP_at {ok : Nat → Prop} {w : World} {A : Option Addr} {xs : List Raw} {rows : List (List Value)} (hr : RdP ok w A rows.flatten) (h : ItemsAtP ok w xs rows) (k : Nat) (hk : k < xs.length) :
    ∃ bl o f A1 n1 c1 A2 n2 c2, A = some ⟨bl, o, none⟩ ∧ ok bl ∧ w.cell? ⟨bl, o + k * 3, none⟩ = some (.bool f) ∧ w.cell? ⟨bl, o + k * 3 + 1, none⟩ = some (.slice A1 n1 c1) ∧ w.cell? ⟨bl, o + k * 3 + 2, none⟩ = some (.slice A2 n2 c2) ∧ ItemAtP ok w xs[k] [.bool f, .slice A1 n1 c1, .slice A2 n2 c2] := by
  obtain ⟨cs, h1, h2⟩ := ItemsAtP.get xs rows h k hk
  obtain ⟨f, A1, n1, c1, A2, n2, c2, rfl⟩ := h1.len
  obtain ⟨bl, o, rfl, hb, hc⟩ := hr (fun e => by
    have := h2 0 _ rfl
    rw [e] at this
    simp at this)
  exact ⟨bl, o, f, A1, n1, c1, A2, n2, c2, rfl, hb, hc _ _ (h2 0 _ rfl), hc _ _ (h2 1 _ rfl), hc _ _ (h2 2 _ rfl), h1⟩
/-! ### Slice literals of one row -/
theorem fill_one {size : Nat} {v : Value} {vs M : List Value} (hv : v.cells = vs.toArray) (h1 : vs.length = size) (h2 : M.length = size) : Instr.fill (fun i => some (i * size, size)) M.toArray [(0, v)] = some vs.toArray := by
  have h := fill_cons (fun i => some (i * size, size)) 0 v vs [] M [] [] (by simp [h1]) hv (by omega)
  simp only [List.nil_append, List.append_nil] at h
  rw [h]
  rfl
theorem build1_slot (s : Sl) (h : s.ok) (w : World) : (Instr.buildSlice 49 1 #[(0, .agg (slC s).toArray)]).run Try.prog w = .ok (.slice (some ⟨w.heap.size, 0, none⟩) 1 1) (w.alloc (.cells (slC s).toArray 48)) := by
  obtain ⟨i, z, hi, hz, h1, h2, h3⟩ := slT_slots.info
  refine run_buildSlice w _ 48 1 _ _ i z Try.underlying49 hi hz (by rw [h1]; omega) (by rw [h1]; omega) ?_
  rw [h1]
  have := fill_one (v := .agg (slC s).toArray) (vs := slC s) (M := ((Array.range (1 * 64)).map (z.cells[· % z.cells.size]!)).toList) rfl (slC_length h) (by simp)
  rw [Array.toArray_toList] at this
  exact this
theorem build1_change (c : Ch) (vc vs : Value) (h : c.ok) (w : World) : (Instr.buildSlice 24 1 #[(0, .agg (chC c vc vs).toArray)]).run Try.prog w = .ok (.slice (some ⟨w.heap.size, 0, none⟩) 1 1) (w.alloc (.cells (chC c vc vs).toArray 51)) := by
  obtain ⟨i, z, hi, hz, h1, h2, h3⟩ := slT_changes.info
  refine run_buildSlice w _ 51 1 _ _ i z Try.underlying24 hi hz (by rw [h1]; omega) (by rw [h1]; omega) ?_
  rw [h1]
  have := fill_one (v := .agg (chC c vc vs).toArray) (vs := chC c vc vs) (M := ((Array.range (1 * 56)).map (z.cells[· % z.cells.size]!)).toList) rfl (chC_length h _ _) (by simp)
  rw [Array.toArray_toList] at this
  exact this
/-- Such a literal, as a step of the walk. -/
theorem wpL_build1 {w : World} {ops : Array Oper} {rest : List Oper} {o : Oper} {a : Act} {Q : Exit → Act → World → Prop} {t e : TypeId} {cs : Array Value} (x : Operand) (hr : (Instr.buildSlice t 1 #[(0, .agg cs)]).run Try.prog w = .ok (.slice (some ⟨w.heap.size, 0, none⟩) 1 1) (w.alloc (.cells cs e)))
    (g : Nat) (hg : w.heap.size = g) (hgd : o.guard = none) (ho : o.op = .buildSlice t 1 #[(0, x)]) (hx : a.eval x = .agg cs)
    (h : ∀ w', Hid (w'.heap[g]? = some (.cells cs e (0, 0))) → Hid (Gr w w') → w'.heap.size = g + 1 → wpList Try.prog ops Q rest (a.put o.dst (.slice (some ⟨g, 0, none⟩) 1 1)) w') : wpList Try.prog ops Q (o :: rest) a w := by
  subst hg
  refine wpList_plain hgd fun _ hK => ?_
  have h1 := hK _ _ (h _ (Lib.hid (heap_alloc_new w _)) (Lib.hid (gr_alloc w _)) (by simp))
  unfold Oper.wp execOp
  simp only [ho, List.map_toArray, List.map_cons, List.map_nil, hx, Sem.run_bind, hr, Result.andThen_ok, Sem.run_pure]
  exact h1
/-- A row in one block, read as a slice of one element. -/
theorem rd_row {w : World} {g : Nat} {cs : List Value} {t : TypeId} (h : w.heap[g]? = some (.cells cs.toArray t (0, 0))) : Rd w w.heap.size (some ⟨g, 0, none⟩) cs := fun _ =>
  ⟨g, 0, rfl, lt_of_some h, fun j u hu => by rw [Nat.zero_add, cell_of_row w g j _ t (0, 0) h]; simpa using hu⟩
/-! ### A cell of a struct that is set -/
theorem chC_set (c : Ch) (vc vs v : Value) (h : c.ok) : (chC c vc vs).toArray.setIfInBounds 55 v = (chC c vc v).toArray := by
  have h1 : chC c vc vs = (bvs c.addr ++ ([.bool c.gone, .int .i64 c.nonce] ++ (bvs c.bal ++ [vc]))) ++ [vs] := by simp [chC]
  have h2 : chC c vc v = (bvs c.addr ++ ([.bool c.gone, .int .i64 c.nonce] ++ (bvs c.bal ++ [vc]))) ++ [v] := by simp [chC]
  have h3 : (bvs c.addr ++ ([Value.bool c.gone, Value.int .i64 c.nonce] ++ (bvs c.bal ++ [vc]))).length = 55 := by simp [bvs, h.1, h.2.1]
  rw [h1, h2, List.setIfInBounds_toArray, ← h3, List.set_append_right _ _ (Nat.le_refl _), Nat.sub_self]
  rfl
theorem dfC_set (d : Df) (vl v : Value) (h : d.ok) : (dfC d vl).toArray.setIfInBounds 64 v = (dfC d v).toArray := by
  have h1 : dfC d vl = (bvs d.id ++ bvs d.par) ++ [vl] := by simp [dfC]
  have h2 : dfC d v = (bvs d.id ++ bvs d.par) ++ [v] := by simp [dfC]
  have h3 : (bvs d.id ++ bvs d.par).length = 64 := by simp [bvs, h.1, h.2.1]
  rw [h1, h2, List.setIfInBounds_toArray, ← h3, List.set_append_right _ _ (Nat.le_refl _), Nat.sub_self]
  rfl
end Go.Proofs.Ytekacgocjplfjaa
/-
  journal: slots, changes, diffs as data; slot.
  Conditions: none.
-/
namespace Go.Proofs.Ytekacgocjplfjaa
set_option linter.unusedVariables false
open Go.RowKit Mono Rlp Jn
namespace E
def dSl (s : Sl) : D := .tup [.arr 32 s.key, .arr 32 s.val]
def dCh (c : Ch) : D := .tup [.arr 20 c.addr, .v (.bool c.gone), .v (.int .i64 c.nonce), .arr 32 c.bal, .bs c.code, .sl 64 (c.slots.map dSl)]
def dDf (d : Df) : D := .tup [.arr 32 d.id, .arr 32 d.par, .sl 56 (d.chs.map dCh)]
def slotD (x : Raw) : R := .tpl [dSl (slotP x).1, .v (.bool (slotP x).2)]
theorem readV_sl {ok : Nat → Prop} {w : World} {s : Sl} (h : s.ok) : ReadV ok w (dSl s) (.agg (slC s).toArray) := (readV_agg rfl).2 ⟨slC s, by
  unfold dSl slC
  rw [Reads, ReadsL]
  refine ⟨_, _, rfl, by rw [Reads]; exact ⟨h.1, rfl⟩, ?_⟩
  rw [ReadsL]
  exact ⟨bvs s.val, [], by simp, by rw [Reads]; exact ⟨h.2, rfl⟩, by rw [ReadsL]⟩, rfl⟩
theorem f_slot (x : Raw) : Fn 58 [dItem x] (· = slotD x) := ⟨fun ok w xs hok hr => by
  obtain ⟨v, rfl, h⟩ := one_arg hr
  refine (j_slot v x w (isItem_of hok h)).mono ?_
  rintro e w' ⟨_, rfl, hg, rfl⟩
  exact ⟨hg, _, _, rfl, rfl, tpl2 (readV_sl (slotP_ok x)) (v_mk rfl)⟩⟩
def oneD (x : Raw) : R := .tpl [dCh ((chR x).getD zeroC), .v (.bool (chR x).isSome)]
theorem oneD_none {x : Raw} (h : chR x = none) : oneD x = .tpl [.tup [.arr 20 (List.replicate 20 0), .v (.bool false), .v (.int .i64 0), .arr 32 zero32, .bs [], .sl 64 []], .v (.bool false)] := by
  unfold oneD
  rw [h]
  rfl
end E
end Go.Proofs.Ytekacgocjplfjaa
