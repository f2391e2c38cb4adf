/-
  Merged (wip/tools/merge.py): JBuild, Push, JChange.
  Conditions: none.
-/
import Derived.Test.YtekacgocjplfjaaZP11
import Derived.Laws.Tables
import Derived.Test.YtekacgocjplfjaaZP8
import Derived.Deep.DeepCutAuto
/-
  Slots, changes, diffs: literals, rows that grow, results.
  Conditions: none.
-/
namespace Go.Proofs.Ytekacgocjplfjaa
set_option linter.unusedVariables false
open Go.RowKit Mono Rlp Jn

/-! ### Literals -/
theorem splice_list (o : Nat) : ∀ (vs A M Z : List Value) (s : Nat), A.length = o + s → M.length = vs.length → (vs.zipIdx s).foldl (fun (cs : Array Value) (x : Value × Nat) => cs.setIfInBounds (o + x.2) x.1) (A ++ M ++ Z).toArray = (A ++ vs ++ Z).toArray
  | [], A, M, Z, s, _, hM => by
    obtain rfl : M = [] := List.length_eq_zero_iff.1 hM
    rfl
  | v :: vs, A, m :: M, Z, s, hA, hM => by
    rw [List.zipIdx_cons, List.foldl_cons]
    have h1 : ((A ++ (m :: M) ++ Z).toArray).setIfInBounds (o + s) v = ((A ++ [v]) ++ M ++ Z).toArray := by
      rw [← hA]
      simp [List.set_append_right]
    rw [h1, splice_list o vs (A ++ [v]) M Z (s + 1) (by simp; omega) (by simpa using hM)]
    simp
theorem splice_mid (vs A M Z : List Value) (hM : M.length = vs.length) : vs.toArray.zipIdx.foldl (fun (cs : Array Value) (x : Value × Nat) => cs.setIfInBounds (A.length + x.2) x.1) (A ++ M ++ Z).toArray = (A ++ vs ++ Z).toArray := by
  rw [← Array.foldl_toList, Array.toList_zipIdx]
  exact splice_list A.length vs A M Z 0 rfl hM
theorem fill_cons (place : Nat → Option (Nat × Nat)) (i : Nat) (v : Value) (vs A M Z : List Value) (rest : List (Nat × Value)) (hp : place i = some (A.length, vs.length)) (hv : v.cells = vs.toArray) (hM : M.length = vs.length) :
    Instr.fill place (A ++ M ++ Z).toArray ((i, v) :: rest) = Instr.fill place (A ++ vs ++ Z).toArray rest := by
  rw [Instr.fill, hp]
  dsimp only
  rw [hv, if_neg (by simp [hM])]
  congr 1
  exact splice_mid vs A M Z hM
theorem cells_arr (l : List UInt8) : (arrV l).cells = (bvs l).toArray := rfl
theorem built_of {P : Program} {t : TypeId} {fields : Array Field} {it : TypeInfo} {z : Value} {places : List (Nat × Nat)} {parts : List (Nat × Value)} {cells : Array Value} (hi : P.info? t = some it) (hu : P.underlying t = some (.struct fields)) (hz : it.zero = some z)
    (hp : fields.toList.mapM (fun f => (P.info? f.type).map fun i => (f.offset, i.size)) = some places) (h : Instr.fill (places.toArray[·]?) z.cells parts = some cells) : P.built t parts = some cells := by
  unfold Program.built
  rw [hi, hu]
  dsimp only
  rw [hz, hp]
  exact h
def slPlaces : List (Nat × Nat) := [(0, 32), (32, 32)]
def chPlaces : List (Nat × Nat) := [(0, 20), (20, 1), (21, 1), (22, 32), (54, 1), (55, 1)]
def dfPlaces : List (Nat × Nat) := [(0, 32), (32, 32), (64, 1)]
theorem struct_parts {P : Program} {t : TypeId} {z : Value} {places : List (Nat × Nat)}
    (h : (match P.info? t, P.underlying t with | some it, some (.struct fields) => (it.zero, fields.toList.mapM (fun f => (P.info? f.type).map fun i => (f.offset, i.size))) | _, _ => (none, none)) = (some z, some places)) {parts : List (Nat × Value)} {cells : Array Value}
    (hf : Instr.fill (places.toArray[·]?) z.cells parts = some cells) : P.built t parts = some cells := by
  cases hi : P.info? t with
  | none => rw [hi] at h; cases h
  | some it =>
    cases hu : P.underlying t with
    | none => rw [hi, hu] at h; cases h
    | some d =>
      rw [hi, hu] at h
      cases d <;> try (cases h; done)
      rename_i fields
      injection h with h1 h2
      exact built_of hi hu h1 h2 hf
set_option maxRecDepth 100000 in
theorem slot_parts : (match Try.prog.info? 48, Try.prog.underlying 48 with | some it, some (.struct fields) => (it.zero, fields.toList.mapM (fun f => (Try.prog.info? f.type).map fun i => (f.offset, i.size))) | _, _ => (none, none)) = (some (.agg (slC zeroS).toArray), some slPlaces) := by kernel_rfl
set_option maxRecDepth 100000 in
theorem change_parts : (match Try.prog.info? 51, Try.prog.underlying 51 with | some it, some (.struct fields) => (it.zero, fields.toList.mapM (fun f => (Try.prog.info? f.type).map fun i => (f.offset, i.size))) | _, _ => (none, none)) = (some (.agg (chC zeroC nilV nilV).toArray), some chPlaces) := by kernel_rfl
set_option maxRecDepth 100000 in
theorem diff_parts : (match Try.prog.info? 26, Try.prog.underlying 26 with | some it, some (.struct fields) => (it.zero, fields.toList.mapM (fun f => (Try.prog.info? f.type).map fun i => (f.offset, i.size))) | _, _ => (none, none)) = (some (.agg (dfC zeroD nilV).toArray), some dfPlaces) := by kernel_rfl
set_option maxRecDepth 100000 in
theorem build_slot (k v : List UInt8) (hk : k.length = 32) (hv : v.length = 32) (w : World) : (Instr.build 48 #[(0, arrV k), (1, arrV v)]).run Try.prog w = .ok (.agg (slC ⟨k, v⟩).toArray) w := by
  refine run_build w _ _ _ (struct_parts slot_parts ?_)
  have h1 := fill_cons (slPlaces.toArray[·]?) 0 (arrV k) (bvs k) [] (bvs zero32) (bvs zero32) [(1, arrV v)] (by rw [bvs_length, hk]; rfl) rfl (by rw [bvs_length, bvs_length, hk]; rfl)
  have h2 := fill_cons (slPlaces.toArray[·]?) 1 (arrV v) (bvs v) (bvs k) (bvs zero32) [] [] (by rw [bvs_length, bvs_length, hk, hv]; rfl) rfl (by rw [bvs_length, bvs_length, hv]; rfl)
  simp only [List.nil_append, List.append_nil] at h1 h2
  show Instr.fill _ (slC zeroS).toArray [(0, arrV k), (1, arrV v)] = _
  unfold slC zeroS
  rw [h1, h2]
  rfl
set_option maxRecDepth 100000 in
theorem build_diff (i p : List UInt8) (hi : i.length = 32) (hp : p.length = 32) (w : World) : (Instr.build 26 #[(0, arrV i), (1, arrV p)]).run Try.prog w = .ok (.agg (dfC ⟨i, p, []⟩ nilV).toArray) w := by
  refine run_build w _ _ _ (struct_parts diff_parts ?_)
  have h1 := fill_cons (dfPlaces.toArray[·]?) 0 (arrV i) (bvs i) [] (bvs zero32) (bvs zero32 ++ [nilV]) [(1, arrV p)] (by rw [bvs_length, hi]; rfl) rfl (by rw [bvs_length, bvs_length, hi]; rfl)
  have h2 := fill_cons (dfPlaces.toArray[·]?) 1 (arrV p) (bvs p) (bvs i) (bvs zero32) [nilV] [] (by rw [bvs_length, bvs_length, hi, hp]; rfl) rfl (by rw [bvs_length, bvs_length, hp]; rfl)
  simp only [List.nil_append, List.append_assoc] at h1 h2
  show Instr.fill _ (dfC zeroD nilV).toArray [(0, arrV i), (1, arrV p)] = _
  unfold dfC zeroD
  rw [h1, h2]
  rfl
set_option maxRecDepth 100000 in
theorem build_change (a b : List UInt8) (g : Bool) (n : Int) (A : Option Addr) (m c : Nat) (ha : a.length = 20) (hb : b.length = 32) (w : World) :
    (Instr.build 51 #[(0, arrV a), (1, .bool g), (2, .int .i64 n), (3, arrV b), (4, .slice A m c)]).run Try.prog w = .ok (.agg (chC ⟨a, g, n, b, [], []⟩ (.slice A m c) nilV).toArray) w := by
  refine run_build w _ _ _ (struct_parts change_parts ?_)
  have h1 := fill_cons (chPlaces.toArray[·]?) 0 (arrV a) (bvs a) [] (bvs (List.replicate 20 0)) ([.bool false, .int .i64 0] ++ (bvs zero32 ++ [nilV, nilV])) [(1, .bool g), (2, .int .i64 n), (3, arrV b), (4, .slice A m c)] (by rw [bvs_length, ha]; rfl) rfl (by rw [bvs_length, bvs_length, ha]; rfl)
  have h2 := fill_cons (chPlaces.toArray[·]?) 1 (.bool g) [.bool g] (bvs a) [.bool false] ([.int .i64 0] ++ (bvs zero32 ++ [nilV, nilV])) [(2, .int .i64 n), (3, arrV b), (4, .slice A m c)] (by rw [bvs_length, ha]; rfl) rfl rfl
  have h3 := fill_cons (chPlaces.toArray[·]?) 2 (.int .i64 n) [.int .i64 n] (bvs a ++ [.bool g]) [.int .i64 0] (bvs zero32 ++ [nilV, nilV]) [(3, arrV b), (4, .slice A m c)] (by rw [List.length_append, bvs_length, ha]; rfl) rfl rfl
  have h4 := fill_cons (chPlaces.toArray[·]?) 3 (arrV b) (bvs b) (bvs a ++ [.bool g, .int .i64 n]) (bvs zero32) [nilV, nilV] [(4, .slice A m c)] (by rw [List.length_append, bvs_length, bvs_length, ha, hb]; rfl) rfl (by rw [bvs_length, bvs_length, hb]; rfl)
  have h5 := fill_cons (chPlaces.toArray[·]?) 4 (.slice A m c) [.slice A m c] (bvs a ++ ([.bool g, .int .i64 n] ++ bvs b)) [nilV] [nilV] [] (by simp only [List.length_append, bvs_length, ha, hb]; rfl) rfl rfl
  simp only [List.nil_append, List.append_assoc, List.cons_append] at h1 h2 h3 h4 h5
  show Instr.fill _ (chC zeroC nilV nilV).toArray [(0, arrV a), (1, .bool g), (2, .int .i64 n), (3, arrV b), (4, .slice A m c)] = _
  unfold chC zeroC
  simp only [List.cons_append, List.nil_append]
  rw [h1, h2, h3, h4, h5]
  rfl
set_option maxRecDepth 100000 in
theorem build_slot0 (w : World) : (Instr.build 48 #[]).run Try.prog w = .ok (.agg (slC zeroS).toArray) w := run_build w _ _ _ (struct_parts slot_parts rfl)
set_option maxRecDepth 100000 in
theorem build_change0 (w : World) : (Instr.build 51 #[]).run Try.prog w = .ok (.agg (chC zeroC nilV nilV).toArray) w := run_build w _ _ _ (struct_parts change_parts rfl)
set_option maxRecDepth 100000 in
theorem build_diff0 (w : World) : (Instr.build 26 #[]).run Try.prog w = .ok (.agg (dfC zeroD nilV).toArray) w := run_build w _ _ _ (struct_parts diff_parts rfl)
/-- A literal, as a step of the walk. -/
theorem wpL_build {w : World} {ops : Array Oper} {rest : List Oper} {o : Oper} {a : Act} {Q : Exit → Act → World → Prop} {t : TypeId} {v : Value} (parts : Array (Nat × Operand)) (pv : Array (Nat × Value)) (hr : (Instr.build t pv).run Try.prog w = .ok v w)
    (hgd : o.guard = none) (ho : o.op = .build t parts) (hx : (parts.map fun (i, x) => (i, a.eval x)) = pv) (h : wpList Try.prog ops Q rest (a.put o.dst v) w) : wpList Try.prog ops Q (o :: rest) a w := by
  refine wpList_plain hgd fun _ hK => ?_
  have h1 := hK _ _ h
  unfold Oper.wp execOp
  simp only [ho, hx, Sem.run_bind, hr, Result.andThen_ok, Sem.run_pure]
  exact h1
/-- A value that an operation without a trace in memory gives. -/
theorem wpL_value {w : World} {ops : Array Oper} {rest : List Oper} {o : Oper} {a : Act} {Q : Exit → Act → World → Prop} (v : Value) (hgd : o.guard = none) (hr : (execOp a.eval o).run Try.prog w = .ok (.value v) w)
    (h : wpList Try.prog ops Q rest (a.put o.dst v) w) : wpList Try.prog ops Q (o :: rest) a w := by
  refine wpList_plain hgd fun _ hK => ?_
  have h1 := hK _ _ h
  unfold Oper.wp
  simp only [hr]
  exact h1

/-! ### Rows -/
theorem slT_slots : SlT Try.prog 49 48 64 64 :=
  ⟨Try.underlying49, by
    have h : (Try.prog.info? 48).map (fun i => (i.zero, i.size, i.bytes)) = some (some (.agg (slC zeroS).toArray), 64, 64) := by kernel_rfl
    obtain ⟨i, hi, hz, h1, h2⟩ := info_parts h
    exact ⟨i, _, hi, hz, h1, h2, rfl⟩, by omega⟩
theorem change_bytes : (Try.prog.info? 51).map (fun i => (i.zero, i.size, i.bytes)) = some (some (.agg (chC zeroC nilV nilV).toArray), 56, 112) := by kernel_rfl
theorem slT_changes : SlT Try.prog 24 51 56 112 :=
  ⟨Try.underlying24, by
    obtain ⟨i, hi, hz, h1, h2⟩ := info_parts change_bytes
    exact ⟨i, _, hi, hz, h1, h2, rfl⟩, by omega⟩
/-- A slice of slots that the call owns. -/
structure OwnSl (w : World) (B : Nat) (v : Value) (ss : List Sl) : Prop where
  own : w.ownsRow B 48 64 v ss.length (ss.map slC).flatten
  oks : ∀ s ∈ ss, s.ok
theorem OwnSl.nil (w : World) (B : Nat) : OwnSl w B nilV [] := ⟨World.ownsRow_nil _ _ _ _, by simp⟩
theorem OwnSl.gr {w w' : World} {B : Nat} {v : Value} {ss : List Sl} (h : OwnSl w B v ss) (hg : Gr w w') : OwnSl w' B v ss := ⟨own_gr h.own hg, h.oks⟩
theorem OwnSl.form {w : World} {B : Nat} {v : Value} {ss : List Sl} (h : OwnSl w B v ss) : ∃ A c, v = .slice A ss.length c ∧ ss.length ≤ c ∧ c ≤ maxLen := own_form h.own
theorem OwnSl.isP {w : World} {B : Nat} {v : Value} {ss : List Sl} (h : OwnSl w B v ss) : IsSlP (fun k => B ≤ k ∧ k < w.heap.size) w v ss := by
  obtain ⟨A, c, rfl, h1, h2⟩ := h.form
  exact ⟨A, c, rfl, h1, h2, own_RdP h.own, h.oks⟩
theorem OwnSl.push {w5 : World} {B : Nat} {v5 : Value} {ss : List Sl} {s : Sl} (hs : ∀ s ∈ ss, s.ok) (h : w5.ownsRow B 48 64 v5 (ss.length + 1) ((ss.map slC).flatten ++ slC s)) (hok : s.ok) : OwnSl w5 B v5 (ss ++ [s]) :=
  ⟨by simpa using h, fun t ht => by
    rcases List.mem_append.1 ht with ht | ht
    · exact hs t ht
    · obtain rfl : t = s := by simpa using ht
      exact hok⟩
/-- A slice of changes that the call owns. -/
structure OwnCh (w : World) (B : Nat) (v : Value) (l : List Ch) (rows : List (List Value)) : Prop where
  own : w.ownsRow B 51 56 v l.length rows.flatten
  at_ : ChsAtP (fun k => k < w.heap.size ∧ v.ownBlock ≠ some k) w l rows
theorem OwnCh.nil (w : World) (B : Nat) : OwnCh w B nilV [] [] := ⟨World.ownsRow_nil _ _ _ _, by rw [ChsAtP]⟩
theorem OwnCh.gr {w w' : World} {B : Nat} {v : Value} {l : List Ch} {rows : List (List Value)} (h : OwnCh w B v l rows) (hg : Gr w w') : OwnCh w' B v l rows :=
  ⟨own_gr h.own hg, ChsAtP.mono (fun k hk => ⟨Nat.lt_of_lt_of_le hk.1 hg.size, hk.2⟩) (fun p hp => hg.cell hp.1) _ _ h.at_⟩
theorem OwnCh.form {w : World} {B : Nat} {v : Value} {l : List Ch} {rows : List (List Value)} (h : OwnCh w B v l rows) : ∃ A c, v = .slice A l.length c ∧ l.length ≤ c ∧ c ≤ maxLen := own_form h.own
theorem OwnCh.is {w : World} {B : Nat} {v : Value} {l : List Ch} {rows : List (List Value)} (h : OwnCh w B v l rows) : IsChs w v l := by
  obtain ⟨A, c, rfl, h1, h2⟩ := h.form
  exact ⟨A, c, rows, rfl, h1, h2, (own_RdP h.own).mono (fun b hb => hb.2) (fun _ _ => rfl), ChsAtP.mono (fun k hk => hk.1) (fun _ _ => rfl) _ _ h.at_⟩
theorem ChsAtP.append {ok : Nat → Prop} {w : World} : ∀ (xs ys : List Ch) (rows rest : List (List Value)), ChsAtP ok w xs rows → ChsAtP ok w ys rest → ChsAtP ok w (xs ++ ys) (rows ++ rest)
  | [], ys, rows, rest, h1, h2 => by
    rw [ChsAtP] at h1
    subst h1
    exact h2
  | x :: xs, ys, rows, rest, h1, h2 => by
    rw [ChsAtP] at h1
    obtain ⟨r, rs, rfl, h3, h4⟩ := h1
    rw [List.cons_append, ChsAtP]
    exact ⟨r, rs ++ rest, rfl, h3, ChsAtP.append xs ys rs rest h4 h2⟩
theorem OwnCh.push {B : Nat} {w1 w5 : World} {l : List Ch} {c : Ch} {v v5 : Value} {rows : List (List Value)} {r : List Value} (h : OwnCh w1 B v l rows) (hix : ChAtP (fun k => k < w1.heap.size ∧ v.ownBlock ≠ some k) w1 c r) (hg5 : w1.grownBy w5 v.ownBlock)
    (hown5 : w5.ownsRow B 51 56 v5 (l.length + 1) (rows.flatten ++ r)) (hbk5 : v5.ownBlock = v.ownBlock ∨ v5.ownBlock = some w1.heap.size) : OwnCh w5 B v5 (l ++ [c]) (rows ++ [r]) := by
  have hs5 := hg5.size
  have hmono : ∀ k, (k < w1.heap.size ∧ v.ownBlock ≠ some k) → (k < w5.heap.size ∧ v5.ownBlock ≠ some k) := fun k hk => ⟨Nat.lt_of_lt_of_le hk.1 hs5, fun e => by
    rcases hbk5 with h5 | h5
    · exact hk.2 (h5 ▸ e)
    · rw [h5] at e
      injection e with e
      have := hk.1
      omega⟩
  have hcell : ∀ p : Addr, (p.block < w1.heap.size ∧ v.ownBlock ≠ some p.block) → w5.cell? p = w1.cell? p := fun p hp => World.cell?_of_block (hg5.block p.block hp.1 (fun e => hp.2 e.symm))
  refine ⟨by simpa using hown5, ChsAtP.append l [c] rows [r] (ChsAtP.mono hmono hcell _ _ h.at_) ?_⟩
  rw [ChsAtP]
  exact ⟨r, [], rfl, ChAtP.mono hix hmono hcell, by rw [ChsAtP]⟩

/-! ### Results -/
theorem results_row2 {fn : Func} {p u : Tmp} {ty : TypeId} (h : fn.results = #[.cell p ty, .tmp u]) (tmps : Array Value) (w : World) (g : Nat) (t : TypeId) (cs : Array Value) {fs : Array Field}
    (hp : tmps.getD p undef = .pointer (some ⟨g, 0, none⟩)) (hg : w.heap[g]? = some (.cells cs t (0, 0))) (hu : Try.prog.underlying ty = some (.struct fs)) (hi : (Try.prog.info? ty).map (·.size) = some cs.size) :
    (results fn tmps).run Try.prog w = .ok (.tuple #[.agg cs, tmps.getD u undef]) w := by
  have hp' : tmps[p]?.getD undef = .pointer (some ⟨g, 0, none⟩) := by simpa using hp
  have hr := run_loadVar_row w g t ty cs (0, 0) _ hg hu rfl hi
  simp [results, h, hp', asAddr, hr]
theorem zeroS_ok : zeroS.ok := ⟨rfl, rfl⟩
theorem zeroC_ok : zeroC.ok := ⟨rfl, rfl, by decide, by decide, by simp [zeroC]⟩
theorem zeroD_ok : zeroD.ok := ⟨rfl, rfl, by simp [zeroD]⟩
theorem diff_info (d : Df) (h : d.ok) (vl : Value) : (Try.prog.info? 26).map (·.size) = some (dfC d vl).length := by
  rw [dfC_length h]
  kernel_rfl
theorem dfC_one {d : Df} {vl : Value} (h1 : vl.oneCell' = true) : ∀ u ∈ dfC d vl, u.oneCell' = true := by
  intro u hu
  simp only [dfC, List.mem_append, List.mem_cons, List.not_mem_nil, or_false] at hu
  rcases hu with hu | hu | rfl
  · exact bvs_one _ u hu
  · exact bvs_one _ u hu
  · exact h1
theorem chAt_zero {ok : Nat → Prop} (w : World) : ChAtP ok w zeroC (chC zeroC nilV nilV) :=
  ⟨nilV, nilV, rfl, ⟨none, 0, rfl, Nat.le_refl _, by simp [maxLen], fun hn => absurd rfl hn⟩, ⟨none, 0, rfl, Nat.le_refl _, by simp [maxLen], fun hn => absurd rfl hn, by simp [zeroC]⟩, zeroC_ok⟩
end Go.Proofs.Ytekacgocjplfjaa
/-
  An item's list that grows by one.
  Conditions: none.
-/
namespace Go.Proofs.Ytekacgocjplfjaa
set_option linter.unusedVariables false
open Go.RowKit Mono Rlp

/-- A list in a struct's third cell grows by one item: 'l.List = append(l.List, x)'. -/
theorem items_push {g B : Nat} {w0 wr w1 wB w5 : World} {done : List Raw} {x : Raw} {A' A5 : Option Addr} {c' c5 : Nat} {rows : List (List Value)} {r : List Value} (hgB0 : g < B) (hw0 : w0.heap.size ≤ g) (hsz : B ≤ wr.heap.size) (hg1 : Gr wr w1) (hgB : Gr w1 wB)
    (hown : wr.ownsRow B 56 3 (.slice A' done.length c') done.length rows.flatten) (hit : ItemsAtP (okL B g (.slice A' done.length c') wr.heap.size) wr done rows)
    (hix : ItemAtP (fun k => wr.heap.size ≤ k ∧ k < w1.heap.size) w1 x r) (hg5 : wB.grownBy w5 (Value.slice A' done.length c').ownBlock)
    (hown5 : w5.ownsRow B 56 3 (.slice A5 (done.length + 1) c5) (done.length + 1) (rows.flatten ++ r))
    (hbk5 : (Value.slice A5 (done.length + 1) c5).ownBlock = (Value.slice A' done.length c').ownBlock ∨ (Value.slice A5 (done.length + 1) c5).ownBlock = some wB.heap.size)
    (hrow : wr.heap[g]? = some (.cells #[.bool true, .slice none 0 0, .slice A' done.length c'] 56 (0, 0))) (hb : Gr w0 wr) :
    (w5.setCell ⟨g, 2, none⟩ (.slice A5 (done.length + 1) c5)).heap[g]? = some (.cells #[.bool true, .slice none 0 0, .slice A5 (done.length + 1) c5] 56 (0, 0)) ∧
    (w5.setCell ⟨g, 2, none⟩ (.slice A5 (done.length + 1) c5)).ownsRow B 56 3 (.slice A5 (done.length + 1) c5) (done.length + 1) (rows ++ [r]).flatten ∧
    ItemsAtP (okL B g (.slice A5 (done.length + 1) c5) (w5.setCell ⟨g, 2, none⟩ (.slice A5 (done.length + 1) c5)).heap.size) (w5.setCell ⟨g, 2, none⟩ (.slice A5 (done.length + 1) c5)) (done ++ [x]) (rows ++ [r]) ∧
    B ≤ (w5.setCell ⟨g, 2, none⟩ (.slice A5 (done.length + 1) c5)).heap.size ∧
    Gr w0 (w5.setCell ⟨g, 2, none⟩ (.slice A5 (done.length + 1) c5)) ∧
    (∀ j, j < wr.heap.size → j ≠ g → (Value.slice A' done.length c').ownBlock ≠ some j → (w5.setCell ⟨g, 2, none⟩ (.slice A5 (done.length + 1) c5)).heap[j]? = wr.heap[j]?) := by
  have hs1 := hg1.size
  have hsB := hgB.size
  have hs5 := hg5.size
  have hgs := lt_of_some hrow
  have hnb : (Value.slice A5 (done.length + 1) c5).ownBlock ≠ some g := fun e => by
    have := own_block_ge hown5 _ e
    omega
  have hnb' : (Value.slice A' done.length c').ownBlock ≠ some g := fun e => by
    have := own_block_ge hown _ e
    omega
  have ho5 : w5.heap[g]? = some (.cells #[.bool true, .slice none 0 0, .slice A' done.length c'] 56 (0, 0)) := by
    rw [hg5.block g (by omega) (fun e => hnb' e.symm), hgB.block g (by omega), hg1.block g hgs, hrow]
  have hblk : ∀ j, j < w1.heap.size → j ≠ g → (Value.slice A' done.length c').ownBlock ≠ some j → (w5.setCell ⟨g, 2, none⟩ (.slice A5 (done.length + 1) c5)).heap[j]? = w1.heap[j]? := fun j h1 h2 h3 => by
    rw [Below.heap_setCell _ _ _ _ h2, hg5.block j (by omega) (fun e => h3 e.symm), hgB.block j h1]
  have hcell : ∀ p : Addr, p.block < w1.heap.size → p.block ≠ g → (Value.slice A' done.length c').ownBlock ≠ some p.block → (w5.setCell ⟨g, 2, none⟩ (.slice A5 (done.length + 1) c5)).cell? p = w1.cell? p := fun p h1 h2 h3 => World.cell?_of_block (hblk p.block h1 h2 h3)
  have hsz5 : (w5.setCell ⟨g, 2, none⟩ (.slice A5 (done.length + 1) c5)).heap.size = w5.heap.size := by simp
  rw [hsz5]
  refine ⟨heap_setCell_same w5 g 2 _ _ _ ho5, ?_, ?_, by omega, ?_, ?_⟩
  · rw [List.flatten_append]
    simp only [List.flatten_cons, List.flatten_nil, List.append_nil]
    exact own_far hown5 hnb _
  · refine ItemsAtP.append done [x] rows [r] (ItemsAtP.mono (fun k hk => ?_) (fun p hp => ?_) _ _ hit) ?_
    · obtain ⟨h1, h2, h3, h4⟩ := hk
      refine ⟨h1, by omega, h3, fun e => ?_⟩
      rcases hbk5 with h5 | h5
      · exact h4 (h5 ▸ e)
      · rw [h5] at e
        injection e with e
        omega
    · obtain ⟨h1, h2, h3, h4⟩ := hp
      rw [hcell p (by omega) h3 h4]
      exact hg1.cell h2
    · rw [ItemsAtP]
      refine ⟨r, [], rfl, ItemAtP.mono (fun k hk => ?_) (fun p hp => ?_) _ _ hix, by rw [ItemsAtP]⟩
      · obtain ⟨h1, h2⟩ := hk
        refine ⟨by omega, by omega, by omega, fun e => ?_⟩
        rcases hbk5 with h5 | h5
        · rw [h5] at e
          have := (hown.lt k e).2
          omega
        · rw [h5] at e
          injection e with e
          omega
      · obtain ⟨h1, h2⟩ := hp
        refine hcell p h2 (by omega) fun e => ?_
        have := (hown.lt _ e).2
        omega
  · refine Below.setCell ?_ (by simpa using hw0) _
    refine (((hb.trans hg1).trans hgB)).grown hg5 ?_ fun j hj => ?_
    · have := hb.size; omega
    · have := own_block_ge hown j hj
      omega
  · intro j h1 h2 h3
    rw [hblk j (by omega) h2 h3, hg1.block j h1]
theorem list_item {g B : Nat} {wr : World} {done : List Raw} {A : Option Addr} {c : Nat} {rows : List (List Value)} (hown : wr.ownsRow B 56 3 (.slice A done.length c) done.length rows.flatten)
    (hit : ItemsAtP (okL B g (.slice A done.length c) wr.heap.size) wr done rows) : ItemIn (fun k => B ≤ k ∧ k < wr.heap.size) wr (.agg #[.bool true, .slice none 0 0, .slice A done.length c]) (.mk true [] done) := by
  obtain ⟨_, _, he, hc1, hc2⟩ := own_form hown
  injection he with he1 he2 he3
  subst he1 he3
  refine ⟨[.bool true, .slice none 0 0, .slice A done.length c], rfl, ?_⟩
  rw [ItemAtP]
  refine ⟨.slice none 0 0, A, c, rows, rfl, ⟨none, 0, rfl, Nat.le_refl _, by simp [maxLen], fun hn => absurd rfl hn⟩, hc1, hc2, fun e => ?_, own_RdP hown, ItemsAtP.mono (fun k hk => ⟨hk.1, hk.2.1⟩) (fun _ _ => rfl) _ _ hit⟩
  subst e
  exact own_none hown
end Go.Proofs.Ytekacgocjplfjaa
/-
  journal: list, text, change.
  Conditions: none.
-/
namespace Go.Proofs.Ytekacgocjplfjaa
set_option linter.unusedVariables false
open Go.RowKit Mono Rlp Jn

set_option maxRecDepth 20000 in
set_option maxHeartbeats 1000000 in
theorem j_list (A : Option Addr) (n c : Nat) (w : World) : Calls Try.prog 18 #[.slice A n c] w (Ret (eqV (.agg #[.bool true, .slice none 0 0, .slice A n c])) w) := by
  go_enter Try.func18, Try.ntmps18
  go_wp2_with fail
  refine bodyPost_ret (results_item1 rfl _ _ w.heap.size #[.bool true, .slice none 0 0, .slice A n c] rfl (heap_alloc_new w _) rfl) rfl ⟨_, rfl, gr_alloc w _, ?_⟩
  rfl
set_option maxRecDepth 20000 in
set_option maxHeartbeats 1000000 in
theorem j_text (v : Value) (l : List UInt8) (w : World) (h : IsB w v l) (hl : l.length ≤ 140737488355328) : Calls Try.prog 21 #[v] w (Ret (fun v w' => ItemIn (fun k => w.heap.size ≤ k ∧ k < w'.heap.size) w' v (bytesI l)) w) := by
  have HB := Lib.hid h
  obtain ⟨A, c, rfl, hc1, hc2, hr⟩ := h
  clear hr
  go_enter Try.func21, Try.ntmps21
  go_wp2_with first
    | (go_at_call 40; refine (clone_bytes _ l _ (HB.out.gr (gr_alloc w _)) hl).mono ?_; rintro e w2 ⟨v2, rfl, hg2, ho2⟩; have HB2 := Lib.hid (ownB_P ho2); obtain ⟨A2, c2, rfl, _⟩ := own_form ho2; have HG2 := Lib.hid ((gr_alloc w _).trans hg2); have HR2 := Lib.hid ((hg2.block _ (by simp)).trans (heap_alloc_new w (.cells #[.bool false, .slice none 0 0, .slice none 0 0] 56))); clear hg2 ho2)
    | (guard_target = wpList _ _ _ (Oper.mk _ (Op.store _ _ _) _ _ _ _ :: _) _ _; refine wpList_store_row rfl 56 (.tmp 2) (.tmp 5) rfl w.heap.size _ rfl rfl 56 _ HR2.out (by kernel_rfl) rfl (by simp [Value.oneCell']) ?_)
  refine bodyPost_ret (results_item1 rfl _ _ w.heap.size _ rfl (heap_setRow_same _ _ _ _ _ HR2.out) rfl) rfl ⟨_, rfl, gr_setRow HG2.out _ _ (by omega), ?_⟩
  exact itemIn_bytes (HB2.out.mono (fun b hb => ⟨by have := hb.1; simp at this; omega, by rw [size_setRow]; have := hb.2; omega⟩) (fun p hp => cell_setRow (by have := hp.1; simp at this; omega)))
theorem ch_var {w : World} {g : Nat} {c : Ch} {vc vs : Value} {t : TypeId} (h : w.heap[g]? = some (.cells (chC c vc vs).toArray t (0, 0))) (hc : c.ok) :
    w.rangeAt g 0 (bvs c.addr) ∧ w.cell? ⟨g, 20, none⟩ = some (.bool c.gone) ∧ w.cell? ⟨g, 21, none⟩ = some (.int .i64 c.nonce) ∧ w.rangeAt g 22 (bvs c.bal) ∧ w.cell? ⟨g, 54, none⟩ = some vc ∧ w.cell? ⟨g, 55, none⟩ = some vs := by
  have := ch_parts (range_row h) hc
  simpa using this
theorem slot_info (s : Sl) (h : s.ok) : (Try.prog.info? 48).map (·.size) = some (slC s).length := by
  rw [slC_length h]
  kernel_rfl
theorem slC_zero (s : Sl) (h : s.ok) : (slC zeroS).toArray.size = (slC s).toArray.size := by
  rw [List.size_toArray, List.size_toArray, slC_length h]
  rfl
theorem slot_info' (s : Sl) (h : s.ok) : (Try.prog.info? 48).map (·.size) = some (slC s).toArray.size := by
  rw [List.size_toArray]
  exact slot_info s h
theorem change_info (c : Ch) (h : c.ok) (vc vs : Value) : (Try.prog.info? 51).map (·.size) = some (chC c vc vs).length := by
  rw [chC_length h]
  kernel_rfl
namespace Mono
section
variable {P : Program} {ops : Array Oper} {C : World → Prop}
/-- An operation whose operands are known by predicates. -/
theorem wpN_free {R : Act → World → Prop} {a : Act} {N : List (Tmp × VP)} {o : Oper} {l : List Oper} (d : Tmp) (V : VP) (hd : o.dst = some d) (hg : o.guard = none) (hV : Stable V)
    (hop : ∀ (b : Act) (w : World), C w → (∀ t ∈ o.looksAt ops, phiN a N t (b.tmps.getD t undef) w) → growsTo P V w ((execOp b.eval o).run P w)) (hr : wpN P ops C R l a ((d, V) :: N)) : wpN P ops C R (o :: l) a N :=
  wpN_non d V hd hV (fun b w hC hb => ⟨fun _ => hop b w hC hb, fun hnot => by simp [Region.wanted, hg] at hnot⟩) hr
end
end Mono
theorem run_build1 (w : World) (a0 a1 a2 : Value) : (Instr.buildSlice 54 1 #[(0, .agg #[a0, a1, a2])]).run Try.prog w = .ok (.slice (some ⟨w.heap.size, 0, none⟩) 1 1) (w.alloc (.cells #[a0, a1, a2] 56)) := by kernel_rfl
theorem growsTo_build1 {V : VP} {w : World} {o : Oper} {b : Act} {t0 : Tmp} {a0 a1 a2 : Value} (ho : o.op = .buildSlice 54 1 #[(0, .tmp t0)])
    (e0 : b.tmps.getD t0 undef = .agg #[a0, a1, a2]) (h : V (.slice (some ⟨w.heap.size, 0, none⟩) 1 1) (w.alloc (.cells #[a0, a1, a2] 56))) : growsTo Try.prog V w ((execOp b.eval o).run Try.prog w) := by
  have hr := run_build1 w a0 a1 a2
  unfold execOp
  simp only [ho, Act.eval, List.map_toArray, List.map_cons, List.map_nil, e0, Sem.run_bind, Sem.run_pure, hr, Result.andThen_ok]
  exact ⟨gr_alloc _ _, h⟩
theorem run_build2 (w : World) (a0 a1 a2 b0 b1 b2 : Value) : (Instr.buildSlice 54 2 #[(0, .agg #[a0, a1, a2]), (1, .agg #[b0, b1, b2])]).run Try.prog w = .ok (.slice (some ⟨w.heap.size, 0, none⟩) 2 2) (w.alloc (.cells #[a0, a1, a2, b0, b1, b2] 56)) := by kernel_rfl
theorem growsTo_build2 {V : VP} {w : World} {o : Oper} {b : Act} {t0 t1 : Tmp} {a0 a1 a2 b0 b1 b2 : Value} (ho : o.op = .buildSlice 54 2 #[(0, .tmp t0), (1, .tmp t1)])
    (e0 : b.tmps.getD t0 undef = .agg #[a0, a1, a2]) (e1 : b.tmps.getD t1 undef = .agg #[b0, b1, b2]) (h : V (.slice (some ⟨w.heap.size, 0, none⟩) 2 2) (w.alloc (.cells #[a0, a1, a2, b0, b1, b2] 56))) : growsTo Try.prog V w ((execOp b.eval o).run Try.prog w) := by
  have hr := run_build2 w a0 a1 a2 b0 b1 b2
  unfold execOp
  simp only [ho, Act.eval, List.map_toArray, List.map_cons, List.map_nil, e0, e1, Sem.run_bind, Sem.run_pure, hr, Result.andThen_ok]
  exact ⟨gr_alloc _ _, h⟩
theorem run_build3 (w : World) (a0 a1 a2 b0 b1 b2 c0 c1 c2 : Value) : (Instr.buildSlice 54 3 #[(0, .agg #[a0, a1, a2]), (1, .agg #[b0, b1, b2]), (2, .agg #[c0, c1, c2])]).run Try.prog w = .ok (.slice (some ⟨w.heap.size, 0, none⟩) 3 3) (w.alloc (.cells #[a0, a1, a2, b0, b1, b2, c0, c1, c2] 56)) := by kernel_rfl
theorem growsTo_build3 {V : VP} {w : World} {o : Oper} {b : Act} {t0 t1 t2 : Tmp} {a0 a1 a2 b0 b1 b2 c0 c1 c2 : Value} (ho : o.op = .buildSlice 54 3 #[(0, .tmp t0), (1, .tmp t1), (2, .tmp t2)])
    (e0 : b.tmps.getD t0 undef = .agg #[a0, a1, a2]) (e1 : b.tmps.getD t1 undef = .agg #[b0, b1, b2]) (e2 : b.tmps.getD t2 undef = .agg #[c0, c1, c2]) (h : V (.slice (some ⟨w.heap.size, 0, none⟩) 3 3) (w.alloc (.cells #[a0, a1, a2, b0, b1, b2, c0, c1, c2] 56))) : growsTo Try.prog V w ((execOp b.eval o).run Try.prog w) := by
  have hr := run_build3 w a0 a1 a2 b0 b1 b2 c0 c1 c2
  unfold execOp
  simp only [ho, Act.eval, List.map_toArray, List.map_cons, List.map_nil, e0, e1, e2, Sem.run_bind, Sem.run_pure, hr, Result.andThen_ok]
  exact ⟨gr_alloc _ _, h⟩
theorem run_build6 (w : World) (a0 a1 a2 b0 b1 b2 c0 c1 c2 d0 d1 d2 p0 p1 p2 q0 q1 q2 : Value) : (Instr.buildSlice 54 6 #[(0, .agg #[a0, a1, a2]), (1, .agg #[b0, b1, b2]), (2, .agg #[c0, c1, c2]), (3, .agg #[d0, d1, d2]), (4, .agg #[p0, p1, p2]), (5, .agg #[q0, q1, q2])]).run Try.prog w = .ok (.slice (some ⟨w.heap.size, 0, none⟩) 6 6) (w.alloc (.cells #[a0, a1, a2, b0, b1, b2, c0, c1, c2, d0, d1, d2, p0, p1, p2, q0, q1, q2] 56)) := by kernel_rfl
theorem growsTo_build6 {V : VP} {w : World} {o : Oper} {b : Act} {t0 t1 t2 t3 t4 t5 : Tmp} {a0 a1 a2 b0 b1 b2 c0 c1 c2 d0 d1 d2 p0 p1 p2 q0 q1 q2 : Value} (ho : o.op = .buildSlice 54 6 #[(0, .tmp t0), (1, .tmp t1), (2, .tmp t2), (3, .tmp t3), (4, .tmp t4), (5, .tmp t5)])
    (e0 : b.tmps.getD t0 undef = .agg #[a0, a1, a2]) (e1 : b.tmps.getD t1 undef = .agg #[b0, b1, b2]) (e2 : b.tmps.getD t2 undef = .agg #[c0, c1, c2]) (e3 : b.tmps.getD t3 undef = .agg #[d0, d1, d2]) (e4 : b.tmps.getD t4 undef = .agg #[p0, p1, p2]) (e5 : b.tmps.getD t5 undef = .agg #[q0, q1, q2]) (h : V (.slice (some ⟨w.heap.size, 0, none⟩) 6 6) (w.alloc (.cells #[a0, a1, a2, b0, b1, b2, c0, c1, c2, d0, d1, d2, p0, p1, p2, q0, q1, q2] 56))) : growsTo Try.prog V w ((execOp b.eval o).run Try.prog w) := by
  have hr := run_build6 w a0 a1 a2 b0 b1 b2 c0 c1 c2 d0 d1 d2 p0 p1 p2 q0 q1 q2
  unfold execOp
  simp only [ho, Act.eval, List.map_toArray, List.map_cons, List.map_nil, e0, e1, e2, e3, e4, e5, Sem.run_bind, Sem.run_pure, hr, Result.andThen_ok]
  exact ⟨gr_alloc _ _, h⟩
theorem slice_addr_all (w : World) (g o : Nat) : (Instr.sliceAt 44 (.pointer (some ⟨g, o, none⟩)) none none none).run Try.prog w = .ok (.slice (some ⟨g, o, none⟩) 20 20) w := by
  have hn : Try.prog.arrayLen 44 = 20 := by kernel_rfl
  have hs : (sizeOf (Try.prog.elem 44)).run Try.prog w = .ok 1 w := by kernel_rfl
  rw [run_sliceAt_array_all (P := Try.prog) w 44 ⟨g, o, none⟩ (by kernel_rfl), hs]
  simp [slicedAt, hn, add_none, Result.andThen]
theorem enter_list (args : Array Value) (w : World) : (callFunc 18 args).run Try.prog w = .ok (.enter 18 args) w := by simp [go_sem]
/-- An item all of whose blocks are new. -/
def NewI (B : Nat) (x : Raw) : VP := fun v w => ItemIn (fun k => B ≤ k ∧ k < w.heap.size) w v x
theorem stable_newI (B : Nat) (x : Raw) : Stable (NewI B x) := fun _ _ _ hg h => ItemIn.mono h (fun b hb => ⟨hb.1, Nat.lt_of_lt_of_le hb.2 hg.size⟩) fun p hp => hg.cell hp.2
/-- A slice of such items. -/
def NewIs (B : Nat) (xs : List Raw) : VP := fun v w => ∃ A c rows, v = .slice A xs.length c ∧ xs.length ≤ c ∧ c ≤ maxLen ∧ (A = none → xs.length = 0 ∧ c = 0) ∧ RdP (fun k => B ≤ k ∧ k < w.heap.size) w A rows.flatten ∧ ItemsAtP (fun k => B ≤ k ∧ k < w.heap.size) w xs rows
theorem stable_newIs (B : Nat) (xs : List Raw) : Stable (NewIs B xs) := fun _ w w' hg h => by
  obtain ⟨A, c, rows, g1, g2, g3, g4, g5, g6⟩ := h
  exact ⟨A, c, rows, g1, g2, g3, g4, g5.mono (fun b hb => ⟨hb.1, Nat.lt_of_lt_of_le hb.2 hg.size⟩) (fun p hp => hg.cell hp.2), ItemsAtP.mono (fun b hb => ⟨hb.1, Nat.lt_of_lt_of_le hb.2 hg.size⟩) (fun p hp => hg.cell hp.2) _ _ g6⟩
theorem newI_list {B : Nat} {xs : List Raw} {A : Option Addr} {n c : Nat} {w : World} (h : NewIs B xs (.slice A n c) w) : NewI B (listI xs) (.agg #[.bool true, .slice none 0 0, .slice A n c]) w := by
  obtain ⟨A', c', rows, g1, g2, g3, g4, g5, g6⟩ := h
  injection g1 with e1 e2 e3
  subst e1 e2 e3
  refine ⟨[.bool true, .slice none 0 0, .slice A xs.length c], rfl, ?_⟩
  unfold listI
  rw [ItemAtP]
  exact ⟨_, A, c, rows, rfl, ⟨none, 0, rfl, Nat.le_refl _, by simp [maxLen], fun hn => absurd rfl hn⟩, g2, g3, g4, g5, g6⟩
theorem newI_form {B : Nat} {x : Raw} {v : Value} {w : World} (h : NewI B x v w) : ∃ b A n c A' n' c', v = .agg #[.bool b, .slice A n c, .slice A' n' c'] ∧ ItemAtP (fun k => B ≤ k ∧ k < w.heap.size) w x [.bool b, .slice A n c, .slice A' n' c'] := by
  obtain ⟨cs, rfl, h⟩ := h
  obtain ⟨b, A, n, c, A', n', c', rfl⟩ := h.len
  exact ⟨b, A, n, c, A', n', c', rfl, h⟩
/-- A literal's row of items. -/
theorem newIs_alloc {B : Nat} {xs : List Raw} {rows : List (List Value)} {w : World} {cs : Array Value} (hB : B ≤ w.heap.size) (hcs : cs.toList = rows.flatten) (h : ItemsAtP (fun k => B ≤ k ∧ k < w.heap.size) w xs rows) (hn : xs.length ≤ maxLen) (n : Nat) (hnx : n = xs.length) (h0 : 0 < n) :
    NewIs B xs (.slice (some ⟨w.heap.size, 0, none⟩) n n) (w.alloc (.cells cs 56)) := by
  subst hnx
  refine ⟨_, _, rows, rfl, Nat.le_refl _, hn, (fun e => by cases e), fun _ => ⟨w.heap.size, 0, rfl, ⟨hB, by simp⟩, fun j u hu => ?_⟩, ItemsAtP.mono (fun k hk => ⟨hk.1, by simp; omega⟩) (fun p hp => (gr_alloc w _).cell hp.2) _ _ h⟩
  rw [Nat.zero_add, cell_of_row _ _ _ _ _ (0, 0) (heap_alloc_new w _), ← hu, ← hcs]
  simp
set_option maxRecDepth 20000 in
set_option maxHeartbeats 4000000 in
theorem j_change (c : Ch) (vc vs : Value) (w : World) (hok : c.ok) (hc : IsB w vc c.code) (hs : IsSl w vs c.slots) (hl1 : c.code.length ≤ 140737488355328) (hl2 : c.slots.length ≤ 2199023255552) :
    Calls Try.prog 19 #[.agg (chC c vc vs).toArray] w (Ret (fun v w' => ItemIn (fun k => w.heap.size ≤ k ∧ k < w'.heap.size) w' v (chI c)) w) := by
  have HC := Lib.hid hc
  have HS := Lib.hid hs
  obtain ⟨Ac, cc, rfl, hc1, hc2, _⟩ := hc
  obtain ⟨As, cs, rfl, hs1, hs2⟩ := IsSlP.form hs
  have HOK := Lib.hid hok
  unfold maxLen at hc2 hs2
  clear hs hok
  have hbox := fun w => box_of 51 (chC c (.slice Ac c.code.length cc) (.slice As c.slots.length cs)).toArray w
  go_enter Try.func19, Try.ntmps19
  go_upto_if 8 with first
    | (guard_target = wpList _ _ _ (Oper.mk _ (Op.box _ _) _ _ _ _ :: _) _ _; refine wpL_box_of hbox w.heap.size rfl (.tmp 0) rfl rfl rfl ?_; intro w0 hR0 hG0 hs0; obtain ⟨qa, q20, q21, qb, q54, q55⟩ := ch_var hR0.out HOK.out)
  go_cut [3] (fun s3 wx => s3 = .int .i64 ((if c.gone then 1 else 0 : Nat) : Int) ∧ wx = w0.alloc (.cells #[.bool false, .slice none 0 0, .slice none 0 0] 56))
  case first =>
    cases hgn : c.gone with
    | true =>
      rw [hgn] at q20
      go_wp2_with fail
      go_meet
      exact ⟨by simp [hgn], rfl⟩
    | false =>
      rw [hgn] at q20
      go_wp2_with fail
      go_meet
      exact ⟨by simp [hgn], rfl⟩
  case rest =>
    obtain ⟨rfl, rfl⟩ := hcut
    have HG1 := Lib.hid (hG0.out.trans (gr_alloc w0 (.cells #[.bool false, .slice none 0 0, .slice none 0 0] 56)))
    have HR1 := Lib.hid ((heap_old w0 (.cells #[.bool false, .slice none 0 0, .slice none 0 0] 56) _ (lt_of_some hR0.out)).trans hR0.out)
    have HZ1 : Hid ((w0.alloc (.cells #[.bool false, .slice none 0 0, .slice none 0 0] 56)).heap[w.heap.size + 1]? = _) := Lib.hid (heap_at w0 _ _ hs0.symm)
    have hs1 : (w0.alloc (.cells #[.bool false, .slice none 0 0, .slice none 0 0] 56)).heap.size = w.heap.size + 2 := by simp [hs0]
    clear qa q20 q21 qb q54 q55 hR0 hG0
    generalize w0.alloc (.cells #[.bool false, .slice none 0 0, .slice none 0 0] 56) = w1 at HG1 HR1 HZ1 hs1 ⊢
    obtain ⟨gn, hgn⟩ : ∃ gn : Nat, gn = (if c.gone then 1 else 0 : Nat) := ⟨_, rfl⟩
    rw [← hgn]
    have HGN := Lib.hid hgn
    have hgn1 : gn ≤ 1 := by rw [hgn]; split <;> omega
    clear hgn
    clear hbox
    go_wp2_with (go_at_call 18; refine (j_list none 0 0 _).mono ?_; rintro e w2 ⟨_, rfl, hg2, rfl⟩; have hs2' := hg2.size; have HG2 := Lib.hid ((HG1.out.trans hg2).trans (gr_alloc w2 (.cells #[.bool true, .slice none 0 0, .slice none 0 0] 56))); have HR2 := Lib.hid ((heap_old w2 (.cells #[.bool true, .slice none 0 0, .slice none 0 0] 56) _ (Nat.lt_of_lt_of_le (lt_of_some HR1.out) hs2')).trans ((hg2.block _ (lt_of_some HR1.out)).trans HR1.out)); have HZ2 := Lib.hid ((heap_old w2 (.cells #[.bool true, .slice none 0 0, .slice none 0 0] 56) _ (Nat.lt_of_lt_of_le (lt_of_some HZ1.out) hs2')).trans ((hg2.block _ (lt_of_some HZ1.out)).trans HZ1.out)); have HL2 := Lib.hid (heap_alloc_new w2 (.cells #[.bool true, .slice none 0 0, .slice none 0 0] 56)); obtain ⟨qa, q20, q21, qb, q54, q55⟩ := ch_var HR2.out HOK.out; clear hg2)
    have hsl : (w2.alloc (.cells #[.bool true, .slice none 0 0, .slice none 0 0] 56)).heap.size = w2.heap.size + 1 := by simp
    generalize w2.alloc (.cells #[.bool true, .slice none 0 0, .slice none 0 0] 56) = wl at HG2 HR2 HZ2 HL2 qa q20 q21 qb q54 q55 hsl ⊢
    clear qa q20 q21 qb q54 q55 HG1 HR1 HZ1
    go_loopw [13] (fun i wr => ∃ (done : List Raw) (A : Option Addr) (ca : Nat) (rows : List (List Value)), done.length ≤ c.slots.length ∧ i = .int .i64 done.length ∧ Hid (done = (c.slots.take done.length).map slotI) ∧ Hid (wr.heap[w2.heap.size]? = some (.cells #[.bool true, .slice none 0 0, .slice A done.length ca] 56 (0, 0))) ∧ Hid (wr.ownsRow (w2.heap.size + 1) 56 3 (.slice A done.length ca) done.length rows.flatten) ∧ Hid (ItemsAtP (okL (w2.heap.size + 1) w2.heap.size (.slice A done.length ca) wr.heap.size) wr done rows) ∧ w2.heap.size + 1 ≤ wr.heap.size ∧ Hid (wr.heap[w.heap.size]? = some (.cells (chC c (.slice Ac c.code.length cc) (.slice As c.slots.length cs)).toArray 51 (0, 0))) ∧ Hid (wr.heap[w.heap.size + 1]? = some (.cells #[.bool false, .slice none 0 0, .slice none 0 0] 56 (0, 0))) ∧ Hid (Gr w wr)) (fun i _ => c.slots.length - (intOf i).toNat)
    case atStart => exact ⟨[], none, 0, [], by simp, rfl, Lib.hid (by simp), HL2, Lib.hid (World.ownsRow_nil _ _ _ _), Lib.hid (by rw [ItemsAtP]), by omega, HR2, HZ2, HG2⟩
    case round =>
      clear HG2 HR2 HZ2 HL2 hsl
      obtain ⟨done, A, ca, rows, hd1, rfl, HD, HRL, HOW, HIT, hsz, HR, HZ, HG⟩ := hrel
      obtain ⟨_, _, he, hca1, hca2⟩ := own_form HOW.out
      injection he with he1 he2 he3
      subst he1 he3
      unfold maxLen at hca2
      by_cases h1 : done.length < c.slots.length
      · obtain ⟨bl, o, rfl, hbl, hrg, hsok⟩ := IsSlP.at HS.out done.length h1
        have HRG := Lib.hid (range_gr hrg HG.out hbl)
        have HSOK := Lib.hid hsok
        have HTK : Hid ((c.slots.take (done.length + 1)).map slotI = done ++ [slotI (c.slots[done.length])]) := Lib.hid (by
          rw [← List.take_append_getElem h1, List.map_append]
          congr 1
          exact HD.out.symm)
        clear hrg hsok
        generalize c.slots[done.length] = s at HRG HSOK HTK
        obtain ⟨q0, q1, q2⟩ := cells_of3 HRL.out
        go_wp2_with first
          | (guard_target = wpList _ _ _ (Oper.mk _ (Op.load _ _) _ _ _ _ :: _) _ _; refine wpList_load_mid rfl 48 (.tmp 15) rfl bl (o + done.length * 64) rfl (slC s) _ HRG.out Try.underlying48 rfl (slot_info s HSOK.out) ?_)
          | (guard_target = wpList _ _ _ (Oper.mk _ (Op.alloc _) _ _ _ _ :: _) _ _; refine wpL_alloc_of alloc_slot wr.heap.size rfl rfl rfl ?_; intro wa hRa hGa hsa)
          | (guard_target = wpList _ _ _ (Oper.mk _ (Op.store _ _ _) _ _ _ _ :: _) _ _; refine wpList_store_row rfl 48 (.tmp 6) (.tmp 16) rfl wr.heap.size (slC s).toArray rfl rfl 48 _ hRa.out (slot_info' s HSOK.out) (slC_zero s HSOK.out) (all_oneCell_toArray (slC_one s)) ?_)
        have HRv : Hid ((wa.setRow wr.heap.size (slC s).toArray).heap[wr.heap.size]? = some (.cells (slC s).toArray 48 (0, 0))) := Lib.hid (heap_setRow_same _ _ _ _ _ hRa.out)
        have HGv : Hid (Gr wr (wa.setRow wr.heap.size (slC s).toArray)) := Lib.hid (gr_setRow hGa.out _ _ (Nat.le_refl _))
        have hsv : (wa.setRow wr.heap.size (slC s).toArray).heap.size = wr.heap.size + 1 := by rw [size_setRow, hsa]
        clear hRa hGa q0 q1 q2 HRG hsa
        generalize wa.setRow wr.heap.size (slC s).toArray = wv at HRv HGv hsv ⊢
        have hrl := lt_of_some HRL.out
        have q2 := later_cell (w := wv) (p := ⟨w2.heap.size, 2, none⟩) (by show w2.heap.size < _; omega) (cells_of3 ((HGv.out.block _ hrl).trans HRL.out)).2.2
        obtain ⟨rk, rv⟩ := sl_parts (range_row HRv.out) HSOK.out
        have HRK := Lib.hid rk
        have HRVV := Lib.hid rv
        clear rk rv
        refine wp_region_N 11 (by kernel_rfl) (by kernel_rfl) (by kernel_rfl) ?_
        simp only [List.take_succ_cons, List.take_zero, List.drop_succ_cons, List.drop_zero]
        refine wpN_quiet 3 (by kernel_rfl) ?_
        simp only [List.take_succ_cons, List.take_zero, List.drop_succ_cons, List.drop_zero]
        repeat (go_big_quiet_step (fail))
        refine wpQuiet_nil ?_
        refine wpN_val (arrV s.key) rfl (by kernel_rfl) (by kernel_rfl) (fun xw => growsTo_load_range (range_gr HRK.out xw.2 (by omega)) HSOK.out.1 rfl rfl) ?_
        simp only [Act.put, List.setIfInBounds_toArray, List.set_cons_succ, List.set_cons_zero]
        refine wpN_gen 21 (NewI wv.heap.size (wordI s.key)) rfl rfl (by kernel_rfl) (by kernel_rfl) (stable_newI _ _) (fun xw => growsTo_call (by simp [go_sem]) ((rlp_Big s.key HSOK.out.1 _).mono ?_)) ?_
        · rintro e w' ⟨v, rfl, hg, hv⟩
          exact ⟨_, rfl, hg, hv.mono (fun b hb => ⟨Nat.le_trans xw.2.size hb.1, hb.2⟩) (fun _ _ => rfl)⟩
        refine wpN_quiet 1 (by kernel_rfl) ?_
        simp only [List.take_succ_cons, List.take_zero, List.drop_succ_cons, List.drop_zero]
        repeat (go_big_quiet_step (fail))
        refine wpQuiet_nil ?_
        refine wpN_val (arrV s.val) rfl (by kernel_rfl) (by kernel_rfl) (fun xw => growsTo_load_range (range_gr HRVV.out xw.2 (by omega)) HSOK.out.2 rfl rfl) ?_
        simp only [Act.put, List.setIfInBounds_toArray, List.set_cons_succ, List.set_cons_zero]
        refine wpN_gen 24 (NewI wv.heap.size (wordI s.val)) rfl rfl (by kernel_rfl) (by kernel_rfl) (stable_newI _ _) (fun xw => growsTo_call (by simp [go_sem]) ((rlp_Big s.val HSOK.out.2 _).mono ?_)) ?_
        · rintro e w' ⟨v, rfl, hg, hv⟩
          exact ⟨_, rfl, hg, hv.mono (fun b hb => ⟨Nat.le_trans xw.2.size hb.1, hb.2⟩) (fun _ _ => rfl)⟩
        refine wpN_free 25 (NewIs wv.heap.size [wordI s.key, wordI s.val]) rfl rfl (stable_newIs _ _) (fun b w' hC hb => ?_) ?_
        · have h21 : NewI wv.heap.size (wordI s.key) (b.tmps.getD 21 undef) w' := hb 21 (by decide)
          have h24 : NewI wv.heap.size (wordI s.val) (b.tmps.getD 24 undef) w' := hb 24 (by decide)
          obtain ⟨b1, A1, n1, k1, A2, n2, k2, e1, i1⟩ := newI_form h21
          obtain ⟨b3, A3, n3, k3, A4, n4, k4, e2, i2⟩ := newI_form h24
          have hB := hC.gr.size
          refine growsTo_build2 rfl e1 e2 (newIs_alloc (xs := [wordI s.key, wordI s.val]) (rows := [[.bool b1, .slice A1 n1 k1, .slice A2 n2 k2], [.bool b3, .slice A3 n3 k3, .slice A4 n4 k4]]) hC.gr.size rfl ?_ (by simp [maxLen]) 2 rfl (by omega))
          rw [ItemsAtP]
          exact ⟨_, _, rfl, i1, by rw [ItemsAtP]; exact ⟨_, _, rfl, i2, by rw [ItemsAtP]⟩⟩
        refine wpN_free 26 (NewI wv.heap.size (slotI s)) rfl rfl (stable_newI _ _) (fun b w' hC hb => ?_) ?_
        · have h25 : NewIs wv.heap.size [wordI s.key, wordI s.val] (b.tmps.getD 25 undef) w' := hb 25 (by decide)
          have h25' := h25
          obtain ⟨A5, c5, rows5, e5, _⟩ := h25
          refine growsTo_call1 rfl enter_list ?_
          rw [e5] at h25' ⊢
          refine (j_list _ _ _ _).mono ?_
          rintro e w'' ⟨_, rfl, hg, rfl⟩
          exact ⟨_, rfl, hg, stable_newI _ _ _ _ _ hg (newI_list h25')⟩
        refine wpN_free 27 (NewIs wv.heap.size [slotI s]) rfl rfl (stable_newIs _ _) (fun b w' hC hb => ?_) ?_
        · have h26 : NewI wv.heap.size (slotI s) (b.tmps.getD 26 undef) w' := hb 26 (by decide)
          obtain ⟨b1, A1, n1, k1, A2, n2, k2, e1, i1⟩ := newI_form h26
          refine growsTo_build1 rfl e1 (newIs_alloc (xs := [slotI s]) (rows := [[.bool b1, .slice A1 n1 k1, .slice A2 n2 k2]]) hC.gr.size rfl ?_ (by simp [maxLen]) 1 rfl (by omega))
          rw [ItemsAtP]
          exact ⟨_, _, rfl, i1, by rw [ItemsAtP]⟩
        refine wpN_nil (by kernel_rfl) ?_
        intro W hW
        replace hW := hW.gr
        intro v27 h27 v26 _ v25 _ v24 _ v21 _
        obtain ⟨A7, c7, rows7, rfl, hk1, hk2, _, hrd7, hit7⟩ := h27
        unfold finN
        rw [ItemsAtP] at hit7
        obtain ⟨r7, rest7, rfl, hir7, hre7⟩ := hit7
        rw [ItemsAtP] at hre7
        subst hre7
        obtain ⟨b7, Ax, nx, cx, Ay, ny, cy, rfl⟩ := hir7.len
        have HRD7 : Hid (Rd W W.heap.size A7 [.bool b7, .slice Ax nx cx, .slice Ay ny cy]) := Lib.hid (show RdP (fun b => b < W.heap.size) W A7 _ from by simpa using hrd7.mono (ok' := fun b => b < W.heap.size) (fun b hb => hb.2) (fun _ _ => rfl))
        have HIR7 := Lib.hid hir7
        have hW2 := hW.size
        have HOW2 := Lib.hid (own_gr HOW.out (HGv.out.trans hW))
        have HGW := Lib.hid (HGv.out.trans hW)
        clear hrd7 hir7
        simp only [List.length_cons, List.length_nil] at hk1 ⊢
        go_wp2_with (at_builtin; refine wpL_append (.tmp 18) (.tmp 27) 54 slT_items (base := w2.heap.size + 1) (.slice A done.length ca) done.length rows.flatten A7 1 c7 W.heap.size [.bool b7, .slice Ax nx cx, .slice Ay ny cy] rfl rfl rfl rfl HOW2.out HRD7.out rfl (by simp [Value.oneCell']) (by simp only [maxLen]; omega) (by omega) (by omega) ?_; intro A5 c5 w5 hown5 hg5 hbk5; have ho5 : w5.heap[w2.heap.size]? = some (.cells #[.bool true, .slice none 0 0, .slice A done.length ca] 56 (0, 0)) := (hg5.block w2.heap.size (by omega) (fun e => by have := own_block_ge HOW.out _ e.symm; omega)).trans ((HGW.out.block _ hrl).trans HRL.out); have e5 : w5.cell? ⟨w2.heap.size, 2, none⟩ = some (.slice A done.length ca) := (by rw [cell_of_row w5 _ _ _ _ (0, 0) ho5]; rfl); have f5 := frozen_of_row w5 w2.heap.size 2 _ _ ho5; have HOWN5 := Lib.hid hown5; have HG5 := Lib.hid hg5; have HBK5 := Lib.hid hbk5; clear hown5 hg5 hbk5 ho5)
        go_roundw
        case rel =>
          obtain ⟨r1, r2, r3, r4, r5, r6⟩ := items_push (g := w2.heap.size) (B := w2.heap.size + 1) (w0 := w) (wB := W) (x := slotI s) (r := [.bool b7, .slice Ax nx cx, .slice Ay ny cy]) (by omega) (by omega) hsz HGW.out (Gr.refl W) HOW.out HIT.out (ItemAtP.mono (fun k hk => ⟨by have := hk.1; omega, hk.2⟩) (fun _ _ => rfl) _ _ HIR7.out) HG5.out HOWN5.out HBK5.out HRL.out HG.out
          have hdl : (done ++ [slotI s]).length = done.length + 1 := by simp
          refine ⟨done ++ [slotI s], A5, c5, rows ++ [[.bool b7, .slice Ax nx cx, .slice Ay ny cy]], by rw [hdl]; omega, by rw [hdl]; go_num, ?_, ?_, ?_, ?_, r4, ?_, ?_, Lib.hid r5⟩
          · rw [hdl]; exact Lib.hid HTK.out.symm
          · rw [hdl]; exact Lib.hid r1
          · rw [hdl]; exact Lib.hid r2
          · rw [hdl]; exact Lib.hid r3
          · exact Lib.hid ((r6 _ (lt_of_some HR.out) (by omega) (fun e => by have := own_block_ge HOW.out _ e; omega)).trans HR.out)
          · exact Lib.hid ((r6 _ (lt_of_some HZ.out) (by omega) (fun e => by have := own_block_ge HOW.out _ e; omega)).trans HZ.out)
        case measure => simp [intOf]; omega
      · have HDD : Hid (done = c.slots.map slotI) := Lib.hid (by
          have := HD.out
          rwa [List.take_of_length_le (by omega)] at this)
        obtain ⟨qa, q20, q21, qb, q54, q55⟩ := ch_var HR.out HOK.out
        have hl0 := lt_of_some HR.out
        have hl2 := lt_of_some HRL.out
        obtain ⟨p0, p1, p2⟩ := cells_of3 HRL.out
        have P0 := later_cell (w := wr) (p := ⟨w2.heap.size, 0, none⟩) hl2 p0
        have P1 := later_cell (w := wr) (p := ⟨w2.heap.size, 1, none⟩) hl2 p1
        have P2 := later_cell (w := wr) (p := ⟨w2.heap.size, 2, none⟩) hl2 p2
        have Q21 := later_cell (w := wr) (p := ⟨w.heap.size, 21, none⟩) hl0 q21
        have Q54 := later_cell (w := wr) (p := ⟨w.heap.size, 54, none⟩) hl0 q54
        have k1 := fun x : Later wr => slice_addr_all x.1 w.heap.size 0
        have HQA := Lib.hid qa
        have HQB := Lib.hid qb
        have HLI := Lib.hid (list_item HOW.out HIT.out)
        have HIC := Lib.hid (HC.out.gr HG.out)
        have hNB := HOK.out.2.2.1
        have hNB2 := HOK.out.2.2.2.1
        have hwr : w.heap.size + 2 ≤ wr.heap.size := by omega
        clear qa q20 q21 qb q54 q55 p0 p1 p2 HOW HIT HRL HR HD
        go_wp2_with fail
        refine wp_region_N 17 (by kernel_rfl) (by kernel_rfl) (by kernel_rfl) ?_
        simp only [List.take_succ_cons, List.take_zero, List.drop_succ_cons, List.drop_zero]
        refine wpN_quiet 2 (by kernel_rfl) ?_
        simp only [List.take_succ_cons, List.take_zero, List.drop_succ_cons, List.drop_zero]
        repeat (go_big_quiet_step (fail))
        refine wpQuiet_nil ?_
        refine wpN_gen 33 (NewI wr.heap.size (bytesI c.addr)) rfl rfl (by kernel_rfl) (by kernel_rfl) (stable_newI _ _) (fun xw => growsTo_call (by simp [go_sem]) ((j_text _ c.addr _ (isB_range (range_gr HQA.out xw.2 hl0) (Nat.lt_of_lt_of_le hl0 xw.2.size) HOK.out.1 (by simp [maxLen])) (by have := HOK.out.1; omega)).mono ?_)) ?_
        · rintro e w' ⟨v, rfl, hg, hv⟩
          exact ⟨_, rfl, hg, hv.mono (fun b hb => ⟨Nat.le_trans xw.2.size hb.1, hb.2⟩) (fun _ _ => rfl)⟩
        refine wpN_quiet 1 (by kernel_rfl) ?_
        simp only [List.take_succ_cons, List.take_zero, List.drop_succ_cons, List.drop_zero]
        repeat (go_big_quiet_step (fail))
        refine wpQuiet_nil ?_
        refine wpN_gen 35 (NewI wr.heap.size (numI gn)) rfl rfl (by kernel_rfl) (by kernel_rfl) (stable_newI _ _) (fun xw => growsTo_call (by simp [go_sem]) ((rlp_Num (gn : Int) _ (by omega) (by omega)).mono ?_)) ?_
        · rintro e w' ⟨v, rfl, hg, hv⟩
          exact ⟨_, rfl, hg, hv.mono (fun b hb => ⟨Nat.le_trans xw.2.size hb.1, hb.2⟩) (fun _ _ => rfl)⟩
        refine wpN_quiet 2 (by kernel_rfl) ?_
        simp only [List.take_succ_cons, List.take_zero, List.drop_succ_cons, List.drop_zero]
        repeat (go_big_quiet_step (fail))
        refine wpQuiet_nil ?_
        refine wpN_gen 38 (NewI wr.heap.size (numI c.nonce.toNat)) rfl rfl (by kernel_rfl) (by kernel_rfl) (stable_newI _ _) (fun xw => growsTo_call (by simp [go_sem]) ((rlp_Num c.nonce _ hNB hNB2).mono ?_)) ?_
        · rintro e w' ⟨v, rfl, hg, hv⟩
          exact ⟨_, rfl, hg, hv.mono (fun b hb => ⟨Nat.le_trans xw.2.size hb.1, hb.2⟩) (fun _ _ => rfl)⟩
        refine wpN_quiet 1 (by kernel_rfl) ?_
        simp only [List.take_succ_cons, List.take_zero, List.drop_succ_cons, List.drop_zero]
        repeat (go_big_quiet_step (fail))
        refine wpQuiet_nil ?_
        refine wpN_val (arrV c.bal) rfl (by kernel_rfl) (by kernel_rfl) (fun xw => growsTo_load_range (range_gr HQB.out xw.2 hl0) HOK.out.2.1 rfl rfl) ?_
        simp only [Act.put, List.setIfInBounds_toArray, List.set_cons_succ, List.set_cons_zero]
        refine wpN_gen 41 (NewI wr.heap.size (wordI c.bal)) rfl rfl (by kernel_rfl) (by kernel_rfl) (stable_newI _ _) (fun xw => growsTo_call (by simp [go_sem]) ((rlp_Big c.bal HOK.out.2.1 _).mono ?_)) ?_
        · rintro e w' ⟨v, rfl, hg, hv⟩
          exact ⟨_, rfl, hg, hv.mono (fun b hb => ⟨Nat.le_trans xw.2.size hb.1, hb.2⟩) (fun _ _ => rfl)⟩
        refine wpN_quiet 2 (by kernel_rfl) ?_
        simp only [List.take_succ_cons, List.take_zero, List.drop_succ_cons, List.drop_zero]
        repeat (go_big_quiet_step (fail))
        refine wpQuiet_nil ?_
        refine wpN_gen 44 (NewI wr.heap.size (bytesI c.code)) rfl rfl (by kernel_rfl) (by kernel_rfl) (stable_newI _ _) (fun xw => growsTo_call (by simp [go_sem]) ((j_text _ c.code _ (HIC.out.gr xw.2) (by omega)).mono ?_)) ?_
        · rintro e w' ⟨v, rfl, hg, hv⟩
          exact ⟨_, rfl, hg, hv.mono (fun b hb => ⟨Nat.le_trans xw.2.size hb.1, hb.2⟩) (fun _ _ => rfl)⟩
        refine wpN_quiet 1 (by kernel_rfl) ?_
        simp only [List.take_succ_cons, List.take_zero, List.drop_succ_cons, List.drop_zero]
        repeat (go_big_quiet_step (fail))
        refine wpQuiet_nil ?_
        refine wpN_free 46 (NewIs (w.heap.size + 2) [bytesI c.addr, numI gn, numI c.nonce.toNat, wordI c.bal, bytesI c.code, listI done]) rfl rfl (stable_newIs _ _) (fun b w' hC hb => ?_) ?_
        · have h33 : NewI wr.heap.size (bytesI c.addr) (b.tmps.getD 33 undef) w' := hb 33 (by decide)
          have h35 : NewI wr.heap.size (numI gn) (b.tmps.getD 35 undef) w' := hb 35 (by decide)
          have h38 : NewI wr.heap.size (numI c.nonce.toNat) (b.tmps.getD 38 undef) w' := hb 38 (by decide)
          have h41 : NewI wr.heap.size (wordI c.bal) (b.tmps.getD 41 undef) w' := hb 41 (by decide)
          have h44 : NewI wr.heap.size (bytesI c.code) (b.tmps.getD 44 undef) w' := hb 44 (by decide)
          have h45 : b.tmps.getD 45 undef = .agg #[.bool true, .slice none 0 0, .slice A done.length ca] := hb 45 (by decide)
          have hgb := hC.gr
          have up : ∀ {x : Raw} {cs : List Value}, ItemAtP (fun k => wr.heap.size ≤ k ∧ k < w'.heap.size) w' x cs → ItemAtP (fun k => w.heap.size + 2 ≤ k ∧ k < w'.heap.size) w' x cs := fun h => ItemAtP.mono (fun k hk => ⟨by have := hk.1; omega, hk.2⟩) (fun _ _ => rfl) _ _ h
          obtain ⟨a1, A1, n1, k1, A2, n2, k2, e1, i1⟩ := newI_form h33
          obtain ⟨a2, A3, n3, k3, A4, n4, k4, e2, i2⟩ := newI_form h35
          obtain ⟨a3, A5, n5, k5, A6, n6, k6, e3, i3⟩ := newI_form h38
          obtain ⟨a4, A7, n7, k7, A8, n8, k8, e4, i4⟩ := newI_form h41
          obtain ⟨a5, A9, n9, k9, A10, n10, k10, e5, i5⟩ := newI_form h44
          obtain ⟨cs6, e6, i6⟩ := HLI.out
          obtain rfl : [.bool true, .slice none 0 0, .slice A done.length ca] = cs6 := by
            have := congrArg Value.cells e6
            simpa [Value.cells] using congrArg Array.toList this
          have i6' : ItemAtP (fun k => w.heap.size + 2 ≤ k ∧ k < w'.heap.size) w' (listI done) [.bool true, .slice none 0 0, .slice A done.length ca] := ItemAtP.mono (fun k hk => ⟨by have := hk.1; omega, Nat.lt_of_lt_of_le hk.2 hgb.size⟩) (fun p hp => hgb.cell hp.2) _ _ i6
          refine growsTo_build6 rfl e1 e2 e3 e4 e5 h45 (newIs_alloc (xs := [bytesI c.addr, numI gn, numI c.nonce.toNat, wordI c.bal, bytesI c.code, listI done])
            (rows := [[.bool a1, .slice A1 n1 k1, .slice A2 n2 k2], [.bool a2, .slice A3 n3 k3, .slice A4 n4 k4], [.bool a3, .slice A5 n5 k5, .slice A6 n6 k6], [.bool a4, .slice A7 n7 k7, .slice A8 n8 k8], [.bool a5, .slice A9 n9 k9, .slice A10 n10 k10], [.bool true, .slice none 0 0, .slice A done.length ca]])
            (by have := hgb.size; omega) rfl ?_ (by simp [maxLen]) 6 rfl (by omega))
          iterate 6
            rw [ItemsAtP]
            refine ⟨_, _, rfl, by first | exact up i1 | exact up i2 | exact up i3 | exact up i4 | exact up i5 | exact i6', ?_⟩
          rw [ItemsAtP]
        refine wpN_free 47 (NewI (w.heap.size + 2) (chI c)) rfl rfl (stable_newI _ _) (fun b w' hC hb => ?_) ?_
        · have h46 : NewIs (w.heap.size + 2) [bytesI c.addr, numI gn, numI c.nonce.toNat, wordI c.bal, bytesI c.code, listI done] (b.tmps.getD 46 undef) w' := hb 46 (by decide)
          have h46' := h46
          obtain ⟨A5, c5, rows5, e5, _⟩ := h46
          refine growsTo_call1 rfl enter_list ?_
          rw [e5] at h46' ⊢
          refine (j_list _ _ _ _).mono ?_
          rintro e w'' ⟨_, rfl, hg, rfl⟩
          have := newI_list h46'
          rw [HGN.out, HDD.out] at this
          exact ⟨_, rfl, hg, stable_newI _ _ _ _ _ hg this⟩
        refine wpN_nil (by kernel_rfl) ?_
        intro W hW
        replace hW := hW.gr
        intro v47 h47 v46 _ v44 _ v41 _ v38 _ v35 _ v33 _
        unfold finN
        simp only [Act.put, List.setIfInBounds_toArray, List.set_cons_succ, List.set_cons_zero]
        obtain ⟨b7, Ax, nx, cx, Ay, ny, cy, rfl, h47'⟩ := newI_form h47
        have H47 := Lib.hid h47
        have HZW := Lib.hid ((hW.block _ (lt_of_some HZ.out)).trans HZ.out)
        go_wp2_with (guard_target = wpList _ _ _ (Oper.mk _ (Op.store _ _ _) _ _ _ _ :: _) _ _; refine wpList_store_row rfl 56 (.tmp 2) (.tmp 47) rfl (w.heap.size + 1) #[.bool b7, .slice Ax nx cx, .slice Ay ny cy] rfl rfl 56 _ HZW.out (by kernel_rfl) rfl (by simp [Value.oneCell']) ?_)
        refine bodyPost_ret (results_item1 rfl _ _ (w.heap.size + 1) _ rfl (heap_setRow_same _ _ _ _ _ HZW.out) rfl) rfl ⟨_, rfl, gr_setRow (HG.out.trans hW) _ _ (by omega), ?_⟩
        exact ItemIn.mono H47.out (fun b hb => ⟨by have := hb.1; omega, by rw [size_setRow]; exact hb.2⟩) (fun p hp => cell_setRow (by have := hp.1; omega))
end Go.Proofs.Ytekacgocjplfjaa
