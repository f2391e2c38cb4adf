/-
  Items in memory; rlp's of.
  Conditions: none.
-/
import Derived.Test.YtfpigemikpbbhaaRlp
import Derived.Test.YtfpigemikpbbhaaGrow
import Derived.Test.YtfpigemikpbbhaaArr
import Derived.Laws.Rows
namespace Go.Proofs.Ytfpigemikpbbhaa
set_option linter.unusedVariables false
open Go.RowKit Mono Rlp

/-- The cells read so; their blocks are such. -/
def RdP (ok : Nat → Prop) (w : World) (A : Option Addr) (xs : List Value) : Prop :=
  xs ≠ [] → ∃ b o, A = some ⟨b, o, none⟩ ∧ ok b ∧ ∀ j u, xs[j]? = some u → w.cell? ⟨b, o + j, none⟩ = some u
theorem RdP.mono {ok ok' : Nat → Prop} {w w' : World} {A : Option Addr} {xs : List Value} (h : RdP ok w A xs) (h1 : ∀ b, ok b → ok' b) (h2 : ∀ p : Addr, ok p.block → w'.cell? p = w.cell? p) : RdP ok' w' A xs := fun hn => by
  obtain ⟨b, o, e, hb, hc⟩ := h hn
  exact ⟨b, o, e, h1 b hb, fun j u hu => (h2 _ hb).trans (hc j u hu)⟩
def IsBP (ok : Nat → Prop) (w : World) (v : Value) (l : List UInt8) : Prop :=
  ∃ A c, v = .slice A l.length c ∧ l.length ≤ c ∧ c ≤ maxLen ∧ RdP ok w A (bvs l)
theorem IsBP.mono {ok ok' : Nat → Prop} {w w' : World} {v : Value} {l : List UInt8} (h : IsBP ok w v l) (h1 : ∀ b, ok b → ok' b) (h2 : ∀ p : Addr, ok p.block → w'.cell? p = w.cell? p) : IsBP ok' w' v l := by
  obtain ⟨A, c, h3, h4, h5, h6⟩ := h
  exact ⟨A, c, h3, h4, h5, h6.mono h1 h2⟩
mutual
/-- These three cells read as this item; the blocks of what it leads to are such. -/
def ItemAtP (ok : Nat → Prop) (w : World) : Raw → List Value → Prop
  | .mk b bs xs, cs => ∃ vb A c rows, cs = [.bool b, vb, .slice A xs.length c] ∧ IsBP ok w vb bs ∧ xs.length ≤ c ∧ c ≤ maxLen ∧ (A = none → xs.length = 0 ∧ c = 0) ∧ RdP ok w A rows.flatten ∧ ItemsAtP ok w xs rows
def ItemsAtP (ok : Nat → Prop) (w : World) : List Raw → List (List Value) → Prop
  | [], rows => rows = []
  | x :: xs, rows => ∃ r rest, rows = r :: rest ∧ ItemAtP ok w x r ∧ ItemsAtP ok w xs rest
end
def ItemAt (w : World) (x : Raw) (cs : List Value) : Prop := ItemAtP (fun b => b < w.heap.size) w x cs
def ItemsAt (w : World) (xs : List Raw) (rows : List (List Value)) : Prop := ItemsAtP (fun b => b < w.heap.size) w xs rows
mutual
theorem ItemAtP.mono {ok ok' : Nat → Prop} {w w' : World} (h1 : ∀ b, ok b → ok' b) (h2 : ∀ p : Addr, ok p.block → w'.cell? p = w.cell? p) : ∀ (x : Raw) (cs : List Value), ItemAtP ok w x cs → ItemAtP ok' w' x cs
  | .mk b bs xs, cs, h => by
    rw [ItemAtP] at h ⊢
    obtain ⟨vb, A, c, rows, g1, g2, g3, g4, g5, g6, g7⟩ := h
    exact ⟨vb, A, c, rows, g1, g2.mono h1 h2, g3, g4, g5, g6.mono h1 h2, ItemsAtP.mono h1 h2 xs rows g7⟩
theorem ItemsAtP.mono {ok ok' : Nat → Prop} {w w' : World} (h1 : ∀ b, ok b → ok' b) (h2 : ∀ p : Addr, ok p.block → w'.cell? p = w.cell? p) : ∀ (xs : List Raw) (rows : List (List Value)), ItemsAtP ok w xs rows → ItemsAtP ok' w' xs rows
  | [], rows, h => by rw [ItemsAtP] at h ⊢; exact h
  | x :: xs, rows, h => by
    rw [ItemsAtP] at h ⊢
    obtain ⟨r, rest, g1, g2, g3⟩ := h
    exact ⟨r, rest, g1, ItemAtP.mono h1 h2 x r g2, ItemsAtP.mono h1 h2 xs rest g3⟩
end
theorem ItemAt.eq (w : World) (b : Bool) (bs : List UInt8) (xs : List Raw) (cs : List Value) : ItemAt w (.mk b bs xs) cs = ∃ vb A c rows, cs = [.bool b, vb, .slice A xs.length c] ∧ IsB w vb bs ∧ xs.length ≤ c ∧ c ≤ maxLen ∧ (A = none → xs.length = 0 ∧ c = 0) ∧ Rd w w.heap.size A rows.flatten ∧ ItemsAt w xs rows := by
  unfold ItemAt
  rw [ItemAtP]
  rfl
theorem ItemsAt.nil_eq (w : World) (rows : List (List Value)) : ItemsAt w [] rows = (rows = []) := by unfold ItemsAt; rw [ItemsAtP]
theorem ItemsAt.cons_eq (w : World) (x : Raw) (xs : List Raw) (rows : List (List Value)) : ItemsAt w (x :: xs) rows = ∃ r rest, rows = r :: rest ∧ ItemAt w x r ∧ ItemsAt w xs rest := by
  unfold ItemsAt
  rw [ItemsAtP]
  rfl
theorem ItemAt.gr {w w' : World} (hg : Gr w w') (x : Raw) (cs : List Value) (h : ItemAt w x cs) : ItemAt w' x cs :=
  ItemAtP.mono (fun b hb => Nat.lt_of_lt_of_le hb hg.size) (fun p hp => hg.cell hp) x cs h
theorem ItemsAt.gr {w w' : World} (hg : Gr w w') (xs : List Raw) (rows : List (List Value)) (h : ItemsAt w xs rows) : ItemsAt w' xs rows :=
  ItemsAtP.mono (fun b hb => Nat.lt_of_lt_of_le hb hg.size) (fun p hp => hg.cell hp) xs rows h
theorem ItemsAtP.append {ok : Nat → Prop} {w : World} : ∀ (xs ys : List Raw) (rows rest : List (List Value)), ItemsAtP ok w xs rows → ItemsAtP ok w ys rest → ItemsAtP ok w (xs ++ ys) (rows ++ rest)
  | [], ys, rows, rest, h, h2 => by rw [ItemsAtP] at h; subst h; exact h2
  | x :: xs, ys, rows, rest, h, h2 => by
    rw [ItemsAtP] at h
    obtain ⟨r, rs, rfl, h3, h4⟩ := h
    rw [List.cons_append, ItemsAtP]
    exact ⟨r, rs ++ rest, rfl, h3, ItemsAtP.append xs ys rs rest h4 h2⟩
theorem ItemAtP.len {ok : Nat → Prop} {w : World} {x : Raw} {cs : List Value} (h : ItemAtP ok w x cs) : ∃ b A1 n1 c1 A n c, cs = [.bool b, .slice A1 n1 c1, .slice A n c] := by
  cases x
  rw [ItemAtP] at h
  obtain ⟨vb, A, c, rows, h1, ⟨A1, c1, rfl, _⟩, _⟩ := h
  exact ⟨_, _, _, _, _, _, _, h1⟩
theorem ItemsAtP.flat {ok : Nat → Prop} {w : World} : ∀ (xs : List Raw) (rows : List (List Value)), ItemsAtP ok w xs rows → rows.flatten.length = xs.length * 3
  | [], rows, h => by rw [ItemsAtP] at h; subst h; rfl
  | x :: xs, rows, h => by
    rw [ItemsAtP] at h
    obtain ⟨r, rest, rfl, h2, h3⟩ := h
    obtain ⟨b, A1, n1, c1, A, n, c, hr⟩ := h2.len
    have := ItemsAtP.flat xs rest h3
    rw [List.flatten_cons, List.length_append, this, hr, List.length_cons]
    simp
    omega
theorem ItemAt.len {w : World} {x : Raw} {cs : List Value} (h : ItemAt w x cs) : ∃ b vb A n c, cs = [.bool b, vb, .slice A n c] := by
  cases x
  rw [ItemAt.eq] at h
  obtain ⟨vb, A, c, rows, h1, _⟩ := h
  exact ⟨_, _, _, _, _, h1⟩
theorem ItemsAt.length {w : World} : ∀ (xs : List Raw) (rows : List (List Value)), ItemsAt w xs rows → rows.length = xs.length
  | [], rows, h => by rw [ItemsAt.nil_eq] at h; rw [h]; rfl
  | x :: xs, rows, h => by
    rw [ItemsAt.cons_eq] at h
    obtain ⟨r, rest, rfl, _, h3⟩ := h
    simp [ItemsAt.length xs rest h3]
theorem ItemsAt.get {w : World} : ∀ (xs : List Raw) (rows : List (List Value)), ItemsAt w xs rows → ∀ k (hk : k < xs.length), ∃ cs, ItemAt w xs[k] cs ∧ ∀ j u, cs[j]? = some u → rows.flatten[k * 3 + j]? = some u
  | [], rows, _, k, hk => by simp at hk
  | x :: xs, rows, h, k, hk => by
    rw [ItemsAt.cons_eq] at h
    obtain ⟨r, rest, rfl, h2, h3⟩ := h
    obtain ⟨b, vb, A, n, c, hr⟩ := h2.len
    have hr3 : r.length = 3 := by rw [hr]; rfl
    cases k with
    | zero =>
      refine ⟨r, h2, fun j u hu => ?_⟩
      have hj := (List.getElem?_eq_some_iff.1 hu).1
      rw [Nat.zero_mul, Nat.zero_add, List.flatten_cons, List.getElem?_append_left hj]
      exact hu
    | succ k =>
      obtain ⟨cs, h4, h5⟩ := ItemsAt.get xs rest h3 k (by simpa using hk)
      refine ⟨cs, h4, fun j u hu => ?_⟩
      rw [List.flatten_cons, List.getElem?_append_right (by omega), hr3, ← h5 j u hu]
      congr 1
      omega
/-- A value that is an item. -/
def IsItem (w : World) (v : Value) (x : Raw) : Prop := ∃ cs, v = .agg cs.toArray ∧ ItemAt w x cs
/-- A slice of items. -/
def IsItems (w : World) (v : Value) (xs : List Raw) : Prop := ∃ A c rows, v = .slice A xs.length c ∧ xs.length ≤ c ∧ c ≤ maxLen ∧ (A = none → xs.length = 0 ∧ c = 0) ∧ Rd w w.heap.size A rows.flatten ∧ ItemsAt w xs rows
theorem IsItem.gr {w w' : World} {v : Value} {x : Raw} (h : IsItem w v x) (hg : Gr w w') : IsItem w' v x := by
  obtain ⟨cs, h1, h2⟩ := h
  exact ⟨cs, h1, h2.gr hg⟩
theorem IsItems.gr {w w' : World} {v : Value} {xs : List Raw} (h : IsItems w v xs) (hg : Gr w w') : IsItems w' v xs := by
  obtain ⟨A, c, rows, h1, h2, h3, h4, h5, h6⟩ := h
  exact ⟨A, c, rows, h1, h2, h3, h4, h5.gr hg, h6.gr hg⟩
theorem stable_item (x : Raw) : Stable fun v w => IsItem w v x := fun _ _ _ hg h => h.gr hg
theorem isItem_mk {w : World} {b : Bool} {bs : List UInt8} {xs : List Raw} {vb vl : Value} (h1 : IsB w vb bs) (h2 : IsItems w vl xs) : IsItem w (.agg #[.bool b, vb, vl]) (.mk b bs xs) := by
  obtain ⟨A, c, rows, rfl, h3, h4, h5, h6, h7⟩ := h2
  refine ⟨[.bool b, vb, .slice A xs.length c], rfl, ?_⟩
  rw [ItemAt.eq]
  exact ⟨vb, A, c, rows, rfl, h1, h3, h4, h5, h6, h7⟩
theorem isItem_form {w : World} {v : Value} {b : Bool} {bs : List UInt8} {xs : List Raw} (h : IsItem w v (.mk b bs xs)) : ∃ vb vl, v = .agg #[.bool b, vb, vl] ∧ IsB w vb bs ∧ IsItems w vl xs := by
  obtain ⟨cs, rfl, h⟩ := h
  rw [ItemAt.eq] at h
  obtain ⟨vb, A, c, rows, rfl, h2, h3, h4, h5, h6, h7⟩ := h
  exact ⟨vb, _, rfl, h2, A, c, rows, rfl, h3, h4, h5, h6, h7⟩
theorem IsItems.nil (w : World) : IsItems w (.slice none 0 0) [] := ⟨none, 0, [], rfl, Nat.le_refl _, by simp [maxLen], fun _ => ⟨rfl, rfl⟩, Rd.nil, by rw [ItemsAt.nil_eq]⟩
/-- The cells of a slice's k-th item. -/
theorem items_at {w : World} {A : Option Addr} {xs : List Raw} {rows : List (List Value)} (hr : Rd w w.heap.size A rows.flatten) (h : ItemsAt w xs rows) (k : Nat) (hk : k < xs.length) :
    ∃ bl o f vb vl, A = some ⟨bl, o, none⟩ ∧ bl < w.heap.size ∧ w.cell? ⟨bl, o + k * 3, none⟩ = some (.bool f) ∧ w.cell? ⟨bl, o + k * 3 + 1, none⟩ = some vb ∧ w.cell? ⟨bl, o + k * 3 + 2, none⟩ = some vl ∧
      IsItem w (.agg #[.bool f, vb, vl]) xs[k] ∧ (∃ A' n c, vb = .slice A' n c) ∧ (∃ A' n c, vl = .slice A' n c) := by
  obtain ⟨cs, h1, h2⟩ := ItemsAt.get xs rows h k hk
  obtain ⟨f, vb, A', n, c, rfl⟩ := h1.len
  have hvb : ∃ A' n c, vb = .slice A' n c := by
    have h3 := h1
    generalize xs[k] = x at h3
    obtain ⟨b', bs', xs'⟩ := x
    rw [ItemAt.eq] at h3
    obtain ⟨vb', A2, c2, rows2, h4, h5, _⟩ := h3
    simp only [List.cons.injEq] at h4
    obtain ⟨A3, c3, h6, _⟩ := h5
    exact ⟨_, _, _, h4.2.1.trans h6⟩
  have hne : rows.flatten ≠ [] := fun e => by
    have := h2 0 _ rfl
    rw [e] at this
    simp at this
  obtain ⟨bl, o, rfl, hb, hc⟩ := hr hne
  exact ⟨bl, o, f, vb, .slice A' n c, rfl, hb, hc _ _ (h2 0 _ rfl), hc _ _ (h2 1 _ rfl), hc _ _ (h2 2 _ rfl), ⟨_, rfl, h1⟩, hvb, A', n, c, rfl⟩

@[go_sem] theorem as_bytes (v : Value) (w : World) : (Instr.typeAssert (.iface 22 v) 80 22 true).run Try.prog w = .ok (.tuple #[v, .bool true]) w := by kernel_rfl
@[go_sem] theorem as_bytes_no (v : Value) (w : World) : (Instr.typeAssert (.iface 42 v) 80 22 true).run Try.prog w = .ok (.tuple #[.slice none 0 0, .bool false]) w := by kernel_rfl
@[go_sem] theorem as_items (v : Value) (w : World) : (Instr.typeAssert (.iface 42 v) 80 42 true).run Try.prog w = .ok (.tuple #[v, .bool true]) w := by kernel_rfl
/-- What 'of' tells: an interface value. -/
def IsOf (w : World) (v : Value) : Raw → Prop
  | .mk false bs _ => ∃ vb, v = .iface 22 vb ∧ IsB w vb bs
  | .mk true _ xs => ∃ vl, v = .iface 42 vl ∧ IsItems w vl xs
theorem IsOf.gr {w w' : World} {v : Value} {x : Raw} (h : IsOf w v x) (hg : Gr w w') : IsOf w' v x := by
  obtain ⟨b, bs, xs⟩ := x
  cases b
  · obtain ⟨vb, h1, h2⟩ := h
    exact ⟨vb, h1, h2.gr hg⟩
  · obtain ⟨vb, h1, h2⟩ := h
    exact ⟨vb, h1, h2.gr hg⟩
set_option maxHeartbeats 400000 in
theorem rlp_of (v : Value) (x : Raw) (w : World) (h : IsItem w v x) : Calls Try.prog 54 #[v] w (Ret (fun v w' => IsOf w' v x) w) := by
  obtain ⟨b, bs, xs⟩ := x
  obtain ⟨vb, vl, rfl, h1, h2⟩ := isItem_form h
  have H1 := Lib.hid h1
  have H2 := Lib.hid h2
  clear h h1 h2
  cases b with
  | false =>
    go_enter Try.func54, Try.ntmps54
    go_wp2
    refine bodyPost_ret (results_tmp rfl _ _ _) rfl ?_
    exact ⟨_, rfl, gr_alloc w _, _, rfl, H1.out.gr (gr_alloc w _)⟩
  | true =>
    go_enter Try.func54, Try.ntmps54
    go_wp2
    refine bodyPost_ret (results_tmp rfl _ _ _) rfl ?_
    exact ⟨_, rfl, gr_alloc w _, _, rfl, H2.out.gr (gr_alloc w _)⟩
theorem ownB_P {w : World} {base : Nat} {v : Value} {l : List UInt8} (h : OwnB w base v l) : IsBP (fun k => base ≤ k ∧ k < w.heap.size) w v l := by
  obtain ⟨A, c, rfl, h1, h2⟩ := own_form h
  refine ⟨A, c, rfl, h1, h2, fun hn => ?_⟩
  have hl : 0 < l.length := by
    rcases Nat.eq_zero_or_pos l.length with h0 | h0
    · obtain rfl := List.eq_nil_of_length_eq_zero h0
      exact absurd rfl hn
    · exact h0
  obtain ⟨g, rfl, hb, hg⟩ := own_some h hl
  exact ⟨g, 0, rfl, ⟨hb, hg⟩, fun j u hu => by
    have := World.ownsRow.cells h (g := g) rfl j u hu
    rwa [add_none] at this⟩
theorem own_RdP {w : World} {base e size n c : Nat} {A : Option Addr} {xs : List Value} (h : w.ownsRow base e size (.slice A n c) n xs) : RdP (fun k => base ≤ k ∧ k < w.heap.size) w A xs := fun hn => by
  rcases h.2 with ⟨hv, hz⟩ | ⟨g, cap, cur, hv, hb, hh, _⟩
  · have := h.1
    rw [hz, Nat.zero_mul] at this
    exact absurd (List.eq_nil_of_length_eq_zero this) hn
  · injection hv with hA _ _
    subst hA
    refine ⟨g, 0, rfl, ⟨hb, lt_of_some hh⟩, fun j u hu => ?_⟩
    have := World.ownsRow.cells h (g := g) rfl j u hu
    rwa [add_none] at this
theorem own_none {w : World} {base e size n c : Nat} {xs : List Value} (h : w.ownsRow base e size (.slice none n c) n xs) : n = 0 ∧ c = 0 := by
  rcases h.2 with ⟨hv, hz⟩ | ⟨g, cap, cur, hv, _⟩
  · injection hv with _ _ hc
    exact ⟨hz, hc⟩
  · injection hv with hA _ _
    cases hA
theorem cell_setRow {w : World} {g : Nat} {cs : Array Value} {p : Addr} (h : p.block ≠ g) : (w.setRow g cs).cell? p = w.cell? p := by
  refine World.cell?_of_block ?_
  simp only [World.setRow]
  rw [Array.getElem?_modify, if_neg (fun e => h e.symm)]
/-- An item whose blocks are such. -/
def ItemIn (ok : Nat → Prop) (w : World) (v : Value) (x : Raw) : Prop := ∃ cs, v = .agg cs.toArray ∧ ItemAtP ok w x cs
theorem ItemIn.mono {ok ok' : Nat → Prop} {w w' : World} {v : Value} {x : Raw} (h : ItemIn ok w v x) (h1 : ∀ b, ok b → ok' b) (h2 : ∀ p : Addr, ok p.block → w'.cell? p = w.cell? p) : ItemIn ok' w' v x := by
  obtain ⟨cs, e, h⟩ := h
  exact ⟨cs, e, ItemAtP.mono h1 h2 x cs h⟩
theorem ItemIn.is {ok : Nat → Prop} {w : World} {v : Value} {x : Raw} (h : ItemIn ok w v x) (h1 : ∀ b, ok b → b < w.heap.size) : IsItem w v x := h.mono h1 fun _ _ => rfl
theorem itemIn_bytes {ok : Nat → Prop} {w : World} {vb : Value} {l : List UInt8} (h : IsBP ok w vb l) : ItemIn ok w (.agg #[.bool false, vb, .slice none 0 0]) (.mk false l []) := by
  refine ⟨[.bool false, vb, .slice none 0 0], rfl, ?_⟩
  rw [ItemAtP]
  exact ⟨vb, none, 0, [], rfl, h, Nat.le_refl _, by simp [maxLen], fun _ => ⟨rfl, rfl⟩, fun hn => absurd rfl hn, by rw [ItemsAtP]⟩
theorem slT_items : SlT Try.prog 42 45 3 56 :=
  ⟨Try.underlying42, by
    have h : (Try.prog.info? 45).map (fun i => (i.zero, i.size, i.bytes)) = some (some (.agg #[.bool false, .slice none 0 0, .slice none 0 0]), 3, 56) := by kernel_rfl
    obtain ⟨i, hi, hz, h1, h2⟩ := info_parts h
    exact ⟨i, _, hi, hz, h1, h2, rfl⟩, by omega⟩
theorem own_far {w : World} {base e size n : Nat} {v : Value} {xs : List Value} (h : w.ownsRow base e size v n xs) {p : Addr} (hp : v.ownBlock ≠ some p.block) (u : Value) : (w.setCell p u).ownsRow base e size v n xs := by
  refine ⟨h.1, ?_⟩
  rcases h.2 with h1 | ⟨g, cap, cur, h1, h2, h3, h4⟩
  · exact .inl h1
  · refine .inr ⟨g, cap, cur, h1, h2, ?_, h4⟩
    rw [Below.heap_setCell w p u g (fun e => hp (by rw [h1, e]; rfl))]
    exact h3
end Go.Proofs.Ytfpigemikpbbhaa
