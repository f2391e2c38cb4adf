/-
  How many bytes stand ahead of how many (plain); an item's list that grows by one.
  Conditions: none.
-/
import Derived.Test.YtfpigemikpbbhaaInsidePlain
import Derived.Test.YtfpigemikpbbhaaRlpReadL
import Derived.Test.YtfpigemikpbbhaaNum2
namespace Go.Proofs.Ytfpigemikpbbhaa
set_option linter.unusedVariables false
open Go.RowKit Mono Rlp
namespace Rlp
def heads (n : Nat) : Nat := if n < 56 then 1 else 1 + (be n).length
theorem szB_heads (n : Nat) : szB n = heads n + n := by unfold szB heads; split <;> rfl
theorem packed_bytes (bs : List UInt8) (xs : List Raw) (h : bs.length ≤ 10000000) : packed (.mk false bs xs) = some (EB bs) := by
  have hb := be_short bs.length (by omega)
  have h2 : (EB bs).length ≤ most := by
    rw [EB_length]
    unfold szE szB
    simp only [most]
    repeat' split
    all_goals omega
  rw [packed_ref, if_neg (by rw [deepR]; omega), packR, if_neg (by simp only [most]; omega)]
  dsimp only
  rw [if_neg (by omega)]
theorem packed_200 (n : Nat) (h : n ≤ 70000) : ∃ b, packed (.mk false (List.replicate n 200) []) = some b ∧ b.length = heads n + n := by
  refine ⟨_, packed_bytes _ _ (by simp; omega), ?_⟩
  rw [EB_length]
  unfold szE
  rw [if_neg, szB_heads, List.length_replicate]
  rintro ⟨h1, h2⟩
  rw [List.length_replicate] at h1
  subst h1
  exact absurd h2 (by decide)
def sevens (n : Nat) : List Raw := List.replicate n (.mk false [7] [])
theorem sevens_EL (n : Nat) : EL (sevens n) = List.replicate n 7 := by
  induction n with
  | zero => rfl
  | succ n ih =>
    unfold sevens at *
    rw [List.replicate_succ, List.replicate_succ, EL, ih]
    rfl
theorem packed_7 (n : Nat) (h : n ≤ 700) : ∃ b, packed (.mk true [] (sevens n)) = some b ∧ b.length = heads n + n := by
  have h7 : packed (.mk false [7] []) = some [7] := by decide +kernel
  have hp := packed_list (sevens n) (fun x hx => by rw [List.eq_of_mem_replicate hx]; exact ⟨_, h7⟩) (fun x hx => by rw [List.eq_of_mem_replicate hx, deepR]; omega) (by rw [sevens_EL]; simp; omega)
  refine ⟨_, hp.1, ?_⟩
  rw [List.length_append, head_length, sevens_EL, List.length_replicate, szB_heads]
end Rlp

/-- A list in a struct's third cell grows by one item: 'l.List = append(l.List, x)'. -/
theorem items_push {g B : Nat} {w0 wr w1 wB w5 : World} {done : List Raw} {x : Raw} {A' A5 : Option Addr} {c' c5 : Nat} {rows : List (List Value)} {r : List Value} (hgB0 : g < B) (hw0 : w0.heap.size ≤ g) (hsz : B ≤ wr.heap.size) (hg1 : Gr wr w1) (hgB : Gr w1 wB)
    (hown : wr.ownsRow B 45 3 (.slice A' done.length c') done.length rows.flatten) (hit : ItemsAtP (okL B g (.slice A' done.length c') wr.heap.size) wr done rows)
    (hix : ItemAtP (fun k => wr.heap.size ≤ k ∧ k < w1.heap.size) w1 x r) (hg5 : wB.grownBy w5 (Value.slice A' done.length c').ownBlock)
    (hown5 : w5.ownsRow B 45 3 (.slice A5 (done.length + 1) c5) (done.length + 1) (rows.flatten ++ r))
    (hbk5 : (Value.slice A5 (done.length + 1) c5).ownBlock = (Value.slice A' done.length c').ownBlock ∨ (Value.slice A5 (done.length + 1) c5).ownBlock = some wB.heap.size)
    (hrow : wr.heap[g]? = some (.cells #[.bool true, .slice none 0 0, .slice A' done.length c'] 45 (0, 0))) (hb : Gr w0 wr) :
    (w5.setCell ⟨g, 2, none⟩ (.slice A5 (done.length + 1) c5)).heap[g]? = some (.cells #[.bool true, .slice none 0 0, .slice A5 (done.length + 1) c5] 45 (0, 0)) ∧
    (w5.setCell ⟨g, 2, none⟩ (.slice A5 (done.length + 1) c5)).ownsRow B 45 3 (.slice A5 (done.length + 1) c5) (done.length + 1) (rows ++ [r]).flatten ∧
    ItemsAtP (okL B g (.slice A5 (done.length + 1) c5) (w5.setCell ⟨g, 2, none⟩ (.slice A5 (done.length + 1) c5)).heap.size) (w5.setCell ⟨g, 2, none⟩ (.slice A5 (done.length + 1) c5)) (done ++ [x]) (rows ++ [r]) ∧
    B ≤ (w5.setCell ⟨g, 2, none⟩ (.slice A5 (done.length + 1) c5)).heap.size ∧
    Gr w0 (w5.setCell ⟨g, 2, none⟩ (.slice A5 (done.length + 1) c5)) ∧
    (∀ j, j < wr.heap.size → j ≠ g → (Value.slice A' done.length c').ownBlock ≠ some j → (w5.setCell ⟨g, 2, none⟩ (.slice A5 (done.length + 1) c5)).heap[j]? = wr.heap[j]?) := by
  have hs1 := hg1.size
  have hsB := hgB.size
  have hs5 := hg5.size
  have hgs := lt_of_some hrow
  have hnb : (Value.slice A5 (done.length + 1) c5).ownBlock ≠ some g := fun e => by
    have := own_block_ge hown5 _ e
    omega
  have hnb' : (Value.slice A' done.length c').ownBlock ≠ some g := fun e => by
    have := own_block_ge hown _ e
    omega
  have ho5 : w5.heap[g]? = some (.cells #[.bool true, .slice none 0 0, .slice A' done.length c'] 45 (0, 0)) := by
    rw [hg5.block g (by omega) (fun e => hnb' e.symm), hgB.block g (by omega), hg1.block g hgs, hrow]
  have hblk : ∀ j, j < w1.heap.size → j ≠ g → (Value.slice A' done.length c').ownBlock ≠ some j → (w5.setCell ⟨g, 2, none⟩ (.slice A5 (done.length + 1) c5)).heap[j]? = w1.heap[j]? := fun j h1 h2 h3 => by
    rw [Below.heap_setCell _ _ _ _ h2, hg5.block j (by omega) (fun e => h3 e.symm), hgB.block j h1]
  have hcell : ∀ p : Addr, p.block < w1.heap.size → p.block ≠ g → (Value.slice A' done.length c').ownBlock ≠ some p.block → (w5.setCell ⟨g, 2, none⟩ (.slice A5 (done.length + 1) c5)).cell? p = w1.cell? p := fun p h1 h2 h3 => World.cell?_of_block (hblk p.block h1 h2 h3)
  have hsz5 : (w5.setCell ⟨g, 2, none⟩ (.slice A5 (done.length + 1) c5)).heap.size = w5.heap.size := by simp
  rw [hsz5]
  refine ⟨heap_setCell_same w5 g 2 _ _ _ ho5, ?_, ?_, by omega, ?_, ?_⟩
  · rw [List.flatten_append]
    simp only [List.flatten_cons, List.flatten_nil, List.append_nil]
    exact own_far hown5 hnb _
  · refine ItemsAtP.append done [x] rows [r] (ItemsAtP.mono (fun k hk => ?_) (fun p hp => ?_) _ _ hit) ?_
    · obtain ⟨h1, h2, h3, h4⟩ := hk
      refine ⟨h1, by omega, h3, fun e => ?_⟩
      rcases hbk5 with h5 | h5
      · exact h4 (h5 ▸ e)
      · rw [h5] at e
        injection e with e
        omega
    · obtain ⟨h1, h2, h3, h4⟩ := hp
      rw [hcell p (by omega) h3 h4]
      exact hg1.cell h2
    · rw [ItemsAtP]
      refine ⟨r, [], rfl, ItemAtP.mono (fun k hk => ?_) (fun p hp => ?_) _ _ hix, by rw [ItemsAtP]⟩
      · obtain ⟨h1, h2⟩ := hk
        refine ⟨by omega, by omega, by omega, fun e => ?_⟩
        rcases hbk5 with h5 | h5
        · rw [h5] at e
          have := (hown.lt k e).2
          omega
        · rw [h5] at e
          injection e with e
          omega
      · obtain ⟨h1, h2⟩ := hp
        refine hcell p h2 (by omega) fun e => ?_
        have := (hown.lt _ e).2
        omega
  · refine Below.setCell ?_ (by simpa using hw0) _
    refine (((hb.trans hg1).trans hgB)).grown hg5 ?_ fun j hj => ?_
    · have := hb.size; omega
    · have := own_block_ge hown j hj
      omega
  · intro j h1 h2 h3
    rw [hblk j (by omega) h2 h3, hg1.block j h1]
theorem list_item {g B : Nat} {wr : World} {done : List Raw} {A : Option Addr} {c : Nat} {rows : List (List Value)} (hown : wr.ownsRow B 45 3 (.slice A done.length c) done.length rows.flatten)
    (hit : ItemsAtP (okL B g (.slice A done.length c) wr.heap.size) wr done rows) : ItemIn (fun k => B ≤ k ∧ k < wr.heap.size) wr (.agg #[.bool true, .slice none 0 0, .slice A done.length c]) (.mk true [] done) := by
  obtain ⟨_, _, he, hc1, hc2⟩ := own_form hown
  injection he with he1 he2 he3
  subst he1 he3
  refine ⟨[.bool true, .slice none 0 0, .slice A done.length c], rfl, ?_⟩
  rw [ItemAtP]
  refine ⟨.slice none 0 0, A, c, rows, rfl, ⟨none, 0, rfl, Nat.le_refl _, by simp [maxLen], fun hn => absurd rfl hn⟩, hc1, hc2, fun e => ?_, own_RdP hown, ItemsAtP.mono (fun k hk => ⟨hk.1, hk.2.1⟩) (fun _ _ => rfl) _ _ hit⟩
  subst e
  exact own_none hown
end Go.Proofs.Ytfpigemikpbbhaa
