/-
  The law's measure of an item.
  Conditions: none.
-/
import Derived.Test.YtfpigemikpbbhaaRlpAlive
namespace Go.Proofs.Ytfpigemikpbbhaa
set_option linter.unusedVariables false
open Go.RowKit Mono Rlp

mutual
def szR : Raw → Int → Int
  | .mk _ bs xs, left => szRL xs left (wrap64 (1 + (bs.length : Int)))
def szRL : List Raw → Int → Int → Int
  | [], _, n => n
  | x :: xs, left, n => if n < left then szRL xs left (wrap64 (n + szR x (wrap64 (left - n)))) else n
end
theorem wrap_i64_range (x : Int) : -9223372036854775808 ≤ wrap64 x ∧ wrap64 x ≤ 9223372036854775807 := by
  unfold wrap64
  omega
theorem wrap_i64_id {x : Int} (h : -9223372036854775808 ≤ x) (h2 : x ≤ 9223372036854775807) : wrap64 x = x := by
  unfold wrap64
  omega

set_option maxHeartbeats 4000000 in
set_option maxRecDepth 20000 in
theorem law_size : ∀ (n : Nat) (x : Raw) (v : Value) (left : Int) (w : World), cnt x < n → IsItem w v x → -9223372036854775808 ≤ left → left ≤ 9223372036854775807 → Calls Try.prog 53 #[v, .int .i64 left] w (Ret (fun v _ => v = .int .i64 (szR x left) ∧ -9223372036854775808 ≤ szR x left ∧ szR x left ≤ 9223372036854775807) w)
  | 0, x, v, left, w, hn, _, _, _ => by omega
  | n + 1, .mk lx bx xs, v, left, w, hn, hx, hl1, hl2 => by
    have ih := Lib.hid (law_size n)
    obtain ⟨vb1, vl1, rfl, ⟨A0, c0, rfl, hc0, hm0, _⟩, A1, c1, rows1, rfl, hc1, hm1, _, hr1, hi1⟩ := isItem_form hx
    have HR1 := Lib.hid hr1
    have HI1 := Lib.hid hi1
    rw [cnt] at hn
    unfold maxLen at hm0 hm1
    have HF := Lib.hid (show szR (.mk lx bx xs) left = szRL xs left (wrap64 (1 + (bx.length : Int))) by rw [szR])
    have hr0 := wrap_i64_range (1 + (bx.length : Int))
    clear hx hr1 hi1
    go_enter Try.func53, Try.ntmps53
    go_wp2_with fail
    go_loopw [5, 6] (fun nv i wr => ∃ (k : Nat) (z : Int), k ≤ xs.length ∧ i = .int .i64 k ∧ nv = .int .i64 z ∧ -9223372036854775808 ≤ z ∧ z ≤ 9223372036854775807 ∧ szR (.mk lx bx xs) left = szRL (xs.drop k) left z ∧ Gr (w.alloc (.cells #[.bool lx, .slice A0 bx.length c0, .slice A1 xs.length c1] 45)) wr) (fun _ i _ => xs.length - (intOf i).toNat)
    case atStart => exact ⟨0, _, by omega, rfl, rfl, hr0.1, hr0.2, HF.out, Gr.refl _⟩
    case round =>
      obtain ⟨k, z, hk, rfl, rfl, hz1, hz2, hM, hb⟩ := hrel
      have HM := Lib.hid hM
      have HGW := Lib.hid ((gr_alloc w _).trans hb)
      have HB := Lib.hid hb
      have hbs := hb.size
      simp only [size_new] at hbs
      have hrow : wr.heap[w.heap.size]? = some (.cells #[.bool lx, .slice A0 bx.length c0, .slice A1 xs.length c1] 45 (0, 0)) := (hb.block _ (by simp)).trans (heap_alloc_new w _)
      have q1 : wr.cell? ⟨w.heap.size, 2, none⟩ = some (.slice A1 xs.length c1) := by rw [cell_of_row _ _ _ _ _ (0, 0) hrow]; rfl
      clear hM hb hrow
      by_cases h1 : k < xs.length
      · by_cases h2 : z < left
        · obtain ⟨bl, o, f, vb, vl, rfl, hbl, e1, e2, e3, hx, ⟨A3, n3, c3, rfl⟩, A4, n4, c4, rfl⟩ := items_at HR1.out HI1.out k h1
          have d1 := (HGW.out.cell (p := ⟨bl, o + k * 3, none⟩) hbl).trans e1
          have d2 := (HGW.out.cell (p := ⟨bl, o + k * 3 + 1, none⟩) hbl).trans e2
          have d3 := (HGW.out.cell (p := ⟨bl, o + k * 3 + 2, none⟩) hbl).trans e3
          have HX := Lib.hid (hx.gr HGW.out)
          have hcnt := cnt_get xs k h1
          have hdk : xs.drop k = xs[k] :: xs.drop (k + 1) := List.drop_eq_getElem_cons h1
          have HM2 := Lib.hid (show szR (.mk lx bx xs) left = szRL (xs.drop (k + 1)) left (wrap64 (z + szR xs[k] (wrap64 (left - z)))) by rw [HM.out, hdk, szRL, if_pos h2])
          have hwr := wrap_i64_range (left - z)
          clear e1 e2 e3 hx HM hdk
          go_wp2_with fail
          refine (ih.out xs[k] _ _ _ (by omega) HX.out hwr.1 hwr.2).mono ?_
          rintro e w' ⟨_, rfl, hg, rfl, _⟩
          have hW := Lib.hid hg
          have HG4 := Lib.hid (HB.out.trans hW.out)
          have hwr2 := wrap_i64_range (z + szR xs[k] (wrap64 (left - z)))
          clear d1 d2 d3 hcnt hg
          go_wp2_with fail
          go_roundw
          case rel => exact ⟨k + 1, _, by omega, by go_num, rfl, hwr2.1, hwr2.2, HM2.out, HG4.out⟩
          case measure => simp [intOf]; omega
        · have HF2 := Lib.hid (show szR (.mk lx bx xs) left = z by
            rw [HM.out, List.drop_eq_getElem_cons h1, szRL, if_neg h2])
          have h3 : left ≤ z := by omega
          clear h2 HM
          go_wp2_with fail
          refine bodyPost_ret (results_tmp rfl _ _ _) rfl ⟨_, rfl, HGW.out, ?_⟩
          rw [HF2.out]
          exact ⟨rfl, hz1, hz2⟩
      · have h2 : xs.length ≤ k := by omega
        have HF2 := Lib.hid (show szR (.mk lx bx xs) left = z by rw [HM.out, List.drop_eq_nil_of_le h2, szRL])
        clear h1 HM
        go_wp2_with fail
        refine bodyPost_ret (results_tmp rfl _ _ _) rfl ⟨_, rfl, HGW.out, ?_⟩
        rw [HF2.out]
        exact ⟨rfl, hz1, hz2⟩

def bigR (x : Raw) : Bool := decide (5000 ≤ szR x 5000)
set_option maxHeartbeats 1000000 in
theorem law_big (x : Raw) (v : Value) (w : World) (hx : IsItem w v x) : Calls Try.prog 32 #[v] w (Ret (eqV (.bool (bigR x))) w) := by
  have HX := Lib.hid hx
  obtain ⟨lx, bx, xs⟩ := x
  obtain ⟨vb1, vl1, rfl, ⟨A0, c0, rfl, hc0, hm0, _⟩, A1, c1, rows1, rfl, hc1, hm1, _⟩ := isItem_form hx
  unfold maxLen at hm0 hm1
  clear hx
  generalize Raw.mk lx bx xs = x at HX ⊢
  go_enter Try.func32, Try.ntmps32
  go_wp2_with fail
  refine (law_size _ x _ 5000 _ (Nat.lt_succ_self _) (HX.out.gr (gr_alloc _ _)) (by omega) (by omega)).mono ?_
  rintro e w1 ⟨_, rfl, hg, rfl, hz1, hz2⟩
  have HG := Lib.hid ((gr_alloc _ _).trans hg)
  clear hg
  have HB : Hid (bigR x = decide (5000 ≤ szR x 5000)) := Lib.hid rfl
  generalize szR x 5000 = z at hz1 hz2 HB ⊢
  go_wp2_with fail
  refine bodyPost_ret (results_tmp rfl _ _ _) rfl ⟨_, rfl, HG.out, ?_⟩
  simp [eqV, HB.out]
end Go.Proofs.Ytfpigemikpbbhaa
