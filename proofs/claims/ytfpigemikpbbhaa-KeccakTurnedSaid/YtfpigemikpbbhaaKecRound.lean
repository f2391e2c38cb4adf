/-
  keccak's round.
  Conditions: none.
-/
import Derived.Test.YtfpigemikpbbhaaKecTake
namespace Go.Proofs.Ytfpigemikpbbhaa
open Go.RowKit Mono
open Kec (L St rotl)

def turnCells : Array Value := ((List.range 25).map fun k => Value.int .i64 (Kec.turn k)).toArray
def Turns (w : World) (g : Nat) (t : TypeId) : Prop := w.heap[g]? = some (.cells turnCells t (0, 0))
theorem Turns.cell {w : World} {g : Nat} {t : TypeId} (h : Turns w g t) (k : Nat) (hk : k < 25) : w.cell? ⟨g, k, none⟩ = some (.int .i64 (Kec.turn k)) := by
  rw [cell_of_row w g k _ t (0, 0) h]
  simp [turnCells, hk]
theorem Turns.lt {w : World} {g : Nat} {t : TypeId} (h : Turns w g t) : g < w.heap.size := by
  rcases Nat.lt_or_ge g w.heap.size with h1 | h1
  · exact h1
  · unfold Turns at h; rw [Array.getElem?_eq_none h1] at h; cases h
theorem Turns.gr {w w' : World} {g : Nat} {t : TypeId} (h : Turns w g t) (hg : Gr w w') : Turns w' g t := (hg.block g h.lt).trans h
theorem turn_lt : ∀ k, k < 25 → Kec.turn k < 64 := by decide
theorem place_lt : ∀ k, k < 25 → Kec.place k < 25 := by decide
def firstN (f : St) (n : Nat) : St := fun j => if j < n then f j else 0
theorem firstN_step (f : St) (n : Nat) : Kec.upd (firstN f n) n (f n) = firstN f (n + 1) := by
  funext j
  unfold Kec.upd firstN
  by_cases h : j = n
  · subst h; rw [if_pos rfl, if_pos (by omega)]
  · rw [if_neg h]
    by_cases h2 : j < n
    · rw [if_pos h2, if_pos (by omega)]
    · rw [if_neg h2, if_neg (by omega)]

theorem firstN_zero (f : St) : firstN f 0 = fun _ => 0 := by funext j; simp [firstN]
theorem lanes_new (w : World) (t : TypeId) (n : Nat) (c : Array Value) (h : c = cellsOf (fun _ => 0) n) : Lanes (w.alloc (.cells c t)) w.heap.size t n (fun _ => 0) := by
  subst h
  unfold Lanes World.alloc
  simp
theorem u_not (x : L) : bits .xor .u64 (if IntKind.u64.signed = true then -1 else IntKind.u64.max) (u x) = u (~~~x) := by
  have h : (if IntKind.u64.signed = true then -1 else IntKind.u64.max) = u (BitVec.allOnes 64) := rfl
  rw [h, u_xor, BitVec.allOnes_xor]
theorem alloc_len (w : World) (o : Obj) : (w.alloc o).heap.size = w.heap.size + 1 := by simp
theorem u_col (s : St) (k : Nat) : bits .xor .u64 (bits .xor .u64 (bits .xor .u64 (bits .xor .u64 (u (s k)) (u (s (k + 5)))) (u (s (k + 10)))) (u (s (k + 15)))) (u (s (k + 20))) = u (Kec.col s k) := by
  simp only [u_xor]
  rfl

set_option maxRecDepth 20000 in
set_option maxHeartbeats 1000000 in
theorem kec_round (g gt : Nat) (t tt : TypeId) (s : St) (n : L) (w : World) (hl : Lanes w g t 25 s) (ht : Turns w gt tt) :
    Calls Try.prog 71 #[.pointer (some ⟨g, 0, none⟩), .pointer (some ⟨gt, 0, none⟩), .int .u64 (u n)] w (RetU fun w' => Lanes w' g t 25 (Kec.round s n) ∧ Only g w w') := by
  have hg := hl.lt
  have hgt := ht.lt
  have HL := Lib.hid hl
  have HT := Lib.hid ht
  clear hl ht
  go_enter Try.func71, Try.ntmps71
  go_wp2
  go_loopw [17] (fun i wr => ∃ k : Nat, k ≤ 5 ∧ i = .int .i64 k ∧ Lanes wr w.heap.size 95 5 (firstN (Kec.col s) k) ∧ Lanes wr (w.heap.size + 1) 95 5 (fun _ => 0) ∧ Gr w wr) (fun i _ => 5 - (intOf i).toNat)
  case atStart =>
    refine ⟨0, by omega, rfl, ?_, ?_, ?_⟩
    · rw [firstN_zero]
      exact (lanes_new w 95 5 _ rfl).alloc _
    · have := lanes_new (w.alloc (.cells #[.int .u64 0, .int .u64 0, .int .u64 0, .int .u64 0, .int .u64 0] 95)) 95 5 _ rfl
      rw [alloc_len] at this
      exact this
    · exact (gr_alloc w _).trans (gr_alloc _ _)
  case round =>
    obtain ⟨k, hk, rfl, hc, hd, hb⟩ := hrel
    have hbs := hb.size
    have HC := Lib.hid hc
    have HD := Lib.hid hd
    have HB := Lib.hid hb
    have hcl := hc.lt
    have hdl := hd.lt
    clear hc hd hb
    by_cases h1 : k < 5
    · have c0 := later_cell (w := wr) (p := ⟨g, k, none⟩) (by dsimp only; omega) ((HL.out.gr HB.out).cell k (by omega))
      have c1 := later_cell (w := wr) (p := ⟨g, k + 5, none⟩) (by dsimp only; omega) ((HL.out.gr HB.out).cell (k + 5) (by omega))
      have c2 := later_cell (w := wr) (p := ⟨g, k + 10, none⟩) (by dsimp only; omega) ((HL.out.gr HB.out).cell (k + 10) (by omega))
      have c3 := later_cell (w := wr) (p := ⟨g, k + 15, none⟩) (by dsimp only; omega) ((HL.out.gr HB.out).cell (k + 15) (by omega))
      have c4 := later_cell (w := wr) (p := ⟨g, k + 20, none⟩) (by dsimp only; omega) ((HL.out.gr HB.out).cell (k + 20) (by omega))
      unfold lv at c0 c1 c2 c3 c4
      go_wp2
      refine wp_region_N 35 (by kernel_rfl) (by kernel_rfl) (by kernel_rfl) ?_
      simp only [List.take_succ_cons, List.take_zero, List.drop_succ_cons, List.drop_zero]
      refine wpN_quiet 35 (by kernel_rfl) ?_
      simp only [List.take_succ_cons, List.take_zero, List.drop_succ_cons, List.drop_zero]
      repeat (go_big_quiet_step (fail))
      refine wpQuiet_nil ?_
      refine wpN_nil (by kernel_rfl) ?_
      intro W hW
      replace hW := hW.gr
      unfold finN
      rename_i wq hW
      have HQ := Lib.hid (HC.out.gr hW)
      have e2 := HQ.out.frozen k
      have e1 := HQ.out.cell k (by omega)
      unfold lv at e1
      go_wp2
      go_roundw
      case rel =>
        rw [u_col]
        refine ⟨k + 1, by omega, by go_num, ?_, ?_, ?_⟩
        · rw [← firstN_step]
          exact HQ.out.set k (Kec.col s k)
        · exact ((HD.out.gr hW)).far (by simp) _
        · exact (Only.set (g := w.heap.size) _ k _).gr (HB.out.trans hW) (Nat.le_refl _)
      case measure => simp [intOf]; omega
    · have h5 : k = 5 := by omega
      subst h5
      go_wp2_with fail
      obtain ⟨wo, rfl⟩ : ∃ wo : World, wo = wr := ⟨_, rfl⟩
      go_loopw [56] (fun i wr => ∃ k : Nat, k ≤ 5 ∧ i = .int .i64 k ∧ Lanes wr w.heap.size 95 5 (firstN (Kec.col s) 5) ∧ Lanes wr (w.heap.size + 1) 95 5 (firstN (Kec.dd s) k) ∧ Gr w wr) (fun i _ => 5 - (intOf i).toNat)
      case atStart => exact ⟨0, by omega, rfl, HC.out, by rw [firstN_zero]; exact HD.out, HB.out⟩
      case round =>
        clear HB HC HD
        obtain ⟨k, hk, rfl, hc, hd, hb⟩ := hrel
        have hbs := hb.size
        have HC := Lib.hid hc
        have HD := Lib.hid hd
        have HB := Lib.hid hb
        have hcl := hc.lt
        have hdl := hd.lt
        clear hc hd hb
        by_cases h1 : k < 5
        · have c0 := later_cell (w := wr) (p := ⟨w.heap.size, (k + 4) % 5, none⟩) (by dsimp only; omega) (HC.out.cell ((k + 4) % 5) (by omega))
          have c1 := later_cell (w := wr) (p := ⟨w.heap.size, (k + 1) % 5, none⟩) (by dsimp only; omega) (HC.out.cell ((k + 1) % 5) (by omega))
          unfold lv at c0 c1
          go_wp2
          refine wp_region_N 14 (by kernel_rfl) (by kernel_rfl) (by kernel_rfl) ?_
          simp only [List.take_succ_cons, List.take_zero, List.drop_succ_cons, List.drop_zero]
          refine wpN_quiet 11 (by kernel_rfl) ?_
          simp only [List.take_succ_cons, List.take_zero, List.drop_succ_cons, List.drop_zero]
          repeat (go_big_quiet_step (fail))
          refine wpQuiet_nil ?_
          refine wpN_val (.int .u64 (u (rotl (firstN (Kec.col s) 5 ((k + 1) % 5)) 1))) rfl (by kernel_rfl) (by kernel_rfl) (fun xw => ?_) ?_
          · refine growsTo_call (by simp [go_sem]) ((rotate (firstN (Kec.col s) 5 ((k + 1) % 5)) 1 (by omega) _).mono ?_)
            rintro e w' ⟨rfl, rfl⟩
            exact ⟨_, rfl, Gr.refl _, rfl⟩
          simp only [Act.put, List.setIfInBounds_toArray, List.set_cons_succ, List.set_cons_zero]
          refine wpN_quiet 2 (by kernel_rfl) ?_
          simp only [List.take_succ_cons, List.take_zero, List.drop_succ_cons, List.drop_zero]
          repeat (go_big_quiet_step (fail))
          refine wpQuiet_nil ?_
          refine wpN_nil (by kernel_rfl) ?_
          intro W hW
          replace hW := hW.gr
          unfold finN
          rename_i wq hW
          have HQ := Lib.hid (HD.out.gr hW)
          have e2 := HQ.out.frozen k
          have e1 := HQ.out.cell k (by omega)
          unfold lv at e1
          go_wp2
          go_roundw
          case rel =>
            have hf : u (firstN (Kec.col s) 5 ((k + 4) % 5)) = u (Kec.col s ((k + 4) % 5)) := by unfold firstN; rw [if_pos (by omega)]
            have hf1 : firstN (Kec.col s) 5 ((k + 1) % 5) = Kec.col s ((k + 1) % 5) := by unfold firstN; rw [if_pos (by omega)]
            rw [hf, hf1, u_xor]
            refine ⟨k + 1, by omega, by go_num, ?_, ?_, ?_⟩
            · exact (HC.out.gr hW).far (by simp) _
            · rw [← firstN_step]
              exact HQ.out.set k (Kec.dd s k)
            · exact (Only.set (g := w.heap.size + 1) _ k _).gr (HB.out.trans hW) (by omega)
          case measure => simp [intOf]; omega
        · have h5 : k = 5 := by omega
          subst h5
          go_wp2_with fail
          obtain ⟨wo, rfl⟩ : ∃ wo : World, wo = wr := ⟨_, rfl⟩
          go_loopw [74] (fun i wr => ∃ k : Nat, k ≤ 25 ∧ i = .int .i64 k ∧ Lanes wr (w.heap.size + 1) 95 5 (firstN (Kec.dd s) 5) ∧ Lanes wr wo.heap.size 78 25 (Kec.bb s k) ∧ Gr w wr) (fun i _ => 25 - (intOf i).toNat)
          case atStart => exact ⟨0, by omega, rfl, HD.out.alloc _, lanes_new wo 78 25 _ rfl, HB.out.trans (gr_alloc _ _)⟩
          case round =>
            clear HB HC HD
            obtain ⟨k, hk, rfl, hd, he, hb⟩ := hrel
            have hbs2 := hb.size
            have HE := Lib.hid he
            have HD := Lib.hid hd
            have HB := Lib.hid hb
            have hel := he.lt
            clear he hd hb
            by_cases h1 : k < 25
            · have c0 := later_cell (w := wr) (p := ⟨g, k, none⟩) (by dsimp only; omega) ((HL.out.gr HB.out).cell k (by omega))
              have c1 := later_cell (w := wr) (p := ⟨w.heap.size + 1, k % 5, none⟩) (by dsimp only; omega) (HD.out.cell (k % 5) (by omega))
              have c2 := later_cell (w := wr) (p := ⟨gt, k, none⟩) (by dsimp only; omega) ((HT.out.gr HB.out).cell k (by omega))
              unfold lv at c0 c1
              go_wp2
              refine wp_region_N 25 (by kernel_rfl) (by kernel_rfl) (by kernel_rfl) ?_
              simp only [List.take_succ_cons, List.take_zero, List.drop_succ_cons, List.drop_zero]
              refine wpN_quiet 23 (by kernel_rfl) ?_
              simp only [List.take_succ_cons, List.take_zero, List.drop_succ_cons, List.drop_zero]
              repeat (go_big_quiet_step (fail))
              refine wpQuiet_nil ?_
              refine wpN_val (.int .u64 (u (rotl (s k ^^^ firstN (Kec.dd s) 5 (k % 5)) (Kec.turn k)))) rfl (by kernel_rfl) (by kernel_rfl) (fun xw => ?_) ?_
              · refine growsTo_call (by simp [go_sem, u_xor]) ((rotate (s k ^^^ firstN (Kec.dd s) 5 (k % 5)) (Kec.turn k) (turn_lt k h1) _).mono ?_)
                rintro e w' ⟨rfl, rfl⟩
                exact ⟨_, rfl, Gr.refl _, rfl⟩
              simp only [Act.put, List.setIfInBounds_toArray, List.set_cons_succ, List.set_cons_zero]
              refine wpN_quiet 1 (by kernel_rfl) ?_
              simp only [List.take_succ_cons, List.take_zero, List.drop_succ_cons, List.drop_zero]
              repeat (go_big_quiet_step (fail))
              refine wpQuiet_nil ?_
              refine wpN_nil (by kernel_rfl) ?_
              intro W hW
              replace hW := hW.gr
              unfold finN
              rename_i wq hW
              have HQ := Lib.hid (HE.out.gr hW)
              have e2 := HQ.out.frozen (Kec.place k)
              have e1 := HQ.out.cell (Kec.place k) (place_lt k h1)
              unfold lv at e1
              unfold Kec.place at e1 e2
              go_wp2
              go_roundw
              case rel =>
                have hv : u (rotl (s k ^^^ firstN (Kec.dd s) 5 (k % 5)) (Kec.turn k)) = u (rotl (s k ^^^ Kec.dd s (k % 5)) (Kec.turn k)) := by
                  unfold firstN
                  rw [if_pos (by omega)]
                rw [hv]
                refine ⟨k + 1, by omega, by go_num, ?_, ?_, ?_⟩
                · exact (HD.out.gr hW).far (by dsimp only; omega) _
                · exact HQ.out.set (Kec.place k) _
                · exact (Only.set (g := wo.heap.size) _ (Kec.place k) _).gr (HB.out.trans hW) (by omega)
              case measure => simp [intOf]; omega
            · have h5 : k = 25 := by omega
              subst h5
              go_wp2_with fail
              obtain ⟨wo2, rfl⟩ : ∃ wo : World, wo = wr := ⟨_, rfl⟩
              go_loopw [107] (fun i wr => ∃ k : Nat, k ≤ 25 ∧ i = .int .i64 k ∧ Lanes wr wo.heap.size 78 25 (Kec.bb s 25) ∧ Lanes wr g t 25 (Kec.ss (Kec.bb s 25) s k) ∧ Only g w wr) (fun i _ => 25 - (intOf i).toNat)
              case atStart => exact ⟨0, by omega, rfl, HE.out, HL.out.gr HB.out, Only.of_gr HB.out g⟩
              case round =>
                clear HB HE HD
                obtain ⟨k, hk, rfl, he, hl, ho⟩ := hrel
                have hbs3 := ho.size
                have HE := Lib.hid he
                have HM := Lib.hid hl
                have HO := Lib.hid ho
                have hel := he.lt
                clear he hl ho
                by_cases h1 : k < 25
                · have c0 := later_cell (w := wr) (p := ⟨wo.heap.size, k, none⟩) (by dsimp only; omega) (HE.out.cell k (by omega))
                  have c1 := later_cell (w := wr) (p := ⟨wo.heap.size, (k + 1) % 5 + k / 5 * 5, none⟩) (by dsimp only; omega) (HE.out.cell ((k + 1) % 5 + k / 5 * 5) (by omega))
                  have c2 := later_cell (w := wr) (p := ⟨wo.heap.size, (k + 2) % 5 + k / 5 * 5, none⟩) (by dsimp only; omega) (HE.out.cell ((k + 2) % 5 + k / 5 * 5) (by omega))
                  unfold lv at c0 c1 c2
                  go_wp2
                  refine wp_region_N 24 (by kernel_rfl) (by kernel_rfl) (by kernel_rfl) ?_
                  simp only [List.take_succ_cons, List.take_zero, List.drop_succ_cons, List.drop_zero]
                  refine wpN_quiet 24 (by kernel_rfl) ?_
                  simp only [List.take_succ_cons, List.take_zero, List.drop_succ_cons, List.drop_zero]
                  repeat (go_big_quiet_step (fail))
                  refine wpQuiet_nil ?_
                  refine wpN_nil (by kernel_rfl) ?_
                  intro W hW
                  replace hW := hW.gr
                  unfold finN
                  rename_i wq hW
                  have HQ := Lib.hid (HM.out.gr hW)
                  have e2 := HQ.out.frozen k
                  have e1 := HQ.out.cell k (by omega)
                  unfold lv at e1
                  go_wp2
                  go_roundw
                  case rel =>
                    have hv : u (Kec.bb s 25 k ^^^ (~~~ Kec.bb s 25 ((k + 1) % 5 + k / 5 * 5) &&& Kec.bb s 25 ((k + 2) % 5 + k / 5 * 5))) = u (Kec.chi (Kec.bb s 25) k) := by
                      unfold Kec.chi
                      rw [show (k % 5 + 1) % 5 = (k + 1) % 5 by omega, show (k % 5 + 2) % 5 = (k + 2) % 5 by omega]
                    rw [u_not, u_and, u_xor, hv]
                    refine ⟨k + 1, by omega, by go_num, ?_, ?_, ?_⟩
                    · exact (HE.out.gr hW).far (by dsimp only; omega) _
                    · exact HQ.out.set k _
                    · exact (HO.out.trans (Only.of_gr hW g)).trans (Only.set _ _ _)
                  case measure => simp [intOf]; omega
                · have h5 : k = 25 := by omega
                  subst h5
                  have c0 := later_cell (w := wr) (p := ⟨g, 0, none⟩) (by dsimp only; omega) (HM.out.cell 0 (by omega))
                  unfold lv at c0
                  go_wp2
                  refine wp_region_N 8 (by kernel_rfl) (by kernel_rfl) (by kernel_rfl) ?_
                  simp only [List.take_succ_cons, List.take_zero, List.drop_succ_cons, List.drop_zero]
                  refine wpN_quiet 8 (by kernel_rfl) ?_
                  simp only [List.take_succ_cons, List.take_zero, List.drop_succ_cons, List.drop_zero]
                  repeat (go_big_quiet_step (fail))
                  refine wpQuiet_nil ?_
                  refine wpN_nil (by kernel_rfl) ?_
                  intro W hW
                  replace hW := hW.gr
                  unfold finN
                  rename_i wq hW
                  have HQ := Lib.hid (HM.out.gr hW)
                  have e2 := HQ.out.frozen 0
                  have e1 := HQ.out.cell 0 (by omega)
                  unfold lv at e1
                  go_wp2
                  refine bodyPost_ret (results_none rfl _ _ _) rfl ⟨rfl, ?_⟩
                  rw [u_xor]
                  exact ⟨HQ.out.set 0 _, (HO.out.trans (Only.of_gr hW g)).trans (Only.set _ _ _)⟩
end Go.Proofs.Ytfpigemikpbbhaa
