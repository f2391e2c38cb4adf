/-
  Merged (wip/tools/merge.py): KecRound, KecRef, KecPerm, KecPlain, KecSponge, KecSum, KecKeccak, TS2, EN, ET.
  Conditions: none.
-/
import Derived.Test.YtdhicdnmgmkpkaaGreatZN12
import Derived.Laws.Rows
import Derived.Laws.Tables
import Derived.Deep.WholeRow
import Derived.Test.YtdhicdnmgmkpkaaGreatZN2
import Derived.Test.YtdhicdnmgmkpkaaGreatZN7
import Derived.Test.YtdhicdnmgmkpkaaGreatZN8
import Derived.Maps.RangeRun
/-
  keccak's round.
  Conditions: none.
-/
namespace Go.Proofs.YtdhicdnmgmkpkaaGreat
open Go.RowKit Mono
open Kec (L St rotl)
def turnCells : Array Value := ((List.range 25).map fun k => Value.int .i64 (Kec.turn k)).toArray
def Turns (w : World) (g : Nat) (t : TypeId) : Prop := w.heap[g]? = some (.cells turnCells t (0, 0))
theorem Turns.cell {w : World} {g : Nat} {t : TypeId} (h : Turns w g t) (k : Nat) (hk : k < 25) : w.cell? ⟨g, k, none⟩ = some (.int .i64 (Kec.turn k)) := by
  rw [cell_of_row w g k _ t (0, 0) h]
  simp [turnCells, hk]
theorem Turns.lt {w : World} {g : Nat} {t : TypeId} (h : Turns w g t) : g < w.heap.size := by
  rcases Nat.lt_or_ge g w.heap.size with h1 | h1
  · exact h1
  · unfold Turns at h; rw [Array.getElem?_eq_none h1] at h; cases h
theorem Turns.gr {w w' : World} {g : Nat} {t : TypeId} (h : Turns w g t) (hg : Gr w w') : Turns w' g t := (hg.block g h.lt).trans h
theorem turn_lt : ∀ k, k < 25 → Kec.turn k < 64 := by decide
theorem place_lt : ∀ k, k < 25 → Kec.place k < 25 := by decide
def firstN (f : St) (n : Nat) : St := fun j => if j < n then f j else 0
theorem firstN_step (f : St) (n : Nat) : Kec.upd (firstN f n) n (f n) = firstN f (n + 1) := by
  funext j
  unfold Kec.upd firstN
  by_cases h : j = n
  · subst h; rw [if_pos rfl, if_pos (by omega)]
  · rw [if_neg h]
    by_cases h2 : j < n
    · rw [if_pos h2, if_pos (by omega)]
    · rw [if_neg h2, if_neg (by omega)]
theorem firstN_zero (f : St) : firstN f 0 = fun _ => 0 := by funext j; simp [firstN]
theorem lanes_new (w : World) (t : TypeId) (n : Nat) (c : Array Value) (h : c = cellsOf (fun _ => 0) n) : Lanes (w.alloc (.cells c t)) w.heap.size t n (fun _ => 0) := by
  subst h
  unfold Lanes World.alloc
  simp
theorem u_not (x : L) : bits .xor .u64 (if IntKind.u64.signed = true then -1 else IntKind.u64.max) (u x) = u (~~~x) := by
  have h : (if IntKind.u64.signed = true then -1 else IntKind.u64.max) = u (BitVec.allOnes 64) := rfl
  rw [h, u_xor, BitVec.allOnes_xor]
theorem alloc_len (w : World) (o : Obj) : (w.alloc o).heap.size = w.heap.size + 1 := by simp
theorem u_col (s : St) (k : Nat) : bits .xor .u64 (bits .xor .u64 (bits .xor .u64 (bits .xor .u64 (u (s k)) (u (s (k + 5)))) (u (s (k + 10)))) (u (s (k + 15)))) (u (s (k + 20))) = u (Kec.col s k) := by
  simp only [u_xor]
  rfl
set_option maxRecDepth 20000 in
set_option maxHeartbeats 1000000 in
theorem kec_round (g gt : Nat) (t tt : TypeId) (s : St) (n : L) (w : World) (hl : Lanes w g t 25 s) (ht : Turns w gt tt) :
    Calls Tryz.prog 230 #[.pointer (some ⟨g, 0, none⟩), .pointer (some ⟨gt, 0, none⟩), .int .u64 (u n)] w (RetU fun w' => Lanes w' g t 25 (Kec.round s n) ∧ Only g w w') := by
  have hg := hl.lt
  have hgt := ht.lt
  have HL := Lib.hid hl
  have HT := Lib.hid ht
  clear hl ht
  go_enter Tryz.func230, Tryz.ntmps230
  go_wp2
  go_loopw [17] (fun i wr => ∃ k : Nat, k ≤ 5 ∧ i = .int .i64 k ∧ Lanes wr w.heap.size 262 5 (firstN (Kec.col s) k) ∧ Lanes wr (w.heap.size + 1) 262 5 (fun _ => 0) ∧ Gr w wr) (fun i _ => 5 - (intOf i).toNat)
  case atStart =>
    refine ⟨0, by omega, rfl, ?_, ?_, ?_⟩
    · rw [firstN_zero]
      exact (lanes_new w 262 5 _ rfl).alloc _
    · have := lanes_new (w.alloc (.cells #[.int .u64 0, .int .u64 0, .int .u64 0, .int .u64 0, .int .u64 0] 262)) 262 5 _ rfl
      rw [alloc_len] at this
      exact this
    · exact (gr_alloc w _).trans (gr_alloc _ _)
  case round =>
    obtain ⟨k, hk, rfl, hc, hd, hb⟩ := hrel
    have hbs := hb.size
    have HC := Lib.hid hc
    have HD := Lib.hid hd
    have HB := Lib.hid hb
    have hcl := hc.lt
    have hdl := hd.lt
    clear hc hd hb
    by_cases h1 : k < 5
    · have c0 := later_cell (w := wr) (p := ⟨g, k, none⟩) (by dsimp only; omega) ((HL.out.gr HB.out).cell k (by omega))
      have c1 := later_cell (w := wr) (p := ⟨g, k + 5, none⟩) (by dsimp only; omega) ((HL.out.gr HB.out).cell (k + 5) (by omega))
      have c2 := later_cell (w := wr) (p := ⟨g, k + 10, none⟩) (by dsimp only; omega) ((HL.out.gr HB.out).cell (k + 10) (by omega))
      have c3 := later_cell (w := wr) (p := ⟨g, k + 15, none⟩) (by dsimp only; omega) ((HL.out.gr HB.out).cell (k + 15) (by omega))
      have c4 := later_cell (w := wr) (p := ⟨g, k + 20, none⟩) (by dsimp only; omega) ((HL.out.gr HB.out).cell (k + 20) (by omega))
      unfold lv at c0 c1 c2 c3 c4
      go_wp2
      refine wp_region_N 35 (by kernel_rfl) (by kernel_rfl) (by kernel_rfl) ?_
      simp only [List.take_succ_cons, List.take_zero, List.drop_succ_cons, List.drop_zero]
      refine wpN_quiet 35 (by kernel_rfl) ?_
      simp only [List.take_succ_cons, List.take_zero, List.drop_succ_cons, List.drop_zero]
      repeat (go_big_quiet_step (fail))
      refine wpQuiet_nil ?_
      refine wpN_nil (by kernel_rfl) ?_
      intro W hW
      replace hW := hW.gr
      unfold finN
      rename_i wq hW
      have HQ := Lib.hid (HC.out.gr hW)
      have e2 := HQ.out.frozen k
      have e1 := HQ.out.cell k (by omega)
      unfold lv at e1
      go_wp2
      go_roundw
      case rel =>
        rw [u_col]
        refine ⟨k + 1, by omega, by go_num, ?_, ?_, ?_⟩
        · rw [← firstN_step]
          exact HQ.out.set k (Kec.col s k)
        · exact ((HD.out.gr hW)).far (by simp) _
        · exact (Only.set (g := w.heap.size) _ k _).gr (HB.out.trans hW) (Nat.le_refl _)
      case measure => simp [intOf]; omega
    · have h5 : k = 5 := by omega
      subst h5
      go_wp2_with fail
      obtain ⟨wo, rfl⟩ : ∃ wo : World, wo = wr := ⟨_, rfl⟩
      go_loopw [56] (fun i wr => ∃ k : Nat, k ≤ 5 ∧ i = .int .i64 k ∧ Lanes wr w.heap.size 262 5 (firstN (Kec.col s) 5) ∧ Lanes wr (w.heap.size + 1) 262 5 (firstN (Kec.dd s) k) ∧ Gr w wr) (fun i _ => 5 - (intOf i).toNat)
      case atStart => exact ⟨0, by omega, rfl, HC.out, by rw [firstN_zero]; exact HD.out, HB.out⟩
      case round =>
        clear HB HC HD
        obtain ⟨k, hk, rfl, hc, hd, hb⟩ := hrel
        have hbs := hb.size
        have HC := Lib.hid hc
        have HD := Lib.hid hd
        have HB := Lib.hid hb
        have hcl := hc.lt
        have hdl := hd.lt
        clear hc hd hb
        by_cases h1 : k < 5
        · have c0 := later_cell (w := wr) (p := ⟨w.heap.size, (k + 4) % 5, none⟩) (by dsimp only; omega) (HC.out.cell ((k + 4) % 5) (by omega))
          have c1 := later_cell (w := wr) (p := ⟨w.heap.size, (k + 1) % 5, none⟩) (by dsimp only; omega) (HC.out.cell ((k + 1) % 5) (by omega))
          unfold lv at c0 c1
          go_wp2
          refine wp_region_N 14 (by kernel_rfl) (by kernel_rfl) (by kernel_rfl) ?_
          simp only [List.take_succ_cons, List.take_zero, List.drop_succ_cons, List.drop_zero]
          refine wpN_quiet 11 (by kernel_rfl) ?_
          simp only [List.take_succ_cons, List.take_zero, List.drop_succ_cons, List.drop_zero]
          repeat (go_big_quiet_step (fail))
          refine wpQuiet_nil ?_
          refine wpN_val (.int .u64 (u (rotl (firstN (Kec.col s) 5 ((k + 1) % 5)) 1))) rfl (by kernel_rfl) (by kernel_rfl) (fun xw => ?_) ?_
          · refine growsTo_call (by simp [go_sem]) ((rotate (firstN (Kec.col s) 5 ((k + 1) % 5)) 1 (by omega) _).mono ?_)
            rintro e w' ⟨rfl, rfl⟩
            exact ⟨_, rfl, Gr.refl _, rfl⟩
          simp only [Act.put, List.setIfInBounds_toArray, List.set_cons_succ, List.set_cons_zero]
          refine wpN_quiet 2 (by kernel_rfl) ?_
          simp only [List.take_succ_cons, List.take_zero, List.drop_succ_cons, List.drop_zero]
          repeat (go_big_quiet_step (fail))
          refine wpQuiet_nil ?_
          refine wpN_nil (by kernel_rfl) ?_
          intro W hW
          replace hW := hW.gr
          unfold finN
          rename_i wq hW
          have HQ := Lib.hid (HD.out.gr hW)
          have e2 := HQ.out.frozen k
          have e1 := HQ.out.cell k (by omega)
          unfold lv at e1
          go_wp2
          go_roundw
          case rel =>
            have hf : u (firstN (Kec.col s) 5 ((k + 4) % 5)) = u (Kec.col s ((k + 4) % 5)) := by unfold firstN; rw [if_pos (by omega)]
            have hf1 : firstN (Kec.col s) 5 ((k + 1) % 5) = Kec.col s ((k + 1) % 5) := by unfold firstN; rw [if_pos (by omega)]
            rw [hf, hf1, u_xor]
            refine ⟨k + 1, by omega, by go_num, ?_, ?_, ?_⟩
            · exact (HC.out.gr hW).far (by simp) _
            · rw [← firstN_step]
              exact HQ.out.set k (Kec.dd s k)
            · exact (Only.set (g := w.heap.size + 1) _ k _).gr (HB.out.trans hW) (by omega)
          case measure => simp [intOf]; omega
        · have h5 : k = 5 := by omega
          subst h5
          go_wp2_with fail
          obtain ⟨wo, rfl⟩ : ∃ wo : World, wo = wr := ⟨_, rfl⟩
          go_loopw [74] (fun i wr => ∃ k : Nat, k ≤ 25 ∧ i = .int .i64 k ∧ Lanes wr (w.heap.size + 1) 262 5 (firstN (Kec.dd s) 5) ∧ Lanes wr wo.heap.size 295 25 (Kec.bb s k) ∧ Gr w wr) (fun i _ => 25 - (intOf i).toNat)
          case atStart => exact ⟨0, by omega, rfl, HD.out.alloc _, lanes_new wo 295 25 _ rfl, HB.out.trans (gr_alloc _ _)⟩
          case round =>
            clear HB HC HD
            obtain ⟨k, hk, rfl, hd, he, hb⟩ := hrel
            have hbs2 := hb.size
            have HE := Lib.hid he
            have HD := Lib.hid hd
            have HB := Lib.hid hb
            have hel := he.lt
            clear he hd hb
            by_cases h1 : k < 25
            · have c0 := later_cell (w := wr) (p := ⟨g, k, none⟩) (by dsimp only; omega) ((HL.out.gr HB.out).cell k (by omega))
              have c1 := later_cell (w := wr) (p := ⟨w.heap.size + 1, k % 5, none⟩) (by dsimp only; omega) (HD.out.cell (k % 5) (by omega))
              have c2 := later_cell (w := wr) (p := ⟨gt, k, none⟩) (by dsimp only; omega) ((HT.out.gr HB.out).cell k (by omega))
              unfold lv at c0 c1
              go_wp2
              refine wp_region_N 25 (by kernel_rfl) (by kernel_rfl) (by kernel_rfl) ?_
              simp only [List.take_succ_cons, List.take_zero, List.drop_succ_cons, List.drop_zero]
              refine wpN_quiet 23 (by kernel_rfl) ?_
              simp only [List.take_succ_cons, List.take_zero, List.drop_succ_cons, List.drop_zero]
              repeat (go_big_quiet_step (fail))
              refine wpQuiet_nil ?_
              refine wpN_val (.int .u64 (u (rotl (s k ^^^ firstN (Kec.dd s) 5 (k % 5)) (Kec.turn k)))) rfl (by kernel_rfl) (by kernel_rfl) (fun xw => ?_) ?_
              · refine growsTo_call (by simp [go_sem, u_xor]) ((rotate (s k ^^^ firstN (Kec.dd s) 5 (k % 5)) (Kec.turn k) (turn_lt k h1) _).mono ?_)
                rintro e w' ⟨rfl, rfl⟩
                exact ⟨_, rfl, Gr.refl _, rfl⟩
              simp only [Act.put, List.setIfInBounds_toArray, List.set_cons_succ, List.set_cons_zero]
              refine wpN_quiet 1 (by kernel_rfl) ?_
              simp only [List.take_succ_cons, List.take_zero, List.drop_succ_cons, List.drop_zero]
              repeat (go_big_quiet_step (fail))
              refine wpQuiet_nil ?_
              refine wpN_nil (by kernel_rfl) ?_
              intro W hW
              replace hW := hW.gr
              unfold finN
              rename_i wq hW
              have HQ := Lib.hid (HE.out.gr hW)
              have e2 := HQ.out.frozen (Kec.place k)
              have e1 := HQ.out.cell (Kec.place k) (place_lt k h1)
              unfold lv at e1
              unfold Kec.place at e1 e2
              go_wp2
              go_roundw
              case rel =>
                have hv : u (rotl (s k ^^^ firstN (Kec.dd s) 5 (k % 5)) (Kec.turn k)) = u (rotl (s k ^^^ Kec.dd s (k % 5)) (Kec.turn k)) := by
                  unfold firstN
                  rw [if_pos (by omega)]
                rw [hv]
                refine ⟨k + 1, by omega, by go_num, ?_, ?_, ?_⟩
                · exact (HD.out.gr hW).far (by dsimp only; omega) _
                · exact HQ.out.set (Kec.place k) _
                · exact (Only.set (g := wo.heap.size) _ (Kec.place k) _).gr (HB.out.trans hW) (by omega)
              case measure => simp [intOf]; omega
            · have h5 : k = 25 := by omega
              subst h5
              go_wp2_with fail
              obtain ⟨wo2, rfl⟩ : ∃ wo : World, wo = wr := ⟨_, rfl⟩
              go_loopw [107] (fun i wr => ∃ k : Nat, k ≤ 25 ∧ i = .int .i64 k ∧ Lanes wr wo.heap.size 295 25 (Kec.bb s 25) ∧ Lanes wr g t 25 (Kec.ss (Kec.bb s 25) s k) ∧ Only g w wr) (fun i _ => 25 - (intOf i).toNat)
              case atStart => exact ⟨0, by omega, rfl, HE.out, HL.out.gr HB.out, Only.of_gr HB.out g⟩
              case round =>
                clear HB HE HD
                obtain ⟨k, hk, rfl, he, hl, ho⟩ := hrel
                have hbs3 := ho.size
                have HE := Lib.hid he
                have HM := Lib.hid hl
                have HO := Lib.hid ho
                have hel := he.lt
                clear he hl ho
                by_cases h1 : k < 25
                · have c0 := later_cell (w := wr) (p := ⟨wo.heap.size, k, none⟩) (by dsimp only; omega) (HE.out.cell k (by omega))
                  have c1 := later_cell (w := wr) (p := ⟨wo.heap.size, (k + 1) % 5 + k / 5 * 5, none⟩) (by dsimp only; omega) (HE.out.cell ((k + 1) % 5 + k / 5 * 5) (by omega))
                  have c2 := later_cell (w := wr) (p := ⟨wo.heap.size, (k + 2) % 5 + k / 5 * 5, none⟩) (by dsimp only; omega) (HE.out.cell ((k + 2) % 5 + k / 5 * 5) (by omega))
                  unfold lv at c0 c1 c2
                  go_wp2
                  refine wp_region_N 24 (by kernel_rfl) (by kernel_rfl) (by kernel_rfl) ?_
                  simp only [List.take_succ_cons, List.take_zero, List.drop_succ_cons, List.drop_zero]
                  refine wpN_quiet 24 (by kernel_rfl) ?_
                  simp only [List.take_succ_cons, List.take_zero, List.drop_succ_cons, List.drop_zero]
                  repeat (go_big_quiet_step (fail))
                  refine wpQuiet_nil ?_
                  refine wpN_nil (by kernel_rfl) ?_
                  intro W hW
                  replace hW := hW.gr
                  unfold finN
                  rename_i wq hW
                  have HQ := Lib.hid (HM.out.gr hW)
                  have e2 := HQ.out.frozen k
                  have e1 := HQ.out.cell k (by omega)
                  unfold lv at e1
                  go_wp2
                  go_roundw
                  case rel =>
                    have hv : u (Kec.bb s 25 k ^^^ (~~~ Kec.bb s 25 ((k + 1) % 5 + k / 5 * 5) &&& Kec.bb s 25 ((k + 2) % 5 + k / 5 * 5))) = u (Kec.chi (Kec.bb s 25) k) := by
                      unfold Kec.chi
                      rw [show (k % 5 + 1) % 5 = (k + 1) % 5 by omega, show (k % 5 + 2) % 5 = (k + 2) % 5 by omega]
                    rw [u_not, u_and, u_xor, hv]
                    refine ⟨k + 1, by omega, by go_num, ?_, ?_, ?_⟩
                    · exact (HE.out.gr hW).far (by dsimp only; omega) _
                    · exact HQ.out.set k _
                    · exact (HO.out.trans (Only.of_gr hW g)).trans (Only.set _ _ _)
                  case measure => simp [intOf]; omega
                · have h5 : k = 25 := by omega
                  subst h5
                  have c0 := later_cell (w := wr) (p := ⟨g, 0, none⟩) (by dsimp only; omega) (HM.out.cell 0 (by omega))
                  unfold lv at c0
                  go_wp2
                  refine wp_region_N 8 (by kernel_rfl) (by kernel_rfl) (by kernel_rfl) ?_
                  simp only [List.take_succ_cons, List.take_zero, List.drop_succ_cons, List.drop_zero]
                  refine wpN_quiet 8 (by kernel_rfl) ?_
                  simp only [List.take_succ_cons, List.take_zero, List.drop_succ_cons, List.drop_zero]
                  repeat (go_big_quiet_step (fail))
                  refine wpQuiet_nil ?_
                  refine wpN_nil (by kernel_rfl) ?_
                  intro W hW
                  replace hW := hW.gr
                  unfold finN
                  rename_i wq hW
                  have HQ := Lib.hid (HM.out.gr hW)
                  have e2 := HQ.out.frozen 0
                  have e1 := HQ.out.cell 0 (by omega)
                  unfold lv at e1
                  go_wp2
                  refine bodyPost_ret (results_none rfl _ _ _) rfl ⟨rfl, ?_⟩
                  rw [u_xor]
                  exact ⟨HQ.out.set 0 _, (HO.out.trans (Only.of_gr hW g)).trans (Only.set _ _ _)⟩
end Go.Proofs.YtdhicdnmgmkpkaaGreat
/-
  The reference's round.
  Conditions: none.
-/
namespace Go.Proofs.YtdhicdnmgmkpkaaGreat
open Go.RowKit Mono
open Kec (L St rotl)
def Reg (w : World) (g : Nat) (t : TypeId) (l : BitVec 8) : Prop := w.heap[g]? = some (.cells #[.int .u8 (l.toNat : Int)] t (0, 0))
section
variable {w w' : World} {g : Nat} {t : TypeId} {l : BitVec 8}
theorem Reg.lt (h : Reg w g t l) : g < w.heap.size := by
  rcases Nat.lt_or_ge g w.heap.size with h1 | h1
  · exact h1
  · unfold Reg at h; rw [Array.getElem?_eq_none h1] at h; cases h
theorem Reg.cell (h : Reg w g t l) : w.cell? ⟨g, 0, none⟩ = some (.int .u8 (l.toNat : Int)) := by
  rw [cell_of_row w g 0 _ t (0, 0) h]
  rfl
theorem Reg.frozen (h : Reg w g t l) : w.frozen? ⟨g, 0, none⟩ = false := by
  unfold Reg at h
  simp [World.frozen?, h]
theorem Reg.gr (h : Reg w g t l) (hg : Gr w w') : Reg w' g t l := (hg.block g h.lt).trans h
theorem Reg.set (h : Reg w g t l) (v : BitVec 8) : Reg (w.setCell ⟨g, 0, none⟩ (.int .u8 (v.toNat : Int))) g t v := by
  unfold Reg at h ⊢
  simp [World.setCell, Array.getElem?_modify, h]
theorem Reg.far (h : Reg w g t l) {p : Addr} (hp : g ≠ p.block) (v : Value) : Reg (w.setCell p v) g t l := (Below.heap_setCell w p v g hp).trans h
end
theorem u8_shl1 (q : BitVec 8) : (q.toNat : Int) * (2 : Int) % (256 : Int) = ((q <<< 1).toNat : Int) := by
  have h : (q <<< 1).toNat = q.toNat * 2 % 256 := by rw [BitVec.toNat_shiftLeft, Nat.shiftLeft_eq]
  rw [h]
  omega
theorem Reg.low {w : World} {g : Nat} {t : TypeId} {q : BitVec 8} (h : Reg w g t q) (hb : ¬ q &&& 128 ≠ 0) :
    Reg (w.setCell ⟨g, 0, none⟩ (.int .u8 ((q.toNat : Int) * 2 % 256))) g t (Kec.lf q) := by
  rw [u8_shl1, show Kec.lf q = q <<< 1 from if_neg hb]
  exact h.set _
end Go.Proofs.YtdhicdnmgmkpkaaGreat
/-
  keccak's permutation.
  Conditions: none.
-/
namespace Go.Proofs.YtdhicdnmgmkpkaaGreat
open Go.RowKit Mono
open Kec (L St rotl)
theorem ho3t {w w' : World} {g gt : Nat} {t : TypeId} (h : Only g w w') (ht : Turns w gt t) (hne : gt ≠ g) : Turns w' gt t := (h.block gt ht.lt (fun e => hne (by injection e))).trans ht
def rcCells : Array Value := ((List.range 24).map fun k => Value.int .u64 (u (Kec.rc k))).toArray
theorem wpList_build_to {P : Program} {ops : Array Oper} {rest : List Oper} {o : Oper} {a : Act} {w : World} {Q : Exit → Act → World → Prop} (cells : Array Value) (d : Tmp) (t : TypeId) (parts : Array (Nat × Operand)) (hg : o.guard = none) (ho : o.op = .build t parts) (hd : o.dst = some d)
    (hf : P.built t (parts.map fun (i, x) => (i, a.eval x)).toList = some cells) (h : wpList P ops Q rest (a.put (some d) (.agg cells)) w) : wpList P ops Q (o :: rest) a w := by
  refine wpList_build hg t parts ho (by rw [hf]; rfl) ?_
  rw [hf, hd]
  exact h
set_option maxRecDepth 20000 in
set_option maxHeartbeats 1000000 in
theorem kec_turns (w : World) : Calls Tryz.prog 228 #[] w (Ret (fun v _ => v = .agg turnCells) w) := by
  go_enter Tryz.func228, Tryz.ntmps228
  go_wp2_with first
    | refine wpList_build_to turnCells 1 328 _ rfl rfl rfl (by kernel_rfl) ?_
    | refine wpList_store_row rfl 328 (.tmp 0) (.tmp 1) rfl w.heap.size turnCells rfl rfl 328 _ (heap_alloc_new w _) (by kernel_rfl) (by kernel_rfl) (by kernel_rfl) ?_
  rw [World.setRow_alloc_new]
  exact bodyPost_ret (results_cell_row rfl _ _ w.heap.size 328 turnCells (0, 0) _ rfl (heap_alloc_new w _) rfl rfl (by kernel_rfl)) rfl ⟨_, rfl, gr_alloc w _, rfl⟩
set_option maxRecDepth 20000 in
set_option maxHeartbeats 1000000 in
theorem kec_consts (w : World) : Calls Tryz.prog 229 #[] w (Ret (fun v _ => v = .agg rcCells) w) := by
  go_enter Tryz.func229, Tryz.ntmps229
  go_wp2_with first
    | refine wpList_build_to rcCells 1 330 _ rfl rfl rfl (by kernel_rfl) ?_
    | refine wpList_store_row rfl 330 (.tmp 0) (.tmp 1) rfl w.heap.size rcCells rfl rfl 330 _ (heap_alloc_new w _) (by kernel_rfl) (by kernel_rfl) (by kernel_rfl) ?_
  rw [World.setRow_alloc_new]
  exact bodyPost_ret (results_cell_row rfl _ _ w.heap.size 330 rcCells (0, 0) _ rfl (heap_alloc_new w _) rfl rfl (by kernel_rfl)) rfl ⟨_, rfl, gr_alloc w _, rfl⟩
theorem rc_index0 (w : World) : (Instr.index 330 (.agg rcCells) (.int .i64 ((0 : Nat) : Int))).run Tryz.prog w = .ok (.int .u64 (u (Kec.rc 0))) w := by kernel_rfl
theorem rc_index1 (w : World) : (Instr.index 330 (.agg rcCells) (.int .i64 ((1 : Nat) : Int))).run Tryz.prog w = .ok (.int .u64 (u (Kec.rc 1))) w := by kernel_rfl
theorem rc_index2 (w : World) : (Instr.index 330 (.agg rcCells) (.int .i64 ((2 : Nat) : Int))).run Tryz.prog w = .ok (.int .u64 (u (Kec.rc 2))) w := by kernel_rfl
theorem rc_index3 (w : World) : (Instr.index 330 (.agg rcCells) (.int .i64 ((3 : Nat) : Int))).run Tryz.prog w = .ok (.int .u64 (u (Kec.rc 3))) w := by kernel_rfl
theorem rc_index4 (w : World) : (Instr.index 330 (.agg rcCells) (.int .i64 ((4 : Nat) : Int))).run Tryz.prog w = .ok (.int .u64 (u (Kec.rc 4))) w := by kernel_rfl
theorem rc_index5 (w : World) : (Instr.index 330 (.agg rcCells) (.int .i64 ((5 : Nat) : Int))).run Tryz.prog w = .ok (.int .u64 (u (Kec.rc 5))) w := by kernel_rfl
theorem rc_index6 (w : World) : (Instr.index 330 (.agg rcCells) (.int .i64 ((6 : Nat) : Int))).run Tryz.prog w = .ok (.int .u64 (u (Kec.rc 6))) w := by kernel_rfl
theorem rc_index7 (w : World) : (Instr.index 330 (.agg rcCells) (.int .i64 ((7 : Nat) : Int))).run Tryz.prog w = .ok (.int .u64 (u (Kec.rc 7))) w := by kernel_rfl
theorem rc_index8 (w : World) : (Instr.index 330 (.agg rcCells) (.int .i64 ((8 : Nat) : Int))).run Tryz.prog w = .ok (.int .u64 (u (Kec.rc 8))) w := by kernel_rfl
theorem rc_index9 (w : World) : (Instr.index 330 (.agg rcCells) (.int .i64 ((9 : Nat) : Int))).run Tryz.prog w = .ok (.int .u64 (u (Kec.rc 9))) w := by kernel_rfl
theorem rc_index10 (w : World) : (Instr.index 330 (.agg rcCells) (.int .i64 ((10 : Nat) : Int))).run Tryz.prog w = .ok (.int .u64 (u (Kec.rc 10))) w := by kernel_rfl
theorem rc_index11 (w : World) : (Instr.index 330 (.agg rcCells) (.int .i64 ((11 : Nat) : Int))).run Tryz.prog w = .ok (.int .u64 (u (Kec.rc 11))) w := by kernel_rfl
theorem rc_index12 (w : World) : (Instr.index 330 (.agg rcCells) (.int .i64 ((12 : Nat) : Int))).run Tryz.prog w = .ok (.int .u64 (u (Kec.rc 12))) w := by kernel_rfl
theorem rc_index13 (w : World) : (Instr.index 330 (.agg rcCells) (.int .i64 ((13 : Nat) : Int))).run Tryz.prog w = .ok (.int .u64 (u (Kec.rc 13))) w := by kernel_rfl
theorem rc_index14 (w : World) : (Instr.index 330 (.agg rcCells) (.int .i64 ((14 : Nat) : Int))).run Tryz.prog w = .ok (.int .u64 (u (Kec.rc 14))) w := by kernel_rfl
theorem rc_index15 (w : World) : (Instr.index 330 (.agg rcCells) (.int .i64 ((15 : Nat) : Int))).run Tryz.prog w = .ok (.int .u64 (u (Kec.rc 15))) w := by kernel_rfl
theorem rc_index16 (w : World) : (Instr.index 330 (.agg rcCells) (.int .i64 ((16 : Nat) : Int))).run Tryz.prog w = .ok (.int .u64 (u (Kec.rc 16))) w := by kernel_rfl
theorem rc_index17 (w : World) : (Instr.index 330 (.agg rcCells) (.int .i64 ((17 : Nat) : Int))).run Tryz.prog w = .ok (.int .u64 (u (Kec.rc 17))) w := by kernel_rfl
theorem rc_index18 (w : World) : (Instr.index 330 (.agg rcCells) (.int .i64 ((18 : Nat) : Int))).run Tryz.prog w = .ok (.int .u64 (u (Kec.rc 18))) w := by kernel_rfl
theorem rc_index19 (w : World) : (Instr.index 330 (.agg rcCells) (.int .i64 ((19 : Nat) : Int))).run Tryz.prog w = .ok (.int .u64 (u (Kec.rc 19))) w := by kernel_rfl
theorem rc_index20 (w : World) : (Instr.index 330 (.agg rcCells) (.int .i64 ((20 : Nat) : Int))).run Tryz.prog w = .ok (.int .u64 (u (Kec.rc 20))) w := by kernel_rfl
theorem rc_index21 (w : World) : (Instr.index 330 (.agg rcCells) (.int .i64 ((21 : Nat) : Int))).run Tryz.prog w = .ok (.int .u64 (u (Kec.rc 21))) w := by kernel_rfl
theorem rc_index22 (w : World) : (Instr.index 330 (.agg rcCells) (.int .i64 ((22 : Nat) : Int))).run Tryz.prog w = .ok (.int .u64 (u (Kec.rc 22))) w := by kernel_rfl
theorem rc_index23 (w : World) : (Instr.index 330 (.agg rcCells) (.int .i64 ((23 : Nat) : Int))).run Tryz.prog w = .ok (.int .u64 (u (Kec.rc 23))) w := by kernel_rfl
theorem rc_index (k : Nat) (hk : k < 24) (w : World) : (Instr.index 330 (.agg rcCells) (.int .i64 (k : Nat))).run Tryz.prog w = .ok (.int .u64 (u (Kec.rc k))) w := by
  match k, hk with
  | 0, _ => exact rc_index0 w
  | 1, _ => exact rc_index1 w
  | 2, _ => exact rc_index2 w
  | 3, _ => exact rc_index3 w
  | 4, _ => exact rc_index4 w
  | 5, _ => exact rc_index5 w
  | 6, _ => exact rc_index6 w
  | 7, _ => exact rc_index7 w
  | 8, _ => exact rc_index8 w
  | 9, _ => exact rc_index9 w
  | 10, _ => exact rc_index10 w
  | 11, _ => exact rc_index11 w
  | 12, _ => exact rc_index12 w
  | 13, _ => exact rc_index13 w
  | 14, _ => exact rc_index14 w
  | 15, _ => exact rc_index15 w
  | 16, _ => exact rc_index16 w
  | 17, _ => exact rc_index17 w
  | 18, _ => exact rc_index18 w
  | 19, _ => exact rc_index19 w
  | 20, _ => exact rc_index20 w
  | 21, _ => exact rc_index21 w
  | 22, _ => exact rc_index22 w
  | 23, _ => exact rc_index23 w
  | k + 24, h => omega
set_option maxRecDepth 20000 in
set_option maxHeartbeats 1000000 in
theorem kec_permute (g : Nat) (t : TypeId) (s : St) (w : World) (hl : Lanes w g t 25 s) :
    Calls Tryz.prog 203 #[.pointer (some ⟨g, 0, none⟩)] w (RetU fun w' => Lanes w' g t 25 (Kec.perm s 24) ∧ Only g w w') := by
  have HL := Lib.hid hl
  clear hl
  go_enter Tryz.func203, Tryz.ntmps203
  go_wp2_with fail
  refine (kec_turns _).mono ?_
  rintro e w1 ⟨_, rfl, hg1, rfl⟩
  go_wp2_with refine wpList_store_row rfl 328 (.tmp 2) (.tmp 5) rfl w1.heap.size turnCells rfl rfl 328 _ (heap_alloc_new w1 _) (by kernel_rfl) (by kernel_rfl) (by kernel_rfl) ?_
  rw [World.setRow_alloc_new]
  refine (kec_consts _).mono ?_
  rintro e w2 ⟨_, rfl, hg2, rfl⟩
  have HT : Hid (Turns w2 w1.heap.size 328) := Lib.hid (Turns.gr (w := w1.alloc (.cells turnCells 328)) (heap_alloc_new w1 _) hg2)
  have HG : Hid (Gr w w2) := Lib.hid ((hg1.trans (gr_alloc w1 _)).trans hg2)
  have hs1 := hg1.size
  have hs2 := HL.out.lt
  clear hg1 hg2
  go_wp2_with fail
  go_loopw [7] (fun i wr => ∃ k : Nat, k ≤ 24 ∧ i = .int .i64 k ∧ Lanes wr g t 25 (Kec.perm s k) ∧ Turns wr w1.heap.size 328 ∧ Only g w wr) (fun i _ => 24 - (intOf i).toNat)
  case atStart => exact ⟨0, by omega, rfl, HL.out.gr HG.out, HT.out, Only.of_gr HG.out g⟩
  case round =>
    clear HT HG
    obtain ⟨k, hk, rfl, hl, ht, ho⟩ := hrel
    have HM := Lib.hid hl
    have HT := Lib.hid ht
    have HO := Lib.hid ho
    clear hl ht ho
    by_cases h1 : k < 24
    · have hidx := rc_index k h1
      go_wp2_with fail
      refine (kec_round g _ t 328 _ _ _ HM.out HT.out).mono ?_
      rintro e w3 ⟨rfl, hl3, ho3⟩
      have H3 := Lib.hid hl3
      have HO3 := Lib.hid ho3
      clear hl3 ho3
      go_wp2_with fail
      go_roundw
      case rel => exact ⟨k + 1, by omega, by go_num, H3.out, (ho3t HO3.out HT.out (by omega)), HO.out.trans HO3.out⟩
      case measure => simp [intOf]; omega
    · have h5 : k = 24 := by omega
      subst h5
      go_wp2_with fail
      exact bodyPost_end (results_none rfl _ _ _) rfl ⟨rfl, HM.out, HO.out⟩
end Go.Proofs.YtdhicdnmgmkpkaaGreat
/-
  Keccak in plain words: the permutations are one.
  Conditions: none. No program is named here.
-/
namespace Go.Proofs.YtdhicdnmgmkpkaaGreat.Kec
theorem Same.refl (a : St) : Same a a := fun _ _ => rfl
theorem Same.trans {a b c : St} (h : Same a b) (k : Same b c) : Same a c := fun i hi => (h i hi).trans (k i hi)
theorem Same.upd {a b : St} (h : Same a b) (k : Nat) {v v' : L} (hv : v = v') : Same (upd a k v) (upd b k v') := by
  intro i hi
  unfold Kec.upd
  rw [hv]
  split
  · rfl
  · exact h i hi
end Go.Proofs.YtdhicdnmgmkpkaaGreat.Kec
/-
  Keccak in plain words: bytes are taken in; the program's way and the reference's are one.
  Conditions: none. No program is named here.
-/
namespace Go.Proofs.YtdhicdnmgmkpkaaGreat
open Kec (L St rotl Same)
def absorbG (P : St → St) (p : St × Nat) (b : UInt8) : St × Nat := if p.2 + 1 = 136 then (P (takeB p.1 p.2 b.toNat), 0) else (takeB p.1 p.2 b.toNat, p.2 + 1)
def absorb (p : St × Nat) (b : UInt8) : St × Nat := absorbG (fun s => Kec.perm s 24) p b
def absorbs (l : List UInt8) : St × Nat := l.foldl absorb (fun _ => 0, 0)
def sponge (l : List UInt8) : St := Kec.perm (takeB (takeB (absorbs l).1 (absorbs l).2 1) 135 128) 24
theorem absorbs_snoc (l : List UInt8) (b : UInt8) : absorbs (l ++ [b]) = absorb (absorbs l) b := by simp [absorbs]
theorem absorbG_lt (P : St → St) (p : St × Nat) (b : UInt8) (h : p.2 < 136) : (absorbG P p b).2 < 136 := by
  unfold absorbG
  split
  · simp
  · dsimp only; omega
theorem absorb_lt (p : St × Nat) (b : UInt8) (h : p.2 < 136) : (absorb p b).2 < 136 := absorbG_lt _ p b h
theorem absorbs_lt' (l : List UInt8) : ∀ p : St × Nat, p.2 < 136 → (l.foldl absorb p).2 < 136 := by
  induction l with
  | nil => exact fun _ h => h
  | cons b l ih => exact fun p h => ih _ (absorb_lt p b h)
theorem absorbs_lt (l : List UInt8) : (absorbs l).2 < 136 := absorbs_lt' l _ (by simp)
theorem take_flat (ms : List (List UInt8)) (k : Nat) (h : k < ms.length) : (ms.take (k + 1)).flatten = (ms.take k).flatten ++ ms[k] := by
  rw [List.take_succ_eq_append_getElem h, List.flatten_append]
  simp only [List.flatten_cons, List.flatten_nil, List.append_nil]
theorem take_snoc (pre m : List UInt8) (j : Nat) (h : j < m.length) : absorbs (pre ++ m.take (j + 1)) = absorb (absorbs (pre ++ m.take j)) m[j] := by
  rw [List.take_succ_eq_append_getElem h, ← List.append_assoc, absorbs_snoc]
/-! ### The place -/
/-! ### The padding -/
/-! ### The reference's way -/
def zeros (l : List UInt8) (n : Nat) : List UInt8 := l ++ 1 :: List.replicate n 0
/-! ### The sum's bytes -/
def outB (f : St) (k : Nat) : UInt8 := UInt8.ofNat (f (k / 8) >>> (8 * (k % 8))).toNat
def outL (f : St) : List UInt8 := (List.range 32).map (outB f)
def hash (l : List UInt8) : List UInt8 := outL (sponge l)
theorem hash_length (l : List UInt8) : (hash l).length = 32 := by simp [hash, outL]
end Go.Proofs.YtdhicdnmgmkpkaaGreat
/-
  keccak.Sum.
  Conditions: none.
-/
namespace Go.Proofs.YtdhicdnmgmkpkaaGreat
open Go.RowKit Mono
open Kec (L St rotl)
def outV (f : St) (k : Nat) : Value := .int .u8 (((f (k / 8) >>> (8 * (k % 8))).toNat % 256 : Nat) : Int)
def outC (f : St) (n : Nat) : Array Value := ((List.range 32).map fun k => if k < n then outV f k else .int .u8 0).toArray
def Out (w : World) (g : Nat) (f : St) (n : Nat) : Prop := w.heap[g]? = some (.cells (outC f n) 34 (0, 0))
theorem Out.lt {w : World} {g : Nat} {f : St} {n : Nat} (h : Out w g f n) : g < w.heap.size := by
  rcases Nat.lt_or_ge g w.heap.size with h1 | h1
  · exact h1
  · unfold Out at h; rw [Array.getElem?_eq_none h1] at h; cases h
theorem Out.cell {w : World} {g : Nat} {f : St} {n : Nat} (h : Out w g f n) (hn : n < 32) : w.cell? ⟨g, n, none⟩ = some (.int .u8 0) := by
  rw [cell_of_row w g n _ 34 (0, 0) h]
  simp [outC, hn]
theorem Out.frozen {w : World} {g : Nat} {f : St} {n : Nat} (h : Out w g f n) (k : Nat) : w.frozen? ⟨g, k, none⟩ = false := by
  unfold Out at h
  simp [World.frozen?, h]
theorem outC_set (f : St) (n : Nat) : (outC f n).setIfInBounds n (outV f n) = outC f (n + 1) := by
  apply Array.ext_getElem?
  intro i
  rw [Array.getElem?_setIfInBounds]
  unfold outC
  by_cases hi : i < 32
  · by_cases hk : n = i
    · subst hk
      simp [hi]
    · rw [if_neg hk]
      simp only [List.getElem?_toArray, List.getElem?_map, List.getElem?_range hi, Option.map_some, Option.some.injEq]
      by_cases h2 : i < n
      · rw [if_pos h2, if_pos (by omega)]
      · rw [if_neg h2, if_neg (by omega)]
  · simp [hi]
    omega
theorem Out.set {w : World} {g : Nat} {f : St} {n : Nat} (h : Out w g f n) : Out (w.setCell ⟨g, n, none⟩ (outV f n)) g f (n + 1) := by
  unfold Out at h ⊢
  simp [World.setCell, Array.getElem?_modify, h, outC_set]
theorem outC_size (f : St) (n : Nat) : (outC f n).size = 32 := by simp [outC]
theorem outC_size2 (f g : St) (n m : Nat) : (outC f n).size = (outC g m).size := by rw [outC_size, outC_size]
theorem outC_info (f : St) (n : Nat) : (Tryz.prog.info? 34).map (·.size) = some (outC f n).size := by
  rw [outC_size]
  kernel_rfl
theorem outC_one (f : St) (n : Nat) : (outC f n).all (·.oneCell') = true := by
  simp only [outC, List.all_toArray, List.all_eq_true, List.mem_map]
  rintro x ⟨k, _, rfl⟩
  split <;> rfl
theorem out_val (f : St) (k : Nat) : Value.int .u8 (u (f (k / 8)) / 2 ^ (8 * (k % 8)) % 256) = outV f k := by
  rw [u_shr]
  unfold outV u
  simp
set_option maxRecDepth 20000 in
set_option maxHeartbeats 1000000 in
theorem kec_sum (v : Value) (ms : List (List UInt8)) (w : World) (h : IsBB w v ms) : Calls Tryz.prog 176 #[v] w (Ret (fun v' _ => v' = .agg (outC (sponge ms.flatten) 32)) w) := by
  obtain ⟨A, c, vals, rfl, hc1, hc2, hlen, hrd, hel⟩ := h
  unfold maxLen at hc2
  have HRD := Lib.hid hrd
  have HEL := Lib.hid hel
  have HLEN := Lib.hid hlen
  clear hrd hel hlen
  go_enter Tryz.func176, Tryz.ntmps176
  go_wp2
  go_loopw [4, 13] (fun at_ i wr => ∃ k : Nat, k ≤ ms.length ∧ i = .int .i64 k ∧ at_ = .int .i64 ((absorbs (ms.take k).flatten).2 : Nat) ∧ Lanes wr (w.heap.size + 1) 295 25 (absorbs (ms.take k).flatten).1 ∧ Out wr w.heap.size (fun _ => 0) 0 ∧ Gr w wr) (fun _ i _ => ms.length - (intOf i).toNat)
  case atStart =>
    refine ⟨0, by omega, rfl, rfl, ?_, ?_, (gr_alloc w _).trans (gr_alloc _ _)⟩
    · have := lanes_new (w.alloc (.cells (outC (fun _ => 0) 0) 34)) 295 25 _ rfl
      rw [alloc_len] at this
      exact this
    · exact (Below.heap_alloc (w.alloc (.cells (outC (fun _ => 0) 0) 34)) _ _ (by simp)).trans (heap_alloc_new w _)
  case round =>
    obtain ⟨k, hk, rfl, rfl, hl, ho, hb⟩ := hrel
    have HL := Lib.hid hl
    have HO := Lib.hid ho
    have HB := Lib.hid hb
    clear hl ho hb
    by_cases h1 : k < ms.length
    · obtain ⟨b, o, x, rfl, hbl, hcell, hx⟩ := IsBB.at HLEN.out HRD.out HEL.out k h1
      have hcell' := (HB.out.cell (p := ⟨b, o + k, none⟩) hbl).trans hcell
      clear hcell
      obtain ⟨A2, c2, rfl, hd1, hd2, hr2⟩ := hx
      unfold maxLen at hd2
      have HR2 := Lib.hid (hr2.below HB.out)
      clear hr2
      go_wp2_with fail
      obtain ⟨wo, rfl⟩ : ∃ wo : World, wo = wr := ⟨_, rfl⟩
      go_loopw [4, 19] (fun at_ i wr => ∃ j : Nat, j ≤ ms[k].length ∧ i = .int .i64 j ∧ at_ = .int .i64 ((absorbs ((ms.take k).flatten ++ ms[k].take j)).2 : Nat) ∧ Lanes wr (w.heap.size + 1) 295 25 (absorbs ((ms.take k).flatten ++ ms[k].take j)).1 ∧ Out wr w.heap.size (fun _ => 0) 0 ∧ Only (w.heap.size + 1) wo wr) (fun _ i _ => ms[k].length - (intOf i).toNat)
      case atStart => exact ⟨0, by omega, rfl, by simp, by simpa using HL.out, HO.out, Only.refl _ _⟩
      case round =>
        clear HO HL
        obtain ⟨j, hj, rfl, rfl, hl, ho, hb⟩ := hrel
        have HL := Lib.hid hl
        have HO := Lib.hid ho
        have HP := Lib.hid hb
        clear hl ho hb
        have hlt := absorbs_lt ((ms.take k).flatten ++ ms[k].take j)
        by_cases h2 : j < ms[k].length
        · have hsn := Lib.hid (take_snoc (ms.take k).flatten ms[k] j h2)
          have hr3 := HR2.out.keep (fun p hp => World.cell?_of_block (HP.out.block p.block (by have := HB.out.size; omega) (fun e => by injection e with e; omega)))
          obtain ⟨b2, o2, rfl, hb2, hc2⟩ := isB_at hr3 j h2
          have hlt2 := bv_lt ms[k][j]
          go_wp2_with fail
          refine (kec_take (w.heap.size + 1) 295 _ _ _ hlt hlt2 _ HL.out).mono ?_
          rintro e w3 ⟨rfl, hl3, ho3⟩
          have HL3 := Lib.hid hl3
          have HP3 := Lib.hid (HP.out.trans ho3)
          have HO3 : Hid (Out w3 w.heap.size (fun _ => 0) 0) := Lib.hid ((ho3.block w.heap.size HO.out.lt (by simp)).trans HO.out)
          clear hl3 ho3 HL HP HO hc2 hr3
          by_cases h136 : (absorbs ((ms.take k).flatten ++ ms[k].take j)).2 + 1 = 136
          · have hA : absorbs ((ms.take k).flatten ++ ms[k].take (j + 1)) = _ := hsn.out.trans (if_pos h136)
            have HA := Lib.hid hA
            clear hA
            have h135 : (absorbs ((ms.take k).flatten ++ ms[k].take j)).2 = 135 := by omega
            rw [h135]
            go_wp2_with fail
            refine (kec_permute (w.heap.size + 1) 295 _ _ HL3.out).mono ?_
            rintro e w4 ⟨rfl, hl4, ho4⟩
            have HL4 := Lib.hid hl4
            have HP4 := Lib.hid (HP3.out.trans ho4)
            have HO4 : Hid (Out w4 w.heap.size (fun _ => 0) 0) := Lib.hid ((ho4.block w.heap.size HO3.out.lt (by simp)).trans HO3.out)
            clear hl4 ho4 HL3 HP3 HO3
            go_wp2_with fail
            go_roundw
            case rel => exact ⟨j + 1, by omega, by go_num, by rw [HA.out]; rfl, by rw [HA.out]; exact HL4.out, HO4.out, HP4.out⟩
            case measure => simp [intOf]; omega
          · have hA : absorbs ((ms.take k).flatten ++ ms[k].take (j + 1)) = _ := hsn.out.trans (if_neg h136)
            have HA := Lib.hid hA
            clear hA
            go_wp2_with fail
            go_roundw
            case rel => exact ⟨j + 1, by omega, by go_num, by rw [HA.out]; go_num, by rw [HA.out]; exact HL3.out, HO3.out, HP3.out⟩
            case measure => simp [intOf]; omega
        · have h5 : j = ms[k].length := by omega
          subst h5
          have hfl : (ms.take k).flatten ++ ms[k].take ms[k].length = (ms.take (k + 1)).flatten := by rw [List.take_length, take_flat ms k h1]
          rw [hfl] at HL
          rw [hfl]
          have HB2 := Lib.hid (Only.gr HB.out HP.out (by omega))
          clear HB HP hfl
          go_wp2_with fail
          go_roundw
          case rel => exact ⟨k + 1, by omega, by go_num, rfl, HL.out, HO.out, HB2.out⟩
          case measure => simp [intOf]; omega
    · have h5 : k = ms.length := by omega
      subst h5
      have hlt := absorbs_lt ms.flatten
      have hfl : (ms.take ms.length).flatten = ms.flatten := by rw [List.take_length]
      rw [hfl] at HL
      rw [hfl]
      clear hfl
      go_wp2_with fail
      refine (kec_take (w.heap.size + 1) 295 _ _ 1 hlt (by omega) _ HL.out).mono ?_
      rintro e w3 ⟨rfl, hl3, ho3⟩
      have HL3 := Lib.hid hl3
      have HB3 := Lib.hid (Only.gr HB.out ho3 (by omega))
      have HO3 : Hid (Out w3 w.heap.size (fun _ => 0) 0) := Lib.hid ((ho3.block w.heap.size HO.out.lt (by simp)).trans HO.out)
      clear hl3 ho3 HL HB HO
      go_wp2_with fail
      refine (kec_take (w.heap.size + 1) 295 _ 135 128 (by omega) (by omega) _ HL3.out).mono ?_
      rintro e w4 ⟨rfl, hl4, ho4⟩
      have HL4 := Lib.hid hl4
      have HB4 := Lib.hid (Only.gr HB3.out ho4 (by omega))
      have HO4 : Hid (Out w4 w.heap.size (fun _ => 0) 0) := Lib.hid ((ho4.block w.heap.size HO3.out.lt (by simp)).trans HO3.out)
      clear hl4 ho4 HL3 HB3 HO3
      go_wp2_with fail
      refine (kec_permute (w.heap.size + 1) 295 _ _ HL4.out).mono ?_
      rintro e w5 ⟨rfl, hl5, ho5⟩
      have HL5 : Hid (Lanes w5 (w.heap.size + 1) 295 25 (sponge ms.flatten)) := Lib.hid hl5
      have HB5 := Lib.hid (Only.gr HB4.out ho5 (by omega))
      have HO5 : Hid (Out w5 w.heap.size (fun _ => 0) 0) := Lib.hid ((ho5.block w.heap.size HO4.out.lt (by simp)).trans HO4.out)
      clear hl5 ho5 HL4 HB4 HO4
      go_wp2_with fail
      go_loopw [37] (fun i wr => ∃ k : Nat, k ≤ 32 ∧ i = .int .i64 k ∧ Lanes wr (w.heap.size + 1) 295 25 (sponge ms.flatten) ∧ Out wr w.heap.size (fun _ => 0) 0 ∧ Out wr w5.heap.size (sponge ms.flatten) k ∧ Gr w wr) (fun i _ => 32 - (intOf i).toNat)
      case atStart =>
        refine ⟨0, by omega, rfl, HL5.out.alloc _, ?_, heap_alloc_new w5 _, HB5.out.trans (gr_alloc _ _)⟩
        exact (Below.heap_alloc w5 _ _ HO5.out.lt).trans HO5.out
      case round =>
        have hs5 := HB5.out.size
        have hl5 := HL5.out.lt
        clear HL5 HB5 HO5
        obtain ⟨k, hk, rfl, hl, ho, hw5, hb⟩ := hrel
        have HL := Lib.hid hl
        have HO := Lib.hid ho
        have HW := Lib.hid hw5
        have HB := Lib.hid hb
        clear hl ho hw5 hb
        by_cases h1 : k < 32
        · have c1 := HL.out.cell (k / 8) (by omega)
          have c2 := HW.out.cell h1
          have c3 := HW.out.frozen k
          unfold lv at c1
          have hu := u_range (sponge ms.flatten (k / 8))
          have hu0 := hu.1
          clear hu
          go_wp2_with fail
          go_roundw
          case rel =>
            refine ⟨k + 1, by omega, by go_num, HL.out.far (by dsimp only; omega) _, ?_, ?_, ?_⟩
            · exact (Below.heap_setCell _ _ _ _ (by dsimp only; omega)).trans HO.out
            · rw [out_val]
              exact HW.out.set
            · exact (Only.set (g := w5.heap.size) _ k _).gr HB.out (by omega)
          case measure => simp [intOf]; omega
        · have h5 : k = 32 := by omega
          subst h5
          have HC := HW.out
          unfold Out at HC
          have HOO := HO.out
          unfold Out at HOO
          go_wp2_with first
            | refine wpList_load_row rfl 34 (.tmp 9) rfl w5.heap.size rfl 34 (outC (sponge ms.flatten) 32) (0, 0) _ HC rfl rfl (outC_info _ _) ?_
            | refine wpList_store_row rfl 34 (.tmp 2) (.tmp 52) rfl w.heap.size (outC (sponge ms.flatten) 32) rfl rfl 34 _ HOO (outC_info _ _) (outC_size2 _ _ _ _) (outC_one _ _) ?_
          exact bodyPost_ret (results_cell_row rfl _ _ w.heap.size 34 (outC (sponge ms.flatten) 32) (0, 0) _ rfl (heap_setRow_same _ _ _ _ _ HOO) rfl rfl (outC_info _ _)) rfl ⟨_, rfl, gr_setRow HB.out _ _ (Nat.le_refl _), rfl⟩
theorem outC_hash (l : List UInt8) : Value.agg (outC (sponge l) 32) = arrV (hash l) := by
  unfold outC arrV hash outL bvs
  rw [List.map_map]
  congr 2
theorem sum_all (v : Value) (ms : List (List UInt8)) (w : World) (h : IsBB w v ms) : Calls Tryz.prog 176 #[v] w (Ret (eqV (arrV (hash ms.flatten))) w) :=
  (kec_sum v ms w h).mono fun e w' ⟨x, he, hg, hx⟩ => ⟨x, he, hg, by unfold eqV; rw [hx, outC_hash]⟩
end Go.Proofs.YtdhicdnmgmkpkaaGreat
/-
  The reference's Keccak.
  Conditions: the bytes are at most 2^40.
-/
namespace Go.Proofs.YtdhicdnmgmkpkaaGreat
open Go.RowKit Mono
open Kec (L St rotl Same)
end Go.Proofs.YtdhicdnmgmkpkaaGreat
/-
  keccak.Sum, munimentsref1.Keccak and the empty root, as the abstract machine calls them.
  Conditions: none.
-/
namespace Go.Proofs.YtdhicdnmgmkpkaaGreat
set_option linter.unusedVariables false
open Go.RowKit Mono Rlp
namespace E
theorem rows_bs {ok : Nat → Prop} {w : World} (hok : ∀ b, ok b → b < w.heap.size) : ∀ (ms : List (List UInt8)) (rows : List (List Value)), ReadsRows ok w 1 (ms.map D.bs) rows → rows.flatten.length = ms.length ∧ ∀ (i : Nat) (x : Value) (m : List UInt8), rows.flatten[i]? = some x → ms[i]? = some m → IsB w x m
  | [], rows, h => by
    rw [List.map_nil, ReadsRows] at h
    subst h
    exact ⟨rfl, fun i x m h => by simp at h⟩
  | m :: ms, rows, h => by
    rw [List.map_cons, ReadsRows] at h
    obtain ⟨r, rest, rfl, _, h2, h3⟩ := h
    have h4 := h2
    rw [Reads] at h4
    obtain ⟨u, rfl, _⟩ := h4
    obtain ⟨g1, g2⟩ := rows_bs hok ms rest h3
    refine ⟨by simp [g1], fun i x m' hx hm => ?_⟩
    cases i with
    | zero =>
      simp only [List.flatten_cons, List.singleton_append, List.getElem?_cons_zero, Option.some.injEq] at hx hm
      subst hx
      subst hm
      exact isB_of hok ((readV_one rfl).2 h2)
    | succ i =>
      simp only [List.flatten_cons, List.singleton_append, List.getElem?_cons_succ] at hx hm
      exact g2 i x m' hx hm
theorem isBB_of {ok : Nat → Prop} {w : World} (hok : ∀ b, ok b → b < w.heap.size) {ms : List (List UInt8)} {v : Value} (h : ReadV ok w (.sl 1 (ms.map D.bs)) v) : IsBB w v ms := by
  obtain ⟨cs, h1, rfl⟩ := h
  rw [Reads] at h1
  obtain ⟨A, c, rows, rfl, g1, g2, g3, g4, g5⟩ := h1
  rw [List.length_map] at g1 g3
  obtain ⟨k1, k2⟩ := rows_bs hok ms rows g5
  refine ⟨A, c, rows.flatten, ?_, g1, g2, k1, fun hn => ?_, k2⟩
  · show Value.slice A (ms.map D.bs).length c = _
    rw [List.length_map]
  · obtain ⟨b, o, e, hb, hc⟩ := g4 hn
    exact ⟨b, o, e, hok b hb, hc⟩
theorem f_kSum (ms : List (List UInt8)) : Fn 176 [.sl 1 (ms.map D.bs)] (· = .val (.arr 32 (hash ms.flatten))) := ⟨fun ok w xs hok hr => by
  obtain ⟨v, rfl, h⟩ := one_arg hr
  refine (sum_all v ms w (isBB_of hok h)).mono ?_
  rintro e w' ⟨_, rfl, hg, rfl⟩
  exact ⟨hg, _, _, rfl, rfl, arrV_mk (hash_length _)⟩⟩
theorem f_kSum1 (l : List UInt8) : Fn 176 [.sl 1 [.bs l]] (· = .val (.arr 32 (hash l))) := by
  have h := f_kSum [l]
  rw [List.flatten_cons, List.flatten_nil, List.append_nil] at h
  exact h
theorem reads_bvs {ok : Nat → Prop} {w : World} : ∀ (l : List UInt8) (rows : List (List Value)), ReadsRows ok w 1 (l.map fun b => D.v (bv b)) rows → rows.flatten = bvs l
  | [], rows, h => by
    rw [List.map_nil, ReadsRows] at h
    subst h
    rfl
  | b :: l, rows, h => by
    rw [List.map_cons, ReadsRows] at h
    obtain ⟨r, rest, rfl, _, h2, h3⟩ := h
    rw [Reads] at h2
    rw [List.flatten_cons, reads_bvs l rest h3, h2.2]
    rfl
theorem Le.slB {N : Nat} {X : Cx N} {S : St} {t : Tmp} {l : List UInt8} (hl : look S.regs t = some (.val (.sl 1 (l.map fun b => D.v (bv b))))) : Le X S ⟨(t, .val (.bs l)) :: S.regs, S.objs, S.facts⟩ := fun a w h => by
  refine ⟨h.mem, fun u r hu => ?_, h.size, h.defers⟩
  unfold look at hu
  split at hu
  · rename_i e
    subst e
    obtain rfl := Option.some.inj hu
    have h1 := (readV_one (d := .sl 1 (l.map fun b => D.v (bv b))) rfl).1 (h.regs _ _ hl)
    refine (readV_one (d := .bs l) rfl).2 ?_
    rw [Reads] at h1
    rw [Reads]
    obtain ⟨A, c, rows, e, g1, g2, g3, g4, g5⟩ := h1
    rw [List.length_map] at e g1 g3
    refine ⟨_, rfl, A, c, List.singleton_inj.1 e, g1, g2, ?_⟩
    rw [← reads_bvs l rows g5]
    exact g4
  · exact h.regs u r hu
def root0 : List UInt8 := hash [128]
theorem f_shEmpty : Fn 206 [] (· = .val (.arr 32 root0)) := by
  have h1 := f_kSum1 [128]
  refine Fn.walk 4 Tryz.func206 rfl Tryz.ntmps206 (by simp) fun X => ?_
  repeat
    (first
     | (apply P_call (h1); exact rfl; (focus (repeat first | exact RefineL.refl _ _ | exact RL.nil | exact Rf.same | exact Rf.bs0 | exact Rf.sl0 | (apply Rf.fact; (focus (simp; done)); exact rfl) | apply Rf.tup | apply RL.cons)); (focus (intro _ _; simp [go_sem]; done)); (iterate 2 exact rfl))
     | (apply P_lit; (iterate 9 exact rfl); refine EL.le (Le.slB (t := 1) (l := [128]) rfl) ?_) | (apply P_lit; (iterate 9 exact rfl)) | (apply P_alloc; exact rfl; exact rfl; exact rfl; intro _)
     | (apply P_store; exact rfl; (focus (repeat first | exact .z | apply SetAt.s | apply SetAtF.s)); (iterate 4 exact rfl)) | apply EL.nil | ((with_reducible apply EK.then_normal); apply EK.code)
     | (with_reducible first | apply EC.seq | apply EC.region | apply EC.skip | apply EC.label | apply EC.block | apply EC.exit | apply EC.ret | apply EK.in_normal | apply EK.in_same | apply EK.in_ret | apply EK.then_ret | apply EK.then_exit))
  refine EK.retc1r 0 rfl rfl rfl rfl ?_ rfl
  (repeat first | exact RefineL.refl _ _ | exact RL.nil | exact Rf.same | exact Rf.bs0 | exact Rf.sl0 | (apply Rf.fact; (focus (simp; done)); exact rfl) | apply Rf.tup | apply RL.cons)
end E
end Go.Proofs.YtdhicdnmgmkpkaaGreat
/-
  The abstract machine: ranges over maps; an entry of a map's literal; pieces of a chain in another order.
  Conditions: none.
-/
namespace Go.Proofs.YtdhicdnmgmkpkaaGreat
set_option linter.unusedVariables false
open Go.RowKit Mono Rlp
open Go.ChangeMaps (setBlock)
namespace E
theorem All2.left {α β : Type} {R : α → β → Prop} : ∀ {l : List α} {m : List β}, All2 R l m → ∀ a ∈ l, ∃ b ∈ m, R a b
  | _, _, .nil, a, h => by cases h
  | _, _, .cons h1 h2, a, h => by
    rcases List.mem_cons.1 h with rfl | h
    · exact ⟨_, List.mem_cons_self, h1⟩
    · obtain ⟨b, hb, hr⟩ := h2.left a h
      exact ⟨b, List.mem_cons_of_mem _ hb, hr⟩
theorem All2.right {α β : Type} {R : α → β → Prop} : ∀ {l : List α} {m : List β}, All2 R l m → ∀ b ∈ m, ∃ a ∈ l, R a b
  | _, _, .nil, a, h => by cases h
  | _, _, .cons h1 h2, a, h => by
    rcases List.mem_cons.1 h with rfl | h
    · exact ⟨_, List.mem_cons_self, h1⟩
    · obtain ⟨b, hb, hr⟩ := h2.right a h
      exact ⟨b, List.mem_cons_of_mem _ hb, hr⟩
end E
end Go.Proofs.YtdhicdnmgmkpkaaGreat
/-
  The abstract machine: regions that draw their order, whose writing operations are not all in one row: at each place all that are ready.
  Conditions: none.
-/
namespace Go.Proofs.YtdhicdnmgmkpkaaGreat
set_option linter.unusedVariables false
open Go.RowKit Mono Rlp
namespace E
def readyL (l : List Oper) (chain done : List Nat) : List Nat := chain.filter fun k => !done.contains k && match l[k]? with
  | some o => o.after.toList.all fun e => !(Region.binds .any e) || !chain.contains e.on || done.contains e.on
  | none => true
def CT (N : Nat) (l : List Oper) (os1 : List Obj) (T : St → Prop) (chain : List Nat) : Nat → List Nat → St → Prop
  | 0, _, S => T S
  | m + 1, done, S => ∀ k ∈ readyL l chain done, CH N l.toArray os1 (fun S' => CT N l os1 T chain m (k :: done) S') (pickL l [k]) S
theorem CT.pick {N : Nat} {l : List Oper} {os1 : List Obj} {T : St → Prop} {chain : List Nat} {m : Nat} {done : List Nat} {S : St} (ks : List Nat) (hk : readyL l chain done = ks) (h : ∀ k ∈ ks, CH N l.toArray os1 (fun S' => CT N l os1 T chain m (k :: done) S') (pickL l [k]) S) : CT N l os1 T chain (m + 1) done S := by
  unfold CT
  rw [hk]
  exact h
theorem CT.nil {N : Nat} {l : List Oper} {os1 : List Obj} {T : St → Prop} {chain : List Nat} {done : List Nat} {S : St} (h : T S) : CT N l os1 T chain 0 done S := h
end E
end Go.Proofs.YtdhicdnmgmkpkaaGreat
