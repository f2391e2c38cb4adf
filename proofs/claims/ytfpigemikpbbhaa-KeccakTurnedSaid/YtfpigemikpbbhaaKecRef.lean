/-
  The reference's round.
  Conditions: none.
-/
import Derived.Test.YtfpigemikpbbhaaKecRound
namespace Go.Proofs.Ytfpigemikpbbhaa
open Go.RowKit Mono
open Kec (L St rotl)

/-- The register of bits, in a block of its own. -/
def Reg (w : World) (g : Nat) (t : TypeId) (l : BitVec 8) : Prop := w.heap[g]? = some (.cells #[.int .u8 (l.toNat : Int)] t (0, 0))
section
variable {w w' : World} {g : Nat} {t : TypeId} {l : BitVec 8}
theorem Reg.lt (h : Reg w g t l) : g < w.heap.size := by
  rcases Nat.lt_or_ge g w.heap.size with h1 | h1
  · exact h1
  · unfold Reg at h; rw [Array.getElem?_eq_none h1] at h; cases h
theorem Reg.cell (h : Reg w g t l) : w.cell? ⟨g, 0, none⟩ = some (.int .u8 (l.toNat : Int)) := by
  rw [cell_of_row w g 0 _ t (0, 0) h]
  rfl
theorem Reg.frozen (h : Reg w g t l) : w.frozen? ⟨g, 0, none⟩ = false := by
  unfold Reg at h
  simp [World.frozen?, h]
theorem Reg.gr (h : Reg w g t l) (hg : Gr w w') : Reg w' g t l := (hg.block g h.lt).trans h
theorem Reg.set (h : Reg w g t l) (v : BitVec 8) : Reg (w.setCell ⟨g, 0, none⟩ (.int .u8 (v.toNat : Int))) g t v := by
  unfold Reg at h ⊢
  simp [World.setCell, Array.getElem?_modify, h]
theorem Reg.far (h : Reg w g t l) {p : Addr} (hp : g ≠ p.block) (v : Value) : Reg (w.setCell p v) g t l := (Below.heap_setCell w p v g hp).trans h
end

theorem u8_low : ∀ q : BitVec 8, bits .and .u8 (q.toNat : Int) 1 = if q &&& 1 = 1 then 1 else 0 := by decide +kernel
theorem u8_high : ∀ q : BitVec 8, bits .and .u8 (q.toNat : Int) 128 = if q &&& 128 ≠ 0 then 128 else 0 := by decide +kernel
theorem u8_xor71 : ∀ q : BitVec 8, bits .xor .u8 (q.toNat : Int) 113 = ((q ^^^ 0x71).toNat : Int) := by decide +kernel
theorem u8_shl1 (q : BitVec 8) : (q.toNat : Int) * (2 : Int) % (256 : Int) = ((q <<< 1).toNat : Int) := by
  have h : (q <<< 1).toNat = q.toNat * 2 % 256 := by rw [BitVec.toNat_shiftLeft, Nat.shiftLeft_eq]
  rw [h]
  omega
theorem Reg.high {w : World} {g : Nat} {t : TypeId} {q : BitVec 8} (h : Reg w g t q) (hb : q &&& 128 ≠ 0) :
    Reg ((w.setCell ⟨g, 0, none⟩ (.int .u8 ((q.toNat : Int) * 2 % 256))).setCell ⟨g, 0, none⟩ (.int .u8 (bits .xor .u8 ((q.toNat : Int) * 2 % 256) 113))) g t (Kec.lf q) := by
  rw [u8_shl1, u8_xor71, show Kec.lf q = (q <<< 1) ^^^ 0x71 from if_pos hb]
  exact (h.set _).set _
theorem Reg.low {w : World} {g : Nat} {t : TypeId} {q : BitVec 8} (h : Reg w g t q) (hb : ¬ q &&& 128 ≠ 0) :
    Reg (w.setCell ⟨g, 0, none⟩ (.int .u8 ((q.toNat : Int) * 2 % 256))) g t (Kec.lf q) := by
  rw [u8_shl1, show Kec.lf q = q <<< 1 from if_neg hb]
  exact h.set _
theorem set_xor {w : World} {g : Nat} {t : TypeId} {f : St} (h : Lanes w g t 25 f) (x : L) (n : Int) (hn : n = u x) : Lanes (w.setCell ⟨g, 0, none⟩ (.int .u64 (bits .xor .u64 (u (f 0)) n))) g t 25 (Kec.upd f 0 (f 0 ^^^ x)) := by
  subst hn
  rw [u_xor]
  exact h.set 0 _
theorem mulz (k : Nat) (h : k < 24) : 0 ≤ ((k : Int) + 1) * ((k : Int) + 2) ∧ ((k : Int) + 1) * ((k : Int) + 2) ≤ 600 := by
  have h1 : (k + 1) * (k + 2) ≤ 24 * 25 := Nat.mul_le_mul (by omega) (by omega)
  have h2 : ((k : Int) + 1) * ((k : Int) + 2) = (((k + 1) * (k + 2) : Nat) : Int) := by simp
  rw [h2]
  omega
theorem mvL (a : St) (k : Nat) : (Kec.mv a k).x < 5 ∧ (Kec.mv a k).y < 5 := by
  induction k with
  | zero => simp [Kec.mv]
  | succ k ih => exact ⟨ih.2, Nat.mod_lt _ (by decide)⟩

set_option maxRecDepth 20000 in
set_option maxHeartbeats 1000000 in
theorem ref_round (g gl : Nat) (t tl : TypeId) (s : St) (l : BitVec 8) (w : World) (hl : Lanes w g t 25 s) (hr : Reg w gl tl l) (hlt : g < gl) :
    Calls Try.prog 50 #[.pointer (some ⟨g, 0, none⟩), .pointer (some ⟨gl, 0, none⟩)] w (RetU fun w' => Lanes w' g t 25 (Kec.rround s l) ∧ Reg w' gl tl (Kec.lfn l 7) ∧ Below g w w') := by
  have hg := hl.lt
  have hgl := hr.lt
  have HL := Lib.hid hl
  have HR := Lib.hid hr
  clear hl hr
  go_enter Try.func50, Try.ntmps50
  go_wp2
  go_loopw [5] (fun i wr => ∃ k : Nat, k ≤ 5 ∧ i = .int .i64 k ∧ Lanes wr w.heap.size 95 5 (firstN (Kec.col s) k) ∧ Gr w wr) (fun i _ => 5 - (intOf i).toNat)
  case atStart => exact ⟨0, by omega, rfl, by rw [firstN_zero]; exact lanes_new w 95 5 _ rfl, gr_alloc w _⟩
  case round =>
    obtain ⟨k, hk, rfl, hc, hb⟩ := hrel
    have hbs := hb.size
    have HC := Lib.hid hc
    have HB := Lib.hid hb
    have hcl := hc.lt
    clear hc hb
    by_cases h1 : k < 5
    · have c0 := later_cell (w := wr) (p := ⟨g, k, none⟩) (by dsimp only; omega) ((HL.out.gr HB.out).cell k (by omega))
      have c1 := later_cell (w := wr) (p := ⟨g, k + 5, none⟩) (by dsimp only; omega) ((HL.out.gr HB.out).cell (k + 5) (by omega))
      have c2 := later_cell (w := wr) (p := ⟨g, k + 10, none⟩) (by dsimp only; omega) ((HL.out.gr HB.out).cell (k + 10) (by omega))
      have c3 := later_cell (w := wr) (p := ⟨g, k + 15, none⟩) (by dsimp only; omega) ((HL.out.gr HB.out).cell (k + 15) (by omega))
      have c4 := later_cell (w := wr) (p := ⟨g, k + 20, none⟩) (by dsimp only; omega) ((HL.out.gr HB.out).cell (k + 20) (by omega))
      unfold lv at c0 c1 c2 c3 c4
      go_wp2
      refine wp_region_N 35 (by kernel_rfl) (by kernel_rfl) (by kernel_rfl) ?_
      simp only [List.take_succ_cons, List.take_zero, List.drop_succ_cons, List.drop_zero]
      refine wpN_quiet 35 (by kernel_rfl) ?_
      simp only [List.take_succ_cons, List.take_zero, List.drop_succ_cons, List.drop_zero]
      repeat (go_big_quiet_step (fail))
      refine wpQuiet_nil ?_
      refine wpN_nil (by kernel_rfl) ?_
      intro W hW
      replace hW := hW.gr
      unfold finN
      rename_i wq hW
      have HQ := Lib.hid (HC.out.gr hW)
      have e2 := HQ.out.frozen k
      have e1 := HQ.out.cell k (by omega)
      unfold lv at e1
      go_wp2
      go_roundw
      case rel =>
        rw [u_col]
        refine ⟨k + 1, by omega, by go_num, ?_, ?_⟩
        · rw [← firstN_step]
          exact HQ.out.set k (Kec.col s k)
        · exact (Only.set (g := w.heap.size) _ k _).gr (HB.out.trans hW) (Nat.le_refl _)
      case measure => simp [intOf]; omega
    · have h5 : k = 5 := by omega
      subst h5
      go_wp2_with fail
      obtain ⟨wo, rfl⟩ : ∃ wo : World, wo = wr := ⟨_, rfl⟩
      go_loopw [6] (fun i wr => ∃ k : Nat, k ≤ 5 ∧ i = .int .i64 k ∧ Lanes wr w.heap.size 95 5 (firstN (Kec.col s) 5) ∧ Lanes wr g t 25 (Kec.th (Kec.col s) s k) ∧ Reg wr gl tl l ∧ Below g w wr) (fun i _ => 5 - (intOf i).toNat)
      case atStart => exact ⟨0, by omega, rfl, HC.out, HL.out.gr HB.out, HR.out.gr HB.out, HB.out.mono (by omega)⟩
      case round =>
        clear HB HC
        obtain ⟨k, hk, rfl, hc, hl, hr, hb⟩ := hrel
        have hbs := hb.size
        have HC := Lib.hid hc
        have HM := Lib.hid hl
        have HG := Lib.hid hr
        have HB := Lib.hid hb
        have hcl := hc.lt
        clear hc hl hr hb
        by_cases h1 : k < 5
        · have c0 := later_cell (w := wr) (p := ⟨w.heap.size, (k + 4) % 5, none⟩) (by dsimp only; omega) (HC.out.cell ((k + 4) % 5) (by omega))
          have c1 := later_cell (w := wr) (p := ⟨w.heap.size, (k + 1) % 5, none⟩) (by dsimp only; omega) (HC.out.cell ((k + 1) % 5) (by omega))
          unfold lv at c0 c1
          obtain ⟨d, hd⟩ : ∃ d : L, d = Kec.col s ((k + 4) % 5) ^^^ rotl (Kec.col s ((k + 1) % 5)) 1 := ⟨_, rfl⟩
          have HD := Lib.hid hd
          clear hd
          go_wp2
          refine wp_region_N 13 (by kernel_rfl) (by kernel_rfl) (by kernel_rfl) ?_
          simp only [List.take_succ_cons, List.take_zero, List.drop_succ_cons, List.drop_zero]
          refine wpN_quiet 10 (by kernel_rfl) ?_
          simp only [List.take_succ_cons, List.take_zero, List.drop_succ_cons, List.drop_zero]
          repeat (go_big_quiet_step (fail))
          refine wpQuiet_nil ?_
          refine wpN_val (.int .u64 (u (rotl (firstN (Kec.col s) 5 ((k + 1) % 5)) 1))) rfl (by kernel_rfl) (by kernel_rfl) (fun xw => ?_) ?_
          · refine growsTo_call (by simp [go_sem]) ((rol (firstN (Kec.col s) 5 ((k + 1) % 5)) 1 (by omega) _).mono ?_)
            rintro e w' ⟨rfl, rfl⟩
            exact ⟨_, rfl, Gr.refl _, rfl⟩
          simp only [Act.put, List.setIfInBounds_toArray, List.set_cons_succ, List.set_cons_zero]
          refine wpN_quiet 2 (by kernel_rfl) ?_
          simp only [List.take_succ_cons, List.take_zero, List.drop_succ_cons, List.drop_zero]
          repeat (go_big_quiet_step (fail))
          refine wpQuiet_nil ?_
          refine wpN_nil (by kernel_rfl) ?_
          intro W hW
          replace hW := hW.gr
          unfold finN
          have hf : bits .xor .u64 (u (firstN (Kec.col s) 5 ((k + 4) % 5))) (u (rotl (firstN (Kec.col s) 5 ((k + 1) % 5)) 1)) = u d := by
            rw [u_xor, HD.out]
            unfold firstN
            rw [if_pos (by omega), if_pos (by omega)]
          rw [hf]
          clear hf c0 c1
          rename_i hW
          have hBW := HB.out.trans (hW.mono (by omega : g ≤ wr.heap.size))
          have hs2 := hW.size
          have HC2 := Lib.hid (HC.out.gr hW)
          have HM2 := Lib.hid (HM.out.gr hW)
          have HG2 := Lib.hid (HG.out.gr hW)
          have HB2 := Lib.hid hBW
          clear HC HM HG HB hBW hW
          go_wp2_with fail
          go_loopw [8] (fun i wr => ∃ m : Nat, m ≤ 5 ∧ i = .int .i64 (5 * m : Nat) ∧ Lanes wr w.heap.size 95 5 (firstN (Kec.col s) 5) ∧ Lanes wr g t 25 (Kec.th1 d k (Kec.th (Kec.col s) s k) m) ∧ Reg wr gl tl l ∧ Below g w wr) (fun i _ => 25 - (intOf i).toNat)
          case atStart => exact ⟨0, by omega, rfl, HC2.out, HM2.out, HG2.out, HB2.out⟩
          case round =>
            clear HC2 HM2 HG2 HB2
            obtain ⟨m, hm, rfl, hc, hl, hr, hb⟩ := hrel
            have hbs := hb.size
            have HC := Lib.hid hc
            have HM := Lib.hid hl
            have HG := Lib.hid hr
            have HB := Lib.hid hb
            have hcl := hc.lt
            clear hc hl hr hb
            by_cases h2 : m < 5
            · have c0 := later_cell (w := wr) (p := ⟨g, k + 5 * m, none⟩) (by dsimp only; omega) (HM.out.cell (k + 5 * m) (by omega))
              unfold lv at c0
              go_wp2
              refine wp_region_N 15 (by kernel_rfl) (by kernel_rfl) (by kernel_rfl) ?_
              simp only [List.take_succ_cons, List.take_zero, List.drop_succ_cons, List.drop_zero]
              refine wpN_quiet 15 (by kernel_rfl) ?_
              simp only [List.take_succ_cons, List.take_zero, List.drop_succ_cons, List.drop_zero]
              repeat (go_big_quiet_step (fail))
              refine wpQuiet_nil ?_
              refine wpN_nil (by kernel_rfl) ?_
              intro W hW
              replace hW := hW.gr
              unfold finN
              rename_i hW
              have HQ := Lib.hid (HM.out.gr hW)
              have e2 := HQ.out.frozen (k + 5 * m)
              have e1 := HQ.out.cell (k + 5 * m) (by omega)
              unfold lv at e1
              go_wp2
              go_roundw
              case rel =>
                rw [u_xor]
                refine ⟨m + 1, by omega, by go_num, ?_, ?_, ?_, ?_⟩
                · exact (HC.out.gr hW).far (by dsimp only; omega) _
                · exact HQ.out.set (k + 5 * m) _
                · exact (HG.out.gr hW).far (by dsimp only; omega) _
                · exact (HB.out.trans (hW.mono (by omega))).setCell (Nat.le_refl _) _
              case measure => simp [intOf]; omega
            · have h5 : m = 5 := by omega
              subst h5
              go_wp2_with fail
              go_roundw
              case rel =>
                refine ⟨k + 1, by omega, by go_num, HC.out, ?_, HG.out, HB.out⟩
                have := HM.out
                rw [HD.out] at this
                exact this
              case measure => simp [intOf]; omega
        · have h5 : k = 5 := by omega
          subst h5
          have hw := mvL (Kec.th (Kec.col s) s 5)
          have hR : Hid (Kec.rround s l = Kec.io (Kec.ch (Kec.mv (Kec.th (Kec.col s) s 5) 24).a 5) l 7) := Lib.hid rfl
          generalize Kec.th (Kec.col s) s 5 = a at HM hw hR
          have c0 := HM.out.cell 1 (by omega)
          unfold lv at c0
          go_wp2_with fail
          clear c0
          go_loopw [9, 10, 11, 12] (fun vx vy vc i wr => ∃ k : Nat, k ≤ 24 ∧ i = .int .i64 k ∧ vx = .int .i64 (Kec.mv a k).x ∧ vy = .int .i64 (Kec.mv a k).y ∧ vc = .int .u64 (u (Kec.mv a k).cur) ∧ Lanes wr g t 25 (Kec.mv a k).a ∧ Reg wr gl tl l ∧ Below g w wr) (fun _ _ _ i _ => 24 - (intOf i).toNat)
          case atStart => exact ⟨0, by omega, rfl, rfl, rfl, rfl, HM.out, HG.out, HB.out⟩
          case round =>
            clear HM HG HB HC
            obtain ⟨k, hk, rfl, rfl, rfl, rfl, hl, hr, hb⟩ := hrel
            have hst : Hid (Kec.mv a (k + 1) = ⟨(Kec.mv a k).y, (2 * (Kec.mv a k).x + 3 * (Kec.mv a k).y) % 5, (Kec.mv a k).a ((Kec.mv a k).y + 5 * ((2 * (Kec.mv a k).x + 3 * (Kec.mv a k).y) % 5)),
              Kec.upd (Kec.mv a k).a ((Kec.mv a k).y + 5 * ((2 * (Kec.mv a k).x + 3 * (Kec.mv a k).y) % 5)) (rotl (Kec.mv a k).cur ((k + 1) * (k + 2) / 2 % 64))⟩) := Lib.hid rfl
            obtain ⟨hx, hy⟩ := hw k
            by_cases h2 : k < 24
            · clear hw
              generalize (Kec.mv a k).x = x at *
              generalize (Kec.mv a k).y = y at *
              generalize (Kec.mv a k).cur = cur at *
              generalize (Kec.mv a k).a = b at *
              have hbs := hb.size
              have HM := Lib.hid hl
              have HG := Lib.hid hr
              have HB := Lib.hid hb
              clear hl hr hb
              have c0 := HM.out.cell (y + 5 * ((2 * x + 3 * y) % 5)) (by omega)
              unfold lv at c0
              obtain ⟨hm1, hm2⟩ := mulz k h2
              go_wp2
              refine wp_region_N 17 (by kernel_rfl) (by kernel_rfl) (by kernel_rfl) ?_
              simp only [List.take_succ_cons, List.take_zero, List.drop_succ_cons, List.drop_zero]
              refine wpN_quiet 14 (by kernel_rfl) ?_
              simp only [List.take_succ_cons, List.take_zero, List.drop_succ_cons, List.drop_zero]
              repeat (go_big_quiet_step (fail))
              refine wpQuiet_nil ?_
              refine wpN_val (.int .u64 (u (rotl cur ((k + 1) * (k + 2) / 2 % 64)))) rfl (by kernel_rfl) (by kernel_rfl) (fun xw => ?_) ?_
              · refine growsTo_call (by simp [go_sem]) ((rol cur ((k + 1) * (k + 2) / 2 % 64) (by omega) _).mono ?_)
                rintro e w' ⟨rfl, rfl⟩
                exact ⟨_, rfl, Gr.refl _, rfl⟩
              simp only [Act.put, List.setIfInBounds_toArray, List.set_cons_succ, List.set_cons_zero]
              refine wpN_quiet 2 (by kernel_rfl) ?_
              simp only [List.take_succ_cons, List.take_zero, List.drop_succ_cons, List.drop_zero]
              repeat (go_big_quiet_step (fail))
              refine wpQuiet_nil ?_
              refine wpN_nil (by kernel_rfl) ?_
              intro W hW
              replace hW := hW.gr
              unfold finN
              rename_i hW
              have HQ := Lib.hid (HM.out.gr hW)
              have e2 := HQ.out.frozen (y + 5 * ((2 * x + 3 * y) % 5))
              have e1 := HQ.out.cell (y + 5 * ((2 * x + 3 * y) % 5)) (by omega)
              unfold lv at e1
              go_wp2
              go_roundw
              case rel =>
                have H := hst.out
                refine ⟨k + 1, by omega, by go_num, by rw [H], by rw [H]; simp, by rw [H], ?_, ?_, ?_⟩
                · rw [H]
                  exact HQ.out.set _ _
                · exact (HG.out.gr hW).far (by dsimp only; omega) _
                · exact (HB.out.trans (hW.mono (by omega))).setCell (Nat.le_refl _) _
              case measure => simp [intOf]; omega
            · have h5 : k = 24 := by omega
              subst h5
              clear hw hst
              generalize (Kec.mv a 24).x = x at *
              generalize (Kec.mv a 24).y = y at *
              generalize (Kec.mv a 24).cur = cur at *
              generalize (Kec.mv a 24).a = a2 at *
              clear hx hy
              have HM := Lib.hid hl
              have HG := Lib.hid hr
              have HB := Lib.hid hb
              clear hl hr hb
              go_wp2_with fail
              go_loopw [16] (fun i wr => ∃ k : Nat, k ≤ 5 ∧ i = .int .i64 (5 * k : Nat) ∧ Lanes wr g t 25 (Kec.ch a2 k) ∧ Reg wr gl tl l ∧ Below g w wr) (fun i _ => 25 - (intOf i).toNat)
              case atStart => exact ⟨0, by omega, rfl, HM.out, HG.out, HB.out⟩
              case round =>
                clear HM HG HB
                obtain ⟨k, hk, rfl, hl, hr, hb⟩ := hrel
                by_cases h3 : k < 5
                · have hst : Hid (Kec.ch a2 (k + 1) = Kec.ch1 (fun x => Kec.ch a2 k (x + 5 * k)) (Kec.ch a2 k) (5 * k) 5) := Lib.hid rfl
                  generalize Kec.ch a2 k = b at *
                  have hbs := hb.size
                  have HM := Lib.hid hl
                  have HG := Lib.hid hr
                  have HB := Lib.hid hb
                  have hgl2 := hr.lt
                  have hg2 := hl.lt
                  clear hl hr hb
                  go_wp2_with fail
                  obtain ⟨wo, rfl⟩ : ∃ wo : World, wo = wr := ⟨_, rfl⟩
                  go_loopw [18] (fun i wr => ∃ m : Nat, m ≤ 5 ∧ i = .int .i64 m ∧ Lanes wr wo.heap.size 95 5 (firstN (fun x => b (x + 5 * k)) m) ∧ Gr wo wr) (fun i _ => 5 - (intOf i).toNat)
                  case atStart => exact ⟨0, by omega, rfl, by rw [firstN_zero]; exact lanes_new wo 95 5 _ rfl, gr_alloc wo _⟩
                  case round =>
                    obtain ⟨m, hm, rfl, hc, hb⟩ := hrel
                    have hcl := hc.lt
                    have HC := Lib.hid hc
                    have HO := Lib.hid hb
                    clear hc hb
                    by_cases h4 : m < 5
                    · have c0 := (HM.out.gr HO.out).cell (m + 5 * k) (by omega)
                      have e2 := HC.out.frozen m
                      have e1 := HC.out.cell m (by omega)
                      unfold lv at c0 e1
                      go_wp2
                      go_roundw
                      case rel =>
                        refine ⟨m + 1, by omega, by go_num, ?_, ?_⟩
                        · rw [← firstN_step]
                          exact HC.out.set m _
                        · exact (Only.set (g := wo.heap.size) _ m _).gr HO.out (Nat.le_refl _)
                      case measure => simp [intOf]; omega
                    · have h5 : m = 5 := by omega
                      subst h5
                      have HM2 := Lib.hid (HM.out.gr HO.out)
                      have HG2 := Lib.hid (HG.out.gr HO.out)
                      have HB2 := Lib.hid (HB.out.trans (HO.out.mono (by omega : g ≤ wo.heap.size)))
                      clear HM HG HB HO
                      go_wp2_with fail
                      go_loopw [19] (fun i wr => ∃ m : Nat, m ≤ 5 ∧ i = .int .i64 m ∧ Lanes wr wo.heap.size 95 5 (firstN (fun x => b (x + 5 * k)) 5) ∧ Lanes wr g t 25 (Kec.ch1 (fun x => b (x + 5 * k)) b (5 * k) m) ∧ Reg wr gl tl l ∧ Below g w wr) (fun i _ => 5 - (intOf i).toNat)
                      case atStart => exact ⟨0, by omega, rfl, HC.out, HM2.out, HG2.out, HB2.out⟩
                      case round =>
                        clear HC HM2 HG2 HB2
                        obtain ⟨m, hm, rfl, hc, hl, hr, hb⟩ := hrel
                        have hcl := hc.lt
                        have hll := hl.lt
                        have HC := Lib.hid hc
                        have HM := Lib.hid hl
                        have HG := Lib.hid hr
                        have HB := Lib.hid hb
                        clear hc hl hr hb
                        by_cases h4 : m < 5
                        · have c0 := later_cell (w := wr) (p := ⟨wo.heap.size, m, none⟩) hcl (HC.out.cell m (by omega))
                          have c1 := later_cell (w := wr) (p := ⟨wo.heap.size, (m + 1) % 5, none⟩) hcl (HC.out.cell ((m + 1) % 5) (by omega))
                          have c2 := later_cell (w := wr) (p := ⟨wo.heap.size, (m + 2) % 5, none⟩) hcl (HC.out.cell ((m + 2) % 5) (by omega))
                          unfold lv at c0 c1 c2
                          go_wp2
                          refine wp_region_N 22 (by kernel_rfl) (by kernel_rfl) (by kernel_rfl) ?_
                          simp only [List.take_succ_cons, List.take_zero, List.drop_succ_cons, List.drop_zero]
                          refine wpN_quiet 22 (by kernel_rfl) ?_
                          simp only [List.take_succ_cons, List.take_zero, List.drop_succ_cons, List.drop_zero]
                          repeat (go_big_quiet_step (fail))
                          refine wpQuiet_nil ?_
                          refine wpN_nil (by kernel_rfl) ?_
                          intro W hW
                          replace hW := hW.gr
                          unfold finN
                          rename_i hW
                          have HQ := Lib.hid (HM.out.gr hW)
                          have e2 := HQ.out.frozen (m + 5 * k)
                          have e1 := HQ.out.cell (m + 5 * k) (by omega)
                          unfold lv at e1
                          go_wp2
                          go_roundw
                          case rel =>
                            have f : ∀ j, j < 5 → firstN (fun x => b (x + 5 * k)) 5 j = b (j + 5 * k) := fun j hj => if_pos hj
                            rw [f m h4, f _ (by omega), f _ (by omega), u_not, u_and, u_xor]
                            exact ⟨m + 1, by omega, by go_num, (HC.out.gr hW).far (by dsimp only; omega) _, HQ.out.set _ _, (HG.out.gr hW).far (by dsimp only; omega) _, (HB.out.trans (hW.mono (by omega))).setCell (Nat.le_refl _) _⟩
                          case measure => simp [intOf]; omega
                        · have h5 : m = 5 := by omega
                          subst h5
                          go_wp2_with fail
                          go_roundw
                          case rel =>
                            refine ⟨k + 1, by omega, by go_num, ?_, HG.out, HB.out⟩
                            rw [hst.out]
                            exact HM.out
                          case measure => simp [intOf]; omega
                · have h5 : k = 5 := by omega
                  subst h5
                  generalize Kec.ch a2 5 = c at *
                  have HM := Lib.hid hl
                  have HG := Lib.hid hr
                  have HB := Lib.hid hb
                  clear hl hr hb
                  go_wp2_with fail
                  go_loopw [20] (fun i wr => ∃ j : Nat, j ≤ 7 ∧ i = .int .i64 j ∧ Lanes wr g t 25 (Kec.io c l j) ∧ Reg wr gl tl (Kec.lfn l j) ∧ Below g w wr) (fun i _ => 7 - (intOf i).toNat)
                  case atStart => exact ⟨0, by omega, rfl, HM.out, HG.out, HB.out⟩
                  case round =>
                    clear HM HG HB
                    obtain ⟨j, hj, rfl, hl, hr, hb⟩ := hrel
                    by_cases h3 : j < 7
                    · have hst : Hid (Kec.io c l (j + 1) = if Kec.lfn l j &&& 1 = 1 then Kec.upd (Kec.io c l j) 0 (Kec.io c l j 0 ^^^ (1 : L) <<< (2 ^ j - 1)) else Kec.io c l j) := Lib.hid rfl
                      have hst2 : Hid (Kec.lfn l (j + 1) = Kec.lf (Kec.lfn l j)) := Lib.hid rfl
                      generalize Kec.lfn l j = q at *
                      generalize Kec.io c l j = b at *
                      have hgl2 := hr.lt
                      have hg2 := hl.lt
                      have HM := Lib.hid hl
                      have HG := Lib.hid hr
                      have HB := Lib.hid hb
                      have e1 := hr.cell
                      have e2 := hr.frozen
                      clear hl hr hb
                      have k1 := u8_low q
                      have k2 := u8_high q
                      by_cases b1 : q &&& 1 = 1
                      · rw [if_pos b1] at k1 hst
                        by_cases b2 : q &&& 128 ≠ 0
                        · rw [if_pos b2] at k2
                          go_wp2
                          have HZ := Lib.hid ((HM.out.far (p := ⟨gl, 0, none⟩) (by dsimp only; omega) (Value.int .u8 ((q.toNat : Int) * 2 % 256))).far (p := ⟨gl, 0, none⟩) (by dsimp only; omega) (Value.int .u8 (bits .xor .u8 ((q.toNat : Int) * 2 % 256) 113)))
                          have HG2 := Lib.hid (HG.out.high b2)
                          have HB2 := Lib.hid ((HB.out.setCell (p := ⟨gl, 0, none⟩) (by dsimp only; omega) (Value.int .u8 ((q.toNat : Int) * 2 % 256))).setCell (p := ⟨gl, 0, none⟩) (by dsimp only; omega) (Value.int .u8 (bits .xor .u8 ((q.toNat : Int) * 2 % 256) 113)))
                          have hz := HZ.out.lt
                          have c0 := later_cell (p := ⟨g, 0, none⟩) hz (HZ.out.cell 0 (by omega))
                          unfold lv at c0
                          have h7 : j = 0 ∨ j = 1 ∨ j = 2 ∨ j = 3 ∨ j = 4 ∨ j = 5 ∨ j = 6 := by omega
                          rcases h7 with rfl | rfl | rfl | rfl | rfl | rfl | rfl
                          all_goals
                            refine wp_region_N 13 (by kernel_rfl) (by kernel_rfl) (by kernel_rfl) ?_
                            simp only [List.take_succ_cons, List.take_zero, List.drop_succ_cons, List.drop_zero]
                            refine wpN_quiet 13 (by kernel_rfl) ?_
                            simp only [List.take_succ_cons, List.take_zero, List.drop_succ_cons, List.drop_zero]
                            repeat (go_big_quiet_step (fail))
                            refine wpQuiet_nil ?_
                            refine wpN_nil (by kernel_rfl) ?_
                            intro W hW
                            replace hW := hW.gr
                            unfold finN
                            rename_i hW
                            have HQ := Lib.hid (HZ.out.gr hW)
                            have e2 := HQ.out.frozen 0
                            have e1 := HQ.out.cell 0 (by omega)
                            unfold lv at e1
                            go_wp2
                            go_roundw
                            case rel =>
                              refine ⟨_ + 1, ?_, by go_num, ?_, ?_, ?_⟩
                              · omega
                              · rw [hst.out]
                                exact set_xor HQ.out _ _ rfl
                              · rw [hst2.out]
                                exact (HG2.out.gr hW).far (by dsimp only; omega) _
                              · exact (HB2.out.trans (hW.mono (by omega))).setCell (Nat.le_refl _) _
                            case measure => simp [intOf]
                        · rw [if_neg b2] at k2
                          go_wp2
                          have HZ := Lib.hid (HM.out.far (p := ⟨gl, 0, none⟩) (by dsimp only; omega) (Value.int .u8 ((q.toNat : Int) * 2 % 256)))
                          have HG2 := Lib.hid (HG.out.low b2)
                          have HB2 := Lib.hid (HB.out.setCell (p := ⟨gl, 0, none⟩) (by dsimp only; omega) (Value.int .u8 ((q.toNat : Int) * 2 % 256)))
                          have hz := HZ.out.lt
                          have c0 := later_cell (p := ⟨g, 0, none⟩) hz (HZ.out.cell 0 (by omega))
                          unfold lv at c0
                          have h7 : j = 0 ∨ j = 1 ∨ j = 2 ∨ j = 3 ∨ j = 4 ∨ j = 5 ∨ j = 6 := by omega
                          rcases h7 with rfl | rfl | rfl | rfl | rfl | rfl | rfl
                          all_goals
                            refine wp_region_N 13 (by kernel_rfl) (by kernel_rfl) (by kernel_rfl) ?_
                            simp only [List.take_succ_cons, List.take_zero, List.drop_succ_cons, List.drop_zero]
                            refine wpN_quiet 13 (by kernel_rfl) ?_
                            simp only [List.take_succ_cons, List.take_zero, List.drop_succ_cons, List.drop_zero]
                            repeat (go_big_quiet_step (fail))
                            refine wpQuiet_nil ?_
                            refine wpN_nil (by kernel_rfl) ?_
                            intro W hW
                            replace hW := hW.gr
                            unfold finN
                            rename_i hW
                            have HQ := Lib.hid (HZ.out.gr hW)
                            have e2 := HQ.out.frozen 0
                            have e1 := HQ.out.cell 0 (by omega)
                            unfold lv at e1
                            go_wp2
                            go_roundw
                            case rel =>
                              refine ⟨_ + 1, ?_, by go_num, ?_, ?_, ?_⟩
                              · omega
                              · rw [hst.out]
                                exact set_xor HQ.out _ _ rfl
                              · rw [hst2.out]
                                exact (HG2.out.gr hW).far (by dsimp only; omega) _
                              · exact (HB2.out.trans (hW.mono (by omega))).setCell (Nat.le_refl _) _
                            case measure => simp [intOf]
                      · rw [if_neg b1] at k1 hst
                        by_cases b2 : q &&& 128 ≠ 0
                        · rw [if_pos b2] at k2
                          go_wp2
                          go_roundw
                          case rel =>
                            refine ⟨j + 1, by omega, by go_num, ?_, ?_, ?_⟩
                            · rw [hst.out]
                              exact (HM.out.far (by dsimp only; omega) _).far (by dsimp only; omega) _
                            · rw [hst2.out]
                              exact HG.out.high b2
                            · exact (HB.out.setCell (by dsimp only; omega) _).setCell (by dsimp only; omega) _
                          case measure => simp [intOf]; omega
                        · rw [if_neg b2] at k2
                          go_wp2
                          go_roundw
                          case rel =>
                            refine ⟨j + 1, by omega, by go_num, ?_, ?_, ?_⟩
                            · rw [hst.out]
                              exact HM.out.far (by dsimp only; omega) _
                            · rw [hst2.out]
                              exact HG.out.low b2
                            · exact HB.out.setCell (by dsimp only; omega) _
                          case measure => simp [intOf]; omega
                    · have h5 : j = 7 := by omega
                      subst h5
                      go_wp2_with fail
                      refine bodyPost_end (results_none rfl _ _ _) rfl ⟨rfl, ?_, hr, hb⟩
                      rw [hR.out]
                      exact hl
end Go.Proofs.Ytfpigemikpbbhaa
