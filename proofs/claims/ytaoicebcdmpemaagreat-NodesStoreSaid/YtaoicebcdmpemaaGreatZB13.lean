/-
 Merged: lemmas of this claim.
 Conditions: none.
-/
import Derived.Test.YtaoicebcdmpemaaGreatZB12
import Derived.Laws.Rows
import Derived.Laws.Tables
import Derived.Deep.WholeRow
import Derived.Test.YtaoicebcdmpemaaGreatZB0
namespace Go.Proofs.YtaoicebcdmpemaaGreat
set_option maxRecDepth 20000
set_option maxHeartbeats 1000000
open Go.RowKit Mono
open Kec (L St rotl)
def Reg (w : World) (g : Nat) (t : TypeId) (l : BitVec 8) : Prop := w.heap[g]? = some (.cells #[.int .u8 (l.toNat : Int)] t (0, 0))
section
variable {w w' : World} {g : Nat} {t : TypeId} {l : BitVec 8}
theorem Reg.lt (h : Reg w g t l) : g < w.heap.size := by
 rcases KP g w.heap.size with h1 | h1
 · exact h1
 · unfold Reg at h; rw [Array.getElem?_eq_none h1] at h; cases h
theorem Reg.cell (h : Reg w g t l) : w.cell? ⟨g, 0, none⟩ = some (.int .u8 (l.toNat : Int)) := by
 rw [cell_of_row w g 0 _ t (0, 0) h]
 rfl
theorem Reg.frozen (h : Reg w g t l) : w.frozen? ⟨g, 0, none⟩ = false := by
 unfold Reg at h
 simp [World.frozen?, h]
theorem Reg.gr (h : Reg w g t l) (hg : Gr w w') : Reg w' g t l := (hg.block g h.lt).trans h
theorem Reg.set (h : Reg w g t l) (v : BitVec 8) : Reg (w.setCell ⟨g, 0, none⟩ (.int .u8 (v.toNat : Int))) g t v := by
 unfold Reg at h ⊢
 simp [World.setCell, Array.getElem?_modify, h]
theorem Reg.far (h : Reg w g t l) {p : Addr} (hp : g ≠ p.block) (v : Value) : Reg (w.setCell p v) g t l := (Below.heap_setCell w p v g hp).trans h
end
theorem Gt : ∀ q : BitVec 8, bits .and .u8 (q.toNat : Int) 1 = if q &&& 1 = 1 then 1 else 0 := by decide +kernel
theorem DX : ∀ q : BitVec 8, bits .and .u8 (q.toNat : Int) 128 = if q &&& 128 ≠ 0 then 128 else 0 := by decide +kernel
theorem Aq : ∀ q : BitVec 8, bits .xor .u8 (q.toNat : Int) 113 = ((q ^^^ 0x71).toNat : Int) := by decide +kernel
theorem xX (q : BitVec 8) : (q.toNat : Int) * (2 : Int) % (256 : Int) = ((q <<< 1).toNat : Int) := by
 have h : (q <<< 1).toNat = q.toNat * 2 % 256 := by rw [BitVec.toNat_shiftLeft, Nat.shiftLeft_eq]
 rw [h]
 omega
theorem Reg.high {w : World} {g : Nat} {t : TypeId} {q : BitVec 8} (h : Reg w g t q) (hb : q &&& 128 ≠ 0) :
  Reg ((w.setCell ⟨g, 0, none⟩ (.int .u8 ((q.toNat : Int) * 2 % 256))).setCell ⟨g, 0, none⟩ (.int .u8 (bits .xor .u8 ((q.toNat : Int) * 2 % 256) 113))) g t (Kec.lf q) := by
 rw [xX, Aq, show Kec.lf q = (q <<< 1) ^^^ 0x71 from if_pos hb]
 exact (h.set _).set _
theorem Reg.low {w : World} {g : Nat} {t : TypeId} {q : BitVec 8} (h : Reg w g t q) (hb : ¬ q &&& 128 ≠ 0) :
  Reg (w.setCell ⟨g, 0, none⟩ (.int .u8 ((q.toNat : Int) * 2 % 256))) g t (Kec.lf q) := by
 rw [xX, show Kec.lf q = q <<< 1 from if_neg hb]
 exact h.set _
theorem xZ {w : World} {g : Nat} {t : TypeId} {f : St} (h : aB w g t 25 f) (x : L) (n : Int) (hn : n = u x) : aB (w.setCell ⟨g, 0, none⟩ (.int .u64 (bits .xor .u64 (u (f 0)) n))) g t 25 (Kec.upd f 0 (f 0 ^^^ x)) := by
 subst hn
 rw [iK]
 exact h.set 0 _
theorem JU (k : Nat) (h : k < 24) : 0 ≤ ((k : Int) + 1) * ((k : Int) + 2) ∧ ((k : Int) + 1) * ((k : Int) + 2) ≤ 600 := by
 have h1 : (k + 1) * (k + 2) ≤ 24 * 25 := Nat.mul_le_mul (by omega) (by omega)
 have h2 : ((k : Int) + 1) * ((k : Int) + 2) = (((k + 1) * (k + 2) : Nat) : Int) := by simp
 rw [h2]
 omega
theorem mvL (a : St) (k : Nat) : (Kec.mv a k).x < 5 ∧ (Kec.mv a k).y < 5 := by
 induction k with
 | zero => simp [Kec.mv]
 | succ k ih => exact ⟨ih.2, Nat.mod_lt _ (by decide)⟩
theorem y5 (g gl : Nat) (t tl : TypeId) (s : St) (l : BitVec 8) (w : World) (hl : aB w g t 25 s) (hr : Reg w gl tl l) (hlt : g < gl) :
  Calls Tryz.prog 112 #[.pointer (some ⟨g, 0, none⟩), .pointer (some ⟨gl, 0, none⟩)] w (Fq fun w' => aB w' g t 25 (Kec.nH s l) ∧ Reg w' gl tl (Kec.lfn l 7) ∧ Below g w w') := by
 have hg := hl.lt
 have hgl := hr.lt
 have HL := Lib.hid hl
 have HR := Lib.hid hr
 clear hl hr
 go_enter Tryz.func112, Tryz.ntmps112
 go_wp2
 go_loopw [5] (fun i wr => ∃ k : Nat, k ≤ 5 ∧ i = .int .i64 k ∧ aB wr w.heap.size 218 5 (aZ (Kec.col s) k) ∧ Gr w wr) (fun i _ => 5 - (intOf i).toNat)
 case atStart => exact ⟨0, by omega, rfl, by rw [fQ]; exact dX w 218 5 _ rfl, aH w _⟩
 case round =>
  obtain ⟨k, hk, rfl, hc, hb⟩ := hrel
  have hbs := hb.size
  have HC := Lib.hid hc
  have HB := Lib.hid hb
  have hcl := hc.lt
  clear hc hb
  by_cases h1 : k < 5
  ·
   have c0 := au (w := wr) (p := ⟨g, k, none⟩) (by dsimp only; omega) ((HL.out.gr HB.out).cell k (by omega))
   have c1 := au (w := wr) (p := ⟨g, k + 5, none⟩) (by dsimp only; omega) ((HL.out.gr HB.out).cell (k + 5) (by omega))
   have c2 := au (w := wr) (p := ⟨g, k + 10, none⟩) (by dsimp only; omega) ((HL.out.gr HB.out).cell (k + 10) (by omega))
   have c3 := au (w := wr) (p := ⟨g, k + 15, none⟩) (by dsimp only; omega) ((HL.out.gr HB.out).cell (k + 15) (by omega))
   have c4 := au (w := wr) (p := ⟨g, k + 20, none⟩) (by dsimp only; omega) ((HL.out.gr HB.out).cell (k + 20) (by omega))
   unfold lv at c0 c1 c2 c3 c4
   go_wp2
   refine aS 35 (by kernel_rfl) (by kernel_rfl) (by kernel_rfl) ?_
   simp only [J5, J9, J4, J7]
   refine aT 35 (by kernel_rfl) ?_
   simp only [J5, J9, J4, J7]
   repeat (go_big_quiet_step (fail))
   refine wpQuiet_nil ?_
   refine cu (by kernel_rfl) ?_
   intro W hW
   replace hW := hW.gr
   unfold jI
   rename_i wq hW
   have HQ := Lib.hid (HC.out.gr hW)
   have e2 := HQ.out.frozen k
   have e1 := HQ.out.cell k (by omega)
   unfold lv at e1
   go_wp2
   go_roundw
   case rel =>
    rw [F9]
    refine ⟨k + 1, by omega, by go_num, ?_, ?_⟩
    ·
     rw [← fU]
     exact HQ.out.set k (Kec.col s k)
    · exact (Only.set (g := w.heap.size) _ k _).gr (HB.out.trans hW) (Nat.le_refl _)
   case measure => simp [intOf]; omega
  ·
   have h5 : k = 5 := by omega
   subst h5
   go_wp2_with fail
   obtain ⟨wo, rfl⟩ : ∃ wo : World, wo = wr := ⟨_, rfl⟩
   go_loopw [6] (fun i wr => ∃ k : Nat, k ≤ 5 ∧ i = .int .i64 k ∧ aB wr w.heap.size 218 5 (aZ (Kec.col s) 5) ∧ aB wr g t 25 (Kec.th (Kec.col s) s k) ∧ Reg wr gl tl l ∧ Below g w wr) (fun i _ => 5 - (intOf i).toNat)
   case atStart => exact ⟨0, by omega, rfl, HC.out, HL.out.gr HB.out, HR.out.gr HB.out, HB.out.mono (by omega)⟩
   case round =>
    clear HB HC
    obtain ⟨k, hk, rfl, hc, hl, hr, hb⟩ := hrel
    have hbs := hb.size
    have HC := Lib.hid hc
    have HM := Lib.hid hl
    have HG := Lib.hid hr
    have HB := Lib.hid hb
    have hcl := hc.lt
    clear hc hl hr hb
    by_cases h1 : k < 5
    ·
     have c0 := au (w := wr) (p := ⟨w.heap.size, (k + 4) % 5, none⟩) (by dsimp only; omega) (HC.out.cell ((k + 4) % 5) (by omega))
     have c1 := au (w := wr) (p := ⟨w.heap.size, (k + 1) % 5, none⟩) (by dsimp only; omega) (HC.out.cell ((k + 1) % 5) (by omega))
     unfold lv at c0 c1
     obtain ⟨d, hd⟩ : ∃ d : L, d = Kec.col s ((k + 4) % 5) ^^^ rotl (Kec.col s ((k + 1) % 5)) 1 := ⟨_, rfl⟩
     have HD := Lib.hid hd
     clear hd
     go_wp2
     refine aS 13 (by kernel_rfl) (by kernel_rfl) (by kernel_rfl) ?_
     simp only [J5, J9, J4, J7]
     refine aT 10 (by kernel_rfl) ?_
     simp only [J5, J9, J4, J7]
     repeat (go_big_quiet_step (fail))
     refine wpQuiet_nil ?_
     refine mO (.int .u64 (u (rotl (aZ (Kec.col s) 5 ((k + 1) % 5)) 1))) rfl (by kernel_rfl) (by kernel_rfl) (fun xw => ?_) ?_
     ·
      refine eY (by simp [go_sem]) ((rol (aZ (Kec.col s) 5 ((k + 1) % 5)) 1 (by omega) _).mono ?_)
      rintro e w' ⟨rfl, rfl⟩
      exact ⟨_, rfl, Gr.refl _, rfl⟩
     simp only [Act.put, MP, L9, MJ]
     refine aT 2 (by kernel_rfl) ?_
     simp only [J5, J9, J4, J7]
     repeat (go_big_quiet_step (fail))
     refine wpQuiet_nil ?_
     refine cu (by kernel_rfl) ?_
     intro W hW
     replace hW := hW.gr
     unfold jI
     have hf : bits .xor .u64 (u (aZ (Kec.col s) 5 ((k + 4) % 5))) (u (rotl (aZ (Kec.col s) 5 ((k + 1) % 5)) 1)) = u d := by
      rw [iK, HD.out]
      unfold aZ
      rw [if_pos (by omega), if_pos (by omega)]
     rw [hf]
     clear hf c0 c1
     rename_i hW
     have hBW := HB.out.trans (hW.mono (by omega : g ≤ wr.heap.size))
     have hs2 := hW.size
     have HC2 := Lib.hid (HC.out.gr hW)
     have HM2 := Lib.hid (HM.out.gr hW)
     have HG2 := Lib.hid (HG.out.gr hW)
     have HB2 := Lib.hid hBW
     clear HC HM HG HB hBW hW
     go_wp2_with fail
     go_loopw [8] (fun i wr => ∃ m : Nat, m ≤ 5 ∧ i = .int .i64 (5 * m : Nat) ∧ aB wr w.heap.size 218 5 (aZ (Kec.col s) 5) ∧ aB wr g t 25 (Kec.th1 d k (Kec.th (Kec.col s) s k) m) ∧ Reg wr gl tl l ∧ Below g w wr) (fun i _ => 25 - (intOf i).toNat)
     case atStart => exact ⟨0, by omega, rfl, HC2.out, HM2.out, HG2.out, HB2.out⟩
     case round =>
      clear HC2 HM2 HG2 HB2
      obtain ⟨m, hm, rfl, hc, hl, hr, hb⟩ := hrel
      have hbs := hb.size
      have HC := Lib.hid hc
      have HM := Lib.hid hl
      have HG := Lib.hid hr
      have HB := Lib.hid hb
      have hcl := hc.lt
      clear hc hl hr hb
      by_cases h2 : m < 5
      ·
       have c0 := au (w := wr) (p := ⟨g, k + 5 * m, none⟩) (by dsimp only; omega) (HM.out.cell (k + 5 * m) (by omega))
       unfold lv at c0
       go_wp2
       refine aS 15 (by kernel_rfl) (by kernel_rfl) (by kernel_rfl) ?_
       simp only [J5, J9, J4, J7]
       refine aT 15 (by kernel_rfl) ?_
       simp only [J5, J9, J4, J7]
       repeat (go_big_quiet_step (fail))
       refine wpQuiet_nil ?_
       refine cu (by kernel_rfl) ?_
       intro W hW
       replace hW := hW.gr
       unfold jI
       rename_i hW
       have HQ := Lib.hid (HM.out.gr hW)
       have e2 := HQ.out.frozen (k + 5 * m)
       have e1 := HQ.out.cell (k + 5 * m) (by omega)
       unfold lv at e1
       go_wp2
       go_roundw
       case rel =>
        rw [iK]
        refine ⟨m + 1, by omega, by go_num, ?_, ?_, ?_, ?_⟩
        · exact (HC.out.gr hW).far (by dsimp only; omega) _
        · exact HQ.out.set (k + 5 * m) _
        · exact (HG.out.gr hW).far (by dsimp only; omega) _
        · exact (HB.out.trans (hW.mono (by omega))).setCell (Nat.le_refl _) _
       case measure => simp [intOf]; omega
      ·
       have h5 : m = 5 := by omega
       subst h5
       go_wp2_with fail
       go_roundw
       case rel =>
        refine ⟨k + 1, by omega, by go_num, HC.out, ?_, HG.out, HB.out⟩
        have := HM.out
        rw [HD.out] at this
        exact this
       case measure => simp [intOf]; omega
    ·
     have h5 : k = 5 := by omega
     subst h5
     have hw := mvL (Kec.th (Kec.col s) s 5)
     have hR : Hid (Kec.nH s l = Kec.io (Kec.ch (Kec.mv (Kec.th (Kec.col s) s 5) 24).a 5) l 7) := Lib.hid rfl
     generalize Kec.th (Kec.col s) s 5 = a at HM hw hR
     have c0 := HM.out.cell 1 (by omega)
     unfold lv at c0
     go_wp2_with fail
     clear c0
     go_loopw [9, 10, 11, 12] (fun vx vy vc i wr => ∃ k : Nat, k ≤ 24 ∧ i = .int .i64 k ∧ vx = .int .i64 (Kec.mv a k).x ∧ vy = .int .i64 (Kec.mv a k).y ∧ vc = .int .u64 (u (Kec.mv a k).cur) ∧ aB wr g t 25 (Kec.mv a k).a ∧ Reg wr gl tl l ∧ Below g w wr) (fun _ _ _ i _ => 24 - (intOf i).toNat)
     case atStart => exact ⟨0, by omega, rfl, rfl, rfl, rfl, HM.out, HG.out, HB.out⟩
     case round =>
      clear HM HG HB HC
      obtain ⟨k, hk, rfl, rfl, rfl, rfl, hl, hr, hb⟩ := hrel
      have hst : Hid (Kec.mv a (k + 1) = ⟨(Kec.mv a k).y, (2 * (Kec.mv a k).x + 3 * (Kec.mv a k).y) % 5, (Kec.mv a k).a ((Kec.mv a k).y + 5 * ((2 * (Kec.mv a k).x + 3 * (Kec.mv a k).y) % 5)),
       Kec.upd (Kec.mv a k).a ((Kec.mv a k).y + 5 * ((2 * (Kec.mv a k).x + 3 * (Kec.mv a k).y) % 5)) (rotl (Kec.mv a k).cur ((k + 1) * (k + 2) / 2 % 64))⟩) := Lib.hid rfl
      obtain ⟨hx, hy⟩ := hw k
      by_cases h2 : k < 24
      ·
       clear hw
       generalize (Kec.mv a k).x = x at *
       generalize (Kec.mv a k).y = y at *
       generalize (Kec.mv a k).cur = cur at *
       generalize (Kec.mv a k).a = b at *
       have hbs := hb.size
       have HM := Lib.hid hl
       have HG := Lib.hid hr
       have HB := Lib.hid hb
       clear hl hr hb
       have c0 := HM.out.cell (y + 5 * ((2 * x + 3 * y) % 5)) (by omega)
       unfold lv at c0
       obtain ⟨hm1, hm2⟩ := JU k h2
       go_wp2
       refine aS 17 (by kernel_rfl) (by kernel_rfl) (by kernel_rfl) ?_
       simp only [J5, J9, J4, J7]
       refine aT 14 (by kernel_rfl) ?_
       simp only [J5, J9, J4, J7]
       repeat (go_big_quiet_step (fail))
       refine wpQuiet_nil ?_
       refine mO (.int .u64 (u (rotl cur ((k + 1) * (k + 2) / 2 % 64)))) rfl (by kernel_rfl) (by kernel_rfl) (fun xw => ?_) ?_
       ·
        refine eY (by simp [go_sem]) ((rol cur ((k + 1) * (k + 2) / 2 % 64) (by omega) _).mono ?_)
        rintro e w' ⟨rfl, rfl⟩
        exact ⟨_, rfl, Gr.refl _, rfl⟩
       simp only [Act.put, MP, L9, MJ]
       refine aT 2 (by kernel_rfl) ?_
       simp only [J5, J9, J4, J7]
       repeat (go_big_quiet_step (fail))
       refine wpQuiet_nil ?_
       refine cu (by kernel_rfl) ?_
       intro W hW
       replace hW := hW.gr
       unfold jI
       rename_i hW
       have HQ := Lib.hid (HM.out.gr hW)
       have e2 := HQ.out.frozen (y + 5 * ((2 * x + 3 * y) % 5))
       have e1 := HQ.out.cell (y + 5 * ((2 * x + 3 * y) % 5)) (by omega)
       unfold lv at e1
       go_wp2
       go_roundw
       case rel =>
        have H := hst.out
        refine ⟨k + 1, by omega, by go_num, by rw [H], by rw [H]; simp, by rw [H], ?_, ?_, ?_⟩
        ·
         rw [H]
         exact HQ.out.set _ _
        · exact (HG.out.gr hW).far (by dsimp only; omega) _
        · exact (HB.out.trans (hW.mono (by omega))).setCell (Nat.le_refl _) _
       case measure => simp [intOf]; omega
      ·
       have h5 : k = 24 := by omega
       subst h5
       clear hw hst
       generalize (Kec.mv a 24).x = x at *
       generalize (Kec.mv a 24).y = y at *
       generalize (Kec.mv a 24).cur = cur at *
       generalize (Kec.mv a 24).a = a2 at *
       clear hx hy
       have HM := Lib.hid hl
       have HG := Lib.hid hr
       have HB := Lib.hid hb
       clear hl hr hb
       go_wp2_with fail
       go_loopw [16] (fun i wr => ∃ k : Nat, k ≤ 5 ∧ i = .int .i64 (5 * k : Nat) ∧ aB wr g t 25 (Kec.ch a2 k) ∧ Reg wr gl tl l ∧ Below g w wr) (fun i _ => 25 - (intOf i).toNat)
       case atStart => exact ⟨0, by omega, rfl, HM.out, HG.out, HB.out⟩
       case round =>
        clear HM HG HB
        obtain ⟨k, hk, rfl, hl, hr, hb⟩ := hrel
        by_cases h3 : k < 5
        ·
         have hst : Hid (Kec.ch a2 (k + 1) = Kec.ch1 (fun x => Kec.ch a2 k (x + 5 * k)) (Kec.ch a2 k) (5 * k) 5) := Lib.hid rfl
         generalize Kec.ch a2 k = b at *
         have hbs := hb.size
         have HM := Lib.hid hl
         have HG := Lib.hid hr
         have HB := Lib.hid hb
         have hgl2 := hr.lt
         have hg2 := hl.lt
         clear hl hr hb
         go_wp2_with fail
         obtain ⟨wo, rfl⟩ : ∃ wo : World, wo = wr := ⟨_, rfl⟩
         go_loopw [18] (fun i wr => ∃ m : Nat, m ≤ 5 ∧ i = .int .i64 m ∧ aB wr wo.heap.size 218 5 (aZ (fun x => b (x + 5 * k)) m) ∧ Gr wo wr) (fun i _ => 5 - (intOf i).toNat)
         case atStart => exact ⟨0, by omega, rfl, by rw [fQ]; exact dX wo 218 5 _ rfl, aH wo _⟩
         case round =>
          obtain ⟨m, hm, rfl, hc, hb⟩ := hrel
          have hcl := hc.lt
          have HC := Lib.hid hc
          have HO := Lib.hid hb
          clear hc hb
          by_cases h4 : m < 5
          ·
           have c0 := (HM.out.gr HO.out).cell (m + 5 * k) (by omega)
           have e2 := HC.out.frozen m
           have e1 := HC.out.cell m (by omega)
           unfold lv at c0 e1
           go_wp2
           go_roundw
           case rel =>
            refine ⟨m + 1, by omega, by go_num, ?_, ?_⟩
            ·
             rw [← fU]
             exact HC.out.set m _
            · exact (Only.set (g := wo.heap.size) _ m _).gr HO.out (Nat.le_refl _)
           case measure => simp [intOf]; omega
          ·
           have h5 : m = 5 := by omega
           subst h5
           have HM2 := Lib.hid (HM.out.gr HO.out)
           have HG2 := Lib.hid (HG.out.gr HO.out)
           have HB2 := Lib.hid (HB.out.trans (HO.out.mono (by omega : g ≤ wo.heap.size)))
           clear HM HG HB HO
           go_wp2_with fail
           go_loopw [19] (fun i wr => ∃ m : Nat, m ≤ 5 ∧ i = .int .i64 m ∧ aB wr wo.heap.size 218 5 (aZ (fun x => b (x + 5 * k)) 5) ∧ aB wr g t 25 (Kec.ch1 (fun x => b (x + 5 * k)) b (5 * k) m) ∧ Reg wr gl tl l ∧ Below g w wr) (fun i _ => 5 - (intOf i).toNat)
           case atStart => exact ⟨0, by omega, rfl, HC.out, HM2.out, HG2.out, HB2.out⟩
           case round =>
            clear HC HM2 HG2 HB2
            obtain ⟨m, hm, rfl, hc, hl, hr, hb⟩ := hrel
            have hcl := hc.lt
            have hll := hl.lt
            have HC := Lib.hid hc
            have HM := Lib.hid hl
            have HG := Lib.hid hr
            have HB := Lib.hid hb
            clear hc hl hr hb
            by_cases h4 : m < 5
            ·
             have c0 := au (w := wr) (p := ⟨wo.heap.size, m, none⟩) hcl (HC.out.cell m (by omega))
             have c1 := au (w := wr) (p := ⟨wo.heap.size, (m + 1) % 5, none⟩) hcl (HC.out.cell ((m + 1) % 5) (by omega))
             have c2 := au (w := wr) (p := ⟨wo.heap.size, (m + 2) % 5, none⟩) hcl (HC.out.cell ((m + 2) % 5) (by omega))
             unfold lv at c0 c1 c2
             go_wp2
             refine aS 22 (by kernel_rfl) (by kernel_rfl) (by kernel_rfl) ?_
             simp only [J5, J9, J4, J7]
             refine aT 22 (by kernel_rfl) ?_
             simp only [J5, J9, J4, J7]
             repeat (go_big_quiet_step (fail))
             refine wpQuiet_nil ?_
             refine cu (by kernel_rfl) ?_
             intro W hW
             replace hW := hW.gr
             unfold jI
             rename_i hW
             have HQ := Lib.hid (HM.out.gr hW)
             have e2 := HQ.out.frozen (m + 5 * k)
             have e1 := HQ.out.cell (m + 5 * k) (by omega)
             unfold lv at e1
             go_wp2
             go_roundw
             case rel =>
              have f : ∀ j, j < 5 → aZ (fun x => b (x + 5 * k)) 5 j = b (j + 5 * k) := fun j hj => if_pos hj
              rw [f m h4, f _ (by omega), f _ (by omega), F8, Ap, iK]
              exact ⟨m + 1, by omega, by go_num, (HC.out.gr hW).far (by dsimp only; omega) _, HQ.out.set _ _, (HG.out.gr hW).far (by dsimp only; omega) _, (HB.out.trans (hW.mono (by omega))).setCell (Nat.le_refl _) _⟩
             case measure => simp [intOf]; omega
            ·
             have h5 : m = 5 := by omega
             subst h5
             go_wp2_with fail
             go_roundw
             case rel =>
              refine ⟨k + 1, by omega, by go_num, ?_, HG.out, HB.out⟩
              rw [hst.out]
              exact HM.out
             case measure => simp [intOf]; omega
        ·
         have h5 : k = 5 := by omega
         subst h5
         generalize Kec.ch a2 5 = c at *
         have HM := Lib.hid hl
         have HG := Lib.hid hr
         have HB := Lib.hid hb
         clear hl hr hb
         go_wp2_with fail
         go_loopw [20] (fun i wr => ∃ j : Nat, j ≤ 7 ∧ i = .int .i64 j ∧ aB wr g t 25 (Kec.io c l j) ∧ Reg wr gl tl (Kec.lfn l j) ∧ Below g w wr) (fun i _ => 7 - (intOf i).toNat)
         case atStart => exact ⟨0, by omega, rfl, HM.out, HG.out, HB.out⟩
         case round =>
          clear HM HG HB
          obtain ⟨j, hj, rfl, hl, hr, hb⟩ := hrel
          by_cases h3 : j < 7
          ·
           have hst : Hid (Kec.io c l (j + 1) = if Kec.lfn l j &&& 1 = 1 then Kec.upd (Kec.io c l j) 0 (Kec.io c l j 0 ^^^ (1 : L) <<< (2 ^ j - 1)) else Kec.io c l j) := Lib.hid rfl
           have hst2 : Hid (Kec.lfn l (j + 1) = Kec.lf (Kec.lfn l j)) := Lib.hid rfl
           generalize Kec.lfn l j = q at *
           generalize Kec.io c l j = b at *
           have hgl2 := hr.lt
           have hg2 := hl.lt
           have HM := Lib.hid hl
           have HG := Lib.hid hr
           have HB := Lib.hid hb
           have e1 := hr.cell
           have e2 := hr.frozen
           clear hl hr hb
           have k1 := Gt q
           have k2 := DX q
           by_cases b1 : q &&& 1 = 1
           ·
            rw [if_pos b1] at k1 hst
            by_cases b2 : q &&& 128 ≠ 0
            ·
             rw [if_pos b2] at k2
             go_wp2
             have HZ := Lib.hid ((HM.out.far (p := ⟨gl, 0, none⟩) (by dsimp only; omega) (Value.int .u8 ((q.toNat : Int) * 2 % 256))).far (p := ⟨gl, 0, none⟩) (by dsimp only; omega) (Value.int .u8 (bits .xor .u8 ((q.toNat : Int) * 2 % 256) 113)))
             have HG2 := Lib.hid (HG.out.high b2)
             have HB2 := Lib.hid ((HB.out.setCell (p := ⟨gl, 0, none⟩) (by dsimp only; omega) (Value.int .u8 ((q.toNat : Int) * 2 % 256))).setCell (p := ⟨gl, 0, none⟩) (by dsimp only; omega) (Value.int .u8 (bits .xor .u8 ((q.toNat : Int) * 2 % 256) 113)))
             have hz := HZ.out.lt
             have c0 := au (p := ⟨g, 0, none⟩) hz (HZ.out.cell 0 (by omega))
             unfold lv at c0
             have h7 : j = 0 ∨ j = 1 ∨ j = 2 ∨ j = 3 ∨ j = 4 ∨ j = 5 ∨ j = 6 := by omega
             rcases h7 with rfl | rfl | rfl | rfl | rfl | rfl | rfl
             all_goals
              refine aS 13 (by kernel_rfl) (by kernel_rfl) (by kernel_rfl) ?_
              simp only [J5, J9, J4, J7]
              refine aT 13 (by kernel_rfl) ?_
              simp only [J5, J9, J4, J7]
              repeat (go_big_quiet_step (fail))
              refine wpQuiet_nil ?_
              refine cu (by kernel_rfl) ?_
              intro W hW
              replace hW := hW.gr
              unfold jI
              rename_i hW
              have HQ := Lib.hid (HZ.out.gr hW)
              have e2 := HQ.out.frozen 0
              have e1 := HQ.out.cell 0 (by omega)
              unfold lv at e1
              go_wp2
              go_roundw
              case rel =>
               refine ⟨_ + 1, ?_, by go_num, ?_, ?_, ?_⟩
               · omega
               ·
                rw [hst.out]
                exact xZ HQ.out _ _ rfl
               ·
                rw [hst2.out]
                exact (HG2.out.gr hW).far (by dsimp only; omega) _
               · exact (HB2.out.trans (hW.mono (by omega))).setCell (Nat.le_refl _) _
              case measure => simp [intOf]
            ·
             rw [if_neg b2] at k2
             go_wp2
             have HZ := Lib.hid (HM.out.far (p := ⟨gl, 0, none⟩) (by dsimp only; omega) (Value.int .u8 ((q.toNat : Int) * 2 % 256)))
             have HG2 := Lib.hid (HG.out.low b2)
             have HB2 := Lib.hid (HB.out.setCell (p := ⟨gl, 0, none⟩) (by dsimp only; omega) (Value.int .u8 ((q.toNat : Int) * 2 % 256)))
             have hz := HZ.out.lt
             have c0 := au (p := ⟨g, 0, none⟩) hz (HZ.out.cell 0 (by omega))
             unfold lv at c0
             have h7 : j = 0 ∨ j = 1 ∨ j = 2 ∨ j = 3 ∨ j = 4 ∨ j = 5 ∨ j = 6 := by omega
             rcases h7 with rfl | rfl | rfl | rfl | rfl | rfl | rfl
             all_goals
              refine aS 13 (by kernel_rfl) (by kernel_rfl) (by kernel_rfl) ?_
              simp only [J5, J9, J4, J7]
              refine aT 13 (by kernel_rfl) ?_
              simp only [J5, J9, J4, J7]
              repeat (go_big_quiet_step (fail))
              refine wpQuiet_nil ?_
              refine cu (by kernel_rfl) ?_
              intro W hW
              replace hW := hW.gr
              unfold jI
              rename_i hW
              have HQ := Lib.hid (HZ.out.gr hW)
              have e2 := HQ.out.frozen 0
              have e1 := HQ.out.cell 0 (by omega)
              unfold lv at e1
              go_wp2
              go_roundw
              case rel =>
               refine ⟨_ + 1, ?_, by go_num, ?_, ?_, ?_⟩
               · omega
               ·
                rw [hst.out]
                exact xZ HQ.out _ _ rfl
               ·
                rw [hst2.out]
                exact (HG2.out.gr hW).far (by dsimp only; omega) _
               · exact (HB2.out.trans (hW.mono (by omega))).setCell (Nat.le_refl _) _
              case measure => simp [intOf]
           ·
            rw [if_neg b1] at k1 hst
            by_cases b2 : q &&& 128 ≠ 0
            ·
             rw [if_pos b2] at k2
             go_wp2
             go_roundw
             case rel =>
              refine ⟨j + 1, by omega, by go_num, ?_, ?_, ?_⟩
              ·
               rw [hst.out]
               exact (HM.out.far (by dsimp only; omega) _).far (by dsimp only; omega) _
              ·
               rw [hst2.out]
               exact HG.out.high b2
              · exact (HB.out.setCell (by dsimp only; omega) _).setCell (by dsimp only; omega) _
             case measure => simp [intOf]; omega
            ·
             rw [if_neg b2] at k2
             go_wp2
             go_roundw
             case rel =>
              refine ⟨j + 1, by omega, by go_num, ?_, ?_, ?_⟩
              ·
               rw [hst.out]
               exact HM.out.far (by dsimp only; omega) _
              ·
               rw [hst2.out]
               exact HG.out.low b2
              · exact HB.out.setCell (by dsimp only; omega) _
             case measure => simp [intOf]; omega
          ·
           have h5 : j = 7 := by omega
           subst h5
           go_wp2_with fail
           refine bodyPost_end (results_none rfl _ _ _) rfl ⟨rfl, ?_, hr, hb⟩
           rw [hR.out]
           exact hl
theorem JV {w w' : World} {g gt : Nat} {t : TypeId} (h : Only g w w') (ht : Turns w gt t) (hne : gt ≠ g) : Turns w' gt t := (h.block gt ht.lt (fun e => hne (by injection e))).trans ht
def aN : Array Value := ((List.range 24).map fun k => Value.int .u64 (u (Kec.rc k))).toArray
theorem iJ {P : Program} {ops : Array Oper} {rest : List Oper} {o : Oper} {a : Act} {w : World} {Q : Exit → Act → World → Prop} (cells : Array Value) (d : Tmp) (t : TypeId) (parts : Array (Nat × Operand)) (hg : o.guard = none) (ho : o.op = .build t parts) (hd : o.dst = some d)
  (hf : P.built t (parts.map fun (i, x) => (i, a.eval x)).toList = some cells) (h : wpList P ops Q rest (a.put (some d) (.agg cells)) w) : wpList P ops Q (o :: rest) a w := by
 refine wpList_build hg t parts ho (by rw [hf]; rfl) ?_
 rw [hf, hd]
 exact h
theorem zB (w : World) : Calls Tryz.prog 169 #[] w (Ret (fun v _ => v = .agg dH) w) := by
 go_enter Tryz.func169, Tryz.ntmps169
 go_wp2_with first
  | refine iJ dH 1 239 _ rfl rfl rfl (by kernel_rfl) ?_
  | refine wpList_store_row rfl 239 (.tmp 0) (.tmp 1) rfl w.heap.size dH rfl rfl 239 _ (heap_alloc_new w _) (by kernel_rfl) (by kernel_rfl) (by kernel_rfl) ?_
 rw [World.setRow_alloc_new]
 exact bodyPost_ret (results_cell_row rfl _ _ w.heap.size 239 dH (0, 0) _ rfl (heap_alloc_new w _) rfl rfl (by kernel_rfl)) rfl ⟨_, rfl, aH w _, rfl⟩
theorem xu (w : World) : Calls Tryz.prog 170 #[] w (Ret (fun v _ => v = .agg aN) w) := by
 go_enter Tryz.func170, Tryz.ntmps170
 go_wp2_with first
  | refine iJ aN 1 241 _ rfl rfl rfl (by kernel_rfl) ?_
  | refine wpList_store_row rfl 241 (.tmp 0) (.tmp 1) rfl w.heap.size aN rfl rfl 241 _ (heap_alloc_new w _) (by kernel_rfl) (by kernel_rfl) (by kernel_rfl) ?_
 rw [World.setRow_alloc_new]
 exact bodyPost_ret (results_cell_row rfl _ _ w.heap.size 241 aN (0, 0) _ rfl (heap_alloc_new w _) rfl rfl (by kernel_rfl)) rfl ⟨_, rfl, aH w _, rfl⟩
theorem zo (w : World) : (Instr.index 241 (.agg aN) (.int .i64 ((0 : Nat) : Int))).run Tryz.prog w = .ok (.int .u64 (u (Kec.rc 0))) w := by kernel_rfl
theorem zn (w : World) : (Instr.index 241 (.agg aN) (.int .i64 ((1 : Nat) : Int))).run Tryz.prog w = .ok (.int .u64 (u (Kec.rc 1))) w := by kernel_rfl
theorem zl (w : World) : (Instr.index 241 (.agg aN) (.int .i64 ((2 : Nat) : Int))).run Tryz.prog w = .ok (.int .u64 (u (Kec.rc 2))) w := by kernel_rfl
theorem zk (w : World) : (Instr.index 241 (.agg aN) (.int .i64 ((3 : Nat) : Int))).run Tryz.prog w = .ok (.int .u64 (u (Kec.rc 3))) w := by kernel_rfl
theorem zi (w : World) : (Instr.index 241 (.agg aN) (.int .i64 ((4 : Nat) : Int))).run Tryz.prog w = .ok (.int .u64 (u (Kec.rc 4))) w := by kernel_rfl
theorem zh (w : World) : (Instr.index 241 (.agg aN) (.int .i64 ((5 : Nat) : Int))).run Tryz.prog w = .ok (.int .u64 (u (Kec.rc 5))) w := by kernel_rfl
theorem zf (w : World) : (Instr.index 241 (.agg aN) (.int .i64 ((6 : Nat) : Int))).run Tryz.prog w = .ok (.int .u64 (u (Kec.rc 6))) w := by kernel_rfl
theorem y9 (w : World) : (Instr.index 241 (.agg aN) (.int .i64 ((7 : Nat) : Int))).run Tryz.prog w = .ok (.int .u64 (u (Kec.rc 7))) w := by kernel_rfl
theorem y8 (w : World) : (Instr.index 241 (.agg aN) (.int .i64 ((8 : Nat) : Int))).run Tryz.prog w = .ok (.int .u64 (u (Kec.rc 8))) w := by kernel_rfl
theorem y7 (w : World) : (Instr.index 241 (.agg aN) (.int .i64 ((9 : Nat) : Int))).run Tryz.prog w = .ok (.int .u64 (u (Kec.rc 9))) w := by kernel_rfl
theorem wW (w : World) : (Instr.index 241 (.agg aN) (.int .i64 ((10 : Nat) : Int))).run Tryz.prog w = .ok (.int .u64 (u (Kec.rc 10))) w := by kernel_rfl
theorem wV (w : World) : (Instr.index 241 (.agg aN) (.int .i64 ((11 : Nat) : Int))).run Tryz.prog w = .ok (.int .u64 (u (Kec.rc 11))) w := by kernel_rfl
theorem wU (w : World) : (Instr.index 241 (.agg aN) (.int .i64 ((12 : Nat) : Int))).run Tryz.prog w = .ok (.int .u64 (u (Kec.rc 12))) w := by kernel_rfl
theorem wS (w : World) : (Instr.index 241 (.agg aN) (.int .i64 ((13 : Nat) : Int))).run Tryz.prog w = .ok (.int .u64 (u (Kec.rc 13))) w := by kernel_rfl
theorem wR (w : World) : (Instr.index 241 (.agg aN) (.int .i64 ((14 : Nat) : Int))).run Tryz.prog w = .ok (.int .u64 (u (Kec.rc 14))) w := by kernel_rfl
theorem wQ (w : World) : (Instr.index 241 (.agg aN) (.int .i64 ((15 : Nat) : Int))).run Tryz.prog w = .ok (.int .u64 (u (Kec.rc 15))) w := by kernel_rfl
theorem wP (w : World) : (Instr.index 241 (.agg aN) (.int .i64 ((16 : Nat) : Int))).run Tryz.prog w = .ok (.int .u64 (u (Kec.rc 16))) w := by kernel_rfl
theorem wO (w : World) : (Instr.index 241 (.agg aN) (.int .i64 ((17 : Nat) : Int))).run Tryz.prog w = .ok (.int .u64 (u (Kec.rc 17))) w := by kernel_rfl
theorem wM (w : World) : (Instr.index 241 (.agg aN) (.int .i64 ((18 : Nat) : Int))).run Tryz.prog w = .ok (.int .u64 (u (Kec.rc 18))) w := by kernel_rfl
theorem wK (w : World) : (Instr.index 241 (.agg aN) (.int .i64 ((19 : Nat) : Int))).run Tryz.prog w = .ok (.int .u64 (u (Kec.rc 19))) w := by kernel_rfl
theorem wJ (w : World) : (Instr.index 241 (.agg aN) (.int .i64 ((20 : Nat) : Int))).run Tryz.prog w = .ok (.int .u64 (u (Kec.rc 20))) w := by kernel_rfl
theorem wI (w : World) : (Instr.index 241 (.agg aN) (.int .i64 ((21 : Nat) : Int))).run Tryz.prog w = .ok (.int .u64 (u (Kec.rc 21))) w := by kernel_rfl
theorem wH (w : World) : (Instr.index 241 (.agg aN) (.int .i64 ((22 : Nat) : Int))).run Tryz.prog w = .ok (.int .u64 (u (Kec.rc 22))) w := by kernel_rfl
theorem wG (w : World) : (Instr.index 241 (.agg aN) (.int .i64 ((23 : Nat) : Int))).run Tryz.prog w = .ok (.int .u64 (u (Kec.rc 23))) w := by kernel_rfl
theorem AY (k : Nat) (hk : k < 24) (w : World) : (Instr.index 241 (.agg aN) (.int .i64 (k : Nat))).run Tryz.prog w = .ok (.int .u64 (u (Kec.rc k))) w := by
 match k, hk with
 | 0, _ => exact zo w
 | 1, _ => exact zn w
 | 2, _ => exact zl w
 | 3, _ => exact zk w
 | 4, _ => exact zi w
 | 5, _ => exact zh w
 | 6, _ => exact zf w
 | 7, _ => exact y9 w
 | 8, _ => exact y8 w
 | 9, _ => exact y7 w
 | 10, _ => exact wW w
 | 11, _ => exact wV w
 | 12, _ => exact wU w
 | 13, _ => exact wS w
 | 14, _ => exact wR w
 | 15, _ => exact wQ w
 | 16, _ => exact wP w
 | 17, _ => exact wO w
 | 18, _ => exact wM w
 | 19, _ => exact wK w
 | 20, _ => exact wJ w
 | 21, _ => exact wI w
 | 22, _ => exact wH w
 | 23, _ => exact wG w
 | k + 24, h => omega
theorem lW (g : Nat) (t : TypeId) (s : St) (w : World) (hl : aB w g t 25 s) :
  Calls Tryz.prog 143 #[.pointer (some ⟨g, 0, none⟩)] w (Fq fun w' => aB w' g t 25 (Kec.perm s 24) ∧ Only g w w') := by
 have HL := Lib.hid hl
 clear hl
 go_enter Tryz.func143, Tryz.ntmps143
 go_wp2_with fail
 refine (zB _).mono ?_
 rintro e w1 ⟨_, rfl, hg1, rfl⟩
 go_wp2_with refine wpList_store_row rfl 239 (.tmp 2) (.tmp 5) rfl w1.heap.size dH rfl rfl 239 _ (heap_alloc_new w1 _) (by kernel_rfl) (by kernel_rfl) (by kernel_rfl) ?_
 rw [World.setRow_alloc_new]
 refine (xu _).mono ?_
 rintro e w2 ⟨_, rfl, hg2, rfl⟩
 have HT : Hid (Turns w2 w1.heap.size 239) := Lib.hid (Turns.gr (w := w1.alloc (.cells dH 239)) (heap_alloc_new w1 _) hg2)
 have HG : Hid (Gr w w2) := Lib.hid ((hg1.trans (aH w1 _)).trans hg2)
 have hs1 := hg1.size
 have hs2 := HL.out.lt
 clear hg1 hg2
 go_wp2_with fail
 go_loopw [7] (fun i wr => ∃ k : Nat, k ≤ 24 ∧ i = .int .i64 k ∧ aB wr g t 25 (Kec.perm s k) ∧ Turns wr w1.heap.size 239 ∧ Only g w wr) (fun i _ => 24 - (intOf i).toNat)
 case atStart => exact ⟨0, by omega, rfl, HL.out.gr HG.out, HT.out, Only.qx HG.out g⟩
 case round =>
  clear HT HG
  obtain ⟨k, hk, rfl, hl, ht, ho⟩ := hrel
  have HM := Lib.hid hl
  have HT := Lib.hid ht
  have HO := Lib.hid ho
  clear hl ht ho
  by_cases h1 : k < 24
  ·
   have hidx := AY k h1
   go_wp2_with fail
   refine (zC g _ t 239 _ _ _ HM.out HT.out).mono ?_
   rintro e w3 ⟨rfl, hl3, ho3⟩
   have H3 := Lib.hid hl3
   have HO3 := Lib.hid ho3
   clear hl3 ho3
   go_wp2_with fail
   go_roundw
   case rel => exact ⟨k + 1, by omega, by go_num, H3.out, (JV HO3.out HT.out (by omega)), HO.out.trans HO3.out⟩
   case measure => simp [intOf]; omega
  ·
   have h5 : k = 24 := by omega
   subst h5
   go_wp2_with fail
   exact bodyPost_end (results_none rfl _ _ _) rfl ⟨rfl, HM.out, HO.out⟩
end Go.Proofs.YtaoicebcdmpemaaGreat
namespace Go.Proofs.YtaoicebcdmpemaaGreat.Kec
theorem Same.refl (a : St) : Same a a := fun _ _ => rfl
theorem Same.trans {a b c : St} (h : Same a b) (k : Same b c) : Same a c := fun i hi => (h i hi).trans (k i hi)
theorem Same.upd {a b : St} (h : Same a b) (k : Nat) {v v' : L} (hv : v = v') : Same (upd a k v) (upd b k v') := by
 intro i hi
 unfold Kec.upd
 rw [hv]
 split
 · rfl
 · exact h i hi
theorem uZ {a b : St} (h : Same a b) (x : Nat) (hx : x < 5) : col a x = col b x := by
 unfold col
 rw [h x (by omega), h (x + 5) (by omega), h (x + 10) (by omega), h (x + 15) (by omega), h (x + 20) (by omega)]
theorem Fb {a b : St} (h : Same a b) (x : Nat) : dd a x = dd b x := by
 unfold dd
 rw [uZ h _ (Nat.mod_lt _ (by decide)), uZ h _ (Nat.mod_lt _ (by decide))]
theorem yN {a b : St} (h : Same a b) : ∀ k, k ≤ 25 → bb a k = bb b k
 | 0, _ => rfl
 | k + 1, hk => by
  unfold bb
  rw [yN h k (by omega), h k (by omega), Fb h]
theorem xY {a b : St} (h : Same a b) (r : St) : ∀ k, Same (ss r a k) (ss r b k)
 | 0 => h
 | k + 1 => (xY h r k).upd k rfl
theorem wB {a b : St} (h : Same a b) (n : L) : Same (round a n) (round b n) := by
 have h1 := xY h (bb a 25) 25
 unfold round
 rw [← yN h 25 (by omega)]
 exact h1.upd 0 (by rw [h1 0 (by omega)])
theorem tV (a : St) (k : Nat) (hk : k < 24) : Same (round a (rc k)) (nH a (lfn 1 (7 * k))) := by
 have h : Same (ss (bb a 25) a 25) (ch (mv (th (col a) a 5) 24).a 5) := fun i hi => lane a i hi
 unfold round nH
 rw [Gi, GV k hk]
 exact h.upd 0 (by rw [h 0 (by omega)])
theorem qo {a b : St} (h : Same a b) : ∀ k, k ≤ 24 → Same (perm a k) (nI b k)
 | 0, _ => h
 | k + 1, hk => (wB (qo h k (by omega)) (rc k)).trans (tV (nI b k) k (by omega))
theorem yx (l : BitVec 8) (i : Nat) : ∀ j, lfn l (i + j) = lfn (lfn l i) j
 | 0 => rfl
 | j + 1 => by
  show lf (lfn l (i + j)) = lf (lfn (lfn l i) j)
  rw [yx l i j]
end Go.Proofs.YtaoicebcdmpemaaGreat.Kec
namespace Go.Proofs.YtaoicebcdmpemaaGreat
open Kec (L St rotl Same)
def dF (P : St → St) (p : St × Nat) (b : UInt8) : St × Nat := if p.2 + 1 = 136 then (P (takeB p.1 p.2 b.toNat), 0) else (takeB p.1 p.2 b.toNat, p.2 + 1)
def bW (p : St × Nat) (b : UInt8) : St × Nat := dF (fun s => Kec.perm s 24) p b
def bD (l : List UInt8) : St × Nat := l.foldl bW (fun _ => 0, 0)
def dU (l : List UInt8) : St := Kec.perm (takeB (takeB (bD l).1 (bD l).2 1) 135 128) 24
theorem sN (l : List UInt8) (b : UInt8) : bD (l ++ [b]) = bW (bD l) b := by simp [bD]
theorem xM (P : St → St) (p : St × Nat) (b : UInt8) (h : p.2 < 136) : (dF P p b).2 < 136 := by
 unfold dF
 split
 · simp
 · dsimp only; omega
theorem qP (p : St × Nat) (b : UInt8) (h : p.2 < 136) : (bW p b).2 < 136 := xM _ p b h
theorem vJ (l : List UInt8) : ∀ p : St × Nat, p.2 < 136 → (l.foldl bW p).2 < 136 := by
 induction l with
 | nil => exact fun _ h => h
 | cons b l ih => exact fun p h => ih _ (qP p b h)
theorem pq (l : List UInt8) : (bD l).2 < 136 := vJ l _ (by simp)
theorem yU (ms : List (List UInt8)) (k : Nat) (h : k < ms.length) : (ms.take (k + 1)).flatten = (ms.take k).flatten ++ ms[k] := by
 rw [KF h, List.flatten_append]
 simp only [KG, List.flatten_nil, MS]
theorem take_snoc (pre m : List UInt8) (j : Nat) (h : j < m.length) : bD (pre ++ m.take (j + 1)) = bW (bD (pre ++ m.take j)) m[j] := by
 rw [KF h, ← KY, sN]
theorem zY (p : St × Nat) (b : UInt8) (h : p.2 < 136) : (bW p b).2 = (p.2 + 1) % 136 := by
 unfold bW dF
 split
 · dsimp only; omega
 · dsimp only; omega
theorem fold_at (l : List UInt8) : ∀ p : St × Nat, p.2 < 136 → (l.foldl bW p).2 = (p.2 + l.length) % 136 := by
 induction l with
 | nil => intro p h; simp; omega
 | cons b l ih =>
  intro p h
  rw [Ld, ih _ (qP p b h), zY p b h, KN]
  omega
theorem pz (l : List UInt8) : (bD l).2 = l.length % 136 := by
 have := fold_at l (fun _ => 0, 0) (by simp)
 simpa [bD] using this
theorem vT (f : St) (k : Nat) : takeB f k 0 = f := by
 funext j
 unfold takeB Kec.upd
 split
 · subst_vars; simp
 · rfl
def xk (r : Nat) : List UInt8 := if r = 135 then [129] else 1 :: (List.replicate (134 - r) 0 ++ [128])
theorem oJ : ∀ (n : Nat) (s : St) (k : Nat), k + n ≤ 135 → (List.replicate n (0 : UInt8)).foldl bW (s, k) = (s, k + n)
 | 0, _, _, _ => rfl
 | n + 1, s, k, h => by
  rw [List.replicate_succ, Ld]
  have : bW (s, k) 0 = (s, k + 1) := by
   unfold bW dF
   rw [if_neg (by dsimp only; omega)]
   dsimp only
   rw [show UInt8.toNat 0 = 0 from rfl, vT]
  rw [this, oJ n s (k + 1) (by omega)]
  congr 1
  omega
theorem vU (s : St) : takeB (takeB s 135 1) 135 128 = takeB s 135 129 := by
 funext j
 unfold takeB Kec.upd
 split
 ·
  subst_vars
  simp only [if_true]
  rw [BitVec.xor_assoc]
  rfl
 · rfl
theorem BX (s : St) (r : Nat) (h : r < 136) : (xk r).foldl bW (s, r) = (Kec.perm (takeB (takeB s r 1) 135 128) 24, 0) := by
 unfold xk
 by_cases hr : r = 135
 ·
  subst hr
  rw [if_pos rfl, Ld, List.foldl_nil]
  unfold bW dF
  rw [if_pos rfl, vU]
  rfl
 ·
  rw [if_neg hr, Ld, MQ]
  have h1 : bW (s, r) 1 = (takeB s r 1, r + 1) := by
   unfold bW dF
   rw [if_neg (by dsimp only; omega)]
   rfl
  rw [h1, oJ _ _ _ (by omega), show r + 1 + (134 - r) = 135 by omega, Ld, List.foldl_nil]
  unfold bW dF
  rw [if_pos rfl]
  rfl
theorem vW (l : List UInt8) : bD (l ++ xk (l.length % 136)) = (dU l, 0) := by
 unfold bD
 rw [MQ]
 have h : List.foldl bW (fun _ => 0, 0) l = ((bD l).1, l.length % 136) := by rw [← pz]; rfl
 rw [h, BX _ _ (by omega)]
 unfold dU
 rw [pz]
def lU (g : Nat → Nat) (s : St) : Nat → St
 | 0 => s
 | i + 1 => takeB (lU g s i) i (g i)
def gK (m : List UInt8) : Nat → St
 | 0 => fun _ => 0
 | j + 1 => Kec.nI (lU (fun i => (m.getD (136 * j + i) 0).toNat) (gK m j) 136) 24
def iE (p : St × Nat) (b : UInt8) : St × Nat := dF (fun s => Kec.nI s 24) p b
theorem qc (m : List UInt8) (k : Nat) (h : k < m.length) : m.take (k + 1) = m.take k ++ [m.getD k 0] := by
 rw [KF h]
 simp [h]
theorem yh (m : List UInt8) (j : Nat) (hj : 136 * j + 136 ≤ m.length) (h0 : (m.take (136 * j)).foldl iE (fun _ => 0, 0) = (gK m j, 0)) :
  ∀ i, i ≤ 135 → (m.take (136 * j + i)).foldl iE (fun _ => 0, 0) = (lU (fun i => (m.getD (136 * j + i) 0).toNat) (gK m j) i, i)
 | 0, _ => h0
 | i + 1, hi => by
  rw [← Nc, qc m _ (by omega), MQ, yh m j hj h0 i (by omega), Ld, List.foldl_nil]
  unfold iE dF
  rw [if_neg (by dsimp only; omega)]
  rfl
theorem tY (m : List UInt8) : ∀ j, 136 * j ≤ m.length → (m.take (136 * j)).foldl iE (fun _ => 0, 0) = (gK m j, 0)
 | 0, _ => rfl
 | j + 1, h => by
  have h0 := yh m j (by omega) (tY m j (by omega)) 135 (by omega)
  rw [show 136 * (j + 1) = 136 * j + 135 + 1 by omega, qc m _ (by omega), MQ, h0, Ld, List.foldl_nil]
  unfold iE dF
  rw [if_pos rfl]
  rfl
theorem ng {a b : St} (h : Same a b) (k v : Nat) (hk : k < 136) : Same (takeB a k v) (takeB b k v) := h.upd _ (by rw [h _ (by omega)])
theorem zM (l : List UInt8) : ∀ p q : St × Nat, p.2 < 136 → p.2 = q.2 → Same p.1 q.1 → Same (l.foldl bW p).1 (l.foldl iE q).1 := by
 induction l with
 | nil => exact fun _ _ _ _ h => h
 | cons b l ih =>
  intro p q hp hpq h
  rw [Ld, Ld]
  obtain ⟨s, k⟩ := p
  obtain ⟨t, k'⟩ := q
  dsimp only at hp hpq h
  subst hpq
  unfold bW iE dF
  dsimp only
  by_cases hk : k + 1 = 136
  ·
   rw [if_pos hk, if_pos hk]
   have hs := Kec.qo (ng h k b.toNat hp) 24 (by omega)
   generalize Kec.perm (takeB s k b.toNat) 24 = x at hs ⊢
   generalize Kec.nI (takeB t k b.toNat) 24 = y at hs ⊢
   exact ih (x, 0) (y, 0) (Nat.zero_lt_succ _) rfl hs
  ·
   rw [if_neg hk, if_neg hk]
   exact ih _ _ (by dsimp only; omega) rfl (ng h k _ hp)
theorem sZ (l m : List UInt8) (j : Nat) (hm : m = l ++ xk (l.length % 136)) (hj : 136 * j = m.length) : Same (dU l) (gK m j) := by
 have h1 := tY m j (by omega)
 rw [hj, L8] at h1
 have h2 := zM m (fun _ => 0, 0) (fun _ => 0, 0) (by simp) rfl (Same.refl _)
 rw [h1] at h2
 have h3 := vW l
 rw [← hm] at h3
 unfold bD at h3
 rw [h3] at h2
 exact h2
def zeros (l : List UInt8) (n : Nat) : List UInt8 := l ++ 1 :: List.replicate n 0
theorem zeros_length (l : List UInt8) (n : Nat) : (zeros l n).length = l.length + 1 + n := by simp [zeros]; omega
theorem vO (l : List UInt8) (n : Nat) : zeros l n ++ [0] = zeros l (n + 1) := by
 unfold zeros
 rw [KY, Ko, ← List.replicate_succ']
theorem yQ (l : List UInt8) (n : Nat) (hn : n = 135 - l.length % 136) : (zeros l n).set ((zeros l n).length - 1) ((zeros l n).getD ((zeros l n).length - 1) 0 ||| 128) = l ++ xk (l.length % 136) := by
 rw [zeros_length]
 unfold zeros xk
 by_cases hr : l.length % 136 = 135
 ·
  have h0 : n = 0 := by omega
  subst h0
  rw [if_pos hr]
  have : (1 ||| 128 : UInt8) = 129 := by decide
  simp [this]
 ·
  have h1 : n = 134 - l.length % 136 + 1 := by omega
  rw [if_neg hr]
  generalize 134 - l.length % 136 = k at *
  subst h1
  rw [List.replicate_succ', show l ++ 1 :: (List.replicate k 0 ++ [0]) = (l ++ 1 :: List.replicate k (0 : UInt8)) ++ [0] by simp, show l.length + 1 + (k + 1) - 1 = (l ++ 1 :: List.replicate k (0 : UInt8)).length by simp; omega]
  simp
def JO (f : St) (k : Nat) : UInt8 := UInt8.ofNat (f (k / 8) >>> (8 * (k % 8))).toNat
def GR (f : St) : List UInt8 := (List.range 32).map (JO f)
def hash (l : List UInt8) : List UInt8 := GR (dU l)
theorem lX (l : List UInt8) : (hash l).length = 32 := by simp [hash, GR]
end Go.Proofs.YtaoicebcdmpemaaGreat
