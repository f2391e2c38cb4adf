/-
 Merged: lemmas of this claim.
 Conditions: none.
-/
import Derived.Test.YtelbhdobjdnglaaGreatZC13
import Derived.Laws.Rows
import Derived.Laws.Tables
import Derived.Deep.WholeRow
import Derived.Test.YtelbhdobjdnglaaGreatZC0
namespace Go.Proofs.YtelbhdobjdnglaaGreat
set_option maxRecDepth 20000
set_option maxHeartbeats 1000000
open Go.RowKit Mono
open Kec (L St rotl)
def Reg (w : World) (g : Nat) (t : TypeId) (l : BitVec 8) : Prop := w.heap[g]? = some (.cells #[.int .u8 (l.toNat : Int)] t (0, 0))
section
variable {w w' : World} {g : Nat} {t : TypeId} {l : BitVec 8}
theorem Reg.lt (h : Reg w g t l) : g < w.heap.size := by
 rcases Xx g w.heap.size with h1 | h1
 · exact h1
 · unfold Reg at h; rw [Array.getElem?_eq_none h1] at h; cases h
theorem Reg.cell (h : Reg w g t l) : w.cell? ⟨g, 0, none⟩ = some (.int .u8 (l.toNat : Int)) := by
 rw [cell_of_row w g 0 _ t (0, 0) h]
 rfl
theorem Reg.frozen (h : Reg w g t l) : w.frozen? ⟨g, 0, none⟩ = false := by
 unfold Reg at h
 simp [World.frozen?, h]
theorem Reg.gr (h : Reg w g t l) (hg : Gr w w') : Reg w' g t l := (hg.block g h.lt).trans h
theorem Reg.set (h : Reg w g t l) (v : BitVec 8) : Reg (w.setCell ⟨g, 0, none⟩ (.int .u8 (v.toNat : Int))) g t v := by
 unfold Reg at h ⊢
 simp [World.setCell, Array.getElem?_modify, h]
theorem Reg.far (h : Reg w g t l) {p : Addr} (hp : g ≠ p.block) (v : Value) : Reg (w.setCell p v) g t l := (Below.heap_setCell w p v g hp).trans h
end
theorem TW : ∀ q : BitVec 8, bits .and .u8 (q.toNat : Int) 1 = if q &&& 1 = 1 then 1 else 0 := by decide +kernel
theorem QU : ∀ q : BitVec 8, bits .and .u8 (q.toNat : Int) 128 = if q &&& 128 ≠ 0 then 128 else 0 := by decide +kernel
theorem N7 : ∀ q : BitVec 8, bits .xor .u8 (q.toNat : Int) 113 = ((q ^^^ 0x71).toNat : Int) := by decide +kernel
theorem Jw (q : BitVec 8) : (q.toNat : Int) * (2 : Int) % (256 : Int) = ((q <<< 1).toNat : Int) := by
 have h : (q <<< 1).toNat = q.toNat * 2 % 256 := by rw [BitVec.toNat_shiftLeft, Nat.shiftLeft_eq]
 rw [h]
 omega
theorem Reg.high {w : World} {g : Nat} {t : TypeId} {q : BitVec 8} (h : Reg w g t q) (hb : q &&& 128 ≠ 0) :
  Reg ((w.setCell ⟨g, 0, none⟩ (.int .u8 ((q.toNat : Int) * 2 % 256))).setCell ⟨g, 0, none⟩ (.int .u8 (bits .xor .u8 ((q.toNat : Int) * 2 % 256) 113))) g t (Kec.lf q) := by
 rw [Jw, N7, show Kec.lf q = (q <<< 1) ^^^ 0x71 from if_pos hb]
 exact (h.set _).set _
theorem Reg.low {w : World} {g : Nat} {t : TypeId} {q : BitVec 8} (h : Reg w g t q) (hb : ¬ q &&& 128 ≠ 0) :
  Reg (w.setCell ⟨g, 0, none⟩ (.int .u8 ((q.toNat : Int) * 2 % 256))) g t (Kec.lf q) := by
 rw [Jw, show Kec.lf q = q <<< 1 from if_neg hb]
 exact h.set _
theorem JA {w : World} {g : Nat} {t : TypeId} {f : St} (h : bY w g t 25 f) (x : L) (n : Int) (hn : n = u x) : bY (w.setCell ⟨g, 0, none⟩ (.int .u64 (bits .xor .u64 (u (f 0)) n))) g t 25 (Kec.upd f 0 (f 0 ^^^ x)) := by
 subst hn
 rw [pV]
 exact h.set 0 _
theorem Ws (k : Nat) (h : k < 24) : 0 ≤ ((k : Int) + 1) * ((k : Int) + 2) ∧ ((k : Int) + 1) * ((k : Int) + 2) ≤ 600 := by
 have h1 : (k + 1) * (k + 2) ≤ 24 * 25 := Nat.mul_le_mul (by omega) (by omega)
 have h2 : ((k : Int) + 1) * ((k : Int) + 2) = (((k + 1) * (k + 2) : Nat) : Int) := by simp
 rw [h2]
 omega
theorem mvL (a : St) (k : Nat) : (Kec.mv a k).x < 5 ∧ (Kec.mv a k).y < 5 := by
 induction k with
 | zero => simp [Kec.mv]
 | succ k ih => exact ⟨ih.2, Nat.mod_lt _ (by decide)⟩
theorem KZ (g gl : Nat) (t tl : TypeId) (s : St) (l : BitVec 8) (w : World) (hl : bY w g t 25 s) (hr : Reg w gl tl l) (hlt : g < gl) :
  Calls Tryz.prog 60 #[.pointer (some ⟨g, 0, none⟩), .pointer (some ⟨gl, 0, none⟩)] w (Tf fun w' => bY w' g t 25 (Kec.yE s l) ∧ Reg w' gl tl (Kec.lfn l 7) ∧ Below g w w') := by
 have hg := hl.lt
 have hgl := hr.lt
 have HL := Lib.hid hl
 have HR := Lib.hid hr
 clear hl hr
 go_enter Tryz.func60, Tryz.ntmps60
 go_wp2
 go_loopw [5] (fun i wr => ∃ k : Nat, k ≤ 5 ∧ i = .int .i64 k ∧ bY wr w.heap.size 200 5 (fC (Kec.col s) k) ∧ Gr w wr) (fun i _ => 5 - (intOf i).toNat)
 case atStart => exact ⟨0, by omega, rfl, by rw [mV]; exact kF w 200 5 _ rfl, au w _⟩
 case round =>
  obtain ⟨k, hk, rfl, hc, hb⟩ := hrel
  have hbs := hb.size
  have HC := Lib.hid hc
  have HB := Lib.hid hb
  have hcl := hc.lt
  clear hc hb
  by_cases h1 : k < 5
  ·
   have c0 := bg (w := wr) (p := ⟨g, k, none⟩) (by dsimp only; omega) ((HL.out.gr HB.out).cell k (by omega))
   have c1 := bg (w := wr) (p := ⟨g, k + 5, none⟩) (by dsimp only; omega) ((HL.out.gr HB.out).cell (k + 5) (by omega))
   have c2 := bg (w := wr) (p := ⟨g, k + 10, none⟩) (by dsimp only; omega) ((HL.out.gr HB.out).cell (k + 10) (by omega))
   have c3 := bg (w := wr) (p := ⟨g, k + 15, none⟩) (by dsimp only; omega) ((HL.out.gr HB.out).cell (k + 15) (by omega))
   have c4 := bg (w := wr) (p := ⟨g, k + 20, none⟩) (by dsimp only; omega) ((HL.out.gr HB.out).cell (k + 20) (by omega))
   unfold lv at c0 c1 c2 c3 c4
   go_wp2
   refine dH 35 (by kernel_rfl) (by kernel_rfl) (by kernel_rfl) ?_
   simp only [WH, WO, WG, WM]
   refine dM 35 (by kernel_rfl) ?_
   simp only [WH, WO, WG, WM]
   repeat (go_big_quiet_step (fail))
   refine wpQuiet_nil ?_
   refine gK (by kernel_rfl) ?_
   intro W hW
   replace hW := hW.gr
   unfold oD
   rename_i wq hW
   have HQ := Lib.hid (HC.out.gr hW)
   have e2 := HQ.out.frozen k
   have e1 := HQ.out.cell k (by omega)
   unfold lv at e1
   go_wp2
   go_roundw
   case rel =>
    rw [TA]
    refine ⟨k + 1, by omega, by go_num, ?_, ?_⟩
    ·
     rw [← mW]
     exact HQ.out.set k (Kec.col s k)
    · exact (Only.set (g := w.heap.size) _ k _).gr (HB.out.trans hW) (Nat.le_refl _)
   case measure => simp [intOf]; omega
  ·
   have h5 : k = 5 := by omega
   subst h5
   go_wp2_with fail
   obtain ⟨wo, rfl⟩ : ∃ wo : World, wo = wr := ⟨_, rfl⟩
   go_loopw [6] (fun i wr => ∃ k : Nat, k ≤ 5 ∧ i = .int .i64 k ∧ bY wr w.heap.size 200 5 (fC (Kec.col s) 5) ∧ bY wr g t 25 (Kec.th (Kec.col s) s k) ∧ Reg wr gl tl l ∧ Below g w wr) (fun i _ => 5 - (intOf i).toNat)
   case atStart => exact ⟨0, by omega, rfl, HC.out, HL.out.gr HB.out, HR.out.gr HB.out, HB.out.mono (by omega)⟩
   case round =>
    clear HB HC
    obtain ⟨k, hk, rfl, hc, hl, hr, hb⟩ := hrel
    have hbs := hb.size
    have HC := Lib.hid hc
    have HM := Lib.hid hl
    have HG := Lib.hid hr
    have HB := Lib.hid hb
    have hcl := hc.lt
    clear hc hl hr hb
    by_cases h1 : k < 5
    ·
     have c0 := bg (w := wr) (p := ⟨w.heap.size, (k + 4) % 5, none⟩) (by dsimp only; omega) (HC.out.cell ((k + 4) % 5) (by omega))
     have c1 := bg (w := wr) (p := ⟨w.heap.size, (k + 1) % 5, none⟩) (by dsimp only; omega) (HC.out.cell ((k + 1) % 5) (by omega))
     unfold lv at c0 c1
     obtain ⟨d, hd⟩ : ∃ d : L, d = Kec.col s ((k + 4) % 5) ^^^ rotl (Kec.col s ((k + 1) % 5)) 1 := ⟨_, rfl⟩
     have HD := Lib.hid hd
     clear hd
     go_wp2
     refine dH 13 (by kernel_rfl) (by kernel_rfl) (by kernel_rfl) ?_
     simp only [WH, WO, WG, WM]
     refine dM 10 (by kernel_rfl) ?_
     simp only [WH, WO, WG, WM]
     repeat (go_big_quiet_step (fail))
     refine wpQuiet_nil ?_
     refine xC (.int .u64 (u (rotl (fC (Kec.col s) 5 ((k + 1) % 5)) 1))) rfl (by kernel_rfl) (by kernel_rfl) (fun xw => ?_) ?_
     ·
      refine lq (by simp [go_sem]) ((rol (fC (Kec.col s) 5 ((k + 1) % 5)) 1 (by omega) _).mono ?_)
      rintro e w' ⟨rfl, rfl⟩
      exact ⟨_, rfl, Gr.refl _, rfl⟩
     simp only [Act.put, YO, Yt, YI]
     refine dM 2 (by kernel_rfl) ?_
     simp only [WH, WO, WG, WM]
     repeat (go_big_quiet_step (fail))
     refine wpQuiet_nil ?_
     refine gK (by kernel_rfl) ?_
     intro W hW
     replace hW := hW.gr
     unfold oD
     have hf : bits .xor .u64 (u (fC (Kec.col s) 5 ((k + 4) % 5))) (u (rotl (fC (Kec.col s) 5 ((k + 1) % 5)) 1)) = u d := by
      rw [pV, HD.out]
      unfold fC
      rw [if_pos (by omega), if_pos (by omega)]
     rw [hf]
     clear hf c0 c1
     rename_i hW
     have hBW := HB.out.trans (hW.mono (by omega : g ≤ wr.heap.size))
     have hs2 := hW.size
     have HC2 := Lib.hid (HC.out.gr hW)
     have HM2 := Lib.hid (HM.out.gr hW)
     have HG2 := Lib.hid (HG.out.gr hW)
     have HB2 := Lib.hid hBW
     clear HC HM HG HB hBW hW
     go_wp2_with fail
     go_loopw [8] (fun i wr => ∃ m : Nat, m ≤ 5 ∧ i = .int .i64 (5 * m : Nat) ∧ bY wr w.heap.size 200 5 (fC (Kec.col s) 5) ∧ bY wr g t 25 (Kec.th1 d k (Kec.th (Kec.col s) s k) m) ∧ Reg wr gl tl l ∧ Below g w wr) (fun i _ => 25 - (intOf i).toNat)
     case atStart => exact ⟨0, by omega, rfl, HC2.out, HM2.out, HG2.out, HB2.out⟩
     case round =>
      clear HC2 HM2 HG2 HB2
      obtain ⟨m, hm, rfl, hc, hl, hr, hb⟩ := hrel
      have hbs := hb.size
      have HC := Lib.hid hc
      have HM := Lib.hid hl
      have HG := Lib.hid hr
      have HB := Lib.hid hb
      have hcl := hc.lt
      clear hc hl hr hb
      by_cases h2 : m < 5
      ·
       have c0 := bg (w := wr) (p := ⟨g, k + 5 * m, none⟩) (by dsimp only; omega) (HM.out.cell (k + 5 * m) (by omega))
       unfold lv at c0
       go_wp2
       refine dH 15 (by kernel_rfl) (by kernel_rfl) (by kernel_rfl) ?_
       simp only [WH, WO, WG, WM]
       refine dM 15 (by kernel_rfl) ?_
       simp only [WH, WO, WG, WM]
       repeat (go_big_quiet_step (fail))
       refine wpQuiet_nil ?_
       refine gK (by kernel_rfl) ?_
       intro W hW
       replace hW := hW.gr
       unfold oD
       rename_i hW
       have HQ := Lib.hid (HM.out.gr hW)
       have e2 := HQ.out.frozen (k + 5 * m)
       have e1 := HQ.out.cell (k + 5 * m) (by omega)
       unfold lv at e1
       go_wp2
       go_roundw
       case rel =>
        rw [pV]
        refine ⟨m + 1, by omega, by go_num, ?_, ?_, ?_, ?_⟩
        · exact (HC.out.gr hW).far (by dsimp only; omega) _
        · exact HQ.out.set (k + 5 * m) _
        · exact (HG.out.gr hW).far (by dsimp only; omega) _
        · exact (HB.out.trans (hW.mono (by omega))).setCell (Nat.le_refl _) _
       case measure => simp [intOf]; omega
      ·
       have h5 : m = 5 := by omega
       subst h5
       go_wp2_with fail
       go_roundw
       case rel =>
        refine ⟨k + 1, by omega, by go_num, HC.out, ?_, HG.out, HB.out⟩
        have := HM.out
        rw [HD.out] at this
        exact this
       case measure => simp [intOf]; omega
    ·
     have h5 : k = 5 := by omega
     subst h5
     have hw := mvL (Kec.th (Kec.col s) s 5)
     have hR : Hid (Kec.yE s l = Kec.io (Kec.ch (Kec.mv (Kec.th (Kec.col s) s 5) 24).a 5) l 7) := Lib.hid rfl
     generalize Kec.th (Kec.col s) s 5 = a at HM hw hR
     have c0 := HM.out.cell 1 (by omega)
     unfold lv at c0
     go_wp2_with fail
     clear c0
     go_loopw [9, 10, 11, 12] (fun vx vy vc i wr => ∃ k : Nat, k ≤ 24 ∧ i = .int .i64 k ∧ vx = .int .i64 (Kec.mv a k).x ∧ vy = .int .i64 (Kec.mv a k).y ∧ vc = .int .u64 (u (Kec.mv a k).cur) ∧ bY wr g t 25 (Kec.mv a k).a ∧ Reg wr gl tl l ∧ Below g w wr) (fun _ _ _ i _ => 24 - (intOf i).toNat)
     case atStart => exact ⟨0, by omega, rfl, rfl, rfl, rfl, HM.out, HG.out, HB.out⟩
     case round =>
      clear HM HG HB HC
      obtain ⟨k, hk, rfl, rfl, rfl, rfl, hl, hr, hb⟩ := hrel
      have hst : Hid (Kec.mv a (k + 1) = ⟨(Kec.mv a k).y, (2 * (Kec.mv a k).x + 3 * (Kec.mv a k).y) % 5, (Kec.mv a k).a ((Kec.mv a k).y + 5 * ((2 * (Kec.mv a k).x + 3 * (Kec.mv a k).y) % 5)),
       Kec.upd (Kec.mv a k).a ((Kec.mv a k).y + 5 * ((2 * (Kec.mv a k).x + 3 * (Kec.mv a k).y) % 5)) (rotl (Kec.mv a k).cur ((k + 1) * (k + 2) / 2 % 64))⟩) := Lib.hid rfl
      obtain ⟨hx, hy⟩ := hw k
      by_cases h2 : k < 24
      ·
       clear hw
       generalize (Kec.mv a k).x = x at *
       generalize (Kec.mv a k).y = y at *
       generalize (Kec.mv a k).cur = cur at *
       generalize (Kec.mv a k).a = b at *
       have hbs := hb.size
       have HM := Lib.hid hl
       have HG := Lib.hid hr
       have HB := Lib.hid hb
       clear hl hr hb
       have c0 := HM.out.cell (y + 5 * ((2 * x + 3 * y) % 5)) (by omega)
       unfold lv at c0
       obtain ⟨hm1, hm2⟩ := Ws k h2
       go_wp2
       refine dH 17 (by kernel_rfl) (by kernel_rfl) (by kernel_rfl) ?_
       simp only [WH, WO, WG, WM]
       refine dM 14 (by kernel_rfl) ?_
       simp only [WH, WO, WG, WM]
       repeat (go_big_quiet_step (fail))
       refine wpQuiet_nil ?_
       refine xC (.int .u64 (u (rotl cur ((k + 1) * (k + 2) / 2 % 64)))) rfl (by kernel_rfl) (by kernel_rfl) (fun xw => ?_) ?_
       ·
        refine lq (by simp [go_sem]) ((rol cur ((k + 1) * (k + 2) / 2 % 64) (by omega) _).mono ?_)
        rintro e w' ⟨rfl, rfl⟩
        exact ⟨_, rfl, Gr.refl _, rfl⟩
       simp only [Act.put, YO, Yt, YI]
       refine dM 2 (by kernel_rfl) ?_
       simp only [WH, WO, WG, WM]
       repeat (go_big_quiet_step (fail))
       refine wpQuiet_nil ?_
       refine gK (by kernel_rfl) ?_
       intro W hW
       replace hW := hW.gr
       unfold oD
       rename_i hW
       have HQ := Lib.hid (HM.out.gr hW)
       have e2 := HQ.out.frozen (y + 5 * ((2 * x + 3 * y) % 5))
       have e1 := HQ.out.cell (y + 5 * ((2 * x + 3 * y) % 5)) (by omega)
       unfold lv at e1
       go_wp2
       go_roundw
       case rel =>
        have H := hst.out
        refine ⟨k + 1, by omega, by go_num, by rw [H], by rw [H]; simp, by rw [H], ?_, ?_, ?_⟩
        ·
         rw [H]
         exact HQ.out.set _ _
        · exact (HG.out.gr hW).far (by dsimp only; omega) _
        · exact (HB.out.trans (hW.mono (by omega))).setCell (Nat.le_refl _) _
       case measure => simp [intOf]; omega
      ·
       have h5 : k = 24 := by omega
       subst h5
       clear hw hst
       generalize (Kec.mv a 24).x = x at *
       generalize (Kec.mv a 24).y = y at *
       generalize (Kec.mv a 24).cur = cur at *
       generalize (Kec.mv a 24).a = a2 at *
       clear hx hy
       have HM := Lib.hid hl
       have HG := Lib.hid hr
       have HB := Lib.hid hb
       clear hl hr hb
       go_wp2_with fail
       go_loopw [16] (fun i wr => ∃ k : Nat, k ≤ 5 ∧ i = .int .i64 (5 * k : Nat) ∧ bY wr g t 25 (Kec.ch a2 k) ∧ Reg wr gl tl l ∧ Below g w wr) (fun i _ => 25 - (intOf i).toNat)
       case atStart => exact ⟨0, by omega, rfl, HM.out, HG.out, HB.out⟩
       case round =>
        clear HM HG HB
        obtain ⟨k, hk, rfl, hl, hr, hb⟩ := hrel
        by_cases h3 : k < 5
        ·
         have hst : Hid (Kec.ch a2 (k + 1) = Kec.ch1 (fun x => Kec.ch a2 k (x + 5 * k)) (Kec.ch a2 k) (5 * k) 5) := Lib.hid rfl
         generalize Kec.ch a2 k = b at *
         have hbs := hb.size
         have HM := Lib.hid hl
         have HG := Lib.hid hr
         have HB := Lib.hid hb
         have hgl2 := hr.lt
         have hg2 := hl.lt
         clear hl hr hb
         go_wp2_with fail
         obtain ⟨wo, rfl⟩ : ∃ wo : World, wo = wr := ⟨_, rfl⟩
         go_loopw [18] (fun i wr => ∃ m : Nat, m ≤ 5 ∧ i = .int .i64 m ∧ bY wr wo.heap.size 200 5 (fC (fun x => b (x + 5 * k)) m) ∧ Gr wo wr) (fun i _ => 5 - (intOf i).toNat)
         case atStart => exact ⟨0, by omega, rfl, by rw [mV]; exact kF wo 200 5 _ rfl, au wo _⟩
         case round =>
          obtain ⟨m, hm, rfl, hc, hb⟩ := hrel
          have hcl := hc.lt
          have HC := Lib.hid hc
          have HO := Lib.hid hb
          clear hc hb
          by_cases h4 : m < 5
          ·
           have c0 := (HM.out.gr HO.out).cell (m + 5 * k) (by omega)
           have e2 := HC.out.frozen m
           have e1 := HC.out.cell m (by omega)
           unfold lv at c0 e1
           go_wp2
           go_roundw
           case rel =>
            refine ⟨m + 1, by omega, by go_num, ?_, ?_⟩
            ·
             rw [← mW]
             exact HC.out.set m _
            · exact (Only.set (g := wo.heap.size) _ m _).gr HO.out (Nat.le_refl _)
           case measure => simp [intOf]; omega
          ·
           have h5 : m = 5 := by omega
           subst h5
           have HM2 := Lib.hid (HM.out.gr HO.out)
           have HG2 := Lib.hid (HG.out.gr HO.out)
           have HB2 := Lib.hid (HB.out.trans (HO.out.mono (by omega : g ≤ wo.heap.size)))
           clear HM HG HB HO
           go_wp2_with fail
           go_loopw [19] (fun i wr => ∃ m : Nat, m ≤ 5 ∧ i = .int .i64 m ∧ bY wr wo.heap.size 200 5 (fC (fun x => b (x + 5 * k)) 5) ∧ bY wr g t 25 (Kec.ch1 (fun x => b (x + 5 * k)) b (5 * k) m) ∧ Reg wr gl tl l ∧ Below g w wr) (fun i _ => 5 - (intOf i).toNat)
           case atStart => exact ⟨0, by omega, rfl, HC.out, HM2.out, HG2.out, HB2.out⟩
           case round =>
            clear HC HM2 HG2 HB2
            obtain ⟨m, hm, rfl, hc, hl, hr, hb⟩ := hrel
            have hcl := hc.lt
            have hll := hl.lt
            have HC := Lib.hid hc
            have HM := Lib.hid hl
            have HG := Lib.hid hr
            have HB := Lib.hid hb
            clear hc hl hr hb
            by_cases h4 : m < 5
            ·
             have c0 := bg (w := wr) (p := ⟨wo.heap.size, m, none⟩) hcl (HC.out.cell m (by omega))
             have c1 := bg (w := wr) (p := ⟨wo.heap.size, (m + 1) % 5, none⟩) hcl (HC.out.cell ((m + 1) % 5) (by omega))
             have c2 := bg (w := wr) (p := ⟨wo.heap.size, (m + 2) % 5, none⟩) hcl (HC.out.cell ((m + 2) % 5) (by omega))
             unfold lv at c0 c1 c2
             go_wp2
             refine dH 22 (by kernel_rfl) (by kernel_rfl) (by kernel_rfl) ?_
             simp only [WH, WO, WG, WM]
             refine dM 22 (by kernel_rfl) ?_
             simp only [WH, WO, WG, WM]
             repeat (go_big_quiet_step (fail))
             refine wpQuiet_nil ?_
             refine gK (by kernel_rfl) ?_
             intro W hW
             replace hW := hW.gr
             unfold oD
             rename_i hW
             have HQ := Lib.hid (HM.out.gr hW)
             have e2 := HQ.out.frozen (m + 5 * k)
             have e1 := HQ.out.cell (m + 5 * k) (by omega)
             unfold lv at e1
             go_wp2
             go_roundw
             case rel =>
              have f : ∀ j, j < 5 → fC (fun x => b (x + 5 * k)) 5 j = b (j + 5 * k) := fun j hj => if_pos hj
              rw [f m h4, f _ (by omega), f _ (by omega), Tz, NZ, pV]
              exact ⟨m + 1, by omega, by go_num, (HC.out.gr hW).far (by dsimp only; omega) _, HQ.out.set _ _, (HG.out.gr hW).far (by dsimp only; omega) _, (HB.out.trans (hW.mono (by omega))).setCell (Nat.le_refl _) _⟩
             case measure => simp [intOf]; omega
            ·
             have h5 : m = 5 := by omega
             subst h5
             go_wp2_with fail
             go_roundw
             case rel =>
              refine ⟨k + 1, by omega, by go_num, ?_, HG.out, HB.out⟩
              rw [hst.out]
              exact HM.out
             case measure => simp [intOf]; omega
        ·
         have h5 : k = 5 := by omega
         subst h5
         generalize Kec.ch a2 5 = c at *
         have HM := Lib.hid hl
         have HG := Lib.hid hr
         have HB := Lib.hid hb
         clear hl hr hb
         go_wp2_with fail
         go_loopw [20] (fun i wr => ∃ j : Nat, j ≤ 7 ∧ i = .int .i64 j ∧ bY wr g t 25 (Kec.io c l j) ∧ Reg wr gl tl (Kec.lfn l j) ∧ Below g w wr) (fun i _ => 7 - (intOf i).toNat)
         case atStart => exact ⟨0, by omega, rfl, HM.out, HG.out, HB.out⟩
         case round =>
          clear HM HG HB
          obtain ⟨j, hj, rfl, hl, hr, hb⟩ := hrel
          by_cases h3 : j < 7
          ·
           have hst : Hid (Kec.io c l (j + 1) = if Kec.lfn l j &&& 1 = 1 then Kec.upd (Kec.io c l j) 0 (Kec.io c l j 0 ^^^ (1 : L) <<< (2 ^ j - 1)) else Kec.io c l j) := Lib.hid rfl
           have hst2 : Hid (Kec.lfn l (j + 1) = Kec.lf (Kec.lfn l j)) := Lib.hid rfl
           generalize Kec.lfn l j = q at *
           generalize Kec.io c l j = b at *
           have hgl2 := hr.lt
           have hg2 := hl.lt
           have HM := Lib.hid hl
           have HG := Lib.hid hr
           have HB := Lib.hid hb
           have e1 := hr.cell
           have e2 := hr.frozen
           clear hl hr hb
           have k1 := TW q
           have k2 := QU q
           by_cases b1 : q &&& 1 = 1
           ·
            rw [if_pos b1] at k1 hst
            by_cases b2 : q &&& 128 ≠ 0
            ·
             rw [if_pos b2] at k2
             go_wp2
             have HZ := Lib.hid ((HM.out.far (p := ⟨gl, 0, none⟩) (by dsimp only; omega) (Value.int .u8 ((q.toNat : Int) * 2 % 256))).far (p := ⟨gl, 0, none⟩) (by dsimp only; omega) (Value.int .u8 (bits .xor .u8 ((q.toNat : Int) * 2 % 256) 113)))
             have HG2 := Lib.hid (HG.out.high b2)
             have HB2 := Lib.hid ((HB.out.setCell (p := ⟨gl, 0, none⟩) (by dsimp only; omega) (Value.int .u8 ((q.toNat : Int) * 2 % 256))).setCell (p := ⟨gl, 0, none⟩) (by dsimp only; omega) (Value.int .u8 (bits .xor .u8 ((q.toNat : Int) * 2 % 256) 113)))
             have hz := HZ.out.lt
             have c0 := bg (p := ⟨g, 0, none⟩) hz (HZ.out.cell 0 (by omega))
             unfold lv at c0
             have h7 : j = 0 ∨ j = 1 ∨ j = 2 ∨ j = 3 ∨ j = 4 ∨ j = 5 ∨ j = 6 := by omega
             rcases h7 with rfl | rfl | rfl | rfl | rfl | rfl | rfl
             all_goals
              refine dH 13 (by kernel_rfl) (by kernel_rfl) (by kernel_rfl) ?_
              simp only [WH, WO, WG, WM]
              refine dM 13 (by kernel_rfl) ?_
              simp only [WH, WO, WG, WM]
              repeat (go_big_quiet_step (fail))
              refine wpQuiet_nil ?_
              refine gK (by kernel_rfl) ?_
              intro W hW
              replace hW := hW.gr
              unfold oD
              rename_i hW
              have HQ := Lib.hid (HZ.out.gr hW)
              have e2 := HQ.out.frozen 0
              have e1 := HQ.out.cell 0 (by omega)
              unfold lv at e1
              go_wp2
              go_roundw
              case rel =>
               refine ⟨_ + 1, ?_, by go_num, ?_, ?_, ?_⟩
               · omega
               ·
                rw [hst.out]
                exact JA HQ.out _ _ rfl
               ·
                rw [hst2.out]
                exact (HG2.out.gr hW).far (by dsimp only; omega) _
               · exact (HB2.out.trans (hW.mono (by omega))).setCell (Nat.le_refl _) _
              case measure => simp [intOf]
            ·
             rw [if_neg b2] at k2
             go_wp2
             have HZ := Lib.hid (HM.out.far (p := ⟨gl, 0, none⟩) (by dsimp only; omega) (Value.int .u8 ((q.toNat : Int) * 2 % 256)))
             have HG2 := Lib.hid (HG.out.low b2)
             have HB2 := Lib.hid (HB.out.setCell (p := ⟨gl, 0, none⟩) (by dsimp only; omega) (Value.int .u8 ((q.toNat : Int) * 2 % 256)))
             have hz := HZ.out.lt
             have c0 := bg (p := ⟨g, 0, none⟩) hz (HZ.out.cell 0 (by omega))
             unfold lv at c0
             have h7 : j = 0 ∨ j = 1 ∨ j = 2 ∨ j = 3 ∨ j = 4 ∨ j = 5 ∨ j = 6 := by omega
             rcases h7 with rfl | rfl | rfl | rfl | rfl | rfl | rfl
             all_goals
              refine dH 13 (by kernel_rfl) (by kernel_rfl) (by kernel_rfl) ?_
              simp only [WH, WO, WG, WM]
              refine dM 13 (by kernel_rfl) ?_
              simp only [WH, WO, WG, WM]
              repeat (go_big_quiet_step (fail))
              refine wpQuiet_nil ?_
              refine gK (by kernel_rfl) ?_
              intro W hW
              replace hW := hW.gr
              unfold oD
              rename_i hW
              have HQ := Lib.hid (HZ.out.gr hW)
              have e2 := HQ.out.frozen 0
              have e1 := HQ.out.cell 0 (by omega)
              unfold lv at e1
              go_wp2
              go_roundw
              case rel =>
               refine ⟨_ + 1, ?_, by go_num, ?_, ?_, ?_⟩
               · omega
               ·
                rw [hst.out]
                exact JA HQ.out _ _ rfl
               ·
                rw [hst2.out]
                exact (HG2.out.gr hW).far (by dsimp only; omega) _
               · exact (HB2.out.trans (hW.mono (by omega))).setCell (Nat.le_refl _) _
              case measure => simp [intOf]
           ·
            rw [if_neg b1] at k1 hst
            by_cases b2 : q &&& 128 ≠ 0
            ·
             rw [if_pos b2] at k2
             go_wp2
             go_roundw
             case rel =>
              refine ⟨j + 1, by omega, by go_num, ?_, ?_, ?_⟩
              ·
               rw [hst.out]
               exact (HM.out.far (by dsimp only; omega) _).far (by dsimp only; omega) _
              ·
               rw [hst2.out]
               exact HG.out.high b2
              · exact (HB.out.setCell (by dsimp only; omega) _).setCell (by dsimp only; omega) _
             case measure => simp [intOf]; omega
            ·
             rw [if_neg b2] at k2
             go_wp2
             go_roundw
             case rel =>
              refine ⟨j + 1, by omega, by go_num, ?_, ?_, ?_⟩
              ·
               rw [hst.out]
               exact HM.out.far (by dsimp only; omega) _
              ·
               rw [hst2.out]
               exact HG.out.low b2
              · exact HB.out.setCell (by dsimp only; omega) _
             case measure => simp [intOf]; omega
          ·
           have h5 : j = 7 := by omega
           subst h5
           go_wp2_with fail
           refine bodyPost_end (results_none rfl _ _ _) rfl ⟨rfl, ?_, hr, hb⟩
           rw [hR.out]
           exact hl
theorem Wx {w w' : World} {g gt : Nat} {t : TypeId} (h : Only g w w') (ht : Turns w gt t) (hne : gt ≠ g) : Turns w' gt t := (h.block gt ht.lt (fun e => hne (by injection e))).trans ht
def dV : Array Value := ((List.range 24).map fun k => Value.int .u64 (u (Kec.rc k))).toArray
theorem pU {P : Program} {ops : Array Oper} {rest : List Oper} {o : Oper} {a : Act} {w : World} {Q : Exit → Act → World → Prop} (cells : Array Value) (d : Tmp) (t : TypeId) (parts : Array (Nat × Operand)) (hg : o.guard = none) (ho : o.op = .build t parts) (hd : o.dst = some d)
  (hf : P.built t (parts.map fun (i, x) => (i, a.eval x)).toList = some cells) (h : wpList P ops Q rest (a.put (some d) (.agg cells)) w) : wpList P ops Q (o :: rest) a w := by
 refine wpList_build hg t parts ho (by rw [hf]; rfl) ?_
 rw [hf, hd]
 exact h
theorem MI (w : World) : Calls Tryz.prog 169 #[] w (Ret (fun v _ => v = .agg jE) w) := by
 go_enter Tryz.func169, Tryz.ntmps169
 go_wp2_with first
  | refine pU jE 1 265 _ rfl rfl rfl (by kernel_rfl) ?_
  | refine wpList_store_row rfl 265 (.tmp 0) (.tmp 1) rfl w.heap.size jE rfl rfl 265 _ (heap_alloc_new w _) (by kernel_rfl) (by kernel_rfl) (by kernel_rfl) ?_
 rw [World.setRow_alloc_new]
 exact bodyPost_ret (results_cell_row rfl _ _ w.heap.size 265 jE (0, 0) _ rfl (heap_alloc_new w _) rfl rfl (by kernel_rfl)) rfl ⟨_, rfl, au w _, rfl⟩
theorem IU (w : World) : Calls Tryz.prog 170 #[] w (Ret (fun v _ => v = .agg dV) w) := by
 go_enter Tryz.func170, Tryz.ntmps170
 go_wp2_with first
  | refine pU dV 1 267 _ rfl rfl rfl (by kernel_rfl) ?_
  | refine wpList_store_row rfl 267 (.tmp 0) (.tmp 1) rfl w.heap.size dV rfl rfl 267 _ (heap_alloc_new w _) (by kernel_rfl) (by kernel_rfl) (by kernel_rfl) ?_
 rw [World.setRow_alloc_new]
 exact bodyPost_ret (results_cell_row rfl _ _ w.heap.size 267 dV (0, 0) _ rfl (heap_alloc_new w _) rfl rfl (by kernel_rfl)) rfl ⟨_, rfl, au w _, rfl⟩
theorem LU (w : World) : (Instr.index 267 (.agg dV) (.int .i64 ((0 : Nat) : Int))).run Tryz.prog w = .ok (.int .u64 (u (Kec.rc 0))) w := by kernel_rfl
theorem LQ (w : World) : (Instr.index 267 (.agg dV) (.int .i64 ((1 : Nat) : Int))).run Tryz.prog w = .ok (.int .u64 (u (Kec.rc 1))) w := by kernel_rfl
theorem LP (w : World) : (Instr.index 267 (.agg dV) (.int .i64 ((2 : Nat) : Int))).run Tryz.prog w = .ok (.int .u64 (u (Kec.rc 2))) w := by kernel_rfl
theorem LM (w : World) : (Instr.index 267 (.agg dV) (.int .i64 ((3 : Nat) : Int))).run Tryz.prog w = .ok (.int .u64 (u (Kec.rc 3))) w := by kernel_rfl
theorem LK (w : World) : (Instr.index 267 (.agg dV) (.int .i64 ((4 : Nat) : Int))).run Tryz.prog w = .ok (.int .u64 (u (Kec.rc 4))) w := by kernel_rfl
theorem LJ (w : World) : (Instr.index 267 (.agg dV) (.int .i64 ((5 : Nat) : Int))).run Tryz.prog w = .ok (.int .u64 (u (Kec.rc 5))) w := by kernel_rfl
theorem LH (w : World) : (Instr.index 267 (.agg dV) (.int .i64 ((6 : Nat) : Int))).run Tryz.prog w = .ok (.int .u64 (u (Kec.rc 6))) w := by kernel_rfl
theorem LG (w : World) : (Instr.index 267 (.agg dV) (.int .i64 ((7 : Nat) : Int))).run Tryz.prog w = .ok (.int .u64 (u (Kec.rc 7))) w := by kernel_rfl
theorem LD (w : World) : (Instr.index 267 (.agg dV) (.int .i64 ((8 : Nat) : Int))).run Tryz.prog w = .ok (.int .u64 (u (Kec.rc 8))) w := by kernel_rfl
theorem LC (w : World) : (Instr.index 267 (.agg dV) (.int .i64 ((9 : Nat) : Int))).run Tryz.prog w = .ok (.int .u64 (u (Kec.rc 9))) w := by kernel_rfl
theorem Iy (w : World) : (Instr.index 267 (.agg dV) (.int .i64 ((10 : Nat) : Int))).run Tryz.prog w = .ok (.int .u64 (u (Kec.rc 10))) w := by kernel_rfl
theorem Iw (w : World) : (Instr.index 267 (.agg dV) (.int .i64 ((11 : Nat) : Int))).run Tryz.prog w = .ok (.int .u64 (u (Kec.rc 11))) w := by kernel_rfl
theorem Iu (w : World) : (Instr.index 267 (.agg dV) (.int .i64 ((12 : Nat) : Int))).run Tryz.prog w = .ok (.int .u64 (u (Kec.rc 12))) w := by kernel_rfl
theorem Ir (w : World) : (Instr.index 267 (.agg dV) (.int .i64 ((13 : Nat) : Int))).run Tryz.prog w = .ok (.int .u64 (u (Kec.rc 13))) w := by kernel_rfl
theorem Iq (w : World) : (Instr.index 267 (.agg dV) (.int .i64 ((14 : Nat) : Int))).run Tryz.prog w = .ok (.int .u64 (u (Kec.rc 14))) w := by kernel_rfl
theorem Ip (w : World) : (Instr.index 267 (.agg dV) (.int .i64 ((15 : Nat) : Int))).run Tryz.prog w = .ok (.int .u64 (u (Kec.rc 15))) w := by kernel_rfl
theorem Io (w : World) : (Instr.index 267 (.agg dV) (.int .i64 ((16 : Nat) : Int))).run Tryz.prog w = .ok (.int .u64 (u (Kec.rc 16))) w := by kernel_rfl
theorem Il (w : World) : (Instr.index 267 (.agg dV) (.int .i64 ((17 : Nat) : Int))).run Tryz.prog w = .ok (.int .u64 (u (Kec.rc 17))) w := by kernel_rfl
theorem Ik (w : World) : (Instr.index 267 (.agg dV) (.int .i64 ((18 : Nat) : Int))).run Tryz.prog w = .ok (.int .u64 (u (Kec.rc 18))) w := by kernel_rfl
theorem Ij (w : World) : (Instr.index 267 (.agg dV) (.int .i64 ((19 : Nat) : Int))).run Tryz.prog w = .ok (.int .u64 (u (Kec.rc 19))) w := by kernel_rfl
theorem Ii (w : World) : (Instr.index 267 (.agg dV) (.int .i64 ((20 : Nat) : Int))).run Tryz.prog w = .ok (.int .u64 (u (Kec.rc 20))) w := by kernel_rfl
theorem Ih (w : World) : (Instr.index 267 (.agg dV) (.int .i64 ((21 : Nat) : Int))).run Tryz.prog w = .ok (.int .u64 (u (Kec.rc 21))) w := by kernel_rfl
theorem Ig (w : World) : (Instr.index 267 (.agg dV) (.int .i64 ((22 : Nat) : Int))).run Tryz.prog w = .ok (.int .u64 (u (Kec.rc 22))) w := by kernel_rfl
theorem Ie (w : World) : (Instr.index 267 (.agg dV) (.int .i64 ((23 : Nat) : Int))).run Tryz.prog w = .ok (.int .u64 (u (Kec.rc 23))) w := by kernel_rfl
theorem OG (k : Nat) (hk : k < 24) (w : World) : (Instr.index 267 (.agg dV) (.int .i64 (k : Nat))).run Tryz.prog w = .ok (.int .u64 (u (Kec.rc k))) w := by
 match k, hk with
 | 0, _ => exact LU w
 | 1, _ => exact LQ w
 | 2, _ => exact LP w
 | 3, _ => exact LM w
 | 4, _ => exact LK w
 | 5, _ => exact LJ w
 | 6, _ => exact LH w
 | 7, _ => exact LG w
 | 8, _ => exact LD w
 | 9, _ => exact LC w
 | 10, _ => exact Iy w
 | 11, _ => exact Iw w
 | 12, _ => exact Iu w
 | 13, _ => exact Ir w
 | 14, _ => exact Iq w
 | 15, _ => exact Ip w
 | 16, _ => exact Io w
 | 17, _ => exact Il w
 | 18, _ => exact Ik w
 | 19, _ => exact Ij w
 | 20, _ => exact Ii w
 | 21, _ => exact Ih w
 | 22, _ => exact Ig w
 | 23, _ => exact Ie w
 | k + 24, h => omega
theorem wV (g : Nat) (t : TypeId) (s : St) (w : World) (hl : bY w g t 25 s) :
  Calls Tryz.prog 136 #[.pointer (some ⟨g, 0, none⟩)] w (Tf fun w' => bY w' g t 25 (Kec.perm s 24) ∧ Only g w w') := by
 have HL := Lib.hid hl
 clear hl
 go_enter Tryz.func136, Tryz.ntmps136
 go_wp2_with fail
 refine (MI _).mono ?_
 rintro e w1 ⟨_, rfl, hg1, rfl⟩
 go_wp2_with refine wpList_store_row rfl 265 (.tmp 2) (.tmp 5) rfl w1.heap.size jE rfl rfl 265 _ (heap_alloc_new w1 _) (by kernel_rfl) (by kernel_rfl) (by kernel_rfl) ?_
 rw [World.setRow_alloc_new]
 refine (IU _).mono ?_
 rintro e w2 ⟨_, rfl, hg2, rfl⟩
 have HT : Hid (Turns w2 w1.heap.size 265) := Lib.hid (Turns.gr (w := w1.alloc (.cells jE 265)) (heap_alloc_new w1 _) hg2)
 have HG : Hid (Gr w w2) := Lib.hid ((hg1.trans (au w1 _)).trans hg2)
 have hs1 := hg1.size
 have hs2 := HL.out.lt
 clear hg1 hg2
 go_wp2_with fail
 go_loopw [7] (fun i wr => ∃ k : Nat, k ≤ 24 ∧ i = .int .i64 k ∧ bY wr g t 25 (Kec.perm s k) ∧ Turns wr w1.heap.size 265 ∧ Only g w wr) (fun i _ => 24 - (intOf i).toNat)
 case atStart => exact ⟨0, by omega, rfl, HL.out.gr HG.out, HT.out, Only.BM HG.out g⟩
 case round =>
  clear HT HG
  obtain ⟨k, hk, rfl, hl, ht, ho⟩ := hrel
  have HM := Lib.hid hl
  have HT := Lib.hid ht
  have HO := Lib.hid ho
  clear hl ht ho
  by_cases h1 : k < 24
  ·
   have hidx := OG k h1
   go_wp2_with fail
   refine (MJ g _ t 265 _ _ _ HM.out HT.out).mono ?_
   rintro e w3 ⟨rfl, hl3, ho3⟩
   have H3 := Lib.hid hl3
   have HO3 := Lib.hid ho3
   clear hl3 ho3
   go_wp2_with fail
   go_roundw
   case rel => exact ⟨k + 1, by omega, by go_num, H3.out, (Wx HO3.out HT.out (by omega)), HO.out.trans HO3.out⟩
   case measure => simp [intOf]; omega
  ·
   have h5 : k = 24 := by omega
   subst h5
   go_wp2_with fail
   exact bodyPost_end (results_none rfl _ _ _) rfl ⟨rfl, HM.out, HO.out⟩
end Go.Proofs.YtelbhdobjdnglaaGreat
namespace Go.Proofs.YtelbhdobjdnglaaGreat.Kec
theorem Same.refl (a : St) : Same a a := fun _ _ => rfl
theorem Same.trans {a b c : St} (h : Same a b) (k : Same b c) : Same a c := fun i hi => (h i hi).trans (k i hi)
theorem Same.upd {a b : St} (h : Same a b) (k : Nat) {v v' : L} (hv : v = v') : Same (upd a k v) (upd b k v') := by
 intro i hi
 unfold Kec.upd
 rw [hv]
 split
 · rfl
 · exact h i hi
theorem Gz {a b : St} (h : Same a b) (x : Nat) (hx : x < 5) : col a x = col b x := by
 unfold col
 rw [h x (by omega), h (x + 5) (by omega), h (x + 10) (by omega), h (x + 15) (by omega), h (x + 20) (by omega)]
theorem SS {a b : St} (h : Same a b) (x : Nat) : dd a x = dd b x := by
 unfold dd
 rw [Gz h _ (Nat.mod_lt _ (by decide)), Gz h _ (Nat.mod_lt _ (by decide))]
theorem Kz {a b : St} (h : Same a b) : ∀ k, k ≤ 25 → bb a k = bb b k
 | 0, _ => rfl
 | k + 1, hk => by
  unfold bb
  rw [Kz h k (by omega), h k (by omega), SS h]
theorem Jz {a b : St} (h : Same a b) (r : St) : ∀ k, Same (ss r a k) (ss r b k)
 | 0 => h
 | k + 1 => (Jz h r k).upd k rfl
theorem sU {a b : St} (h : Same a b) (n : L) : Same (round a n) (round b n) := by
 have h1 := Jz h (bb a 25) 25
 unfold round
 rw [← Kz h 25 (by omega)]
 exact h1.upd 0 (by rw [h1 0 (by omega)])
theorem ER (a : St) (k : Nat) (hk : k < 24) : Same (round a (rc k)) (yE a (lfn 1 (7 * k))) := by
 have h : Same (ss (bb a 25) a 25) (ch (mv (th (col a) a 5) 24).a 5) := fun i hi => lane a i hi
 unfold round yE
 rw [TD, Uj k hk]
 exact h.upd 0 (by rw [h 0 (by omega)])
theorem BD {a b : St} (h : Same a b) : ∀ k, k ≤ 24 → Same (perm a k) (yF b k)
 | 0, _ => h
 | k + 1, hk => (sU (BD h k (by omega)) (rc k)).trans (ER (yF b k) k (by omega))
theorem JR (l : BitVec 8) (i : Nat) : ∀ j, lfn l (i + j) = lfn (lfn l i) j
 | 0 => rfl
 | j + 1 => by
  show lf (lfn l (i + j)) = lf (lfn (lfn l i) j)
  rw [JR l i j]
end Go.Proofs.YtelbhdobjdnglaaGreat.Kec
namespace Go.Proofs.YtelbhdobjdnglaaGreat
open Kec (L St rotl Same)
def jC (P : St → St) (p : St × Nat) (b : UInt8) : St × Nat := if p.2 + 1 = 136 then (P (takeB p.1 p.2 b.toNat), 0) else (takeB p.1 p.2 b.toNat, p.2 + 1)
def iO (p : St × Nat) (b : UInt8) : St × Nat := jC (fun s => Kec.perm s 24) p b
def eH (l : List UInt8) : St × Nat := l.foldl iO (fun _ => 0, 0)
def jD (l : List UInt8) : St := Kec.perm (takeB (takeB (eH l).1 (eH l).2 1) 135 128) 24
theorem Eh (l : List UInt8) (b : UInt8) : eH (l ++ [b]) = iO (eH l) b := by simp [eH]
theorem Jo (P : St → St) (p : St × Nat) (b : UInt8) (h : p.2 < 136) : (jC P p b).2 < 136 := by
 unfold jC
 split
 · simp
 · dsimp only; omega
theorem CS (p : St × Nat) (b : UInt8) (h : p.2 < 136) : (iO p b).2 < 136 := Jo _ p b h
theorem GU (l : List UInt8) : ∀ p : St × Nat, p.2 < 136 → (l.foldl iO p).2 < 136 := by
 induction l with
 | nil => exact fun _ h => h
 | cons b l ih => exact fun p h => ih _ (CS p b h)
theorem zV (l : List UInt8) : (eH l).2 < 136 := GU l _ (by simp)
theorem KQ (ms : List (List UInt8)) (k : Nat) (h : k < ms.length) : (ms.take (k + 1)).flatten = (ms.take k).flatten ++ ms[k] := by
 rw [Xa h, Yz]
 simp only [Xv, List.flatten_nil, XB]
theorem take_snoc (pre m : List UInt8) (j : Nat) (h : j < m.length) : eH (pre ++ m.take (j + 1)) = iO (eH (pre ++ m.take j)) m[j] := by
 rw [Xa h, ← Xp, Eh]
theorem NQ (p : St × Nat) (b : UInt8) (h : p.2 < 136) : (iO p b).2 = (p.2 + 1) % 136 := by
 unfold iO jC
 split
 · dsimp only; omega
 · dsimp only; omega
theorem fold_at (l : List UInt8) : ∀ p : St × Nat, p.2 < 136 → (l.foldl iO p).2 = (p.2 + l.length) % 136 := by
 induction l with
 | nil => intro p h; simp; omega
 | cons b l ih =>
  intro p h
  rw [XJ, ih _ (CS p b h), NQ p b h, WS]
  omega
theorem zW (l : List UInt8) : (eH l).2 = l.length % 136 := by
 have := fold_at l (fun _ => 0, 0) (by simp)
 simpa [eH] using this
theorem Ho (f : St) (k : Nat) : takeB f k 0 = f := by
 funext j
 unfold takeB Kec.upd
 split
 · subst_vars; simp
 · rfl
def IJ (r : Nat) : List UInt8 := if r = 135 then [129] else 1 :: (List.replicate (134 - r) 0 ++ [128])
theorem zD : ∀ (n : Nat) (s : St) (k : Nat), k + n ≤ 135 → (List.replicate n (0 : UInt8)).foldl iO (s, k) = (s, k + n)
 | 0, _, _, _ => rfl
 | n + 1, s, k, h => by
  rw [YB, XJ]
  have : iO (s, k) 0 = (s, k + 1) := by
   unfold iO jC
   rw [if_neg (by dsimp only; omega)]
   dsimp only
   rw [show UInt8.toNat 0 = 0 from rfl, Ho]
  rw [this, zD n s (k + 1) (by omega)]
  congr 1
  omega
theorem Hq (s : St) : takeB (takeB s 135 1) 135 128 = takeB s 135 129 := by
 funext j
 unfold takeB Kec.upd
 split
 ·
  subst_vars
  simp only [if_true]
  rw [BitVec.xor_assoc]
  rfl
 · rfl
theorem PG (s : St) (r : Nat) (h : r < 136) : (IJ r).foldl iO (s, r) = (Kec.perm (takeB (takeB s r 1) 135 128) 24, 0) := by
 unfold IJ
 by_cases hr : r = 135
 ·
  subst hr
  rw [if_pos rfl, XJ, List.foldl_nil]
  unfold iO jC
  rw [if_pos rfl, Hq]
  rfl
 ·
  rw [if_neg hr, XJ, YP]
  have h1 : iO (s, r) 1 = (takeB s r 1, r + 1) := by
   unfold iO jC
   rw [if_neg (by dsimp only; omega)]
   rfl
  rw [h1, zD _ _ _ (by omega), show r + 1 + (134 - r) = 135 by omega, XJ, List.foldl_nil]
  unfold iO jC
  rw [if_pos rfl]
  rfl
theorem Hy (l : List UInt8) : eH (l ++ IJ (l.length % 136)) = (jD l, 0) := by
 unfold eH
 rw [YP]
 have h : List.foldl iO (fun _ => 0, 0) l = ((eH l).1, l.length % 136) := by rw [← zW]; rfl
 rw [h, PG _ _ (by omega)]
 unfold jD
 rw [zW]
def wM (g : Nat → Nat) (s : St) : Nat → St
 | 0 => s
 | i + 1 => takeB (wM g s i) i (g i)
def og (m : List UInt8) : Nat → St
 | 0 => fun _ => 0
 | j + 1 => Kec.yF (wM (fun i => (m.getD (136 * j + i) 0).toNat) (og m j) 136) 24
def oW (p : St × Nat) (b : UInt8) : St × Nat := jC (fun s => Kec.yF s 24) p b
theorem AX (m : List UInt8) (k : Nat) (h : k < m.length) : m.take (k + 1) = m.take k ++ [m.getD k 0] := by
 rw [Xa h]
 simp [h]
theorem JH (m : List UInt8) (j : Nat) (hj : 136 * j + 136 ≤ m.length) (h0 : (m.take (136 * j)).foldl oW (fun _ => 0, 0) = (og m j, 0)) :
  ∀ i, i ≤ 135 → (m.take (136 * j + i)).foldl oW (fun _ => 0, 0) = (wM (fun i => (m.getD (136 * j + i) 0).toNat) (og m j) i, i)
 | 0, _ => h0
 | i + 1, hi => by
  rw [← Y0, AX m _ (by omega), YP, JH m j hj h0 i (by omega), XJ, List.foldl_nil]
  unfold oW jC
  rw [if_neg (by dsimp only; omega)]
  rfl
theorem Fa (m : List UInt8) : ∀ j, 136 * j ≤ m.length → (m.take (136 * j)).foldl oW (fun _ => 0, 0) = (og m j, 0)
 | 0, _ => rfl
 | j + 1, h => by
  have h0 := JH m j (by omega) (Fa m j (by omega)) 135 (by omega)
  rw [show 136 * (j + 1) = 136 * j + 135 + 1 by omega, AX m _ (by omega), YP, h0, XJ, List.foldl_nil]
  unfold oW jC
  rw [if_pos rfl]
  rfl
theorem yc {a b : St} (h : Same a b) (k v : Nat) (hk : k < 136) : Same (takeB a k v) (takeB b k v) := h.upd _ (by rw [h _ (by omega)])
theorem Nj (l : List UInt8) : ∀ p q : St × Nat, p.2 < 136 → p.2 = q.2 → Same p.1 q.1 → Same (l.foldl iO p).1 (l.foldl oW q).1 := by
 induction l with
 | nil => exact fun _ _ _ _ h => h
 | cons b l ih =>
  intro p q hp hpq h
  rw [XJ, XJ]
  obtain ⟨s, k⟩ := p
  obtain ⟨t, k'⟩ := q
  dsimp only at hp hpq h
  subst hpq
  unfold iO oW jC
  dsimp only
  by_cases hk : k + 1 = 136
  ·
   rw [if_pos hk, if_pos hk]
   have hs := Kec.BD (yc h k b.toNat hp) 24 (by omega)
   generalize Kec.perm (takeB s k b.toNat) 24 = x at hs ⊢
   generalize Kec.yF (takeB t k b.toNat) 24 = y at hs ⊢
   exact ih (x, 0) (y, 0) (Nat.zero_lt_succ _) rfl hs
  ·
   rw [if_neg hk, if_neg hk]
   exact ih _ _ (by dsimp only; omega) rfl (yc h k _ hp)
theorem ED (l m : List UInt8) (j : Nat) (hm : m = l ++ IJ (l.length % 136)) (hj : 136 * j = m.length) : Same (jD l) (og m j) := by
 have h1 := Fa m j (by omega)
 rw [hj, Yb] at h1
 have h2 := Nj m (fun _ => 0, 0) (fun _ => 0, 0) (by simp) rfl (Same.refl _)
 rw [h1] at h2
 have h3 := Hy l
 rw [← hm] at h3
 unfold eH at h3
 rw [h3] at h2
 exact h2
def zeros (l : List UInt8) (n : Nat) : List UInt8 := l ++ 1 :: List.replicate n 0
theorem zeros_length (l : List UInt8) (n : Nat) : (zeros l n).length = l.length + 1 + n := by simp [zeros]; omega
theorem G8 (l : List UInt8) (n : Nat) : zeros l n ++ [0] = zeros l (n + 1) := by
 unfold zeros
 rw [Xp, WL, ← List.replicate_succ']
theorem KL (l : List UInt8) (n : Nat) (hn : n = 135 - l.length % 136) : (zeros l n).set ((zeros l n).length - 1) ((zeros l n).getD ((zeros l n).length - 1) 0 ||| 128) = l ++ IJ (l.length % 136) := by
 rw [zeros_length]
 unfold zeros IJ
 by_cases hr : l.length % 136 = 135
 ·
  have h0 : n = 0 := by omega
  subst h0
  rw [if_pos hr]
  have : (1 ||| 128 : UInt8) = 129 := by decide
  simp [this]
 ·
  have h1 : n = 134 - l.length % 136 + 1 := by omega
  rw [if_neg hr]
  generalize 134 - l.length % 136 = k at *
  subst h1
  rw [List.replicate_succ', show l ++ 1 :: (List.replicate k 0 ++ [0]) = (l ++ 1 :: List.replicate k (0 : UInt8)) ++ [0] by simp, show l.length + 1 + (k + 1) - 1 = (l ++ 1 :: List.replicate k (0 : UInt8)).length by simp; omega]
  simp
def VA (f : St) (k : Nat) : UInt8 := UInt8.ofNat (f (k / 8) >>> (8 * (k % 8))).toNat
def L9 (f : St) : List UInt8 := (List.range 32).map (VA f)
theorem BI {a b : St} (h : Same a b) : L9 a = L9 b := by
 unfold L9
 refine XL fun k hk => ?_
 have := X7.1 hk
 unfold VA
 rw [h _ (by omega)]
def hash (l : List UInt8) : List UInt8 := L9 (jD l)
theorem qK (l : List UInt8) : (hash l).length = 32 := by simp [hash, L9]
end Go.Proofs.YtelbhdobjdnglaaGreat
