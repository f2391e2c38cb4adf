/-
 Merged (wip/tools/merge.py): KecRound, KecRef, KecPerm, KecPlain.
 Conditions: none.
-/
import Derived.Test.YtiledgojbpmoiaaGreatZQ12
import Derived.Laws.Rows
import Derived.Laws.Tables
import Derived.Deep.WholeRow
namespace Go.Proofs.YtiledgojbpmoiaaGreat
set_option maxRecDepth 20000
set_option maxHeartbeats 1000000
open Go.RowKit Mono
open Kec (L St rotl)
def jJ : Array Value := ((List.range 25).map fun k => Value.int .i64 (Kec.turn k)).toArray
def Turns (w : World) (g : Nat) (t : TypeId) : Prop := w.heap[g]? = some (.cells jJ t (0, 0))
theorem Turns.cell {w : World} {g : Nat} {t : TypeId} (h : Turns w g t) (k : Nat) (hk : k < 25) : w.cell? ⟨g, k, none⟩ = some (.int .i64 (Kec.turn k)) := by
 rw [cell_of_row w g k _ t (0, 0) h]
 simp [jJ, hk]
theorem Turns.lt {w : World} {g : Nat} {t : TypeId} (h : Turns w g t) : g < w.heap.size := by
 rcases Nat.lt_or_ge g w.heap.size with h1 | h1
 · exact h1
 · unfold Turns at h; rw [Array.getElem?_eq_none h1] at h; cases h
theorem Turns.gr {w w' : World} {g : Nat} {t : TypeId} (h : Turns w g t) (hg : Gr w w') : Turns w' g t := (hg.block g h.lt).trans h
theorem QN : ∀ k, k < 25 → Kec.turn k < 64 := by decide
theorem Oq : ∀ k, k < 25 → Kec.place k < 25 := by decide
def eu (f : St) (n : Nat) : St := fun j => if j < n then f j else 0
theorem mW (f : St) (n : Nat) : Kec.upd (eu f n) n (f n) = eu f (n + 1) := by
 funext j
 unfold Kec.upd eu
 by_cases h : j = n
 · subst h; rw [if_pos rfl, if_pos (by omega)]
 ·
  rw [if_neg h]
  by_cases h2 : j < n
  · rw [if_pos h2, if_pos (by omega)]
  · rw [if_neg h2, if_neg (by omega)]
theorem mV (f : St) : eu f 0 = fun _ => 0 := by funext j; simp [eu]
theorem kC (w : World) (t : TypeId) (n : Nat) (c : Array Value) (h : c = cellsOf (fun _ => 0) n) : bY (w.alloc (.cells c t)) w.heap.size t n (fun _ => 0) := by
 subst h
 unfold bY World.alloc
 simp
theorem Td (x : L) : bits .xor .u64 (if IntKind.u64.signed = true then -1 else IntKind.u64.max) (u x) = u (~~~x) := by
 have h : (if IntKind.u64.signed = true then -1 else IntKind.u64.max) = u (BitVec.allOnes 64) := rfl
 rw [h, oQ, BitVec.allOnes_xor]
theorem vY (w : World) (o : Obj) : (w.alloc o).heap.size = w.heap.size + 1 := by simp
theorem Tf (s : St) (k : Nat) : bits .xor .u64 (bits .xor .u64 (bits .xor .u64 (bits .xor .u64 (u (s k)) (u (s (k + 5)))) (u (s (k + 10)))) (u (s (k + 15)))) (u (s (k + 20))) = u (Kec.col s k) := by
 simp only [oQ]
 rfl
theorem MJ (g gt : Nat) (t tt : TypeId) (s : St) (n : L) (w : World) (hl : bY w g t 25 s) (ht : Turns w gt tt) :
  Calls Tryz.prog 176 #[.pointer (some ⟨g, 0, none⟩), .pointer (some ⟨gt, 0, none⟩), .int .u64 (u n)] w (SV fun w' => bY w' g t 25 (Kec.round s n) ∧ Only g w w') := by
 have hg := hl.lt
 have hgt := ht.lt
 have HL := Lib.hid hl
 have HT := Lib.hid ht
 clear hl ht
 go_enter Tryz.func176, Tryz.ntmps176
 go_wp2
 go_loopw [17] (fun i wr => ∃ k : Nat, k ≤ 5 ∧ i = .int .i64 k ∧ bY wr w.heap.size 212 5 (eu (Kec.col s) k) ∧ bY wr (w.heap.size + 1) 212 5 (fun _ => 0) ∧ Gr w wr) (fun i _ => 5 - (intOf i).toNat)
 case atStart =>
  refine ⟨0, by omega, rfl, ?_, ?_, ?_⟩
  ·
   rw [mV]
   exact (kC w 212 5 _ rfl).alloc _
  ·
   have := kC (w.alloc (.cells #[.int .u64 0, .int .u64 0, .int .u64 0, .int .u64 0, .int .u64 0] 212)) 212 5 _ rfl
   rw [vY] at this
   exact this
  · exact (aC w _).trans (aC _ _)
 case round =>
  obtain ⟨k, hk, rfl, hc, hd, hb⟩ := hrel
  have hbs := hb.size
  have HC := Lib.hid hc
  have HD := Lib.hid hd
  have HB := Lib.hid hb
  have hcl := hc.lt
  have hdl := hd.lt
  clear hc hd hb
  by_cases h1 : k < 5
  ·
   have c0 := bg (w := wr) (p := ⟨g, k, none⟩) (by dsimp only; omega) ((HL.out.gr HB.out).cell k (by omega))
   have c1 := bg (w := wr) (p := ⟨g, k + 5, none⟩) (by dsimp only; omega) ((HL.out.gr HB.out).cell (k + 5) (by omega))
   have c2 := bg (w := wr) (p := ⟨g, k + 10, none⟩) (by dsimp only; omega) ((HL.out.gr HB.out).cell (k + 10) (by omega))
   have c3 := bg (w := wr) (p := ⟨g, k + 15, none⟩) (by dsimp only; omega) ((HL.out.gr HB.out).cell (k + 15) (by omega))
   have c4 := bg (w := wr) (p := ⟨g, k + 20, none⟩) (by dsimp only; omega) ((HL.out.gr HB.out).cell (k + 20) (by omega))
   unfold lv at c0 c1 c2 c3 c4
   go_wp2
   refine dH 35 (by kernel_rfl) (by kernel_rfl) (by kernel_rfl) ?_
   simp only [List.take_succ_cons, List.take_zero, List.drop_succ_cons, List.drop_zero]
   refine dJ 35 (by kernel_rfl) ?_
   simp only [List.take_succ_cons, List.take_zero, List.drop_succ_cons, List.drop_zero]
   repeat (go_big_quiet_step (fail))
   refine wpQuiet_nil ?_
   refine gV (by kernel_rfl) ?_
   intro W hW
   replace hW := hW.gr
   unfold oC
   rename_i wq hW
   have HQ := Lib.hid (HC.out.gr hW)
   have e2 := HQ.out.frozen k
   have e1 := HQ.out.cell k (by omega)
   unfold lv at e1
   go_wp2
   go_roundw
   case rel =>
    rw [Tf]
    refine ⟨k + 1, by omega, by go_num, ?_, ?_, ?_⟩
    ·
     rw [← mW]
     exact HQ.out.set k (Kec.col s k)
    · exact ((HD.out.gr hW)).far (by simp) _
    · exact (Only.set (g := w.heap.size) _ k _).gr (HB.out.trans hW) (Nat.le_refl _)
   case measure => simp [intOf]; omega
  ·
   have h5 : k = 5 := by omega
   subst h5
   go_wp2_with fail
   obtain ⟨wo, rfl⟩ : ∃ wo : World, wo = wr := ⟨_, rfl⟩
   go_loopw [56] (fun i wr => ∃ k : Nat, k ≤ 5 ∧ i = .int .i64 k ∧ bY wr w.heap.size 212 5 (eu (Kec.col s) 5) ∧ bY wr (w.heap.size + 1) 212 5 (eu (Kec.dd s) k) ∧ Gr w wr) (fun i _ => 5 - (intOf i).toNat)
   case atStart => exact ⟨0, by omega, rfl, HC.out, by rw [mV]; exact HD.out, HB.out⟩
   case round =>
    clear HB HC HD
    obtain ⟨k, hk, rfl, hc, hd, hb⟩ := hrel
    have hbs := hb.size
    have HC := Lib.hid hc
    have HD := Lib.hid hd
    have HB := Lib.hid hb
    have hcl := hc.lt
    have hdl := hd.lt
    clear hc hd hb
    by_cases h1 : k < 5
    ·
     have c0 := bg (w := wr) (p := ⟨w.heap.size, (k + 4) % 5, none⟩) (by dsimp only; omega) (HC.out.cell ((k + 4) % 5) (by omega))
     have c1 := bg (w := wr) (p := ⟨w.heap.size, (k + 1) % 5, none⟩) (by dsimp only; omega) (HC.out.cell ((k + 1) % 5) (by omega))
     unfold lv at c0 c1
     go_wp2
     refine dH 14 (by kernel_rfl) (by kernel_rfl) (by kernel_rfl) ?_
     simp only [List.take_succ_cons, List.take_zero, List.drop_succ_cons, List.drop_zero]
     refine dJ 11 (by kernel_rfl) ?_
     simp only [List.take_succ_cons, List.take_zero, List.drop_succ_cons, List.drop_zero]
     repeat (go_big_quiet_step (fail))
     refine wpQuiet_nil ?_
     refine xE (.int .u64 (u (rotl (eu (Kec.col s) 5 ((k + 1) % 5)) 1))) rfl (by kernel_rfl) (by kernel_rfl) (fun xw => ?_) ?_
     ·
      refine lq (by simp [go_sem]) ((rotate (eu (Kec.col s) 5 ((k + 1) % 5)) 1 (by omega) _).mono ?_)
      rintro e w' ⟨rfl, rfl⟩
      exact ⟨_, rfl, Gr.refl _, rfl⟩
     simp only [Act.put, List.setIfInBounds_toArray, List.set_cons_succ, List.set_cons_zero]
     refine dJ 2 (by kernel_rfl) ?_
     simp only [List.take_succ_cons, List.take_zero, List.drop_succ_cons, List.drop_zero]
     repeat (go_big_quiet_step (fail))
     refine wpQuiet_nil ?_
     refine gV (by kernel_rfl) ?_
     intro W hW
     replace hW := hW.gr
     unfold oC
     rename_i wq hW
     have HQ := Lib.hid (HD.out.gr hW)
     have e2 := HQ.out.frozen k
     have e1 := HQ.out.cell k (by omega)
     unfold lv at e1
     go_wp2
     go_roundw
     case rel =>
      have hf : u (eu (Kec.col s) 5 ((k + 4) % 5)) = u (Kec.col s ((k + 4) % 5)) := by unfold eu; rw [if_pos (by omega)]
      have hf1 : eu (Kec.col s) 5 ((k + 1) % 5) = Kec.col s ((k + 1) % 5) := by unfold eu; rw [if_pos (by omega)]
      rw [hf, hf1, oQ]
      refine ⟨k + 1, by omega, by go_num, ?_, ?_, ?_⟩
      · exact (HC.out.gr hW).far (by simp) _
      ·
       rw [← mW]
       exact HQ.out.set k (Kec.dd s k)
      · exact (Only.set (g := w.heap.size + 1) _ k _).gr (HB.out.trans hW) (by omega)
     case measure => simp [intOf]; omega
    ·
     have h5 : k = 5 := by omega
     subst h5
     go_wp2_with fail
     obtain ⟨wo, rfl⟩ : ∃ wo : World, wo = wr := ⟨_, rfl⟩
     go_loopw [74] (fun i wr => ∃ k : Nat, k ≤ 25 ∧ i = .int .i64 k ∧ bY wr (w.heap.size + 1) 212 5 (eu (Kec.dd s) 5) ∧ bY wr wo.heap.size 228 25 (Kec.bb s k) ∧ Gr w wr) (fun i _ => 25 - (intOf i).toNat)
     case atStart => exact ⟨0, by omega, rfl, HD.out.alloc _, kC wo 228 25 _ rfl, HB.out.trans (aC _ _)⟩
     case round =>
      clear HB HC HD
      obtain ⟨k, hk, rfl, hd, he, hb⟩ := hrel
      have hbs2 := hb.size
      have HE := Lib.hid he
      have HD := Lib.hid hd
      have HB := Lib.hid hb
      have hel := he.lt
      clear he hd hb
      by_cases h1 : k < 25
      ·
       have c0 := bg (w := wr) (p := ⟨g, k, none⟩) (by dsimp only; omega) ((HL.out.gr HB.out).cell k (by omega))
       have c1 := bg (w := wr) (p := ⟨w.heap.size + 1, k % 5, none⟩) (by dsimp only; omega) (HD.out.cell (k % 5) (by omega))
       have c2 := bg (w := wr) (p := ⟨gt, k, none⟩) (by dsimp only; omega) ((HT.out.gr HB.out).cell k (by omega))
       unfold lv at c0 c1
       go_wp2
       refine dH 25 (by kernel_rfl) (by kernel_rfl) (by kernel_rfl) ?_
       simp only [List.take_succ_cons, List.take_zero, List.drop_succ_cons, List.drop_zero]
       refine dJ 23 (by kernel_rfl) ?_
       simp only [List.take_succ_cons, List.take_zero, List.drop_succ_cons, List.drop_zero]
       repeat (go_big_quiet_step (fail))
       refine wpQuiet_nil ?_
       refine xE (.int .u64 (u (rotl (s k ^^^ eu (Kec.dd s) 5 (k % 5)) (Kec.turn k)))) rfl (by kernel_rfl) (by kernel_rfl) (fun xw => ?_) ?_
       ·
        refine lq (by simp [go_sem, oQ]) ((rotate (s k ^^^ eu (Kec.dd s) 5 (k % 5)) (Kec.turn k) (QN k h1) _).mono ?_)
        rintro e w' ⟨rfl, rfl⟩
        exact ⟨_, rfl, Gr.refl _, rfl⟩
       simp only [Act.put, List.setIfInBounds_toArray, List.set_cons_succ, List.set_cons_zero]
       refine dJ 1 (by kernel_rfl) ?_
       simp only [List.take_succ_cons, List.take_zero, List.drop_succ_cons, List.drop_zero]
       repeat (go_big_quiet_step (fail))
       refine wpQuiet_nil ?_
       refine gV (by kernel_rfl) ?_
       intro W hW
       replace hW := hW.gr
       unfold oC
       rename_i wq hW
       have HQ := Lib.hid (HE.out.gr hW)
       have e2 := HQ.out.frozen (Kec.place k)
       have e1 := HQ.out.cell (Kec.place k) (Oq k h1)
       unfold lv at e1
       unfold Kec.place at e1 e2
       go_wp2
       go_roundw
       case rel =>
        have hv : u (rotl (s k ^^^ eu (Kec.dd s) 5 (k % 5)) (Kec.turn k)) = u (rotl (s k ^^^ Kec.dd s (k % 5)) (Kec.turn k)) := by
         unfold eu
         rw [if_pos (by omega)]
        rw [hv]
        refine ⟨k + 1, by omega, by go_num, ?_, ?_, ?_⟩
        · exact (HD.out.gr hW).far (by dsimp only; omega) _
        · exact HQ.out.set (Kec.place k) _
        · exact (Only.set (g := wo.heap.size) _ (Kec.place k) _).gr (HB.out.trans hW) (by omega)
       case measure => simp [intOf]; omega
      ·
       have h5 : k = 25 := by omega
       subst h5
       go_wp2_with fail
       obtain ⟨wo2, rfl⟩ : ∃ wo : World, wo = wr := ⟨_, rfl⟩
       go_loopw [107] (fun i wr => ∃ k : Nat, k ≤ 25 ∧ i = .int .i64 k ∧ bY wr wo.heap.size 228 25 (Kec.bb s 25) ∧ bY wr g t 25 (Kec.ss (Kec.bb s 25) s k) ∧ Only g w wr) (fun i _ => 25 - (intOf i).toNat)
       case atStart => exact ⟨0, by omega, rfl, HE.out, HL.out.gr HB.out, Only.Bo HB.out g⟩
       case round =>
        clear HB HE HD
        obtain ⟨k, hk, rfl, he, hl, ho⟩ := hrel
        have hbs3 := ho.size
        have HE := Lib.hid he
        have HM := Lib.hid hl
        have HO := Lib.hid ho
        have hel := he.lt
        clear he hl ho
        by_cases h1 : k < 25
        ·
         have c0 := bg (w := wr) (p := ⟨wo.heap.size, k, none⟩) (by dsimp only; omega) (HE.out.cell k (by omega))
         have c1 := bg (w := wr) (p := ⟨wo.heap.size, (k + 1) % 5 + k / 5 * 5, none⟩) (by dsimp only; omega) (HE.out.cell ((k + 1) % 5 + k / 5 * 5) (by omega))
         have c2 := bg (w := wr) (p := ⟨wo.heap.size, (k + 2) % 5 + k / 5 * 5, none⟩) (by dsimp only; omega) (HE.out.cell ((k + 2) % 5 + k / 5 * 5) (by omega))
         unfold lv at c0 c1 c2
         go_wp2
         refine dH 24 (by kernel_rfl) (by kernel_rfl) (by kernel_rfl) ?_
         simp only [List.take_succ_cons, List.take_zero, List.drop_succ_cons, List.drop_zero]
         refine dJ 24 (by kernel_rfl) ?_
         simp only [List.take_succ_cons, List.take_zero, List.drop_succ_cons, List.drop_zero]
         repeat (go_big_quiet_step (fail))
         refine wpQuiet_nil ?_
         refine gV (by kernel_rfl) ?_
         intro W hW
         replace hW := hW.gr
         unfold oC
         rename_i wq hW
         have HQ := Lib.hid (HM.out.gr hW)
         have e2 := HQ.out.frozen k
         have e1 := HQ.out.cell k (by omega)
         unfold lv at e1
         go_wp2
         go_roundw
         case rel =>
          have hv : u (Kec.bb s 25 k ^^^ (~~~ Kec.bb s 25 ((k + 1) % 5 + k / 5 * 5) &&& Kec.bb s 25 ((k + 2) % 5 + k / 5 * 5))) = u (Kec.chi (Kec.bb s 25) k) := by
           unfold Kec.chi
           rw [show (k % 5 + 1) % 5 = (k + 1) % 5 by omega, show (k % 5 + 2) % 5 = (k + 2) % 5 by omega]
          rw [Td, NJ, oQ, hv]
          refine ⟨k + 1, by omega, by go_num, ?_, ?_, ?_⟩
          · exact (HE.out.gr hW).far (by dsimp only; omega) _
          · exact HQ.out.set k _
          · exact (HO.out.trans (Only.Bo hW g)).trans (Only.set _ _ _)
         case measure => simp [intOf]; omega
        ·
         have h5 : k = 25 := by omega
         subst h5
         have c0 := bg (w := wr) (p := ⟨g, 0, none⟩) (by dsimp only; omega) (HM.out.cell 0 (by omega))
         unfold lv at c0
         go_wp2
         refine dH 8 (by kernel_rfl) (by kernel_rfl) (by kernel_rfl) ?_
         simp only [List.take_succ_cons, List.take_zero, List.drop_succ_cons, List.drop_zero]
         refine dJ 8 (by kernel_rfl) ?_
         simp only [List.take_succ_cons, List.take_zero, List.drop_succ_cons, List.drop_zero]
         repeat (go_big_quiet_step (fail))
         refine wpQuiet_nil ?_
         refine gV (by kernel_rfl) ?_
         intro W hW
         replace hW := hW.gr
         unfold oC
         rename_i wq hW
         have HQ := Lib.hid (HM.out.gr hW)
         have e2 := HQ.out.frozen 0
         have e1 := HQ.out.cell 0 (by omega)
         unfold lv at e1
         go_wp2
         refine bodyPost_ret (results_none rfl _ _ _) rfl ⟨rfl, ?_⟩
         rw [oQ]
         exact ⟨HQ.out.set 0 _, (HO.out.trans (Only.Bo hW g)).trans (Only.set _ _ _)⟩
def Reg (w : World) (g : Nat) (t : TypeId) (l : BitVec 8) : Prop := w.heap[g]? = some (.cells #[.int .u8 (l.toNat : Int)] t (0, 0))
section
variable {w w' : World} {g : Nat} {t : TypeId} {l : BitVec 8}
theorem Reg.lt (h : Reg w g t l) : g < w.heap.size := by
 rcases Nat.lt_or_ge g w.heap.size with h1 | h1
 · exact h1
 · unfold Reg at h; rw [Array.getElem?_eq_none h1] at h; cases h
theorem Reg.cell (h : Reg w g t l) : w.cell? ⟨g, 0, none⟩ = some (.int .u8 (l.toNat : Int)) := by
 rw [cell_of_row w g 0 _ t (0, 0) h]
 rfl
theorem Reg.frozen (h : Reg w g t l) : w.frozen? ⟨g, 0, none⟩ = false := by
 unfold Reg at h
 simp [World.frozen?, h]
theorem Reg.gr (h : Reg w g t l) (hg : Gr w w') : Reg w' g t l := (hg.block g h.lt).trans h
theorem Reg.set (h : Reg w g t l) (v : BitVec 8) : Reg (w.setCell ⟨g, 0, none⟩ (.int .u8 (v.toNat : Int))) g t v := by
 unfold Reg at h ⊢
 simp [World.setCell, Array.getElem?_modify, h]
theorem Reg.far (h : Reg w g t l) {p : Addr} (hp : g ≠ p.block) (v : Value) : Reg (w.setCell p v) g t l := (Below.heap_setCell w p v g hp).trans h
end
theorem TS : ∀ q : BitVec 8, bits .and .u8 (q.toNat : Int) 1 = if q &&& 1 = 1 then 1 else 0 := by decide +kernel
theorem QM : ∀ q : BitVec 8, bits .and .u8 (q.toNat : Int) 128 = if q &&& 128 ≠ 0 then 128 else 0 := by decide +kernel
theorem NK : ∀ q : BitVec 8, bits .xor .u8 (q.toNat : Int) 113 = ((q ^^^ 0x71).toNat : Int) := by decide +kernel
theorem JL (q : BitVec 8) : (q.toNat : Int) * (2 : Int) % (256 : Int) = ((q <<< 1).toNat : Int) := by
 have h : (q <<< 1).toNat = q.toNat * 2 % 256 := by rw [BitVec.toNat_shiftLeft, Nat.shiftLeft_eq]
 rw [h]
 omega
theorem Reg.high {w : World} {g : Nat} {t : TypeId} {q : BitVec 8} (h : Reg w g t q) (hb : q &&& 128 ≠ 0) :
  Reg ((w.setCell ⟨g, 0, none⟩ (.int .u8 ((q.toNat : Int) * 2 % 256))).setCell ⟨g, 0, none⟩ (.int .u8 (bits .xor .u8 ((q.toNat : Int) * 2 % 256) 113))) g t (Kec.lf q) := by
 rw [JL, NK, show Kec.lf q = (q <<< 1) ^^^ 0x71 from if_pos hb]
 exact (h.set _).set _
theorem Reg.low {w : World} {g : Nat} {t : TypeId} {q : BitVec 8} (h : Reg w g t q) (hb : ¬ q &&& 128 ≠ 0) :
  Reg (w.setCell ⟨g, 0, none⟩ (.int .u8 ((q.toNat : Int) * 2 % 256))) g t (Kec.lf q) := by
 rw [JL, show Kec.lf q = q <<< 1 from if_neg hb]
 exact h.set _
theorem JO {w : World} {g : Nat} {t : TypeId} {f : St} (h : bY w g t 25 f) (x : L) (n : Int) (hn : n = u x) : bY (w.setCell ⟨g, 0, none⟩ (.int .u64 (bits .xor .u64 (u (f 0)) n))) g t 25 (Kec.upd f 0 (f 0 ^^^ x)) := by
 subst hn
 rw [oQ]
 exact h.set 0 _
theorem Wy (k : Nat) (h : k < 24) : 0 ≤ ((k : Int) + 1) * ((k : Int) + 2) ∧ ((k : Int) + 1) * ((k : Int) + 2) ≤ 600 := by
 have h1 : (k + 1) * (k + 2) ≤ 24 * 25 := Nat.mul_le_mul (by omega) (by omega)
 have h2 : ((k : Int) + 1) * ((k : Int) + 2) = (((k + 1) * (k + 2) : Nat) : Int) := by simp
 rw [h2]
 omega
theorem mvL (a : St) (k : Nat) : (Kec.mv a k).x < 5 ∧ (Kec.mv a k).y < 5 := by
 induction k with
 | zero => simp [Kec.mv]
 | succ k ih => exact ⟨ih.2, Nat.mod_lt _ (by decide)⟩
theorem LD (g gl : Nat) (t tl : TypeId) (s : St) (l : BitVec 8) (w : World) (hl : bY w g t 25 s) (hr : Reg w gl tl l) (hlt : g < gl) :
  Calls Tryz.prog 73 #[.pointer (some ⟨g, 0, none⟩), .pointer (some ⟨gl, 0, none⟩)] w (SV fun w' => bY w' g t 25 (Kec.yD s l) ∧ Reg w' gl tl (Kec.lfn l 7) ∧ Below g w w') := by
 have hg := hl.lt
 have hgl := hr.lt
 have HL := Lib.hid hl
 have HR := Lib.hid hr
 clear hl hr
 go_enter Tryz.func73, Tryz.ntmps73
 go_wp2
 go_loopw [5] (fun i wr => ∃ k : Nat, k ≤ 5 ∧ i = .int .i64 k ∧ bY wr w.heap.size 212 5 (eu (Kec.col s) k) ∧ Gr w wr) (fun i _ => 5 - (intOf i).toNat)
 case atStart => exact ⟨0, by omega, rfl, by rw [mV]; exact kC w 212 5 _ rfl, aC w _⟩
 case round =>
  obtain ⟨k, hk, rfl, hc, hb⟩ := hrel
  have hbs := hb.size
  have HC := Lib.hid hc
  have HB := Lib.hid hb
  have hcl := hc.lt
  clear hc hb
  by_cases h1 : k < 5
  ·
   have c0 := bg (w := wr) (p := ⟨g, k, none⟩) (by dsimp only; omega) ((HL.out.gr HB.out).cell k (by omega))
   have c1 := bg (w := wr) (p := ⟨g, k + 5, none⟩) (by dsimp only; omega) ((HL.out.gr HB.out).cell (k + 5) (by omega))
   have c2 := bg (w := wr) (p := ⟨g, k + 10, none⟩) (by dsimp only; omega) ((HL.out.gr HB.out).cell (k + 10) (by omega))
   have c3 := bg (w := wr) (p := ⟨g, k + 15, none⟩) (by dsimp only; omega) ((HL.out.gr HB.out).cell (k + 15) (by omega))
   have c4 := bg (w := wr) (p := ⟨g, k + 20, none⟩) (by dsimp only; omega) ((HL.out.gr HB.out).cell (k + 20) (by omega))
   unfold lv at c0 c1 c2 c3 c4
   go_wp2
   refine dH 35 (by kernel_rfl) (by kernel_rfl) (by kernel_rfl) ?_
   simp only [List.take_succ_cons, List.take_zero, List.drop_succ_cons, List.drop_zero]
   refine dJ 35 (by kernel_rfl) ?_
   simp only [List.take_succ_cons, List.take_zero, List.drop_succ_cons, List.drop_zero]
   repeat (go_big_quiet_step (fail))
   refine wpQuiet_nil ?_
   refine gV (by kernel_rfl) ?_
   intro W hW
   replace hW := hW.gr
   unfold oC
   rename_i wq hW
   have HQ := Lib.hid (HC.out.gr hW)
   have e2 := HQ.out.frozen k
   have e1 := HQ.out.cell k (by omega)
   unfold lv at e1
   go_wp2
   go_roundw
   case rel =>
    rw [Tf]
    refine ⟨k + 1, by omega, by go_num, ?_, ?_⟩
    ·
     rw [← mW]
     exact HQ.out.set k (Kec.col s k)
    · exact (Only.set (g := w.heap.size) _ k _).gr (HB.out.trans hW) (Nat.le_refl _)
   case measure => simp [intOf]; omega
  ·
   have h5 : k = 5 := by omega
   subst h5
   go_wp2_with fail
   obtain ⟨wo, rfl⟩ : ∃ wo : World, wo = wr := ⟨_, rfl⟩
   go_loopw [6] (fun i wr => ∃ k : Nat, k ≤ 5 ∧ i = .int .i64 k ∧ bY wr w.heap.size 212 5 (eu (Kec.col s) 5) ∧ bY wr g t 25 (Kec.th (Kec.col s) s k) ∧ Reg wr gl tl l ∧ Below g w wr) (fun i _ => 5 - (intOf i).toNat)
   case atStart => exact ⟨0, by omega, rfl, HC.out, HL.out.gr HB.out, HR.out.gr HB.out, HB.out.mono (by omega)⟩
   case round =>
    clear HB HC
    obtain ⟨k, hk, rfl, hc, hl, hr, hb⟩ := hrel
    have hbs := hb.size
    have HC := Lib.hid hc
    have HM := Lib.hid hl
    have HG := Lib.hid hr
    have HB := Lib.hid hb
    have hcl := hc.lt
    clear hc hl hr hb
    by_cases h1 : k < 5
    ·
     have c0 := bg (w := wr) (p := ⟨w.heap.size, (k + 4) % 5, none⟩) (by dsimp only; omega) (HC.out.cell ((k + 4) % 5) (by omega))
     have c1 := bg (w := wr) (p := ⟨w.heap.size, (k + 1) % 5, none⟩) (by dsimp only; omega) (HC.out.cell ((k + 1) % 5) (by omega))
     unfold lv at c0 c1
     obtain ⟨d, hd⟩ : ∃ d : L, d = Kec.col s ((k + 4) % 5) ^^^ rotl (Kec.col s ((k + 1) % 5)) 1 := ⟨_, rfl⟩
     have HD := Lib.hid hd
     clear hd
     go_wp2
     refine dH 13 (by kernel_rfl) (by kernel_rfl) (by kernel_rfl) ?_
     simp only [List.take_succ_cons, List.take_zero, List.drop_succ_cons, List.drop_zero]
     refine dJ 10 (by kernel_rfl) ?_
     simp only [List.take_succ_cons, List.take_zero, List.drop_succ_cons, List.drop_zero]
     repeat (go_big_quiet_step (fail))
     refine wpQuiet_nil ?_
     refine xE (.int .u64 (u (rotl (eu (Kec.col s) 5 ((k + 1) % 5)) 1))) rfl (by kernel_rfl) (by kernel_rfl) (fun xw => ?_) ?_
     ·
      refine lq (by simp [go_sem]) ((rol (eu (Kec.col s) 5 ((k + 1) % 5)) 1 (by omega) _).mono ?_)
      rintro e w' ⟨rfl, rfl⟩
      exact ⟨_, rfl, Gr.refl _, rfl⟩
     simp only [Act.put, List.setIfInBounds_toArray, List.set_cons_succ, List.set_cons_zero]
     refine dJ 2 (by kernel_rfl) ?_
     simp only [List.take_succ_cons, List.take_zero, List.drop_succ_cons, List.drop_zero]
     repeat (go_big_quiet_step (fail))
     refine wpQuiet_nil ?_
     refine gV (by kernel_rfl) ?_
     intro W hW
     replace hW := hW.gr
     unfold oC
     have hf : bits .xor .u64 (u (eu (Kec.col s) 5 ((k + 4) % 5))) (u (rotl (eu (Kec.col s) 5 ((k + 1) % 5)) 1)) = u d := by
      rw [oQ, HD.out]
      unfold eu
      rw [if_pos (by omega), if_pos (by omega)]
     rw [hf]
     clear hf c0 c1
     rename_i hW
     have hBW := HB.out.trans (hW.mono (by omega : g ≤ wr.heap.size))
     have hs2 := hW.size
     have HC2 := Lib.hid (HC.out.gr hW)
     have HM2 := Lib.hid (HM.out.gr hW)
     have HG2 := Lib.hid (HG.out.gr hW)
     have HB2 := Lib.hid hBW
     clear HC HM HG HB hBW hW
     go_wp2_with fail
     go_loopw [8] (fun i wr => ∃ m : Nat, m ≤ 5 ∧ i = .int .i64 (5 * m : Nat) ∧ bY wr w.heap.size 212 5 (eu (Kec.col s) 5) ∧ bY wr g t 25 (Kec.th1 d k (Kec.th (Kec.col s) s k) m) ∧ Reg wr gl tl l ∧ Below g w wr) (fun i _ => 25 - (intOf i).toNat)
     case atStart => exact ⟨0, by omega, rfl, HC2.out, HM2.out, HG2.out, HB2.out⟩
     case round =>
      clear HC2 HM2 HG2 HB2
      obtain ⟨m, hm, rfl, hc, hl, hr, hb⟩ := hrel
      have hbs := hb.size
      have HC := Lib.hid hc
      have HM := Lib.hid hl
      have HG := Lib.hid hr
      have HB := Lib.hid hb
      have hcl := hc.lt
      clear hc hl hr hb
      by_cases h2 : m < 5
      ·
       have c0 := bg (w := wr) (p := ⟨g, k + 5 * m, none⟩) (by dsimp only; omega) (HM.out.cell (k + 5 * m) (by omega))
       unfold lv at c0
       go_wp2
       refine dH 15 (by kernel_rfl) (by kernel_rfl) (by kernel_rfl) ?_
       simp only [List.take_succ_cons, List.take_zero, List.drop_succ_cons, List.drop_zero]
       refine dJ 15 (by kernel_rfl) ?_
       simp only [List.take_succ_cons, List.take_zero, List.drop_succ_cons, List.drop_zero]
       repeat (go_big_quiet_step (fail))
       refine wpQuiet_nil ?_
       refine gV (by kernel_rfl) ?_
       intro W hW
       replace hW := hW.gr
       unfold oC
       rename_i hW
       have HQ := Lib.hid (HM.out.gr hW)
       have e2 := HQ.out.frozen (k + 5 * m)
       have e1 := HQ.out.cell (k + 5 * m) (by omega)
       unfold lv at e1
       go_wp2
       go_roundw
       case rel =>
        rw [oQ]
        refine ⟨m + 1, by omega, by go_num, ?_, ?_, ?_, ?_⟩
        · exact (HC.out.gr hW).far (by dsimp only; omega) _
        · exact HQ.out.set (k + 5 * m) _
        · exact (HG.out.gr hW).far (by dsimp only; omega) _
        · exact (HB.out.trans (hW.mono (by omega))).setCell (Nat.le_refl _) _
       case measure => simp [intOf]; omega
      ·
       have h5 : m = 5 := by omega
       subst h5
       go_wp2_with fail
       go_roundw
       case rel =>
        refine ⟨k + 1, by omega, by go_num, HC.out, ?_, HG.out, HB.out⟩
        have := HM.out
        rw [HD.out] at this
        exact this
       case measure => simp [intOf]; omega
    ·
     have h5 : k = 5 := by omega
     subst h5
     have hw := mvL (Kec.th (Kec.col s) s 5)
     have hR : Hid (Kec.yD s l = Kec.io (Kec.ch (Kec.mv (Kec.th (Kec.col s) s 5) 24).a 5) l 7) := Lib.hid rfl
     generalize Kec.th (Kec.col s) s 5 = a at HM hw hR
     have c0 := HM.out.cell 1 (by omega)
     unfold lv at c0
     go_wp2_with fail
     clear c0
     go_loopw [9, 10, 11, 12] (fun vx vy vc i wr => ∃ k : Nat, k ≤ 24 ∧ i = .int .i64 k ∧ vx = .int .i64 (Kec.mv a k).x ∧ vy = .int .i64 (Kec.mv a k).y ∧ vc = .int .u64 (u (Kec.mv a k).cur) ∧ bY wr g t 25 (Kec.mv a k).a ∧ Reg wr gl tl l ∧ Below g w wr) (fun _ _ _ i _ => 24 - (intOf i).toNat)
     case atStart => exact ⟨0, by omega, rfl, rfl, rfl, rfl, HM.out, HG.out, HB.out⟩
     case round =>
      clear HM HG HB HC
      obtain ⟨k, hk, rfl, rfl, rfl, rfl, hl, hr, hb⟩ := hrel
      have hst : Hid (Kec.mv a (k + 1) = ⟨(Kec.mv a k).y, (2 * (Kec.mv a k).x + 3 * (Kec.mv a k).y) % 5, (Kec.mv a k).a ((Kec.mv a k).y + 5 * ((2 * (Kec.mv a k).x + 3 * (Kec.mv a k).y) % 5)),
       Kec.upd (Kec.mv a k).a ((Kec.mv a k).y + 5 * ((2 * (Kec.mv a k).x + 3 * (Kec.mv a k).y) % 5)) (rotl (Kec.mv a k).cur ((k + 1) * (k + 2) / 2 % 64))⟩) := Lib.hid rfl
      obtain ⟨hx, hy⟩ := hw k
      by_cases h2 : k < 24
      ·
       clear hw
       generalize (Kec.mv a k).x = x at *
       generalize (Kec.mv a k).y = y at *
       generalize (Kec.mv a k).cur = cur at *
       generalize (Kec.mv a k).a = b at *
       have hbs := hb.size
       have HM := Lib.hid hl
       have HG := Lib.hid hr
       have HB := Lib.hid hb
       clear hl hr hb
       have c0 := HM.out.cell (y + 5 * ((2 * x + 3 * y) % 5)) (by omega)
       unfold lv at c0
       obtain ⟨hm1, hm2⟩ := Wy k h2
       go_wp2
       refine dH 17 (by kernel_rfl) (by kernel_rfl) (by kernel_rfl) ?_
       simp only [List.take_succ_cons, List.take_zero, List.drop_succ_cons, List.drop_zero]
       refine dJ 14 (by kernel_rfl) ?_
       simp only [List.take_succ_cons, List.take_zero, List.drop_succ_cons, List.drop_zero]
       repeat (go_big_quiet_step (fail))
       refine wpQuiet_nil ?_
       refine xE (.int .u64 (u (rotl cur ((k + 1) * (k + 2) / 2 % 64)))) rfl (by kernel_rfl) (by kernel_rfl) (fun xw => ?_) ?_
       ·
        refine lq (by simp [go_sem]) ((rol cur ((k + 1) * (k + 2) / 2 % 64) (by omega) _).mono ?_)
        rintro e w' ⟨rfl, rfl⟩
        exact ⟨_, rfl, Gr.refl _, rfl⟩
       simp only [Act.put, List.setIfInBounds_toArray, List.set_cons_succ, List.set_cons_zero]
       refine dJ 2 (by kernel_rfl) ?_
       simp only [List.take_succ_cons, List.take_zero, List.drop_succ_cons, List.drop_zero]
       repeat (go_big_quiet_step (fail))
       refine wpQuiet_nil ?_
       refine gV (by kernel_rfl) ?_
       intro W hW
       replace hW := hW.gr
       unfold oC
       rename_i hW
       have HQ := Lib.hid (HM.out.gr hW)
       have e2 := HQ.out.frozen (y + 5 * ((2 * x + 3 * y) % 5))
       have e1 := HQ.out.cell (y + 5 * ((2 * x + 3 * y) % 5)) (by omega)
       unfold lv at e1
       go_wp2
       go_roundw
       case rel =>
        have H := hst.out
        refine ⟨k + 1, by omega, by go_num, by rw [H], by rw [H]; simp, by rw [H], ?_, ?_, ?_⟩
        ·
         rw [H]
         exact HQ.out.set _ _
        · exact (HG.out.gr hW).far (by dsimp only; omega) _
        · exact (HB.out.trans (hW.mono (by omega))).setCell (Nat.le_refl _) _
       case measure => simp [intOf]; omega
      ·
       have h5 : k = 24 := by omega
       subst h5
       clear hw hst
       generalize (Kec.mv a 24).x = x at *
       generalize (Kec.mv a 24).y = y at *
       generalize (Kec.mv a 24).cur = cur at *
       generalize (Kec.mv a 24).a = a2 at *
       clear hx hy
       have HM := Lib.hid hl
       have HG := Lib.hid hr
       have HB := Lib.hid hb
       clear hl hr hb
       go_wp2_with fail
       go_loopw [16] (fun i wr => ∃ k : Nat, k ≤ 5 ∧ i = .int .i64 (5 * k : Nat) ∧ bY wr g t 25 (Kec.ch a2 k) ∧ Reg wr gl tl l ∧ Below g w wr) (fun i _ => 25 - (intOf i).toNat)
       case atStart => exact ⟨0, by omega, rfl, HM.out, HG.out, HB.out⟩
       case round =>
        clear HM HG HB
        obtain ⟨k, hk, rfl, hl, hr, hb⟩ := hrel
        by_cases h3 : k < 5
        ·
         have hst : Hid (Kec.ch a2 (k + 1) = Kec.ch1 (fun x => Kec.ch a2 k (x + 5 * k)) (Kec.ch a2 k) (5 * k) 5) := Lib.hid rfl
         generalize Kec.ch a2 k = b at *
         have hbs := hb.size
         have HM := Lib.hid hl
         have HG := Lib.hid hr
         have HB := Lib.hid hb
         have hgl2 := hr.lt
         have hg2 := hl.lt
         clear hl hr hb
         go_wp2_with fail
         obtain ⟨wo, rfl⟩ : ∃ wo : World, wo = wr := ⟨_, rfl⟩
         go_loopw [18] (fun i wr => ∃ m : Nat, m ≤ 5 ∧ i = .int .i64 m ∧ bY wr wo.heap.size 212 5 (eu (fun x => b (x + 5 * k)) m) ∧ Gr wo wr) (fun i _ => 5 - (intOf i).toNat)
         case atStart => exact ⟨0, by omega, rfl, by rw [mV]; exact kC wo 212 5 _ rfl, aC wo _⟩
         case round =>
          obtain ⟨m, hm, rfl, hc, hb⟩ := hrel
          have hcl := hc.lt
          have HC := Lib.hid hc
          have HO := Lib.hid hb
          clear hc hb
          by_cases h4 : m < 5
          ·
           have c0 := (HM.out.gr HO.out).cell (m + 5 * k) (by omega)
           have e2 := HC.out.frozen m
           have e1 := HC.out.cell m (by omega)
           unfold lv at c0 e1
           go_wp2
           go_roundw
           case rel =>
            refine ⟨m + 1, by omega, by go_num, ?_, ?_⟩
            ·
             rw [← mW]
             exact HC.out.set m _
            · exact (Only.set (g := wo.heap.size) _ m _).gr HO.out (Nat.le_refl _)
           case measure => simp [intOf]; omega
          ·
           have h5 : m = 5 := by omega
           subst h5
           have HM2 := Lib.hid (HM.out.gr HO.out)
           have HG2 := Lib.hid (HG.out.gr HO.out)
           have HB2 := Lib.hid (HB.out.trans (HO.out.mono (by omega : g ≤ wo.heap.size)))
           clear HM HG HB HO
           go_wp2_with fail
           go_loopw [19] (fun i wr => ∃ m : Nat, m ≤ 5 ∧ i = .int .i64 m ∧ bY wr wo.heap.size 212 5 (eu (fun x => b (x + 5 * k)) 5) ∧ bY wr g t 25 (Kec.ch1 (fun x => b (x + 5 * k)) b (5 * k) m) ∧ Reg wr gl tl l ∧ Below g w wr) (fun i _ => 5 - (intOf i).toNat)
           case atStart => exact ⟨0, by omega, rfl, HC.out, HM2.out, HG2.out, HB2.out⟩
           case round =>
            clear HC HM2 HG2 HB2
            obtain ⟨m, hm, rfl, hc, hl, hr, hb⟩ := hrel
            have hcl := hc.lt
            have hll := hl.lt
            have HC := Lib.hid hc
            have HM := Lib.hid hl
            have HG := Lib.hid hr
            have HB := Lib.hid hb
            clear hc hl hr hb
            by_cases h4 : m < 5
            ·
             have c0 := bg (w := wr) (p := ⟨wo.heap.size, m, none⟩) hcl (HC.out.cell m (by omega))
             have c1 := bg (w := wr) (p := ⟨wo.heap.size, (m + 1) % 5, none⟩) hcl (HC.out.cell ((m + 1) % 5) (by omega))
             have c2 := bg (w := wr) (p := ⟨wo.heap.size, (m + 2) % 5, none⟩) hcl (HC.out.cell ((m + 2) % 5) (by omega))
             unfold lv at c0 c1 c2
             go_wp2
             refine dH 22 (by kernel_rfl) (by kernel_rfl) (by kernel_rfl) ?_
             simp only [List.take_succ_cons, List.take_zero, List.drop_succ_cons, List.drop_zero]
             refine dJ 22 (by kernel_rfl) ?_
             simp only [List.take_succ_cons, List.take_zero, List.drop_succ_cons, List.drop_zero]
             repeat (go_big_quiet_step (fail))
             refine wpQuiet_nil ?_
             refine gV (by kernel_rfl) ?_
             intro W hW
             replace hW := hW.gr
             unfold oC
             rename_i hW
             have HQ := Lib.hid (HM.out.gr hW)
             have e2 := HQ.out.frozen (m + 5 * k)
             have e1 := HQ.out.cell (m + 5 * k) (by omega)
             unfold lv at e1
             go_wp2
             go_roundw
             case rel =>
              have f : ∀ j, j < 5 → eu (fun x => b (x + 5 * k)) 5 j = b (j + 5 * k) := fun j hj => if_pos hj
              rw [f m h4, f _ (by omega), f _ (by omega), Td, NJ, oQ]
              exact ⟨m + 1, by omega, by go_num, (HC.out.gr hW).far (by dsimp only; omega) _, HQ.out.set _ _, (HG.out.gr hW).far (by dsimp only; omega) _, (HB.out.trans (hW.mono (by omega))).setCell (Nat.le_refl _) _⟩
             case measure => simp [intOf]; omega
            ·
             have h5 : m = 5 := by omega
             subst h5
             go_wp2_with fail
             go_roundw
             case rel =>
              refine ⟨k + 1, by omega, by go_num, ?_, HG.out, HB.out⟩
              rw [hst.out]
              exact HM.out
             case measure => simp [intOf]; omega
        ·
         have h5 : k = 5 := by omega
         subst h5
         generalize Kec.ch a2 5 = c at *
         have HM := Lib.hid hl
         have HG := Lib.hid hr
         have HB := Lib.hid hb
         clear hl hr hb
         go_wp2_with fail
         go_loopw [20] (fun i wr => ∃ j : Nat, j ≤ 7 ∧ i = .int .i64 j ∧ bY wr g t 25 (Kec.io c l j) ∧ Reg wr gl tl (Kec.lfn l j) ∧ Below g w wr) (fun i _ => 7 - (intOf i).toNat)
         case atStart => exact ⟨0, by omega, rfl, HM.out, HG.out, HB.out⟩
         case round =>
          clear HM HG HB
          obtain ⟨j, hj, rfl, hl, hr, hb⟩ := hrel
          by_cases h3 : j < 7
          ·
           have hst : Hid (Kec.io c l (j + 1) = if Kec.lfn l j &&& 1 = 1 then Kec.upd (Kec.io c l j) 0 (Kec.io c l j 0 ^^^ (1 : L) <<< (2 ^ j - 1)) else Kec.io c l j) := Lib.hid rfl
           have hst2 : Hid (Kec.lfn l (j + 1) = Kec.lf (Kec.lfn l j)) := Lib.hid rfl
           generalize Kec.lfn l j = q at *
           generalize Kec.io c l j = b at *
           have hgl2 := hr.lt
           have hg2 := hl.lt
           have HM := Lib.hid hl
           have HG := Lib.hid hr
           have HB := Lib.hid hb
           have e1 := hr.cell
           have e2 := hr.frozen
           clear hl hr hb
           have k1 := TS q
           have k2 := QM q
           by_cases b1 : q &&& 1 = 1
           ·
            rw [if_pos b1] at k1 hst
            by_cases b2 : q &&& 128 ≠ 0
            ·
             rw [if_pos b2] at k2
             go_wp2
             have HZ := Lib.hid ((HM.out.far (p := ⟨gl, 0, none⟩) (by dsimp only; omega) (Value.int .u8 ((q.toNat : Int) * 2 % 256))).far (p := ⟨gl, 0, none⟩) (by dsimp only; omega) (Value.int .u8 (bits .xor .u8 ((q.toNat : Int) * 2 % 256) 113)))
             have HG2 := Lib.hid (HG.out.high b2)
             have HB2 := Lib.hid ((HB.out.setCell (p := ⟨gl, 0, none⟩) (by dsimp only; omega) (Value.int .u8 ((q.toNat : Int) * 2 % 256))).setCell (p := ⟨gl, 0, none⟩) (by dsimp only; omega) (Value.int .u8 (bits .xor .u8 ((q.toNat : Int) * 2 % 256) 113)))
             have hz := HZ.out.lt
             have c0 := bg (p := ⟨g, 0, none⟩) hz (HZ.out.cell 0 (by omega))
             unfold lv at c0
             have h7 : j = 0 ∨ j = 1 ∨ j = 2 ∨ j = 3 ∨ j = 4 ∨ j = 5 ∨ j = 6 := by omega
             rcases h7 with rfl | rfl | rfl | rfl | rfl | rfl | rfl
             all_goals
              refine dH 13 (by kernel_rfl) (by kernel_rfl) (by kernel_rfl) ?_
              simp only [List.take_succ_cons, List.take_zero, List.drop_succ_cons, List.drop_zero]
              refine dJ 13 (by kernel_rfl) ?_
              simp only [List.take_succ_cons, List.take_zero, List.drop_succ_cons, List.drop_zero]
              repeat (go_big_quiet_step (fail))
              refine wpQuiet_nil ?_
              refine gV (by kernel_rfl) ?_
              intro W hW
              replace hW := hW.gr
              unfold oC
              rename_i hW
              have HQ := Lib.hid (HZ.out.gr hW)
              have e2 := HQ.out.frozen 0
              have e1 := HQ.out.cell 0 (by omega)
              unfold lv at e1
              go_wp2
              go_roundw
              case rel =>
               refine ⟨_ + 1, ?_, by go_num, ?_, ?_, ?_⟩
               · omega
               ·
                rw [hst.out]
                exact JO HQ.out _ _ rfl
               ·
                rw [hst2.out]
                exact (HG2.out.gr hW).far (by dsimp only; omega) _
               · exact (HB2.out.trans (hW.mono (by omega))).setCell (Nat.le_refl _) _
              case measure => simp [intOf]
            ·
             rw [if_neg b2] at k2
             go_wp2
             have HZ := Lib.hid (HM.out.far (p := ⟨gl, 0, none⟩) (by dsimp only; omega) (Value.int .u8 ((q.toNat : Int) * 2 % 256)))
             have HG2 := Lib.hid (HG.out.low b2)
             have HB2 := Lib.hid (HB.out.setCell (p := ⟨gl, 0, none⟩) (by dsimp only; omega) (Value.int .u8 ((q.toNat : Int) * 2 % 256)))
             have hz := HZ.out.lt
             have c0 := bg (p := ⟨g, 0, none⟩) hz (HZ.out.cell 0 (by omega))
             unfold lv at c0
             have h7 : j = 0 ∨ j = 1 ∨ j = 2 ∨ j = 3 ∨ j = 4 ∨ j = 5 ∨ j = 6 := by omega
             rcases h7 with rfl | rfl | rfl | rfl | rfl | rfl | rfl
             all_goals
              refine dH 13 (by kernel_rfl) (by kernel_rfl) (by kernel_rfl) ?_
              simp only [List.take_succ_cons, List.take_zero, List.drop_succ_cons, List.drop_zero]
              refine dJ 13 (by kernel_rfl) ?_
              simp only [List.take_succ_cons, List.take_zero, List.drop_succ_cons, List.drop_zero]
              repeat (go_big_quiet_step (fail))
              refine wpQuiet_nil ?_
              refine gV (by kernel_rfl) ?_
              intro W hW
              replace hW := hW.gr
              unfold oC
              rename_i hW
              have HQ := Lib.hid (HZ.out.gr hW)
              have e2 := HQ.out.frozen 0
              have e1 := HQ.out.cell 0 (by omega)
              unfold lv at e1
              go_wp2
              go_roundw
              case rel =>
               refine ⟨_ + 1, ?_, by go_num, ?_, ?_, ?_⟩
               · omega
               ·
                rw [hst.out]
                exact JO HQ.out _ _ rfl
               ·
                rw [hst2.out]
                exact (HG2.out.gr hW).far (by dsimp only; omega) _
               · exact (HB2.out.trans (hW.mono (by omega))).setCell (Nat.le_refl _) _
              case measure => simp [intOf]
           ·
            rw [if_neg b1] at k1 hst
            by_cases b2 : q &&& 128 ≠ 0
            ·
             rw [if_pos b2] at k2
             go_wp2
             go_roundw
             case rel =>
              refine ⟨j + 1, by omega, by go_num, ?_, ?_, ?_⟩
              ·
               rw [hst.out]
               exact (HM.out.far (by dsimp only; omega) _).far (by dsimp only; omega) _
              ·
               rw [hst2.out]
               exact HG.out.high b2
              · exact (HB.out.setCell (by dsimp only; omega) _).setCell (by dsimp only; omega) _
             case measure => simp [intOf]; omega
            ·
             rw [if_neg b2] at k2
             go_wp2
             go_roundw
             case rel =>
              refine ⟨j + 1, by omega, by go_num, ?_, ?_, ?_⟩
              ·
               rw [hst.out]
               exact HM.out.far (by dsimp only; omega) _
              ·
               rw [hst2.out]
               exact HG.out.low b2
              · exact HB.out.setCell (by dsimp only; omega) _
             case measure => simp [intOf]; omega
          ·
           have h5 : j = 7 := by omega
           subst h5
           go_wp2_with fail
           refine bodyPost_end (results_none rfl _ _ _) rfl ⟨rfl, ?_, hr, hb⟩
           rw [hR.out]
           exact hl
theorem WB {w w' : World} {g gt : Nat} {t : TypeId} (h : Only g w w') (ht : Turns w gt t) (hne : gt ≠ g) : Turns w' gt t := (h.block gt ht.lt (fun e => hne (by injection e))).trans ht
def dL : Array Value := ((List.range 24).map fun k => Value.int .u64 (u (Kec.rc k))).toArray
theorem oP {P : Program} {ops : Array Oper} {rest : List Oper} {o : Oper} {a : Act} {w : World} {Q : Exit → Act → World → Prop} (cells : Array Value) (d : Tmp) (t : TypeId) (parts : Array (Nat × Operand)) (hg : o.guard = none) (ho : o.op = .build t parts) (hd : o.dst = some d)
  (hf : P.built t (parts.map fun (i, x) => (i, a.eval x)).toList = some cells) (h : wpList P ops Q rest (a.put (some d) (.agg cells)) w) : wpList P ops Q (o :: rest) a w := by
 refine wpList_build hg t parts ho (by rw [hf]; rfl) ?_
 rw [hf, hd]
 exact h
theorem MI (w : World) : Calls Tryz.prog 174 #[] w (Ret (fun v _ => v = .agg jJ) w) := by
 go_enter Tryz.func174, Tryz.ntmps174
 go_wp2_with first
  | refine oP jJ 1 272 _ rfl rfl rfl (by kernel_rfl) ?_
  | refine wpList_store_row rfl 272 (.tmp 0) (.tmp 1) rfl w.heap.size jJ rfl rfl 272 _ (heap_alloc_new w _) (by kernel_rfl) (by kernel_rfl) (by kernel_rfl) ?_
 rw [World.setRow_alloc_new]
 exact bodyPost_ret (results_cell_row rfl _ _ w.heap.size 272 jJ (0, 0) _ rfl (heap_alloc_new w _) rfl rfl (by kernel_rfl)) rfl ⟨_, rfl, aC w _, rfl⟩
theorem Jf (w : World) : Calls Tryz.prog 175 #[] w (Ret (fun v _ => v = .agg dL) w) := by
 go_enter Tryz.func175, Tryz.ntmps175
 go_wp2_with first
  | refine oP dL 1 274 _ rfl rfl rfl (by kernel_rfl) ?_
  | refine wpList_store_row rfl 274 (.tmp 0) (.tmp 1) rfl w.heap.size dL rfl rfl 274 _ (heap_alloc_new w _) (by kernel_rfl) (by kernel_rfl) (by kernel_rfl) ?_
 rw [World.setRow_alloc_new]
 exact bodyPost_ret (results_cell_row rfl _ _ w.heap.size 274 dL (0, 0) _ rfl (heap_alloc_new w _) rfl rfl (by kernel_rfl)) rfl ⟨_, rfl, aC w _, rfl⟩
theorem L6 (w : World) : (Instr.index 274 (.agg dL) (.int .i64 ((0 : Nat) : Int))).run Tryz.prog w = .ok (.int .u64 (u (Kec.rc 0))) w := by kernel_rfl
theorem LZ (w : World) : (Instr.index 274 (.agg dL) (.int .i64 ((1 : Nat) : Int))).run Tryz.prog w = .ok (.int .u64 (u (Kec.rc 1))) w := by kernel_rfl
theorem LY (w : World) : (Instr.index 274 (.agg dL) (.int .i64 ((2 : Nat) : Int))).run Tryz.prog w = .ok (.int .u64 (u (Kec.rc 2))) w := by kernel_rfl
theorem LX (w : World) : (Instr.index 274 (.agg dL) (.int .i64 ((3 : Nat) : Int))).run Tryz.prog w = .ok (.int .u64 (u (Kec.rc 3))) w := by kernel_rfl
theorem LW (w : World) : (Instr.index 274 (.agg dL) (.int .i64 ((4 : Nat) : Int))).run Tryz.prog w = .ok (.int .u64 (u (Kec.rc 4))) w := by kernel_rfl
theorem LV (w : World) : (Instr.index 274 (.agg dL) (.int .i64 ((5 : Nat) : Int))).run Tryz.prog w = .ok (.int .u64 (u (Kec.rc 5))) w := by kernel_rfl
theorem LU (w : World) : (Instr.index 274 (.agg dL) (.int .i64 ((6 : Nat) : Int))).run Tryz.prog w = .ok (.int .u64 (u (Kec.rc 6))) w := by kernel_rfl
theorem LQ (w : World) : (Instr.index 274 (.agg dL) (.int .i64 ((7 : Nat) : Int))).run Tryz.prog w = .ok (.int .u64 (u (Kec.rc 7))) w := by kernel_rfl
theorem LP (w : World) : (Instr.index 274 (.agg dL) (.int .i64 ((8 : Nat) : Int))).run Tryz.prog w = .ok (.int .u64 (u (Kec.rc 8))) w := by kernel_rfl
theorem LM (w : World) : (Instr.index 274 (.agg dL) (.int .i64 ((9 : Nat) : Int))).run Tryz.prog w = .ok (.int .u64 (u (Kec.rc 9))) w := by kernel_rfl
theorem IW (w : World) : (Instr.index 274 (.agg dL) (.int .i64 ((10 : Nat) : Int))).run Tryz.prog w = .ok (.int .u64 (u (Kec.rc 10))) w := by kernel_rfl
theorem IV (w : World) : (Instr.index 274 (.agg dL) (.int .i64 ((11 : Nat) : Int))).run Tryz.prog w = .ok (.int .u64 (u (Kec.rc 11))) w := by kernel_rfl
theorem IU (w : World) : (Instr.index 274 (.agg dL) (.int .i64 ((12 : Nat) : Int))).run Tryz.prog w = .ok (.int .u64 (u (Kec.rc 12))) w := by kernel_rfl
theorem IQ (w : World) : (Instr.index 274 (.agg dL) (.int .i64 ((13 : Nat) : Int))).run Tryz.prog w = .ok (.int .u64 (u (Kec.rc 13))) w := by kernel_rfl
theorem IL (w : World) : (Instr.index 274 (.agg dL) (.int .i64 ((14 : Nat) : Int))).run Tryz.prog w = .ok (.int .u64 (u (Kec.rc 14))) w := by kernel_rfl
theorem IK (w : World) : (Instr.index 274 (.agg dL) (.int .i64 ((15 : Nat) : Int))).run Tryz.prog w = .ok (.int .u64 (u (Kec.rc 15))) w := by kernel_rfl
theorem IJ (w : World) : (Instr.index 274 (.agg dL) (.int .i64 ((16 : Nat) : Int))).run Tryz.prog w = .ok (.int .u64 (u (Kec.rc 16))) w := by kernel_rfl
theorem II (w : World) : (Instr.index 274 (.agg dL) (.int .i64 ((17 : Nat) : Int))).run Tryz.prog w = .ok (.int .u64 (u (Kec.rc 17))) w := by kernel_rfl
theorem IG (w : World) : (Instr.index 274 (.agg dL) (.int .i64 ((18 : Nat) : Int))).run Tryz.prog w = .ok (.int .u64 (u (Kec.rc 18))) w := by kernel_rfl
theorem IE (w : World) : (Instr.index 274 (.agg dL) (.int .i64 ((19 : Nat) : Int))).run Tryz.prog w = .ok (.int .u64 (u (Kec.rc 19))) w := by kernel_rfl
theorem IC (w : World) : (Instr.index 274 (.agg dL) (.int .i64 ((20 : Nat) : Int))).run Tryz.prog w = .ok (.int .u64 (u (Kec.rc 20))) w := by kernel_rfl
theorem IB (w : World) : (Instr.index 274 (.agg dL) (.int .i64 ((21 : Nat) : Int))).run Tryz.prog w = .ok (.int .u64 (u (Kec.rc 21))) w := by kernel_rfl
theorem Iz (w : World) : (Instr.index 274 (.agg dL) (.int .i64 ((22 : Nat) : Int))).run Tryz.prog w = .ok (.int .u64 (u (Kec.rc 22))) w := by kernel_rfl
theorem Iy (w : World) : (Instr.index 274 (.agg dL) (.int .i64 ((23 : Nat) : Int))).run Tryz.prog w = .ok (.int .u64 (u (Kec.rc 23))) w := by kernel_rfl
theorem Oo (k : Nat) (hk : k < 24) (w : World) : (Instr.index 274 (.agg dL) (.int .i64 (k : Nat))).run Tryz.prog w = .ok (.int .u64 (u (Kec.rc k))) w := by
 match k, hk with
 | 0, _ => exact L6 w
 | 1, _ => exact LZ w
 | 2, _ => exact LY w
 | 3, _ => exact LX w
 | 4, _ => exact LW w
 | 5, _ => exact LV w
 | 6, _ => exact LU w
 | 7, _ => exact LQ w
 | 8, _ => exact LP w
 | 9, _ => exact LM w
 | 10, _ => exact IW w
 | 11, _ => exact IV w
 | 12, _ => exact IU w
 | 13, _ => exact IQ w
 | 14, _ => exact IL w
 | 15, _ => exact IK w
 | 16, _ => exact IJ w
 | 17, _ => exact II w
 | 18, _ => exact IG w
 | 19, _ => exact IE w
 | 20, _ => exact IC w
 | 21, _ => exact IB w
 | 22, _ => exact Iz w
 | 23, _ => exact Iy w
 | k + 24, h => omega
theorem wR (g : Nat) (t : TypeId) (s : St) (w : World) (hl : bY w g t 25 s) :
  Calls Tryz.prog 132 #[.pointer (some ⟨g, 0, none⟩)] w (SV fun w' => bY w' g t 25 (Kec.perm s 24) ∧ Only g w w') := by
 have HL := Lib.hid hl
 clear hl
 go_enter Tryz.func132, Tryz.ntmps132
 go_wp2_with fail
 refine (MI _).mono ?_
 rintro e w1 ⟨_, rfl, hg1, rfl⟩
 go_wp2_with refine wpList_store_row rfl 272 (.tmp 2) (.tmp 5) rfl w1.heap.size jJ rfl rfl 272 _ (heap_alloc_new w1 _) (by kernel_rfl) (by kernel_rfl) (by kernel_rfl) ?_
 rw [World.setRow_alloc_new]
 refine (Jf _).mono ?_
 rintro e w2 ⟨_, rfl, hg2, rfl⟩
 have HT : Hid (Turns w2 w1.heap.size 272) := Lib.hid (Turns.gr (w := w1.alloc (.cells jJ 272)) (heap_alloc_new w1 _) hg2)
 have HG : Hid (Gr w w2) := Lib.hid ((hg1.trans (aC w1 _)).trans hg2)
 have hs1 := hg1.size
 have hs2 := HL.out.lt
 clear hg1 hg2
 go_wp2_with fail
 go_loopw [7] (fun i wr => ∃ k : Nat, k ≤ 24 ∧ i = .int .i64 k ∧ bY wr g t 25 (Kec.perm s k) ∧ Turns wr w1.heap.size 272 ∧ Only g w wr) (fun i _ => 24 - (intOf i).toNat)
 case atStart => exact ⟨0, by omega, rfl, HL.out.gr HG.out, HT.out, Only.Bo HG.out g⟩
 case round =>
  clear HT HG
  obtain ⟨k, hk, rfl, hl, ht, ho⟩ := hrel
  have HM := Lib.hid hl
  have HT := Lib.hid ht
  have HO := Lib.hid ho
  clear hl ht ho
  by_cases h1 : k < 24
  ·
   have hidx := Oo k h1
   go_wp2_with fail
   refine (MJ g _ t 272 _ _ _ HM.out HT.out).mono ?_
   rintro e w3 ⟨rfl, hl3, ho3⟩
   have H3 := Lib.hid hl3
   have HO3 := Lib.hid ho3
   clear hl3 ho3
   go_wp2_with fail
   go_roundw
   case rel => exact ⟨k + 1, by omega, by go_num, H3.out, (WB HO3.out HT.out (by omega)), HO.out.trans HO3.out⟩
   case measure => simp [intOf]; omega
  ·
   have h5 : k = 24 := by omega
   subst h5
   go_wp2_with fail
   exact bodyPost_end (results_none rfl _ _ _) rfl ⟨rfl, HM.out, HO.out⟩
end Go.Proofs.YtiledgojbpmoiaaGreat
namespace Go.Proofs.YtiledgojbpmoiaaGreat.Kec
theorem Same.refl (a : St) : Same a a := fun _ _ => rfl
theorem Same.trans {a b c : St} (h : Same a b) (k : Same b c) : Same a c := fun i hi => (h i hi).trans (k i hi)
theorem Same.upd {a b : St} (h : Same a b) (k : Nat) {v v' : L} (hv : v = v') : Same (upd a k v) (upd b k v') := by
 intro i hi
 unfold Kec.upd
 rw [hv]
 split
 · rfl
 · exact h i hi
theorem G9 {a b : St} (h : Same a b) (x : Nat) (hx : x < 5) : col a x = col b x := by
 unfold col
 rw [h x (by omega), h (x + 5) (by omega), h (x + 10) (by omega), h (x + 15) (by omega), h (x + 20) (by omega)]
theorem SG {a b : St} (h : Same a b) (x : Nat) : dd a x = dd b x := by
 unfold dd
 rw [G9 h _ (Nat.mod_lt _ (by decide)), G9 h _ (Nat.mod_lt _ (by decide))]
theorem KL {a b : St} (h : Same a b) : ∀ k, k ≤ 25 → bb a k = bb b k
 | 0, _ => rfl
 | k + 1, hk => by
  unfold bb
  rw [KL h k (by omega), h k (by omega), SG h]
theorem JM {a b : St} (h : Same a b) (r : St) : ∀ k, Same (ss r a k) (ss r b k)
 | 0 => h
 | k + 1 => (JM h r k).upd k rfl
theorem yF {a b : St} (h : Same a b) (n : L) : Same (round a n) (round b n) := by
 have h1 := JM h (bb a 25) 25
 unfold round
 rw [← KL h 25 (by omega)]
 exact h1.upd 0 (by rw [h1 0 (by omega)])
theorem EW (a : St) (k : Nat) (hk : k < 24) : Same (round a (rc k)) (yD a (lfn 1 (7 * k))) := by
 have h : Same (ss (bb a 25) a 25) (ch (mv (th (col a) a 5) 24).a 5) := fun i hi => lane a i hi
 unfold round yD
 rw [Tv, Um k hk]
 exact h.upd 0 (by rw [h 0 (by omega)])
theorem Bc {a b : St} (h : Same a b) : ∀ k, k ≤ 24 → Same (perm a k) (yE b k)
 | 0, _ => h
 | k + 1, hk => (yF (Bc h k (by omega)) (rc k)).trans (EW (yE b k) k (by omega))
theorem J8 (l : BitVec 8) (i : Nat) : ∀ j, lfn l (i + j) = lfn (lfn l i) j
 | 0 => rfl
 | j + 1 => by
  show lf (lfn l (i + j)) = lf (lfn (lfn l i) j)
  rw [J8 l i j]
end Go.Proofs.YtiledgojbpmoiaaGreat.Kec
