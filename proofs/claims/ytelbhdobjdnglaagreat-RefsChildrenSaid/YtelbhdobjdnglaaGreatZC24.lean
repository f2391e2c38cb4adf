/-
 Merged: lemmas of this claim.
 Conditions: none.
-/
import Derived.Test.YtelbhdobjdnglaaGreatZC23
import Derived.Test.YtelbhdobjdnglaaGreatZC17
import Derived.Test.YtelbhdobjdnglaaGreatZC19
import Derived.Lib.Bytealg
import Derived.Lib.BytesEntry
import Derived.Test.YtelbhdobjdnglaaGreatZC22
import Derived.Test.YtelbhdobjdnglaaGreatZC15
import Derived.Test.YtelbhdobjdnglaaGreatZC0
namespace Go.Proofs.YtelbhdobjdnglaaGreat
set_option linter.unusedVariables false
set_option maxRecDepth 20000
set_option maxHeartbeats 1000000
open Go.RowKit Mono Rlp
theorem Qa {w w' : World} {A : Option Addr} {l : List UInt8} (hr : Rd w w.heap.size A (bvs l)) (hg : Gr w w') (h0 : 0 < (bvs l).length) : ∃ ad, A = some ad ∧ ∀ j v, (bvs l)[j]? = some v → w'.cell? (ad.add j) = some v := by
 obtain ⟨b, o, e, hb, hc⟩ := (hr.gr hg) (fun e => by rw [e] at h0; simp at h0)
 exact ⟨_, e, fun j v hv => by rw [eu]; exact hc j v hv⟩
theorem yw (bs : List UInt8) (h9 : bs.length ≤ 32) : splice (bvs zero32) (32 - bs.length) (bvs bs) = bvs (pad bs) := by
 unfold splice pad zero32 bvs
 rw [XK, ← List.map_take, ← List.map_drop, List.take_replicate, List.drop_replicate, WY]
 rw [show min (32 - bs.length) 32 = 32 - bs.length by omega, show 32 - (32 - bs.length + bs.length) = 0 by omega]
 simp
theorem yL (v : Value) (x : Raw) (w : World) (h : jl w v x) : Calls Tryz.prog 74 #[v] w (Ret (eqV (xW x)) w) := by
 have HX := Lib.hid h
 obtain ⟨lx, bx, xs⟩ := x
 obtain ⟨vb1, vl1, rfl, ⟨A0, c0, rfl, hc0, hm0, hr0⟩, A1, c1, rows1, rfl, hc1, hm1, _⟩ := eX h
 have HR := Lib.hid hr0
 unfold maxLen at hm0 hm1
 clear h hr0
 generalize xs.length = n1 at HX hc1 ⊢
 cases lx with
 | true =>
  have HI := Lib.hid (lM (x := .mk true bx xs) rfl)
  go_enter Tryz.func74, Tryz.ntmps74
  go_wp2_with first
   | (guard_target = wpList _ _ _ (Oper.mk _ (Op.alloc _) _ _ _ _ :: _) _ _; refine dh (w.heap.size + 2) (by rw [hs0]) rfl rfl ?_; intro w1 hA1 hG1 hs1; have HG1 := Lib.hid (HG0.out.trans hG1.out); have HA0 := Lib.hid (hA0.out.gr hG1.out); obtain ⟨q0, q1, q2⟩ := lJ (((hG0.out.trans hG1.out).block w.heap.size (by simp)).trans (heap_alloc_new w _)))
   | (guard_target = wpList _ _ _ (Oper.mk _ (Op.alloc _) _ _ _ _ :: _) _ _; refine dh (w.heap.size + 1) (by simp) rfl rfl ?_; intro w0 hA0 hG0 hs0; have HG0 := Lib.hid ((au w (.cells #[.bool true, .slice A0 bx.length c0, .slice A1 n1 c1] 138)).trans hG0.out))
   | (guard_target = wpList _ _ _ (Oper.mk _ (Op.load _ _) _ _ _ _ :: _) _ _; refine wpList_load_row rfl 29 (.tmp 4) rfl (w.heap.size + 2) rfl 29 (bvs zero32).toArray (0, 0) _ hA1.out rfl rfl (fO _ dL) ?_)
   | (guard_target = wpList _ _ _ (Oper.mk _ (Op.store _ _ _) _ _ _ _ :: _) _ _; refine wpList_store_row rfl 29 (.tmp 2) (.tmp 26) rfl (w.heap.size + 1) (bvs zero32).toArray rfl rfl 29 _ HA0.out (fO _ dL) rfl (lD _) ?_)
  refine bodyPost_ret (gu rfl _ _ (w.heap.size + 1) 29 zero32 rfl (iM HA0.out) dL) rfl ?_
  exact ⟨_, rfl, bQ HG1.out _ _ (by omega), by unfold eqV; rw [HI.out]; rfl⟩
 | false =>
  have HN : Hid (uD (.mk false bx xs) = if bx.head? = some 0 then none else some bx) := Lib.hid rfl
  by_cases h8 : 32 < bx.length
  ·
   have HI := Lib.hid (lM (show eF (.mk false bx xs) = none by unfold eF; rw [HN.out]; split; rfl; rw [Option.bind_some, if_neg (by omega)]))
   go_enter Tryz.func74, Tryz.ntmps74
   go_wp2_with first
    | (guard_target = wpList _ _ _ (Oper.mk _ (Op.alloc _) _ _ _ _ :: _) _ _; refine dh (w.heap.size + 2) (by rw [hs0]) rfl rfl ?_; intro w1 hA1 hG1 hs1; have HG1 := Lib.hid (HG0.out.trans hG1.out); have HA0 := Lib.hid (hA0.out.gr hG1.out); obtain ⟨q0, q1, q2⟩ := lJ (((hG0.out.trans hG1.out).block w.heap.size (by simp)).trans (heap_alloc_new w _)))
    | (guard_target = wpList _ _ _ (Oper.mk _ (Op.alloc _) _ _ _ _ :: _) _ _; refine dh (w.heap.size + 1) (by simp) rfl rfl ?_; intro w0 hA0 hG0 hs0; have HG0 := Lib.hid ((au w (.cells #[.bool false, .slice A0 bx.length c0, .slice A1 n1 c1] 138)).trans hG0.out))
    | (guard_target = wpList _ _ _ (Oper.mk _ (Op.load _ _) _ _ _ _ :: _) _ _; refine wpList_load_row rfl 29 (.tmp 4) rfl (w.heap.size + 2) rfl 29 (bvs zero32).toArray (0, 0) _ hA1.out rfl rfl (fO _ dL) ?_)
    | (guard_target = wpList _ _ _ (Oper.mk _ (Op.store _ _ _) _ _ _ _ :: _) _ _; refine wpList_store_row rfl 29 (.tmp 2) (.tmp 26) rfl (w.heap.size + 1) (bvs zero32).toArray rfl rfl 29 _ HA0.out (fO _ dL) rfl (lD _) ?_)
   refine bodyPost_ret (gu rfl _ _ (w.heap.size + 1) 29 zero32 rfl (iM HA0.out) dL) rfl ?_
   exact ⟨_, rfl, bQ HG1.out _ _ (by omega), by unfold eqV; rw [HI.out]; rfl⟩
  ·
   have h9 : bx.length ≤ 32 := by omega
   clear h8
   by_cases hz : bx.head? = some 0
   ·
    obtain ⟨l, rfl⟩ : ∃ l, bx = 0 :: l := by
     cases bx with
     | nil => cases hz
     | cons b l => simp at hz; exact ⟨l, by rw [hz]⟩
    have HI := Lib.hid (lM (show eF (.mk false (0 :: l) xs) = none by unfold eF; rw [HN.out]; rfl))
    obtain ⟨bl, o, rfl, hbl, hcell⟩ := vP HR.out 0 (by simp)
    have hcell' : w.cell? ⟨bl, o, none⟩ = some (.int .u8 0) := hcell
    have HCELL := Lib.hid hcell'
    have hlen : (0 :: l : List UInt8).length = l.length + 1 := rfl
    rw [hlen] at hc0 HX h9 ⊢
    clear hz HN hcell hcell' hlen
    go_enter Tryz.func74, Tryz.ntmps74
    go_wp2_with first
     | (guard_target = wpList _ _ _ (Oper.mk _ (Op.alloc _) _ _ _ _ :: _) _ _; refine dh (w.heap.size + 2) (by rw [hs0]) rfl rfl ?_; intro w1 hA1 hG1 hs1; have HG1 := Lib.hid (HG0.out.trans hG1.out); have HA0 := Lib.hid (hA0.out.gr hG1.out); obtain ⟨q0, q1, q2⟩ := lJ (((hG0.out.trans hG1.out).block w.heap.size (by simp)).trans (heap_alloc_new w _)); have q3 := (HG1.out.cell (p := ⟨bl, o, none⟩) hbl).trans HCELL.out)
     | (guard_target = wpList _ _ _ (Oper.mk _ (Op.alloc _) _ _ _ _ :: _) _ _; refine dh (w.heap.size + 1) (by simp) rfl rfl ?_; intro w0 hA0 hG0 hs0; have HG0 := Lib.hid ((au w (.cells #[.bool false, .slice (some ⟨bl, o, none⟩) (l.length + 1) c0, .slice A1 n1 c1] 138)).trans hG0.out))
     | (guard_target = wpList _ _ _ (Oper.mk _ (Op.load _ _) _ _ _ _ :: _) _ _; refine wpList_load_row rfl 29 (.tmp 4) rfl (w.heap.size + 2) rfl 29 (bvs zero32).toArray (0, 0) _ hA1.out rfl rfl (fO _ dL) ?_)
     | (guard_target = wpList _ _ _ (Oper.mk _ (Op.store _ _ _) _ _ _ _ :: _) _ _; refine wpList_store_row rfl 29 (.tmp 2) (.tmp 26) rfl (w.heap.size + 1) (bvs zero32).toArray rfl rfl 29 _ HA0.out (fO _ dL) rfl (lD _) ?_)
    refine bodyPost_ret (gu rfl _ _ (w.heap.size + 1) 29 zero32 rfl (iM HA0.out) dL) rfl ?_
    exact ⟨_, rfl, bQ HG1.out _ _ (by omega), by unfold eqV; rw [HI.out]; rfl⟩
   ·
    rcases bx with _ | ⟨b, l⟩
    ·
     clear hz HN
     have HI := Lib.hid (sQ (show eF (.mk false [] xs) = some (pad []) from rfl))
     simp only [XP] at hc0 HX h9 ⊢
     have HSP : Hid (splice (bvs zero32) (32 - 0) (bvs []) = bvs (pad [])) := Lib.hid (yw ([] : List UInt8) h9)
     have HP := Lib.hid (lV ([] : List UInt8) h9)
     go_enter Tryz.func74, Tryz.ntmps74
     go_wp2_with first
      | (guard_target = wpList _ _ _ (Oper.mk _ (Op.alloc _) _ _ _ _ :: _) _ _; refine dh (w.heap.size + 2) (by rw [hs0]) rfl rfl ?_; intro w1 hA1 hG1 hs1; have HG1 := Lib.hid (HG0.out.trans hG1.out); have HA0 := Lib.hid (hA0.out.gr hG1.out); obtain ⟨q0, q1, q2⟩ := lJ (((hG0.out.trans hG1.out).block w.heap.size (by simp)).trans (heap_alloc_new w _)))
      | (guard_target = wpList _ _ _ (Oper.mk _ (Op.alloc _) _ _ _ _ :: _) _ _; refine dh (w.heap.size + 1) (by simp) rfl rfl ?_; intro w0 hA0 hG0 hs0; have HG0 := Lib.hid ((au w (.cells #[.bool false, .slice A0 0 c0, .slice A1 n1 c1] 138)).trans hG0.out))
     have k1 := bg (w := w1) (p := ⟨w.heap.size, 1, none⟩) (by show w.heap.size < _; omega) q1
     refine dH 7 (by kernel_rfl) (by kernel_rfl) (by kernel_rfl) ?_
     simp only [WH, WO, WG, WM]
     refine dM 7 (by kernel_rfl) ?_
     simp only [WH, WO, WG, WM]
     repeat (go_big_quiet_step (fail))
     refine wpQuiet_nil ?_
     refine gK (by kernel_rfl) ?_
     intro W hW
     replace hW := hW.gr
     unfold oD
     have hs2 := hW.size
     go_wp2_with first
      | (guard_target = wpList _ _ _ (Oper.mk _ (Op.call _) _ _ _ _ :: _) _ _; refine wpList_copy_splice rfl (.tmp 31) (.tmp 33) 38 38 rfl 5 Tryz.underlying38 (by kernel_rfl) (some ⟨w.heap.size + 2, 0, none⟩) A0 (0) (0) (0) c0 rfl rfl (w.heap.size + 2) (32 - (0)) (bvs zero32) 29 (hA1.out.gr hW) (bvs ([] : List UInt8)) (by simp [bvs]) (fun h0 => absurd h0 (by simp [bvs])) (by simp [bvs, zero32]; try omega) (dR _) (w.heap.size + 2) W (Below.refl _ _) (Nat.le_refl _) ?_; intro w3 hA3 hG3; rw [HSP.out] at hA3; have HG3 : Hid (Gr w w3) := Lib.hid (Below.trans (HG1.out.trans hW) (hG3.mono (show w.heap.size ≤ w.heap.size + 2 by omega))); have HA3 : Hid (Arr w3 (w.heap.size + 1) 29 zero32) := Lib.hid ((hG3.block (w.heap.size + 1) (by omega)).trans (HA0.out.gr hW)))
      | (guard_target = wpList _ _ _ (Oper.mk _ (Op.load _ _) _ _ _ _ :: _) _ _; refine wpList_load_row rfl 29 (.tmp 4) rfl (w.heap.size + 2) rfl 29 (bvs (pad ([] : List UInt8))).toArray (0, 0) _ hA3.out rfl rfl (fO _ HP.out) ?_)
      | (guard_target = wpList _ _ _ (Oper.mk _ (Op.store _ _ _) _ _ _ _ :: _) _ _; refine wpList_store_row rfl 29 (.tmp 2) (.tmp 35) rfl (w.heap.size + 1) (bvs (pad ([] : List UInt8))).toArray rfl rfl 29 _ HA3.out (fO _ HP.out) (by rw [qR _ HP.out]; rfl) (lD _) ?_)
     refine bodyPost_ret (gu rfl _ _ (w.heap.size + 1) 29 (pad ([] : List UInt8)) rfl (iM HA3.out) HP.out) rfl ?_
     exact ⟨_, rfl, bQ HG3.out _ _ (by omega), by unfold eqV; rw [HI.out]; rfl⟩
    ·
     skip
     have hb : b ≠ 0 := fun e => hz (by rw [e]; rfl)
     have hI : eF (.mk false (b :: l) xs) = some (pad (b :: l)) := by
      unfold eF
      rw [HN.out, if_neg hz, Option.bind_some, if_pos h9]
     have HI := Lib.hid (sQ hI)
     obtain ⟨bl, o, rfl, hbl, hcell⟩ := vP HR.out 0 (by simp)
     have hcell' : w.cell? ⟨bl, o, none⟩ = some (.int .u8 (b.toNat : Int)) := hcell
     have HCELL := Lib.hid hcell'
     have hn : ((b.toNat : Int) == 0) = false := by
      rw [Y5]
      intro e
      have e2 : (b.toNat : Int) = 0 := by simpa using e
      exact hb (XR.1 (by rw [show (0 : UInt8).toNat = 0 from rfl]; omega))
     simp only [WS] at hc0 HX h9 ⊢
     clear hz HN hcell hcell' hI hb
     obtain ⟨dp, hsl, hdp⟩ := qo (w.heap.size + 2) (l.length + 1) (32 - ((l.length : Int) + 1)) (by simp; try omega) h9
     have HDP := Lib.hid hdp
     have HSL := Lib.hid hsl
     clear hdp hsl
     have hsrc : ∀ w' : World, Gr w w' → 0 < (bvs (b :: l)).length → dp = some ⟨w.heap.size + 2, 32 - (l.length + 1), none⟩ ∧ ∃ ad, (some (⟨bl, o, none⟩ : Addr)) = some ad ∧ ∀ j v, (bvs (b :: l))[j]? = some v → w'.cell? (ad.add j) = some v := fun w' hg h0 => ⟨HDP.out (by simp), Qa HR.out hg h0⟩
     have HSRC := Lib.hid hsrc
     have HSP : Hid (splice (bvs zero32) (32 - (l.length + 1)) (bvs (b :: l)) = bvs (pad (b :: l))) := Lib.hid (yw (b :: l) h9)
     have HP := Lib.hid (lV (b :: l) h9)
     clear hsrc
     go_enter Tryz.func74, Tryz.ntmps74
     go_wp2_with first
      | (guard_target = wpList _ _ _ (Oper.mk _ (Op.alloc _) _ _ _ _ :: _) _ _; refine dh (w.heap.size + 2) (by rw [hs0]) rfl rfl ?_; intro w1 hA1 hG1 hs1; have HG1 := Lib.hid (HG0.out.trans hG1.out); have HA0 := Lib.hid (hA0.out.gr hG1.out); obtain ⟨q0, q1, q2⟩ := lJ (((hG0.out.trans hG1.out).block w.heap.size (by simp)).trans (heap_alloc_new w _)); have q3 := (HG1.out.cell (p := ⟨bl, o, none⟩) hbl).trans HCELL.out)
      | (guard_target = wpList _ _ _ (Oper.mk _ (Op.alloc _) _ _ _ _ :: _) _ _; refine dh (w.heap.size + 1) (by simp) rfl rfl ?_; intro w0 hA0 hG0 hs0; have HG0 := Lib.hid ((au w (.cells #[.bool false, .slice (some ⟨bl, o, none⟩) (l.length + 1) c0, .slice A1 n1 c1] 138)).trans hG0.out))
     have k1 := bg (w := w1) (p := ⟨w.heap.size, 1, none⟩) (by show w.heap.size < _; omega) q1
     have k2 : ∀ x : Later w1, _ := fun x => HSL.out x.1
     refine dH 7 (by kernel_rfl) (by kernel_rfl) (by kernel_rfl) ?_
     simp only [WH, WO, WG, WM]
     refine dM 7 (by kernel_rfl) ?_
     simp only [WH, WO, WG, WM]
     repeat (go_big_quiet_step (fail))
     refine wpQuiet_nil ?_
     refine gK (by kernel_rfl) ?_
     intro W hW
     replace hW := hW.gr
     unfold oD
     have hs2 := hW.size
     go_wp2_with first
      | (guard_target = wpList _ _ _ (Oper.mk _ (Op.call _) _ _ _ _ :: _) _ _; refine wpList_copy_splice rfl (.tmp 31) (.tmp 33) 38 38 rfl 5 Tryz.underlying38 (by kernel_rfl) dp (some ⟨bl, o, none⟩) ((l.length + 1)) ((l.length + 1)) ((l.length + 1)) c0 rfl rfl (w.heap.size + 2) (32 - ((l.length + 1))) (bvs zero32) 29 (hA1.out.gr hW) (bvs (b :: l)) (by simp [bvs]) (HSRC.out W (HG1.out.trans hW)) (by simp [bvs, zero32]; try omega) (dR _) (w.heap.size + 2) W (Below.refl _ _) (Nat.le_refl _) ?_; intro w3 hA3 hG3; rw [HSP.out] at hA3; have HG3 : Hid (Gr w w3) := Lib.hid (Below.trans (HG1.out.trans hW) (hG3.mono (show w.heap.size ≤ w.heap.size + 2 by omega))); have HA3 : Hid (Arr w3 (w.heap.size + 1) 29 zero32) := Lib.hid ((hG3.block (w.heap.size + 1) (by omega)).trans (HA0.out.gr hW)))
      | (guard_target = wpList _ _ _ (Oper.mk _ (Op.load _ _) _ _ _ _ :: _) _ _; refine wpList_load_row rfl 29 (.tmp 4) rfl (w.heap.size + 2) rfl 29 (bvs (pad (b :: l))).toArray (0, 0) _ hA3.out rfl rfl (fO _ HP.out) ?_)
      | (guard_target = wpList _ _ _ (Oper.mk _ (Op.store _ _ _) _ _ _ _ :: _) _ _; refine wpList_store_row rfl 29 (.tmp 2) (.tmp 35) rfl (w.heap.size + 1) (bvs (pad (b :: l))).toArray rfl rfl 29 _ HA3.out (fO _ HP.out) (by rw [qR _ HP.out]; rfl) (lD _) ?_)
     refine bodyPost_ret (gu rfl _ _ (w.heap.size + 1) 29 (pad (b :: l)) rfl (iM HA3.out) HP.out) rfl ?_
     exact ⟨_, rfl, bQ HG3.out _ _ (by omega), by unfold eqV; rw [HI.out]; rfl⟩
def AB (l : List UInt8) : Value := .tuple #[.int .i64 (((fJ l).getD 0 : Nat) : Int), .bool (fJ l).isSome]
theorem xX {l : List UInt8} (h : fJ l = none) : AB l = .tuple #[.int .i64 0, .bool false] := by unfold AB; rw [h]; rfl
theorem He {l : List UInt8} {n : Nat} (h : fJ l = some n) : AB l = .tuple #[.int .i64 (n : Int), .bool true] := by unfold AB; rw [h]; rfl
theorem MR (n x : Nat) (hn : n < 2 ^ 55) (hx : x < 256) : bits .or .i64 ((n : Int) * 256) (x : Int) = ((n * 256 + x : Nat) : Int) := by
 have := zu (n * 256) x (by omega) (by omega)
 rw [nat_join 8 (n * 256) x (by omega) (by omega)] at this
 rw [← this]
 simp
theorem Rh (l : List UInt8) (hl : l.length = 32) (w : World) : Calls Tryz.prog 127 #[dG l] w (Ret (eqV (AB l)) w) := by
 go_enter Tryz.func127, Tryz.ntmps127
 go_wp2_with (guard_target = wpList _ _ _ (Oper.mk _ (Op.box _ _) _ _ _ _ :: _) _ _; refine CY w.heap.size rfl (.tmp 0) l rfl rfl rfl ?_; intro w0 hA0 hG0 hs0)
 go_loopw [4] (fun i wr => ∃ k : Nat, k ≤ 24 ∧ i = .int .i64 k ∧ wr = w0 ∧ Hid (∀ j (hj : j < l.length), j < k → l[j] = 0)) (fun i _ => 24 - (intOf i).toNat)
 case atStart => exact ⟨0, by omega, rfl, rfl, Lib.hid (fun j hj h => absurd h (by omega))⟩
 case round =>
  obtain ⟨k, hk, rfl, rfl, HZ⟩ := hrel
  by_cases h1 : k < 24
  ·
   have hc := zU hA0.out k (by omega)
   by_cases hz : l[k] = 0
   ·
    have HZ2 : Hid (∀ j (hj : j < l.length), j < k + 1 → l[j] = 0) := Lib.hid fun j hj h => by
     rcases Nat.lt_succ_iff_lt_or_eq.1 h with h2 | h2
     · exact HZ.out j hj h2
     · subst h2; exact hz
    rw [hz] at hc
    have hc2 : wr.cell? ⟨w.heap.size, k, none⟩ = some (.int .u8 0) := hc
    clear hc hz
    go_wp2_with fail
    go_roundw
    case rel => exact ⟨k + 1, by omega, by go_num, trivial, HZ2⟩
    case measure => simp [intOf]; omega
   ·
    have hn := S9 l k (by omega)
    rw [decide_eq_false hz] at hn
    have HI := Lib.hid (xX (Dh l hl k h1 hz))
    have hn2 : ((l[k].toNat : Int) != 0) = true := by simp [bne, hn]
    have hl2 := jh l[k]
    generalize l[k].toNat = z at hc hn hn2 hl2
    clear hz
    go_wp2_with fail
    refine bodyPost_ret (results_tmp2 rfl _ _ _) rfl ⟨_, rfl, hG0.out, ?_⟩
    unfold eqV
    rw [HI.out]
    rfl
  ·
   obtain rfl : k = 24 := by omega
   have hc := zU hA0.out 24 (by omega)
   by_cases ht : 128 ≤ l[24].toNat
   ·
    have HI := Lib.hid (xX (Et l hl HZ.out ht))
    generalize l[24].toNat = z at hc ht
    go_wp2_with fail
    refine bodyPost_ret (results_tmp2 rfl _ _ _) rfl ⟨_, rfl, hG0.out, ?_⟩
    unfold eqV
    rw [HI.out]
    rfl
   ·
    have HW := Eu l hl HZ.out (by omega)
    have HI := Lib.hid (He HW.1)
    have HLE := Lib.hid HW.2
    have HT : Hid (l[24].toNat < 128) := Lib.hid (by omega)
    have hlt : l[24].toNat < 128 := HT.out
    clear HW
    generalize l[24].toNat = z at hc ht hlt
    go_wp2_with fail
    clear hc
    have hL : (l.drop 24).length = 8 := by rw [W9, hl]
    obtain ⟨wz, hwz⟩ : ∃ wz : World, wz = wr := ⟨_, rfl⟩
    rw [← hwz] at hA0 hG0 hs0 ⊢
    clear hwz
    go_loopw [5, 6] (fun n i wr => ∃ j : Nat, j ≤ 8 ∧ i = .int .i64 (24 + (j : Int)) ∧ n = .int .i64 (val ((l.drop 24).take j) : Nat) ∧ wr = wz) (fun _ i _ => (32 - intOf i).toNat)
    case atStart => exact ⟨0, by omega, rfl, rfl, rfl⟩
    case round =>
     obtain ⟨j, hj, rfl, rfl, rfl⟩ := hrel
     by_cases h2 : j < 8
     ·
      have hq : val ((l.drop 24).take j) < 2 ^ 55 := by
       have h3 := AO (l.drop 24) j (by omega)
       rw [hL] at h3
       have h4 : 256 ^ 1 ≤ 256 ^ (8 - j) := YT (by omega) (by omega)
       have h5 : val ((l.drop 24).take j) * 256 ^ 1 ≤ val ((l.drop 24).take j) * 256 ^ (8 - j) := Nat.mul_le_mul_left _ h4
       have h6 := HLE.out
       omega
      have HV := Lib.hid (nO (l.drop 24) j (by omega))
      have hget : (l.drop 24)[j]'(by omega) = l[24 + j]'(by omega) := by simp
      have hcj := zU hA0.out (24 + j) (by omega)
      rw [hget] at HV
      have hzl := jh (l[24 + j]'(by omega))
      have HJ := Lib.hid (MR _ _ hq hzl)
      generalize val ((l.drop 24).take j) = q at hq HV HJ
      generalize (l[24 + j]'(by omega)).toNat = z at hcj HV HJ hzl
      clear hget
      go_wp2_with fail
      go_roundw
      case rel =>
       refine ⟨j + 1, by omega, by go_num, ?_, trivial⟩
       rw [HV.out, ← HJ.out]
      case measure => simp [intOf]; omega
     ·
      obtain rfl : j = 8 := by omega
      have HTK : Hid ((l.drop 24).take 8 = l.drop 24) := Lib.hid (XT (by omega))
      rw [HTK.out]
      clear HTK hL h2
      generalize val (l.drop 24) = q at HI HLE ⊢
      go_wp2_with fail
      refine bodyPost_ret (results_tmp2 rfl _ _ _) rfl ⟨_, rfl, hG0.out, ?_⟩
      unfold eqV
      rw [HI.out]
      rfl
theorem MO (x : Raw) : FT x = .tuple #[.int .i64 ((((fJ ((eF x).getD zero32)).getD 0 : Nat)) : Int), .bool ((eF x).isSome && (fJ ((eF x).getD zero32)).isSome)] := by
 unfold FT
 rw [MQ]
 cases eF x with
 | none =>
  have : fJ zero32 = some 0 := by unfold fJ; rw [show val zero32 = 0 by decide]; rfl
  simp [this]
 | some l => simp
theorem Ld (v : Value) (x : Raw) (w : World) (h : jl w v x) : Calls Tryz.prog 73 #[v] w (Ret (eqV (FT x)) w) := by
 have HX := Lib.hid h
 obtain ⟨lx, bx, xs⟩ := x
 obtain ⟨vb1, vl1, rfl, ⟨A0, c0, rfl, hc0, hm0, _⟩, A1, c1, rows1, rfl, hc1, hm1, _⟩ := eX h
 unfold maxLen at hm0 hm1
 clear h
 generalize bx.length = n0 at HX hc0 ⊢
 generalize xs.length = n1 at HX hc1 ⊢
 generalize Raw.mk lx bx xs = x at HX ⊢
 have HI := Lib.hid (MO x)
 have hl : ((eF x).getD zero32).length = 32 := by
  cases hw : eF x with
  | none => exact dL
  | some l => exact Dc hw
 have HW : Hid (xW x = .tuple #[dG ((eF x).getD zero32), .bool (eF x).isSome]) := Lib.hid rfl
 generalize (eF x).isSome = ok at HI HW
 generalize (eF x).getD zero32 = l at HI HW hl
 have HL : Hid (AB l = .tuple #[.int .i64 (((fJ l).getD 0 : Nat) : Int), .bool (fJ l).isSome]) := Lib.hid rfl
 generalize (fJ l).isSome = fine at HI HL
 generalize (fJ l).getD 0 = n at HI HL
 go_enter Tryz.func73, Tryz.ntmps73
 go_wp2_with first
  | (go_at_call 74; refine (yL _ x _ (HX.out.gr (au w _))).mono ?_; rintro e w2 ⟨v2, rfl, hg2, hv2⟩; rw [eqV, HW.out] at hv2; subst hv2; have HG2 := Lib.hid ((au w _).trans hg2); have hs2 := hg2.size; clear hg2)
  | (guard_target = wpList _ _ _ (Oper.mk _ (Op.alloc _) _ _ _ _ :: _) _ _; refine dh w2.heap.size rfl rfl rfl ?_; intro w3 hA3 hG3 hs3)
  | (guard_target = wpList _ _ _ (Oper.mk _ (Op.store _ _ _) _ _ _ _ :: _) _ _; refine wpList_store_row rfl 29 (.tmp 4) (.tmp 11) rfl w2.heap.size (bvs l).toArray rfl rfl 29 _ hA3.out (fO _ hl) (by rw [qR _ hl]; rfl) (lD _) ?_; have HA4 : Hid (Arr (w3.setRow w2.heap.size (bvs l).toArray) w2.heap.size 29 l) := Lib.hid (iM hA3.out); have HG4 : Hid (Gr w (w3.setRow w2.heap.size (bvs l).toArray)) := Lib.hid (bQ (HG2.out.trans hG3.out) _ _ HG2.out.size); generalize w3.setRow w2.heap.size (bvs l).toArray = w4 at HA4 HG4 ⊢)
  | (guard_target = wpList _ _ _ (Oper.mk _ (Op.load _ _) _ _ _ _ :: _) _ _; refine wpList_load_row rfl 29 (.tmp 4) rfl w2.heap.size rfl 29 (bvs l).toArray (0, 0) _ HA4.out rfl rfl (fO _ hl) ?_)
  | (go_at_call 127; refine (Rh l hl _).mono ?_; rintro e w5 ⟨v5, rfl, hg5, hv5⟩; rw [eqV, HL.out] at hv5; subst hv5; have HG5 := Lib.hid (HG4.out.trans hg5); clear hg5)
 all_goals exact bodyPost_ret (results_tmp2 rfl _ _ _) rfl ⟨_, rfl, HG5.out, by unfold eqV; rw [HI.out]; simp_all⟩
end Go.Proofs.YtelbhdobjdnglaaGreat
namespace Go.Proofs.YtelbhdobjdnglaaGreat
set_option linter.unusedVariables false
set_option maxRecDepth 20000
set_option maxHeartbeats 8000000
open Go.RowKit Mono Rlp
namespace E
def Jt (x : Raw) : R := .tpl [.arr 32 ((eF x).getD zero32), .v (.bool (eF x).isSome)]
def intD (x : Raw) : R := .tpl [.v (.int .i64 (((lX x).getD 0 : Nat) : Int)), .v (.bool (lX x).isSome)]
theorem AA (x : Raw) : ((eF x).getD zero32).length = 32 := by
 cases h : eF x with
 | none => rfl
 | some l =>
  unfold eF at h
  cases hn : uD x with
  | none => rw [hn] at h; cases h
  | some bs =>
   rw [hn, Option.bind_some] at h
   split at h
   ·
    rename_i hlen
    cases h
    exact lV bs hlen
   · cases h
theorem UN (x : Raw) : Fn 162 [aX x] (· = Jt x) := ⟨fun ok w xs hok hr => by
 obtain ⟨v, rfl, h⟩ := jQ hr
 refine (Oo v x w (lI hok h)).mono ?_
 rintro e w' ⟨_, rfl, hg, rfl⟩
 exact ⟨hg, _, _, rfl, rfl, Ez (rP (AA x)) (iD rfl)⟩⟩
theorem PY (x : Raw) : Fn 74 [aX x] (· = Jt x) := ⟨fun ok w xs hok hr => by
 obtain ⟨v, rfl, h⟩ := jQ hr
 refine (yL v x w (lI hok h)).mono ?_
 rintro e w' ⟨_, rfl, hg, rfl⟩
 exact ⟨hg, _, _, rfl, rfl, Ez (rP (AA x)) (iD rfl)⟩⟩
theorem V4 (x : Raw) : Fn 161 [aX x] (· = intD x) := ⟨fun ok w xs hok hr => by
 obtain ⟨v, rfl, h⟩ := jQ hr
 refine (Q9 v x w (lI hok h)).mono ?_
 rintro e w' ⟨_, rfl, hg, rfl⟩
 exact ⟨hg, _, _, rfl, rfl, Ez (iD rfl) (iD rfl)⟩⟩
theorem SK (x : Raw) : Fn 73 [aX x] (· = intD x) := ⟨fun ok w xs hok hr => by
 obtain ⟨v, rfl, h⟩ := jQ hr
 refine (Ld v x w (lI hok h)).mono ?_
 rintro e w' ⟨_, rfl, hg, rfl⟩
 exact ⟨hg, _, _, rfl, rfl, Ez (iD rfl) (iD rfl)⟩⟩
def wh : Raw → Option (List UInt8)
 | .mk false bs _ => if bs.length = 32 then some bs else none
 | .mk true _ _ => none
def whD (x : Raw) : R := .tpl [.arr 32 ((wh x).getD zero32), .v (.bool (wh x).isSome)]
theorem Gi (x : Raw) : Fn 163 [aX x] (· = whD x) := by
 obtain ⟨b, bs, xs⟩ := x
 unfold whD
 rw [aX]
 refine Fn.walk 17 Tryz.func163 rfl Tryz.ntmps163 (by simp) fun X => ?_
 cases b with
 | true =>
  rw [wh]
  repeat
   (first
    | (apply dO; iterate 2 rfl) | (apply cZ; rfl; rfl; rfl; intro g; refine EL.le (Le.pin (p := 1) (pre := []) rfl rfl) ?_; simp only [WJ])
    | (apply ak; iterate 3 rfl) | (apply ah; iterate 3 rfl) | (apply aP; iterate 7 rfl) | (apply aG; iterate 5 rfl)
    | (apply aK; iterate 4 rfl) | (apply qY; iterate 5 rfl) | (apply aT; rfl; rfl; rfl; intro _)
    | (apply aO; rfl; exact saA; iterate 4 rfl) | apply EL.nil
    | (apply EC.t0; rfl)
    | (with_reducible first | apply EK.nc | apply EC.seq | apply EC.r0 | apply EC.k0 | apply EC.label | apply EC.b0 | apply EC.x0 | apply EC.ret | apply EK.n0 | apply EK.s0 | apply EK.bK | apply EK.aB | apply EK.aJ))
  refine EK.iE 0 rfl rfl rfl rfl rfl ?_ rfl
  (exact RL.a)
 | false =>
  by_cases hl : bs.length = 32
  ·
   rw [wh, if_pos hl]
   repeat
    (first
     | (apply cZ; rfl; rfl; rfl; intro g; refine EL.le (Le.pin (p := 1) (pre := []) rfl rfl) ?_; simp only [WJ]) | (apply ak; iterate 3 rfl)
     | (apply ah; iterate 3 rfl) | (apply aP; iterate 7 rfl) | (apply aG; iterate 5 rfl) | (apply aK; iterate 4 rfl)
     | (apply aF (b := false); (iterate 2 rfl); exact aQ; iterate 2 rfl) | (apply aV; iterate 4 rfl)
     | (apply TQ; (iterate 2 rfl); (focus (first | assumption | omega)); iterate 3 rfl) | (apply aT; rfl; rfl; rfl; intro _)
     | (apply aO; rfl; exact saA; iterate 4 rfl) | apply EL.nil
     | (apply EC.f0; rfl)
     | (with_reducible first | apply EK.nc | apply EC.seq | apply EC.r0 | apply EC.k0 | apply EC.label | apply EC.b0 | apply EC.x0 | apply EC.ret | apply EK.n0 | apply EK.s0 | apply EK.bK | apply EK.aB | apply EK.aJ))
   refine EK.iE 0 rfl rfl rfl rfl rfl ?_ rfl
   (exact RL.a)
  ·
   rw [wh, if_neg hl]
   repeat
    (first
     | (apply cZ; rfl; rfl; rfl; intro g; refine EL.le (Le.pin (p := 1) (pre := []) rfl rfl) ?_; simp only [WJ]) | (apply ak; iterate 3 rfl)
     | (apply ah; iterate 3 rfl) | (apply aP; iterate 7 rfl) | (apply aG; iterate 5 rfl) | (apply aK; iterate 4 rfl)
     | (apply aF (b := true); (iterate 2 rfl); exact aQ; iterate 2 rfl) | (apply aV; iterate 4 rfl) | (apply qY; iterate 5 rfl)
     | (apply aT; rfl; rfl; rfl; intro _) | (apply aO; rfl; exact saA; iterate 4 rfl) | apply EL.nil
     | (apply EC.t0; rfl)
     | (with_reducible first | apply EK.nc | apply EC.seq | apply EC.r0 | apply EC.k0 | apply EC.label | apply EC.b0 | apply EC.x0 | apply EC.ret | apply EK.n0 | apply EK.s0 | apply EK.bK | apply EK.aB | apply EK.aJ))
   refine EK.iE 0 rfl rfl rfl rfl rfl ?_ rfl
   (exact RL.a)
def bdX (x : Raw) : Option (Nat × List UInt8 × List UInt8 × List UInt8) :=
 match x with
 | .mk true _ [a, b, c, d] => match lX a, eF b, wh c, wh d with
  | some n, some w, some r, some h => some (n, w, r, h)
  | _, _, _, _ => none
 | _ => none
def bdB (b : List UInt8) : Option (Nat × List UInt8 × List UInt8 × List UInt8) := match fU b with
 | .ok x => bdX x
 | .error _ => none
def dBo (o : Option (Nat × List UInt8 × List UInt8 × List UInt8)) : D := match o with
 | some (n, w, r, c) => dBd n w r c
 | none => dBd 0 zero32 zero32 zero32
def Wh (o : Option (Nat × List UInt8 × List UInt8 × List UInt8)) : R := match o with
 | some x => .tpl [dBo (some x), .v (.int .i64 0)]
 | none => .tpl [dBd 0 zero32 zero32 zero32, .v (.int .i64 4)]
def rbR (o : Option (Nat × List UInt8 × List UInt8 × List UInt8)) : R := match o with
 | some x => .tpl [dBo (some x), .v (.bool true)]
 | none => .tpl [dBd 0 zero32 zero32 zero32, .v (.bool false)]
theorem Kw (x : Raw) (bs : List UInt8) (xs : List Raw) (h : xs.length ≠ 4) : bdX (.mk true bs xs) = none := by
 match xs with
 | [] => rfl
 | [_] => rfl
 | [_, _] => rfl
 | [_, _, _] => rfl
 | [_, _, _, _] => exact absurd rfl h
 | _ :: _ :: _ :: _ :: _ :: _ => rfl
theorem Jc (b : List UInt8) : Fn 112 [.bs b] (· = Wh (bdB b)) := by
 have h1 := PZ b
 unfold yO rdX rdE at h1
 unfold bdB
 refine Fn.walk 85 Tryz.func112 rfl Tryz.ntmps112 (by simp) fun X => ?_
 cases hr : fU b with
 | error e =>
  rw [hr] at h1
  dsimp only at h1 ⊢
  rw [aX] at h1
  have he := rE hr
  repeat
   (first
    | (apply dO; iterate 2 rfl) | (apply aC (h1); rfl; exact RL.a; exact enA; iterate 2 rfl) | (apply ak; iterate 3 rfl) | (apply ah; iterate 3 rfl)
    | (apply aA; iterate 4 rfl) | (apply aK; iterate 4 rfl) | (apply aF (b := true); (iterate 2 rfl); exact aQ; iterate 2 rfl)
    | (apply dX; iterate 7 rfl) | (apply aT; rfl; rfl; rfl; intro _)
    | (apply aO; rfl; exact saA; iterate 4 rfl) | apply EL.nil
    | (apply EC.t0; rfl)
    | (with_reducible first | apply EK.nc | apply EC.seq | apply EC.r0 | apply EC.k0 | apply EC.label | apply EC.b0 | apply EC.x0 | apply EC.ret | apply EK.n0 | apply EK.s0 | apply EK.bK | apply EK.aB | apply EK.aJ))
  refine EK.iE 1 rfl rfl rfl rfl rfl ?_ rfl
  (exact RL.a)
 | ok x =>
  rw [hr] at h1
  dsimp only at h1 ⊢
  obtain ⟨il, bs, xs⟩ := x
  rw [aX] at h1
  cases il with
  | false =>
   have hbd : bdX (.mk false bs xs) = none := rfl
   rw [hbd]
   repeat
    (first
     | (apply dO; iterate 2 rfl) | (apply aC (h1); rfl; exact RL.a; exact enA; iterate 2 rfl) | (apply ak; iterate 3 rfl) | (apply ah; iterate 3 rfl)
     | (apply aH; iterate 6 rfl) | (apply aA; iterate 4 rfl) | (apply aK; iterate 4 rfl) | (apply bM; iterate 3 rfl)
     | (apply aI; rfl; exact I.a; iterate 4 rfl) | (apply aF (b := false); (iterate 2 rfl); exact aQ; iterate 2 rfl) | (apply dX; iterate 7 rfl)
     | (apply aT; rfl; rfl; rfl; intro _) | (apply aO; rfl; exact saA; iterate 4 rfl) | apply EL.nil
     | (apply EC.t0; rfl)
     | (with_reducible first | apply EK.nc | apply EC.seq | apply EC.r0 | apply EC.k0 | apply EC.label | apply EC.b0 | apply EC.x0 | apply EC.ret | apply EK.n0 | apply EK.s0 | apply EK.bK | apply EK.aB | apply EK.aJ))
   refine EK.iE 1 rfl rfl rfl rfl rfl ?_ rfl
   (exact RL.a)
  | true =>
   by_cases h4 : xs.length = 4
   ·
    match xs, h4 with
    | [a1, a2, a3, a4], _ =>
     have g1 := V4 a1
     have g2 := UN a2
     have g3 := Gi a3
     have g4 := Gi a4
     unfold intD at g1
     unfold Jt at g2
     unfold whD at g3 g4
     obtain ⟨p1, q1, z1⟩ := a1
     obtain ⟨p2, q2, z2⟩ := a2
     obtain ⟨p3, q3, z3⟩ := a3
     obtain ⟨p4, q4, z4⟩ := a4
     simp only [bG, aX] at h1 g1 g2 g3 g4
     cases e1 : lX (.mk p1 q1 z1) with
     | none =>
      have hbd : bdX (.mk true bs [.mk p1 q1 z1, .mk p2 q2 z2, .mk p3 q3 z3, .mk p4 q4 z4]) = none := by simp only [bdX, e1]
      rw [hbd]
      rw [e1] at g1
      repeat
       (first
        | (apply dO; iterate 2 rfl) | (apply aC (h1); rfl; exact RL.a; exact enA; iterate 2 rfl) | (apply aC (g1); rfl; exact RL.a; exact enA; iterate 2 rfl)
        | (apply aC (g2); rfl; exact RL.a; exact enA; iterate 2 rfl) | (apply aC (g3); rfl; exact RL.a; exact enA; iterate 2 rfl)
        | (apply aC (g4); rfl; exact RL.a; exact enA; iterate 2 rfl) | (apply ak; iterate 3 rfl) | (apply ah; iterate 3 rfl) | (apply aH; iterate 6 rfl)
        | (apply aA; iterate 4 rfl) | (apply aG; iterate 5 rfl) | (apply aK; iterate 4 rfl) | (apply bM; iterate 3 rfl)
        | (apply aI; rfl; exact I.a; iterate 4 rfl) | (apply aF (b := false); (iterate 2 rfl); exact aQ; iterate 2 rfl) | (apply bC; iterate 4 rfl)
        | (apply bH; (iterate 4 rfl); exact ixA; iterate 2 rfl)
        | (apply dX; iterate 7 rfl) | (apply aT; rfl; rfl; rfl; intro _)
        | (apply aO; rfl; exact saA; iterate 4 rfl) | apply EL.nil
        | (apply EC.t0; rfl) | (apply EC.f0; rfl)
        | (with_reducible first | apply EK.nc | apply EC.seq | apply EC.r0 | apply EC.k0 | apply EC.label | apply EC.b0 | apply EC.x0 | apply EC.ret | apply EK.n0 | apply EK.s0 | apply EK.bK | apply EK.aB | apply EK.aJ))
      refine EK.iE 4 rfl rfl rfl rfl rfl ?_ rfl
      (exact RL.a)
     | some n =>
      rw [e1] at g1
      cases e2 : eF (.mk p2 q2 z2) with
      | none =>
       have hbd : bdX (.mk true bs [.mk p1 q1 z1, .mk p2 q2 z2, .mk p3 q3 z3, .mk p4 q4 z4]) = none := by simp only [bdX, e1, e2]
       rw [hbd]
       rw [e2] at g2
       repeat
        (first
         | (apply dO; iterate 2 rfl) | (apply aC (h1); rfl; exact RL.a; exact enA; iterate 2 rfl) | (apply aC (g1); rfl; exact RL.a; exact enA; iterate 2 rfl)
         | (apply aC (g2); rfl; exact RL.a; exact enA; iterate 2 rfl) | (apply aC (g3); rfl; exact RL.a; exact enA; iterate 2 rfl)
         | (apply aC (g4); rfl; exact RL.a; exact enA; iterate 2 rfl) | (apply ak; iterate 3 rfl) | (apply ah; iterate 3 rfl) | (apply aH; iterate 6 rfl)
         | (apply aA; iterate 4 rfl) | (apply aG; iterate 5 rfl) | (apply aK; iterate 4 rfl) | (apply bM; iterate 3 rfl)
         | (apply aI; rfl; exact I.a; iterate 4 rfl) | (apply aF (b := false); (iterate 2 rfl); exact aQ; iterate 2 rfl) | (apply bC; iterate 4 rfl)
         | (apply bH; (iterate 4 rfl); exact ixA; iterate 2 rfl)
         | (apply dX; iterate 7 rfl) | (apply aT; rfl; rfl; rfl; intro _)
         | (apply aO; rfl; exact saA; iterate 4 rfl) | apply EL.nil
         | (apply EC.t0; rfl) | (apply EC.f0; rfl)
         | (with_reducible first | apply EK.nc | apply EC.seq | apply EC.r0 | apply EC.k0 | apply EC.label | apply EC.b0 | apply EC.x0 | apply EC.ret | apply EK.n0 | apply EK.s0 | apply EK.bK | apply EK.aB | apply EK.aJ))
       refine EK.iE 4 rfl rfl rfl rfl rfl ?_ rfl
       (exact RL.a)
      | some w =>
       rw [e2] at g2
       cases e3 : wh (.mk p3 q3 z3) with
       | none =>
        have hbd : bdX (.mk true bs [.mk p1 q1 z1, .mk p2 q2 z2, .mk p3 q3 z3, .mk p4 q4 z4]) = none := by simp only [bdX, e1, e2, e3]
        rw [hbd]
        rw [e3] at g3
        repeat
         (first
          | (apply dO; iterate 2 rfl) | (apply aC (h1); rfl; exact RL.a; exact enA; iterate 2 rfl) | (apply aC (g1); rfl; exact RL.a; exact enA; iterate 2 rfl)
          | (apply aC (g2); rfl; exact RL.a; exact enA; iterate 2 rfl) | (apply aC (g3); rfl; exact RL.a; exact enA; iterate 2 rfl)
          | (apply aC (g4); rfl; exact RL.a; exact enA; iterate 2 rfl) | (apply ak; iterate 3 rfl) | (apply ah; iterate 3 rfl) | (apply aH; iterate 6 rfl)
          | (apply aA; iterate 4 rfl) | (apply aG; iterate 5 rfl) | (apply aK; iterate 4 rfl) | (apply bM; iterate 3 rfl)
          | (apply aI; rfl; exact I.a; iterate 4 rfl) | (apply aF (b := false); (iterate 2 rfl); exact aQ; iterate 2 rfl) | (apply bC; iterate 4 rfl)
          | (apply bH; (iterate 4 rfl); exact ixA; iterate 2 rfl)
          | (apply dX; iterate 7 rfl) | (apply aT; rfl; rfl; rfl; intro _)
          | (apply aO; rfl; exact saA; iterate 4 rfl) | apply EL.nil
          | (apply EC.t0; rfl) | (apply EC.f0; rfl)
          | (with_reducible first | apply EK.nc | apply EC.seq | apply EC.r0 | apply EC.k0 | apply EC.label | apply EC.b0 | apply EC.x0 | apply EC.ret | apply EK.n0 | apply EK.s0 | apply EK.bK | apply EK.aB | apply EK.aJ))
        refine EK.iE 4 rfl rfl rfl rfl rfl ?_ rfl
        (exact RL.a)
       | some r =>
        rw [e3] at g3
        cases e4 : wh (.mk p4 q4 z4) with
        | none =>
         have hbd : bdX (.mk true bs [.mk p1 q1 z1, .mk p2 q2 z2, .mk p3 q3 z3, .mk p4 q4 z4]) = none := by simp only [bdX, e1, e2, e3, e4]
         rw [hbd]
         rw [e4] at g4
         repeat
          (first
           | (apply aC (h1); rfl; exact RL.a; exact enA; iterate 2 rfl) | (apply aC (g1); rfl; exact RL.a; exact enA; iterate 2 rfl)
           | (apply aC (g2); rfl; exact RL.a; exact enA; iterate 2 rfl) | (apply aC (g3); rfl; exact RL.a; exact enA; iterate 2 rfl)
           | (apply aC (g4); rfl; exact RL.a; exact enA; iterate 2 rfl) | (apply ak; iterate 3 rfl) | (apply ah; iterate 3 rfl) | (apply aH; iterate 6 rfl)
           | (apply aA; iterate 4 rfl) | (apply aG; iterate 5 rfl) | (apply aK; iterate 4 rfl) | (apply bM; iterate 3 rfl)
           | (apply aI; rfl; exact I.a; iterate 4 rfl) | (apply aF (b := false); (iterate 2 rfl); exact aQ; iterate 2 rfl) | (apply bC; iterate 4 rfl)
           | (apply bH; (iterate 4 rfl); exact ixA; iterate 2 rfl)
           | (apply dX; iterate 7 rfl) | (apply aT; rfl; rfl; rfl; intro _)
           | (apply aO; rfl; exact saA; iterate 4 rfl) | apply EL.nil
           | (apply EC.t0; rfl) | (apply EC.f0; rfl)
           | (with_reducible first | apply EK.nc | apply EC.seq | apply EC.r0 | apply EC.k0 | apply EC.label | apply EC.b0 | apply EC.x0 | apply EC.ret | apply EK.n0 | apply EK.s0 | apply EK.bK | apply EK.aB | apply EK.aJ))
         refine EK.iE 4 rfl rfl rfl rfl rfl ?_ rfl
         (exact RL.a)
        | some h =>
         rw [e4] at g4
         have hbd : bdX (.mk true bs [.mk p1 q1 z1, .mk p2 q2 z2, .mk p3 q3 z3, .mk p4 q4 z4]) = some (n, w, r, h) := by simp only [bdX, e1, e2, e3, e4]
         rw [hbd]
         repeat
          (first
           | (apply aC (h1); rfl; exact RL.a; exact enA; iterate 2 rfl) | (apply aC (g1); rfl; exact RL.a; exact enA; iterate 2 rfl)
           | (apply aC (g2); rfl; exact RL.a; exact enA; iterate 2 rfl) | (apply aC (g3); rfl; exact RL.a; exact enA; iterate 2 rfl)
           | (apply aC (g4); rfl; exact RL.a; exact enA; iterate 2 rfl) | (apply ak; iterate 3 rfl) | (apply ah; iterate 3 rfl) | (apply aH; iterate 6 rfl)
           | (apply aA; iterate 4 rfl) | (apply aG; iterate 5 rfl) | (apply aK; iterate 4 rfl) | (apply bM; iterate 3 rfl)
           | (apply aI; rfl; exact I.a; iterate 4 rfl) | (apply aF (b := false); (iterate 2 rfl); exact aQ; iterate 2 rfl) | (apply bC; iterate 4 rfl)
           | (apply bH; (iterate 4 rfl); exact ixA; iterate 2 rfl)
           | (apply dX; iterate 7 rfl) | (apply aT; rfl; rfl; rfl; intro _)
           | (apply aO; rfl; exact saA; iterate 4 rfl) | apply EL.nil
           | (apply EC.f0; rfl)
           | (with_reducible first | apply EK.nc | apply EC.seq | apply EC.r0 | apply EC.k0 | apply EC.label | apply EC.b0 | apply EC.x0 | apply EC.ret | apply EK.n0 | apply EK.s0 | apply EK.bK | apply EK.aB | apply EK.aJ))
         refine EK.iE 4 rfl rfl rfl rfl rfl ?_ rfl
         (exact RL.a)
   ·
    have hl : (bG xs).length ≠ 4 := by rw [kK]; exact h4
    rw [Kw (.mk true bs xs) bs xs h4]
    repeat
     (first
      | (apply aC (h1); rfl; exact RL.a; exact enA; iterate 2 rfl) | (apply ak; iterate 3 rfl) | (apply ah; iterate 3 rfl) | (apply aH; iterate 6 rfl)
      | (apply aA; iterate 4 rfl) | (apply aK; iterate 4 rfl) | (apply bM; iterate 3 rfl) | (apply aI; rfl; exact I.a; iterate 4 rfl)
      | (apply aF (b := true); (iterate 2 rfl); exact aQ; iterate 2 rfl) | (apply aF (b := false); (iterate 2 rfl); exact aQ; iterate 2 rfl)
      | (apply bC; iterate 4 rfl) | (apply dX; iterate 7 rfl) | (apply aT; rfl; rfl; rfl; intro _)
      | (apply aO; rfl; exact saA; iterate 4 rfl) | apply EL.nil
      | (apply EC.t0; rfl)
      | (with_reducible first | apply EK.nc | apply EC.seq | apply EC.r0 | apply EC.k0 | apply EC.label | apply EC.b0 | apply EC.x0 | apply EC.ret | apply EK.n0 | apply EK.s0 | apply EK.bK | apply EK.aB | apply EK.aJ))
    refine EK.iE 1 rfl rfl rfl rfl rfl ?_ rfl
    (exact RL.a)
def lead (v : List UInt8) : List (List UInt8) := match bdB v with
 | some (_, _, r, _) => if r = iY then [] else [r]
 | none => []
theorem FP (v : List UInt8) : (lead v).length ≤ 1 := by
 unfold lead
 split
 ·
  split
  · exact Xo _
  · exact Nat.le_refl _
 · exact Xo _
theorem FN : lead [] = [] := by decide
def chN : Nd → List (List UInt8)
 | .nil => []
 | .hash w => [w]
 | .leaf _ v => lead v
 | .ext _ k => chN k
 | .br ks v => (List.range 16).flatMap (fun i => chN (ks i)) ++ lead v
def kN (N : Raw → List (List UInt8)) (x : Raw) : List (List UInt8) := if isL x then N x else if (bts x).length = 32 then [bts x] else []
def chR : Nat → Raw → List (List UInt8)
 | 0, _ => []
 | f + 1, x => if (its x).length = 17 then ((its x).take 16).flatMap (kN (chR f)) ++ lead (bts ((its x).getD 16 jw)) else match rdP (bts ((its x).getD 0 jw)) with
  | some (_, true) => lead (bts ((its x).getD 1 jw))
  | _ => kN (chR f) ((its x).getD 1 jw)
theorem JF {f : Nat} {x : Raw} (hx : Gd x) (h : (iU (fF f) x).2 = true) (ih : isN f x = true → chR f x = chN (fF f x).1) : kN (chR f) x = chN (iU (fF f) x).1 := by
 obtain ⟨l, b, xs⟩ := x
 cases l with
 | true =>
  rw [vF hx rfl] at h ⊢
  unfold kN
  rw [if_pos (show isL (.mk true b xs) = true from rfl)]
  split
  ·
   rename_i hlt
   rw [if_pos hlt] at h
   rw [oz f _ hx] at h
   exact ih h
  ·
   rename_i hlt
   rw [if_neg hlt] at h
   cases h
 | false =>
  unfold iU at h ⊢
  unfold kN
  rw [show isL (.mk false b xs) = false from rfl, if_neg Bool.false_ne_true, show bts (.mk false b xs) = b from rfl] at h ⊢
  rw [if_neg Bool.false_ne_true]
  by_cases h0 : b.length = 0
  · rw [if_pos h0, if_neg (by omega), chN]
  ·
   rw [if_neg h0] at h ⊢
   by_cases h32 : b.length = 32
   · rw [if_pos h32, if_pos h32, chN]
   ·
    rw [if_neg h32] at h
    cases h
theorem yP {xs : List Raw} (h : xs.length = 17) : (List.range 16).map (fun i => xs.getD i jw) = xs.take 16 := by
 refine Yo fun i => ?_
 rw [Xl, YH]
 by_cases hi : i < 16
 ·
  rw [YA hi, if_pos hi, XW, List.getD_eq_getElem?_getD, List.getElem?_eq_getElem (show i < xs.length by omega)]
  rfl
 ·
  rw [if_neg hi, XM (by simp; omega)]
  rfl
theorem xg {α β : Type} {f g : α → List β} : ∀ {l : List α}, (∀ x ∈ l, f x = g x) → l.flatMap f = l.flatMap g
 | [], _ => rfl
 | x :: l, h => by rw [List.flatMap_cons, List.flatMap_cons, h x WT, xg fun y hy => h y (WZ _ hy)]
theorem Jj : ∀ (f : Nat) (x : Raw), Gd x → isN f x = true → chR f x = chN (fF f x).1
 | 0, x, _, h => by rw [isN] at h; cases h
 | _ + 1, .mk false _ _, _, h => by rw [isN] at h; cases h
 | f + 1, .mk true b xs, hx, h => by
  rw [← oz (f + 1) _ hx, fF] at h
  rw [chR, fF, show its (.mk true b xs) = xs from rfl]
  by_cases h2 : xs.length = 2
  ·
   rw [if_pos h2] at h ⊢
   rw [if_neg (by omega)]
   match xs, h2 with
   | [a, c], _ =>
    have hc := hx.kid (y := c) (WZ _ WT)
    show (match rdP (bts a) with | some (_, true) => lead (bts c) | _ => kN (chR f) c) = _
    replace h : (qE (fF f) a c).2 = true := h
    show _ = chN (qE (fF f) a c).1
    unfold qE at h ⊢
    cases hr : rdP (bts a) with
    | none => rw [hr] at h; cases h
    | some pl =>
     obtain ⟨p, lf⟩ := pl
     rw [hr] at h
     dsimp only at h ⊢
     split at h
     · cases h
     ·
      rename_i hla
      rw [if_neg hla]
      cases lf with
      | true =>
       rw [if_pos rfl, chN]
      | false =>
       rw [if_neg Bool.false_ne_true] at h ⊢
       split at h
       ·
        rename_i hb
        rw [if_pos hb, chN]
        exact JF hc (by simp only [XG] at h; exact h.1) (Jj f c hc)
       · cases h
  ·
   rw [if_neg h2] at h ⊢
   by_cases h17 : xs.length = 17
   ·
    rw [if_pos h17] at h ⊢
    rw [if_pos h17]
    unfold brF at h ⊢
    split at h
    ·
     rename_i hall
     rw [if_pos hall, chN, ← yP h17, List.flatMap_map]
     congr 1
     refine xg fun i hi => ?_
     have hi := X7.1 hi
     have hm : xs.getD i jw ∈ xs.take 16 := by
      rw [← yP h17]
      exact Xg.2 ⟨i, X7.2 hi, rfl⟩
     have hg := hx.kid (Yl hm)
     exact JF hg (Xk.1 hall _ hm) (Jj f _ hg)
    · cases h
   ·
    rw [if_neg h17] at h
    cases h
theorem EZ {N : Raw → List (List UInt8)} {x : Raw} (h : isL x = true → (N x).length ≤ (Rlp.E x).length) : (kN N x).length ≤ (Rlp.E x).length := by
 have := QK x
 unfold kN
 split
 ·
  rename_i hl
  exact h hl
 ·
  split
  · exact this
  · exact Xo _
theorem Cm {g : Raw → List (List UInt8)} : ∀ {xs : List Raw}, (∀ x ∈ xs, (g x).length ≤ (Rlp.E x).length) → (xs.flatMap g).length ≤ (Rlp.EL xs).length
 | [], _ => Xo _
 | x :: xs, h => by
  rw [List.flatMap_cons, List.length_append, Rlp.EL, List.length_append]
  exact Nat.add_le_add (h x WT) (Cm fun y hy => h y (WZ _ hy))
theorem Vg (b : List UInt8) (xs : List Raw) : (Rlp.EL xs).length ≤ (Rlp.E (.mk true b xs)).length := by
 rw [Rlp.E, List.length_append]
 omega
theorem Ec : ∀ (f : Nat) (x : Raw), isL x = true → (chR f x).length ≤ (Rlp.E x).length
 | 0, x, _ => Xo _
 | _ + 1, .mk false _ _, h => by cases h
 | f + 1, .mk true b xs, _ => by
  have hE := QK (.mk true b xs)
  rw [chR, show its (.mk true b xs) = xs from rfl]
  split
  ·
   rename_i h17
   have h1 := Cm (g := kN (chR f)) (xs := xs.take 16) fun y _ => EZ (Ec f y)
   have h2 := FP (bts (xs.getD 16 jw))
   have h3 := Vg b xs
   have h4 : Rlp.EL xs = Rlp.EL (xs.take 16) ++ Rlp.EL (xs.drop 16) := by rw [← rV, XE]
   have h5 : 0 < (Rlp.EL (xs.drop 16)).length := by
    obtain ⟨y, ys, hy⟩ : ∃ y ys, xs.drop 16 = y :: ys := by
     cases hd : xs.drop 16 with
     | nil =>
      have := congrArg List.length hd
      rw [W9, h17] at this
      cases this
     | cons y ys => exact ⟨y, ys, rfl⟩
    rw [hy, Rlp.EL, List.length_append]
    have := QK y
    omega
   rw [h4, List.length_append] at h3
   rw [List.length_append]
   omega
  ·
   split
   ·
    have := FP (bts (xs.getD 1 jw))
    omega
   ·
    refine XD (EZ (N := chR f) (Ec f (xs.getD 1 jw))) ?_
    rw [List.getD_eq_getElem?_getD]
    cases hg : xs[1]? with
    | none => exact XD (show (Rlp.E jw).length ≤ 1 by decide +kernel) hE
    | some y => exact KH (Xh hg)
theorem RH {f : Nat} {x : Raw} (h : isN f x = true) : isL x = true := by
 cases f with
 | zero => rw [isN] at h; cases h
 | succ f =>
  obtain ⟨l, b, xs⟩ := x
  cases l with
  | true => rfl
  | false => rw [isN] at h; cases h
def ldB (b : List UInt8) : List (List UInt8) := chN (E8 b).1
theorem OZ (b : List UInt8) : ldB b = if rdE b = 0 ∧ isN 40 (rdX b) = true then chR 40 (rdX b) else [] := by
 unfold ldB E8
 split
 ·
  rename_i h
  exact (Jj 40 _ (xH b) h.2).symm
 · rfl
theorem xI (b : List UInt8) : (ldB b).length ≤ b.length := by
 rw [OZ]
 split
 ·
  rename_i h
  have h1 := Ec 40 (rdX b) (RH h.2)
  have h2 : Rlp.E (rdX b) = b := by
   have h3 := h.1
   unfold rdX rdE at *
   cases hr : fU b with
   | ok x => exact (Dw hr).symm
   | error e =>
    rw [hr] at h3
    have := rE hr
    dsimp only at h3
    omega
  rw [h2] at h1
  exact h1
 · exact Xo _
inductive Rch (F : List UInt8 → Option (List UInt8)) (rs : List (List UInt8)) : List UInt8 → Prop
 | root {h b : List UInt8} : h ∈ rs → F h = some b → Rch F rs h
 | step {x b h c : List UInt8} : Rch F rs x → F x = some b → h ∈ ldB b → F h = some c → Rch F rs h
structure Way (F : List UInt8 → Option (List UInt8)) (rs S w : List (List UInt8)) : Prop where
 sound : ∀ h ∈ S, Rch F rs h
 led : ∀ h ∈ w, ∀ b, F h = some b → Rch F rs h
 roots : ∀ h ∈ rs, ∀ b, F h = some b → h ∈ S ∨ h ∈ w
 kids : ∀ x ∈ S, ∀ b, F x = some b → ∀ h ∈ ldB b, ∀ c, F h = some c → h ∈ S ∨ h ∈ w
section
variable {F : List UInt8 → Option (List UInt8)} {rs S w : List (List UInt8)}
theorem Way.start : Way F rs [] rs := ⟨fun h hh => (by cases hh), fun h hh b hb => .root hh hb, fun h hh b hb => .inr hh, fun x hx => (by cases hx)⟩
theorem Way.skip {w' : List (List UInt8)} {h : List UInt8} (W : Way F rs S w) (h1 : ∀ y ∈ w, y = h ∨ y ∈ w') (h2 : ∀ y ∈ w', y ∈ w) (h3 : F h = none ∨ h ∈ S) : Way F rs S w' := by
 have key : ∀ y, y ∈ S ∨ y ∈ w → ∀ b, F y = some b → y ∈ S ∨ y ∈ w' := fun y hy b hb => by
  rcases hy with hy | hy
  · exact .inl hy
  ·
   rcases h1 y hy with rfl | hy
   ·
    rcases h3 with h3 | h3
    ·
     rw [h3] at hb
     cases hb
    · exact .inl h3
   · exact .inr hy
 exact ⟨W.sound, fun y hy => W.led y (h2 y hy), fun y hy b hb => key y (W.roots y hy b hb) b hb, fun x hx b hb y hy c hc => key y (W.kids x hx b hb y hy c hc) c hc⟩
theorem Way.go {w' S' : List (List UInt8)} {h b : List UInt8} (W : Way F rs S w) (hh : h ∈ w) (hb : F h = some b) (h1 : ∀ y ∈ w, y = h ∨ y ∈ w') (h2 : ∀ y ∈ w', y ∈ w ∨ y ∈ ldB b) (h3 : ∀ y ∈ ldB b, y ∈ w') (h4 : ∀ y, y ∈ S' ↔ y = h ∨ y ∈ S) : Way F rs S' w' := by
 have hr := W.led h hh b hb
 have key : ∀ y, y ∈ S ∨ y ∈ w → y ∈ S' ∨ y ∈ w' := fun y hy => by
  rcases hy with hy | hy
  · exact .inl ((h4 y).2 (.inr hy))
  ·
   rcases h1 y hy with rfl | hy
   · exact .inl ((h4 _).2 (.inl rfl))
   · exact .inr hy
 refine ⟨fun y hy => ?_, fun y hy c hc => ?_, fun y hy c hc => key y (W.roots y hy c hc), fun x hx c hc y hy d hd => ?_⟩
 ·
  rcases (h4 y).1 hy with rfl | hy
  · exact hr
  · exact W.sound y hy
 ·
  rcases h2 y hy with hy | hy
  · exact W.led y hy c hc
  · exact .step hr hb hy hc
 ·
  rcases (h4 x).1 hx with rfl | hx
  ·
   rw [hb] at hc
   cases hc
   exact .inr (h3 y hy)
  · exact key y (W.kids x hx c hc y hy d hd)
theorem Way.done (W : Way F rs S []) (h : List UInt8) : h ∈ S ↔ Rch F rs h := by
 refine ⟨W.sound h, fun hr => ?_⟩
 induction hr with
 | root h1 h2 =>
  rcases W.roots _ h1 _ h2 with h | h
  · exact h
  · cases h
 | step h1 h2 h3 h4 ih =>
  rcases W.kids _ ih _ h2 _ h3 _ h4 with h | h
  · exact h
  · cases h
end
theorem Rch.there {F : List UInt8 → Option (List UInt8)} {rs : List (List UInt8)} {h : List UInt8} (H : Rch F rs h) : ∃ b, F h = some b := by
 cases H with
 | root h1 h2 => exact ⟨_, h2⟩
 | step h1 h2 h3 h4 => exact ⟨_, h4⟩
theorem Rch.mono {F : List UInt8 → Option (List UInt8)} {rs rs' : List (List UInt8)} (hs : ∀ h ∈ rs, h ∈ rs') {h : List UInt8} (H : Rch F rs h) : Rch F rs' h := by
 induction H with
 | root h1 h2 => exact .root (hs _ h1) h2
 | step h1 h2 h3 h4 ih => exact .step ih h2 h3 h4
end E
end Go.Proofs.YtelbhdobjdnglaaGreat
