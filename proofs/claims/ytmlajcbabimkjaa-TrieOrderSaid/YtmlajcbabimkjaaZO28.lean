/-
  Merged (wip/tools/merge.py): AL1, StrBytes, KecText, AL2.
  Conditions: none.
-/
import Derived.Test.YtmlajcbabimkjaaZO21
import Derived.Test.YtmlajcbabimkjaaZO27
import Derived.Test.YtmlajcbabimkjaaZO2
import Derived.Lib.ConvBytes
import Derived.Test.YtmlajcbabimkjaaZO12
/-
  The root of the document's example: dog, do, doge, horse (plain).
  Conditions: none.
-/
namespace Go.Proofs.Ytmlajcbabimkjaa
set_option linter.unusedVariables false
open Go.RowKit Mono Rlp
namespace E
def kDog : List UInt8 := [100, 111, 103]
def kDo : List UInt8 := [100, 111]
def kDoge : List UInt8 := [100, 111, 103, 101]
def kHorse : List UInt8 := [104, 111, 114, 115, 101]
def vPuppy : List UInt8 := [112, 117, 112, 112, 121]
def vVerb : List UInt8 := [118, 101, 114, 98]
def vCoin : List UInt8 := [99, 111, 105, 110]
def vStallion : List UInt8 := [115, 116, 97, 108, 108, 105, 111, 110]
def dogP : List Pr := [(kDog, vPuppy), (kDo, vVerb), (kDoge, vCoin), (kHorse, vStallion)]
def nDo : List UInt8 := [6, 4, 6, 15]
def nDog : List UInt8 := [6, 4, 6, 15, 6, 7]
def nDoge : List UInt8 := [6, 4, 6, 15, 6, 7, 6, 5]
def nHorse : List UInt8 := [6, 8, 6, 15, 7, 2, 7, 3, 6, 5]
def dogS : List Pr := [(nDo, vVerb), (nDog, vPuppy), (nDoge, vCoin), (nHorse, vStallion)]
def dog3 : List Pr := [(nDo, vVerb), (nDog, vPuppy), (nDoge, vCoin)]
theorem errP_dog : errP dogP = 0 := by decide +kernel
theorem srt_dog : srt (dogP.map sp) = dogS := (srt_eq (ps := dogP.map sp) (qs := dogS) (by decide +kernel) (by decide +kernel) (by decide +kernel)).symm
theorem refT_of {t : Tn} {m h : List UInt8} (hn : t.isNil = false) (hm : pkB (itemT t) = m) (hl : ¬ m.length < 32) (hh : hash m = h) : refT t = .mk false h [] := by
  unfold refT refI
  rw [hn, if_neg (by decide), hm, if_neg hl, hh]
theorem ext_congr {p q : List UInt8} {k l : Tn} (h1 : p = q) (h2 : k = l) : Tn.ext p k = .ext q l := by rw [h1, h2]
theorem itemT_br (ks : Nat → Tn) (v : List UInt8) : itemT (.br ks v) = .mk true [] ((List.range 16).map (fun i => refT (ks i)) ++ [.mk false v []]) := rfl
theorem itemT_ext (p : List UInt8) (k : Tn) : itemT (.ext p k) = .mk true [] [.mk false (ppk p false) [], refT k] := rfl
theorem dog_a : refT (bdF 197 dog3 4) = .mk false Kec.dg1Hash [] := refT_of (m := Kec.dg1Msg) (by decide +kernel) (by decide +kernel) (by decide) Kec.dg1_hash
theorem dog_b : bdF 198 dog3 2 = .ext [6, 15] (bdF 197 dog3 4) := by
  rw [bd_ext 197 2 dog3 (by decide) (by decide +kernel), show common (dog3[0].1.drop 2) (dog3[dog3.length - 1].1.drop 2) = 2 by decide +kernel]
  exact ext_congr (by decide +kernel) rfl
theorem dog_c : itemT (bdF 198 dog3 2) = .mk true [] [.mk false (ppk [6, 15] false) [], .mk false Kec.dg1Hash []] := by
  rw [dog_b, ← dog_a, itemT_ext]
theorem dog_d : refT (bdF 198 dog3 2) = .mk false Kec.dg2Hash [] := refT_of (m := Kec.dg2Msg) (by decide +kernel) (by rw [dog_c]; decide +kernel) (by decide) Kec.dg2_hash
def dogK (d : Nat) : Tn := bdF 198 (dogS.filter fun z => (nibA 1 z).toNat == d) 2
theorem dog_e : bdF 199 dogS 1 = .br dogK [] := bd_br1 198 1 dogS (by decide) (by decide +kernel) (by decide +kernel)
theorem dog_4 : refT (dogK 4) = .mk false Kec.dg2Hash [] := by
  rw [show dogK 4 = bdF 198 dog3 2 from congrArg (fun l => bdF 198 l 2) (by decide +kernel)]
  exact dog_d
theorem dog_8 : refT (dogK 8) = .mk true [] [.mk false [32, 111, 114, 115, 101] [], .mk false vStallion []] := by
  rw [show dogK 8 = bdF 198 [(nHorse, vStallion)] 2 from congrArg (fun l => bdF 198 l 2) (by decide +kernel), bd_one 197]
  unfold refT refI
  rw [if_neg (by decide), if_pos (by decide +kernel)]
  unfold itemT
  rw [show ppk (nHorse.drop 2) true = [32, 111, 114, 115, 101] by decide +kernel]
theorem dog_z : ∀ d, d < 16 → d ≠ 4 → d ≠ 8 → (dogK d).isNil = true := by decide +kernel
theorem ref_nil {t : Tn} (h : t.isNil = true) : refT t = .mk false [] [] := by
  unfold refT
  rw [h]
  rfl
def dogI : Raw := .mk true [] [.mk false [] [], .mk false [] [], .mk false [] [], .mk false [] [], .mk false Kec.dg2Hash [], .mk false [] [], .mk false [] [], .mk false [] [], .mk true [] [.mk false [32, 111, 114, 115, 101] [], .mk false vStallion []], .mk false [] [], .mk false [] [], .mk false [] [], .mk false [] [], .mk false [] [], .mk false [] [], .mk false [] [], .mk false [] []]
theorem dog_f : itemT (bdF 199 dogS 1) = dogI := by
  rw [dog_e]
  rw [itemT_br, show List.range 16 = [0, 1, 2, 3, 4, 5, 6, 7, 8, 9, 10, 11, 12, 13, 14, 15] from rfl]
  simp only [List.map_cons, List.map_nil]
  rw [dog_4, dog_8]
  repeat rw [ref_nil (dog_z _ (by decide) (by decide) (by decide))]
  unfold dogI
  simp only [List.cons_append, List.nil_append]
theorem dog_g : refT (bdF 199 dogS 1) = .mk false Kec.dg3Hash [] := refT_of (m := Kec.dg3Msg) (by decide +kernel) (by rw [dog_f]; decide +kernel) (by decide) Kec.dg3_hash
theorem dog_h : bdF 200 dogS 0 = .ext [6] (bdF 199 dogS 1) := by
  rw [bd_ext 199 0 dogS (by decide) (by decide +kernel), show common (dogS[0].1.drop 0) (dogS[dogS.length - 1].1.drop 0) = 1 by decide +kernel]
  exact ext_congr (by decide +kernel) rfl
theorem rootP_dog : rootP dogP = Kec.dg4Hash := by
  unfold rootP
  rw [if_pos errP_dog]
  unfold treeT
  rw [srt_dog]
  unfold sumT
  rw [dog_h, if_neg (show ¬ (Tn.isNil (.ext [6] (bdF 199 dogS 1)) = true) from Bool.false_ne_true), itemT_ext]
  rw [dog_g, ← Kec.dg4_hash]
  exact congrArg hash (by decide +kernel)
theorem root0_em : root0 = Kec.emHash := Kec.em_hash
end E
end Go.Proofs.Ytmlajcbabimkjaa
/-
  '[]byte(s)' of a string that is no constant.
  Conditions: none.
-/
namespace Go.Proofs.Ytmlajcbabimkjaa
set_option linter.unusedVariables false
open Go.RowKit Mono
theorem conv_str (w : World) (s : ByteArray) : (convert 9 23 (.string s)).run Try.prog w = .ok (.slice (some ⟨w.heap.size, 0, none⟩) s.size (grownCap w s.size 0 5)) (Lib.bytesWorld w 5 s) :=
  Lib.run_convert_string_bytes w 9 23 5 s Try.underlying9 Try.underlying23 Try.underlying5
theorem gr_bytesWorld (w : World) (s : ByteArray) : Gr w (Lib.bytesWorld w 5 s) := by
  refine ⟨?_, ?_, ?_, by rw [Lib.bytesWorld_size]; omega, fun k hk => Lib.bytesWorld_at_old w _ s k hk⟩ <;> simp [Lib.bytesWorld, World.freeze, World.alloc, World.drew, -World.alloc_eq, -World.drew_eq]
end Go.Proofs.Ytmlajcbabimkjaa
/-
  Bytes as a text of digits.
  Conditions: the bytes are at most 2^30.
-/
namespace Go.Proofs.Ytmlajcbabimkjaa
open Go.RowKit Mono
def digit (n : Nat) : UInt8 := [48, 49, 50, 51, 52, 53, 54, 55, 56, 57, 97, 98, 99, 100, 101, 102].getD n 0
def text (l : List UInt8) : List UInt8 := [48, 120] ++ l.flatMap fun b => [digit (b.toNat / 16), digit (b.toNat % 16)]
theorem text_snoc (l : List UInt8) (b : UInt8) : text (l ++ [b]) = text l ++ [digit (b.toNat / 16), digit (b.toNat % 16)] := by simp [text]
theorem text_length (l : List UInt8) : (text l).length = 2 + 2 * l.length := by
  induction l with
  | nil => rfl
  | cons b l ih =>
    have h : (text (b :: l)).length = (text l).length + 2 := by simp [text]
    rw [h, ih, List.length_cons]
    omega
theorem dig_index0 (w : World) : (Instr.index 9 (.string (ByteArray.mk #[48, 49, 50, 51, 52, 53, 54, 55, 56, 57, 97, 98, 99, 100, 101, 102])) (.int .u8 ((0 : Nat) : Int))).run Try.prog w = .ok (.int .u8 ((digit 0).toNat : Int)) w := by kernel_rfl
theorem dig_index1 (w : World) : (Instr.index 9 (.string (ByteArray.mk #[48, 49, 50, 51, 52, 53, 54, 55, 56, 57, 97, 98, 99, 100, 101, 102])) (.int .u8 ((1 : Nat) : Int))).run Try.prog w = .ok (.int .u8 ((digit 1).toNat : Int)) w := by kernel_rfl
theorem dig_index2 (w : World) : (Instr.index 9 (.string (ByteArray.mk #[48, 49, 50, 51, 52, 53, 54, 55, 56, 57, 97, 98, 99, 100, 101, 102])) (.int .u8 ((2 : Nat) : Int))).run Try.prog w = .ok (.int .u8 ((digit 2).toNat : Int)) w := by kernel_rfl
theorem dig_index3 (w : World) : (Instr.index 9 (.string (ByteArray.mk #[48, 49, 50, 51, 52, 53, 54, 55, 56, 57, 97, 98, 99, 100, 101, 102])) (.int .u8 ((3 : Nat) : Int))).run Try.prog w = .ok (.int .u8 ((digit 3).toNat : Int)) w := by kernel_rfl
theorem dig_index4 (w : World) : (Instr.index 9 (.string (ByteArray.mk #[48, 49, 50, 51, 52, 53, 54, 55, 56, 57, 97, 98, 99, 100, 101, 102])) (.int .u8 ((4 : Nat) : Int))).run Try.prog w = .ok (.int .u8 ((digit 4).toNat : Int)) w := by kernel_rfl
theorem dig_index5 (w : World) : (Instr.index 9 (.string (ByteArray.mk #[48, 49, 50, 51, 52, 53, 54, 55, 56, 57, 97, 98, 99, 100, 101, 102])) (.int .u8 ((5 : Nat) : Int))).run Try.prog w = .ok (.int .u8 ((digit 5).toNat : Int)) w := by kernel_rfl
theorem dig_index6 (w : World) : (Instr.index 9 (.string (ByteArray.mk #[48, 49, 50, 51, 52, 53, 54, 55, 56, 57, 97, 98, 99, 100, 101, 102])) (.int .u8 ((6 : Nat) : Int))).run Try.prog w = .ok (.int .u8 ((digit 6).toNat : Int)) w := by kernel_rfl
theorem dig_index7 (w : World) : (Instr.index 9 (.string (ByteArray.mk #[48, 49, 50, 51, 52, 53, 54, 55, 56, 57, 97, 98, 99, 100, 101, 102])) (.int .u8 ((7 : Nat) : Int))).run Try.prog w = .ok (.int .u8 ((digit 7).toNat : Int)) w := by kernel_rfl
theorem dig_index8 (w : World) : (Instr.index 9 (.string (ByteArray.mk #[48, 49, 50, 51, 52, 53, 54, 55, 56, 57, 97, 98, 99, 100, 101, 102])) (.int .u8 ((8 : Nat) : Int))).run Try.prog w = .ok (.int .u8 ((digit 8).toNat : Int)) w := by kernel_rfl
theorem dig_index9 (w : World) : (Instr.index 9 (.string (ByteArray.mk #[48, 49, 50, 51, 52, 53, 54, 55, 56, 57, 97, 98, 99, 100, 101, 102])) (.int .u8 ((9 : Nat) : Int))).run Try.prog w = .ok (.int .u8 ((digit 9).toNat : Int)) w := by kernel_rfl
theorem dig_index10 (w : World) : (Instr.index 9 (.string (ByteArray.mk #[48, 49, 50, 51, 52, 53, 54, 55, 56, 57, 97, 98, 99, 100, 101, 102])) (.int .u8 ((10 : Nat) : Int))).run Try.prog w = .ok (.int .u8 ((digit 10).toNat : Int)) w := by kernel_rfl
theorem dig_index11 (w : World) : (Instr.index 9 (.string (ByteArray.mk #[48, 49, 50, 51, 52, 53, 54, 55, 56, 57, 97, 98, 99, 100, 101, 102])) (.int .u8 ((11 : Nat) : Int))).run Try.prog w = .ok (.int .u8 ((digit 11).toNat : Int)) w := by kernel_rfl
theorem dig_index12 (w : World) : (Instr.index 9 (.string (ByteArray.mk #[48, 49, 50, 51, 52, 53, 54, 55, 56, 57, 97, 98, 99, 100, 101, 102])) (.int .u8 ((12 : Nat) : Int))).run Try.prog w = .ok (.int .u8 ((digit 12).toNat : Int)) w := by kernel_rfl
theorem dig_index13 (w : World) : (Instr.index 9 (.string (ByteArray.mk #[48, 49, 50, 51, 52, 53, 54, 55, 56, 57, 97, 98, 99, 100, 101, 102])) (.int .u8 ((13 : Nat) : Int))).run Try.prog w = .ok (.int .u8 ((digit 13).toNat : Int)) w := by kernel_rfl
theorem dig_index14 (w : World) : (Instr.index 9 (.string (ByteArray.mk #[48, 49, 50, 51, 52, 53, 54, 55, 56, 57, 97, 98, 99, 100, 101, 102])) (.int .u8 ((14 : Nat) : Int))).run Try.prog w = .ok (.int .u8 ((digit 14).toNat : Int)) w := by kernel_rfl
theorem dig_index15 (w : World) : (Instr.index 9 (.string (ByteArray.mk #[48, 49, 50, 51, 52, 53, 54, 55, 56, 57, 97, 98, 99, 100, 101, 102])) (.int .u8 ((15 : Nat) : Int))).run Try.prog w = .ok (.int .u8 ((digit 15).toNat : Int)) w := by kernel_rfl
theorem dig_index (n : Nat) (h : n < 16) (w : World) : (Instr.index 9 (.string (ByteArray.mk #[48, 49, 50, 51, 52, 53, 54, 55, 56, 57, 97, 98, 99, 100, 101, 102])) (.int .u8 (n : Int))).run Try.prog w = .ok (.int .u8 ((digit n).toNat : Int)) w := by
  match n, h with
  | 0, _ => exact dig_index0 w
  | 1, _ => exact dig_index1 w
  | 2, _ => exact dig_index2 w
  | 3, _ => exact dig_index3 w
  | 4, _ => exact dig_index4 w
  | 5, _ => exact dig_index5 w
  | 6, _ => exact dig_index6 w
  | 7, _ => exact dig_index7 w
  | 8, _ => exact dig_index8 w
  | 9, _ => exact dig_index9 w
  | 10, _ => exact dig_index10 w
  | 11, _ => exact dig_index11 w
  | 12, _ => exact dig_index12 w
  | 13, _ => exact dig_index13 w
  | 14, _ => exact dig_index14 w
  | 15, _ => exact dig_index15 w
  | n + 16, h => omega
set_option maxHeartbeats 400000 in
set_option maxRecDepth 20000 in
theorem ref_text (v1 : Value) (l : List UInt8) (w : World) (h1 : IsB w v1 l) (hlen : l.length ≤ 1073741824) :
    Calls Try.prog 30 #[v1] w (Ret (eqV (.string (bs (text l)))) w) := by
  obtain ⟨A, c, rfl, hl1, hl2, hA⟩ := h1
  clear hl1 hl2
  have HA := Lib.hid hA
  clear hA
  have kc := conv_const w
  go_enter Try.func30, Try.ntmps30
  go_wp2
  clear kc
  go_loopw [3, 4] (fun v i wr => ∃ k : Nat, k ≤ l.length ∧ i = .int .i64 k ∧ AppB wr w.heap.size v (text (l.take k)) ∧ Below w.heap.size w wr) (fun _ i _ => l.length - (intOf i).toNat)
  case atStart => exact ⟨0, by omega, rfl, .inr ⟨_, rfl, rfl, by rw [show (w.alloc (.cells #[.int .u8 48, .int .u8 120] 5 (2, 3))).heap.size = w.heap.size + 1 by simp]; exact rd_marked w #[.int .u8 48, .int .u8 120] 5 (2, 3)⟩, gr_alloc w _⟩
  case round =>
    obtain ⟨k, hk1, rfl, hown, hb⟩ := hrel
    have hsl : (text (l.take k)).length ≤ 2 + 2 * k := by rw [text_length, List.length_take]; omega
    obtain ⟨A', c', rfl, hc1, hc2⟩ := App.form hown (by simp only [maxLen]; omega)
    have hbs := hb.size
    have HO := Lib.hid hown
    have HB := Lib.hid hb
    clear hown hb
    by_cases h1 : k < l.length
    · obtain ⟨b1, o1, rfl, hb1, c1⟩ := HA.out (by intro e; have := bvs_length l; rw [e] at this; simp at this; omega)
      have hbw : b1 < wr.heap.size := by omega
      have d1 := later_cell (w := wr) (p := ⟨b1, o1 + k, none⟩) hbw ((HB.out.cell (p := ⟨b1, o1 + k, none⟩) hb1).trans (c1 k _ (bvs_at l k h1)))
      clear c1
      unfold bv at d1
      have hlx := bv_lt l[k]
      have HS : Hid (text (l.take (k + 1)) = text (l.take k) ++ [digit (l[k].toNat / 16), digit (l[k].toNat % 16)]) := by
        refine Lib.hid ?_
        rw [List.take_succ_eq_append_getElem h1, text_snoc]
      generalize l[k].toNat = n at d1 hlx HS
      have e1 : ∀ w : World, (Instr.index 9 (.string (ByteArray.mk #[48, 49, 50, 51, 52, 53, 54, 55, 56, 57, 97, 98, 99, 100, 101, 102])) (.int .u8 ((n : Int) / 16))).run Try.prog w = .ok (.int .u8 ((digit (n / 16)).toNat : Int)) w := fun w => dig_index (n / 16) (by omega) w
      have e2 : ∀ w : World, (Instr.index 9 (.string (ByteArray.mk #[48, 49, 50, 51, 52, 53, 54, 55, 56, 57, 97, 98, 99, 100, 101, 102])) (.int .u8 ((n : Int) % 16))).run Try.prog w = .ok (.int .u8 ((digit (n % 16)).toNat : Int)) w := fun w => dig_index (n % 16) (by omega) w
      go_wp2
      refine wp_region_N 14 (by kernel_rfl) (by kernel_rfl) (by kernel_rfl) ?_
      simp only [List.take_succ_cons, List.take_zero, List.drop_succ_cons, List.drop_zero]
      refine wpN_quiet 13 (by kernel_rfl) ?_
      simp only [List.take_succ_cons, List.take_zero, List.drop_succ_cons, List.drop_zero]
      repeat (go_big_quiet_step (fail))
      refine wpQuiet_nil ?_
      refine wpN_gen 26 (fun v w => IsB w v [digit (n / 16), digit (n % 16)]) rfl rfl (by kernel_rfl) (by kernel_rfl) (stable_isB _) (fun x => ?_) ?_
      · simp [go_sem, growsTo]
        exact ⟨gr_alloc _ _, isB_new _ _ [digit (n / 16), digit (n % 16)] rfl (by simp [maxLen])⟩
      refine wpN_nil (by kernel_rfl) ?_
      intro W hW
      replace hW := hW.gr
      have hbs2 := hW.size
      intro v22 h22
      obtain ⟨A22, c22, rfl, _, _, hrd⟩ := h22
      unfold finN
      go_wp2_with (at_builtin; refine wpL_app _ _ 23 slT_bytes _ (text (l.take k)).length _ _ 2 _ _ (bvs [digit (n / 16), digit (n % 16)]) rfl rfl rfl rfl (App.gr HO.out hW) (by simp) hrd (by simp [bvs]) (bvs_one _) (by simp only [maxLen]; simp; omega) (by simp; omega) (by omega) ?_; intro A2 c2 w2 hown2 hg2)
      go_roundw
      case rel =>
        refine ⟨k + 1, by omega, by go_num, ?_, ?_⟩
        · refine OwnB.app ?_
          unfold OwnB
          rw [HS.out, bvs_append, List.length_append]
          exact hown2
        · exact (HB.out.trans (hW.mono hbs)).trans hg2
      case measure => simp [intOf]; omega
    · have hc := conv_bytes (HO.out.isB (by simp only [maxLen]; omega))
      have ht : text (l.take k) = text l := by rw [List.take_of_length_le (by omega)]
      rw [ht] at hc ⊢
      clear ht
      go_wp2
      refine bodyPost_ret (results_tmp rfl _ _ _) rfl ?_
      exact ⟨_, rfl, HB.out, rfl⟩
end Go.Proofs.Ytmlajcbabimkjaa
/-
  '[]byte(s)'; the law's pair; Text; munimentslaw6's alive.
  Conditions: none.
-/
namespace Go.Proofs.Ytmlajcbabimkjaa
set_option linter.unusedVariables false
open Go.RowKit Mono Rlp
namespace E
section
variable {N : Nat} {X : Cx N} {S : St} {ops : Array Oper} {o : Oper} {Q : Exit → Act → World → Prop} {l' : List Oper} {rs : List (Tmp × R)} {os : List Obj} {fs : List (Value × D)}
theorem g_s2b {x : Operand} {l : List UInt8} (ho : o.op = .convert 9 23 x) (hx : ev S x = some (.val (.v (.string (Go.Proofs.Ytmlajcbabimkjaa.bs l))))) (hl : l.length ≤ 1000000) : Grows ops S o (· = .val (.bs l)) := fun base ok a w ha => by
  have hr := ev_v ha hx (looks_op (by rw [ho]; simp [Op.operands]))
  have hz : (Go.Proofs.Ytmlajcbabimkjaa.bs l).size = l.length := by simp [Go.Proofs.Ytmlajcbabimkjaa.bs, ByteArray.size]
  have hd : (Go.Proofs.Ytmlajcbabimkjaa.bs l).data.toList = l := by simp [Go.Proofs.Ytmlajcbabimkjaa.bs]
  have hrun : (execOp a.eval o).run Try.prog w = .ok (.value (.slice (some ⟨w.heap.size, 0, none⟩) l.length (grownCap w l.length 0 5))) (Lib.bytesWorld w 5 (Go.Proofs.Ytmlajcbabimkjaa.bs l)) := by
    unfold execOp
    simp only [ho, hr, Sem.run_bind, conv_str, Result.andThen_ok, Sem.run_pure, hz]
  rw [hrun]
  refine ⟨gr_bytesWorld w _, _, rfl, bs_mk ⟨_, _, rfl, grownCap_ge _ _ _ _, grownCap_le_maxLen _ _ _ _ (by simp only [maxLen]; omega), fun _ => ⟨w.heap.size, 0, rfl, ⟨.inr (Nat.le_refl _), by rw [Lib.bytesWorld_size]; omega⟩, fun j u hu => ?_⟩⟩⟩
  have hj : j < l.length := by
    have := (List.getElem?_eq_some_iff.1 hu).1
    simpa [bvs] using this
  rw [Nat.zero_add, Lib.bytesWorld_cell w _ (Go.Proofs.Ytmlajcbabimkjaa.bs l) j (by omega), ← hu]
  simp only [hd]
  simp [bvs, bv, hj]
theorem P_s2b {t ty : Nat} {pos : String} {af : Array Edge} {gd : Option (Nat × Bool)} {x : Operand} {l : List UInt8} (hl : l.length ≤ 1000000) (hx : ev (⟨rs, os, fs⟩ : St) x = some (.val (.v (.string (Go.Proofs.Ytmlajcbabimkjaa.bs l))))) (hg : guardOf ops ⟨rs, os, fs⟩ ⟨some t, .convert 9 23 x, ty, pos, af, gd⟩ = some true) (hN : Nat.blt t N = true) (kk : EL X ops Q l' ⟨(t, .val (.bs l)) :: rs, os, fs⟩) : EL X ops Q (⟨some t, .convert 9 23 x, ty, pos, af, gd⟩ :: l') ⟨rs, os, fs⟩ := by
  refine ES.grow (r := .val (.bs l)) ?_ hg rfl hN kk
  refine g_s2b (x := x) ?_ ?_ ?_
  · rfl
  · exact hx
  · exact hl
end
set_option maxRecDepth 20000 in
theorem f_pair6 (k v : List UInt8) (hk : k.length ≤ 1000000) (hv : v.length ≤ 1000000) : Fn 18 [.v (.string (Go.Proofs.Ytmlajcbabimkjaa.bs k)), .v (.string (Go.Proofs.Ytmlajcbabimkjaa.bs v))] (· = .val (dPr (k, v))) := by
  refine Fn.walk 10 Try.func18 rfl Try.ntmps18 (by simp) fun X => ?_
  repeat
    (first
     | (apply P_s2b hk; (iterate 3 exact rfl)) | (apply P_s2b hv; (iterate 3 exact rfl)) | (apply P_move; (iterate 3 exact rfl)) | (apply P_build; (iterate 7 exact rfl))
     | (apply P_alloc; exact rfl; exact rfl; exact rfl; intro _) | (apply P_store; exact rfl; (focus (repeat first | exact .z | apply SetAt.s | apply SetAtF.s)); (iterate 4 exact rfl)) | apply EL.nil
     | ((with_reducible apply EK.then_normal); apply EK.code)
     | (with_reducible first | apply EC.seq | apply EC.region | apply EC.skip | apply EC.label | apply EC.block | apply EC.exit | apply EC.ret | apply EK.in_normal | apply EK.in_same | apply EK.in_ret | apply EK.then_ret | apply EK.then_exit))
  refine EK.retc1r 0 rfl rfl rfl rfl ?_ rfl
  (repeat first | exact RefineL.refl _ _ | exact RL.nil | exact Rf.same | exact Rf.bs0 | exact Rf.sl0 | (apply Rf.fact; (focus (simp; done)); exact rfl) | apply Rf.tup | apply RL.cons)
theorem f_rText (l : List UInt8) (hl : l.length ≤ 1073741824) : Fn 30 [.bs l] (· = .val (.v (.string (Go.Proofs.Ytmlajcbabimkjaa.bs (text l))))) := ⟨fun ok w xs hok hr => by
  obtain ⟨x, _, rfl, h, hn⟩ := hr
  cases hn
  refine (ref_text x l w (isB_of hok h) hl).mono ?_
  rintro e w' ⟨v', rfl, hg, rfl⟩
  exact ⟨hg, _, _, rfl, rfl, readV_v.2 ⟨rfl, rfl⟩⟩⟩
def emText : List UInt8 := [48, 120, 53, 54, 101, 56, 49, 102, 49, 55, 49, 98, 99, 99, 53, 53, 97, 54, 102, 102, 56, 51, 52, 53, 101, 54, 57, 50, 99, 48, 102, 56, 54, 101, 53, 98, 52, 56, 101, 48, 49, 98, 57, 57, 54, 99, 97, 100, 99, 48, 48, 49, 54, 50, 50, 102, 98, 53, 101, 51, 54, 51, 98, 52, 50, 49]
def dgText : List UInt8 := [48, 120, 53, 57, 57, 49, 98, 98, 56, 99, 54, 53, 49, 52, 49, 52, 56, 97, 50, 57, 100, 98, 54, 55, 54, 97, 49, 52, 97, 99, 53, 48, 54, 99, 100, 50, 99, 100, 53, 55, 55, 53, 97, 99, 101, 54, 51, 99, 51, 48, 97, 52, 102, 101, 52, 53, 55, 55, 49, 53, 101, 57, 97, 99, 56, 52]
theorem text_em : text Kec.emHash = emText := by decide +kernel
theorem text_dg : text Kec.dg4Hash = dgText := by decide +kernel
theorem errP_nil : errP [] = 0 := by decide +kernel
theorem rootP_nil : rootP [] = Kec.emHash := by
  unfold rootP
  rw [if_pos errP_nil, ← root0_em]
  unfold treeT
  rw [show srt (([] : List Pr).map sp) = [] from List.Perm.eq_nil (srt_perm _), bd_nil]
  rfl
theorem f_num6 (n : Int) : Fn 13 [.v (.int .i64 n)] (· = .val (.v (.int .i64 n))) := by
  refine Fn.walk 4 Try.func13 rfl Try.ntmps13 (by simp) fun X => ?_
  repeat
    (first
     | (apply P_move; (iterate 3 exact rfl)) | (apply P_assign; (iterate 3 exact rfl)) | apply EL.nil | ((with_reducible apply EK.then_normal); apply EK.code)
     | (with_reducible first | apply EC.seq | apply EC.region | apply EC.skip | apply EC.label | apply EC.block | apply EC.exit | apply EC.ret | apply EK.in_normal | apply EK.in_same | apply EK.in_ret | apply EK.then_ret | apply EK.then_exit))
  exact EK.ret1 rfl rfl rfl
set_option maxRecDepth 20000 in
set_option maxHeartbeats 8000000 in
theorem f_alive6 : Fn 8 [] (· = .val (.v (.bool true))) := by
  have hR0 := f_Root []
  rw [rootP_nil, errP_nil] at hR0
  have hR1 := f_Root dogP
  rw [rootP_dog, errP_dog] at hR1
  have p1 := f_pair6 kDog vPuppy (by decide) (by decide)
  have p2 := f_pair6 kDo vVerb (by decide) (by decide)
  have p3 := f_pair6 kDoge vCoin (by decide) (by decide)
  have p4 := f_pair6 kHorse vStallion (by decide) (by decide)
  have t1 := f_rText Kec.emHash (by decide)
  have t2 := f_rText Kec.dg4Hash (by decide)
  rw [text_em] at t1
  rw [text_dg] at t2
  have s1 := (bin_string emText emText).1
  have s2 := (bin_string dgText dgText).1
  rw [beq_self_eq_true] at s1 s2
  have n0 := f_num6 0
  refine Fn.walk 34 Try.func8 rfl Try.ntmps8 (by simp) fun X => ?_
  repeat
    (first
     | (apply P_call (hR0); exact rfl; (focus (repeat first | exact RefineL.refl _ _ | exact RL.nil | exact Rf.same | exact Rf.bs0 | exact Rf.sl0 | (apply Rf.fact; (focus (simp; done)); exact rfl) | apply Rf.tup | apply RL.cons)); (focus (intro _ _; simp [go_sem]; done)); (iterate 2 exact rfl))
     | (apply P_call (hR1); exact rfl; (focus (repeat first | exact RefineL.refl _ _ | exact RL.nil | exact Rf.same | exact Rf.bs0 | exact Rf.sl0 | (apply Rf.fact; (focus (simp; done)); exact rfl) | apply Rf.tup | apply RL.cons)); (focus (intro _ _; simp [go_sem]; done)); (iterate 2 exact rfl))
     | (apply P_call (p1); exact rfl; (focus (repeat first | exact RefineL.refl _ _ | exact RL.nil | exact Rf.same | exact Rf.bs0 | exact Rf.sl0 | (apply Rf.fact; (focus (simp; done)); exact rfl) | apply Rf.tup | apply RL.cons)); (focus (intro _ _; simp [go_sem]; done)); (iterate 2 exact rfl))
     | (apply P_call (p2); exact rfl; (focus (repeat first | exact RefineL.refl _ _ | exact RL.nil | exact Rf.same | exact Rf.bs0 | exact Rf.sl0 | (apply Rf.fact; (focus (simp; done)); exact rfl) | apply Rf.tup | apply RL.cons)); (focus (intro _ _; simp [go_sem]; done)); (iterate 2 exact rfl))
     | (apply P_call (p3); exact rfl; (focus (repeat first | exact RefineL.refl _ _ | exact RL.nil | exact Rf.same | exact Rf.bs0 | exact Rf.sl0 | (apply Rf.fact; (focus (simp; done)); exact rfl) | apply Rf.tup | apply RL.cons)); (focus (intro _ _; simp [go_sem]; done)); (iterate 2 exact rfl))
     | (apply P_call (p4); exact rfl; (focus (repeat first | exact RefineL.refl _ _ | exact RL.nil | exact Rf.same | exact Rf.bs0 | exact Rf.sl0 | (apply Rf.fact; (focus (simp; done)); exact rfl) | apply Rf.tup | apply RL.cons)); (focus (intro _ _; simp [go_sem]; done)); (iterate 2 exact rfl))
     | (apply P_call (n0); exact rfl; (focus (repeat first | exact RefineL.refl _ _ | exact RL.nil | exact Rf.same | exact Rf.bs0 | exact Rf.sl0 | (apply Rf.fact; (focus (simp; done)); exact rfl) | apply Rf.tup | apply RL.cons)); (focus (intro _ _; simp [go_sem]; done)); (iterate 2 exact rfl))
     | (apply P_move; (iterate 3 exact rfl)) | (apply P_assign; (iterate 3 exact rfl)) | (apply P_extract; (iterate 4 exact rfl))
     | (apply P_cmp (b := true); (iterate 2 exact rfl); (focus (first | (simp [cmpI]; done) | (simp [cmpI]; omega))); (iterate 2 exact rfl))
     | (apply P_ar; (iterate 3 exact rfl); (focus omega); (focus omega); (iterate 2 exact rfl)) | (apply P_lit; (iterate 9 exact rfl)) | (apply P_alloc; exact rfl; exact rfl; exact rfl; intro _)
     | (apply P_store; exact rfl; (focus (repeat first | exact .z | apply SetAt.s | apply SetAtF.s)); (iterate 4 exact rfl)) | apply EL.nil | ((with_reducible apply EK.then_normal); apply EK.code)
     | (with_reducible first | apply EC.seq | apply EC.region | apply EC.skip | apply EC.label | apply EC.block | apply EC.exit | apply EC.ret | apply EK.in_normal | apply EK.in_same | apply EK.in_ret | apply EK.then_ret | apply EK.then_exit))
  refine EL.le (Le.pin (p := 1) (pre := [_]) rfl rfl) ?_
  refine EL.le (Le.pin (p := 3) (pre := []) rfl rfl) ?_
  simp only [List.nil_append]
  repeat
    (first
     | (apply P_call (t1); exact rfl; (focus (repeat first | exact RefineL.refl _ _ | exact RL.nil | exact Rf.same | exact Rf.bs0 | exact Rf.sl0 | (apply Rf.fact; (focus (simp; done)); exact rfl) | apply Rf.tup | apply RL.cons)); (focus (intro _ _; simp [go_sem]; done)); (iterate 2 exact rfl))
     | (apply P_call (t2); exact rfl; (focus (repeat first | exact RefineL.refl _ _ | exact RL.nil | exact Rf.same | exact Rf.bs0 | exact Rf.sl0 | (apply Rf.fact; (focus (simp; done)); exact rfl) | apply Rf.tup | apply RL.cons)); (focus (intro _ _; simp [go_sem]; done)); (iterate 2 exact rfl))
     | (apply P_bin; (iterate 2 exact rfl); exact s1; (iterate 2 exact rfl)) | (apply P_bin; (iterate 2 exact rfl); exact s2; (iterate 2 exact rfl)) | (apply P_slpd sl_word; (iterate 6 exact rfl))
     | (apply P_move; (iterate 3 exact rfl)) | (apply P_assign; (iterate 3 exact rfl)) | (apply P_pick; (iterate 4 exact rfl)) | apply EL.nil | ((with_reducible apply EK.then_normal); apply EK.code)
     | (with_reducible first | apply EC.seq | apply EC.region | apply EC.skip | apply EC.label | apply EC.block | apply EC.exit | apply EC.ret | apply EK.in_normal | apply EK.in_same | apply EK.in_ret | apply EK.then_ret | apply EK.then_exit))
  exact EK.ret1 rfl rfl rfl
end E
end Go.Proofs.Ytmlajcbabimkjaa
