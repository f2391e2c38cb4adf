/-
  rlp: what bytes are read as.
  Conditions: the bytes are at most 2^46.
-/
import Derived.Test.YtfpigemikpbbhaaRlpLen
import Derived.Test.YtfpigemikpbbhaaItem
namespace Go.Proofs.Ytfpigemikpbbhaa
set_option linter.unusedVariables false
open Go.RowKit Mono Rlp

def zItem : Value := .agg #[.bool false, .slice none 0 0, .slice none 0 0]
/-- What 'read' tells. -/
def ReadV (B m : Nat) (b : List UInt8) : VP := fun v w => match parse m b with
  | .ok (x, n) => ∃ vi, v = .tuple #[vi, .int .i64 (n : Int), .int .i64 0] ∧ ItemIn (fun k => B ≤ k ∧ k < w.heap.size) w vi x
  | .error e => v = .tuple #[zItem, .int .i64 0, .int .i64 (e : Int)]
theorem readV_ok {B m : Nat} {b : List UInt8} {x : Raw} {n : Nat} {v vi : Value} {w : World} (h : parse m b = .ok (x, n)) (hv : v = .tuple #[vi, .int .i64 (n : Int), .int .i64 0]) (hi : ItemIn (fun k => B ≤ k ∧ k < w.heap.size) w vi x) : ReadV B m b v w := by unfold ReadV; rw [h]; exact ⟨vi, hv, hi⟩
theorem readV_err {B m : Nat} {b : List UInt8} {e : Nat} {v : Value} {w : World} (h : parse m b = .error e) (hv : v = .tuple #[zItem, .int .i64 0, .int .i64 (e : Int)]) : ReadV B m b v w := by unfold ReadV; rw [h]; exact hv
theorem item_info (cs : Array Value) (h : cs.size = 3) : (Try.prog.info? 45).map (·.size) = some cs.size := by
  rw [h]
  kernel_rfl
theorem results_item3 {fn : Func} {p u s : Tmp} (h : fn.results = #[.cell p 45, .tmp u, .tmp s]) (tmps : Array Value) (w : World) (g : Nat) (cs : Array Value)
    (hp : tmps.getD p undef = .pointer (some ⟨g, 0, none⟩)) (hg : w.heap[g]? = some (.cells cs 45 (0, 0))) (hs : cs.size = 3) :
    (results fn tmps).run Try.prog w = .ok (.tuple #[.agg cs, tmps.getD u undef, tmps.getD s undef]) w := by
  have hp' : tmps[p]?.getD undef = .pointer (some ⟨g, 0, none⟩) := by simpa using hp
  have hr := run_loadVar_row w g 45 45 cs (0, 0) _ hg Try.underlying45 rfl (item_info cs hs)
  simp [results, h, hp', asAddr, hr]
theorem results_item2 {fn : Func} {p u : Tmp} (h : fn.results = #[.cell p 45, .tmp u]) (tmps : Array Value) (w : World) (g : Nat) (cs : Array Value)
    (hp : tmps.getD p undef = .pointer (some ⟨g, 0, none⟩)) (hg : w.heap[g]? = some (.cells cs 45 (0, 0))) (hs : cs.size = 3) :
    (results fn tmps).run Try.prog w = .ok (.tuple #[.agg cs, tmps.getD u undef]) w := by
  have hp' : tmps[p]?.getD undef = .pointer (some ⟨g, 0, none⟩) := by simpa using hp
  have hr := run_loadVar_row w g 45 45 cs (0, 0) _ hg Try.underlying45 rfl (item_info cs hs)
  simp [results, h, hp', asAddr, hr]

set_option maxHeartbeats 4000000 in
set_option maxRecDepth 20000 in
theorem read_nil (m d : Nat) (v : Value) (w : World) (h : IsB w v []) : Calls Try.prog 64 #[v, .int .i64 d] w (Ret (ReadV w.heap.size m []) w) := by
  obtain ⟨A, cp, rfl, hc1, hc2, hr⟩ := h
  clear hr
  have HP := Lib.hid (show parse m [] = .error 4 by cases m <;> rfl)
  go_enter Try.func64, Try.ntmps64
  go_wp2_with fail
  exact bodyPost_ret (results_item3 rfl _ _ w.heap.size #[.bool false, .slice none 0 0, .slice none 0 0] rfl (heap_alloc_new w _) rfl) rfl ⟨_, rfl, gr_alloc w _, readV_err HP.out rfl⟩
set_option maxHeartbeats 4000000 in
set_option maxRecDepth 20000 in
theorem read_byte (m d : Nat) (v : Value) (c : UInt8) (t : List UInt8) (w : World) (h : IsB w v (c :: t)) (h1 : c < 128) : Calls Try.prog 64 #[v, .int .i64 d] w (Ret (ReadV w.heap.size m (c :: t)) w) := by
  obtain ⟨A, cp, rfl, hc1, hc2, hr⟩ := h
  obtain ⟨bl, o, rfl, hbl, hcell⟩ := hr (by simp [bvs])
  have e0 := hcell 0 (bv c) rfl
  rw [Nat.add_zero] at e0
  unfold bv at e0
  have h3 : c.toNat < 128 := UInt8.lt_iff_toNat_lt.1 h1
  have HP := Lib.hid (show parse m (c :: t) = .ok (.mk false [c] [], 1) by
    obtain ⟨p, hp, _⟩ := parse_step m
    rw [hp, stepP_cons, if_pos h1])
  unfold maxLen at hc2
  simp only [List.length_cons] at hc1 ⊢
  clear hcell hr h1
  go_enter Try.func64, Try.ntmps64
  go_wp2_with fail
  refine bodyPost_ret (results_item3 rfl _ _ w.heap.size #[.bool false, .slice (some ⟨w.heap.size + 1, 0, none⟩) 1 1, .slice none 0 0] rfl ((heap_old _ _ _ (by simp)).trans (heap_alloc_new w _)) rfl) rfl ⟨_, rfl, (gr_alloc w _).trans (gr_alloc _ _), readV_ok HP.out rfl ?_⟩
  refine itemIn_bytes ⟨_, 1, rfl, Nat.le_refl _, by simp [maxLen], fun _ => ⟨w.heap.size + 1, 0, rfl, ⟨by omega, by simp⟩, fun j u hu => ?_⟩⟩
  rw [Nat.zero_add, cell_of_row _ _ _ _ _ (0, 0) (heap_at _ _ _ (by simp)), ← hu]
  simp [bvs, bv]

theorem slot_cut (w : World) (bl o : Nat) (b : List UInt8) (h n cp : Nat) (hr : Rd w w.heap.size (some ⟨bl, o, none⟩) (bvs b)) (hle : h + n ≤ b.length) (hc : b.length ≤ cp) (hm : cp ≤ maxLen) (hne : cp ≠ h) :
    IsB w (.slice (some ⟨bl, o + h, none⟩) n (cp - h)) ((b.drop h).take n) := by
  refine ⟨_, cp - h, by rw [List.length_take, List.length_drop, Nat.min_eq_left (by omega)], by rw [List.length_take, List.length_drop]; omega, by omega, ?_⟩
  obtain ⟨A, c, e, _, _, h3⟩ := isB_cut' h hr rfl hc hm (by omega) hne
  injection e with e1 _ _
  subst e1
  rw [bvs_take]
  exact h3.take n
set_option maxHeartbeats 4000000 in
set_option maxRecDepth 20000 in
theorem read_text (m d : Nat) (v : Value) (c : UInt8) (t : List UInt8) (w : World) (h : IsB w v (c :: t)) (hl : t.length ≤ 16777216) (h1 : ¬ c < 128) (h2 : c < 192) : Calls Try.prog 64 #[v, .int .i64 d] w (Ret (ReadV w.heap.size m (c :: t)) w) := by
  have hlen := fun w0 hg => rlp_length v c t 128 w0 (h.gr hg) (by omega) (by omega) (Nat.not_lt.1 fun e => h1 (UInt8.lt_iff_toNat_lt.2 e)) (by have := UInt8.lt_iff_toNat_lt.1 h2; have h192 : (192 : UInt8).toNat = 192 := rfl; omega)
  have HL := Lib.hid hlen
  obtain ⟨A, cp, rfl, hc1, hc2, hr⟩ := h
  obtain ⟨bl, o, rfl, hbl, hcell⟩ := hr (by simp [bvs])
  have HR := Lib.hid hr
  have e0 := hcell 0 (bv c) rfl
  rw [Nat.add_zero] at e0
  unfold bv at e0
  have HC : Hid (∀ j (hj : j < (c :: t).length), w.cell? ⟨bl, o + j, none⟩ = some (.int .u8 ((c :: t)[j].toNat : Int))) := Lib.hid fun j hj => hcell j _ (bvs_at (c :: t) j hj)
  have h3 : 128 ≤ c.toNat := Nat.not_lt.1 fun e => h1 (UInt8.lt_iff_toNat_lt.2 e)
  have h4 : c.toNat < 192 := UInt8.lt_iff_toNat_lt.1 h2
  have HP : Hid (parse m (c :: t) = match hdr (c :: t) 128 with
      | none => .error 4
      | some (h, n) => if n = 1 ∧ (c :: t).getD h 0 < 128 then .error 4 else .ok (.mk false (((c :: t).drop h).take n) [], h + n)) := by
    refine Lib.hid ?_
    obtain ⟨p, hp, _⟩ := parse_step m
    rw [hp, stepP_cons, if_neg h1, if_pos h2]
    cases hdr (c :: t) 128 <;> rfl
  have hspec := fun (h n : Nat) (hh : hdr (c :: t) 128 = some (h, n)) => hdr_spec hh (by simp) (by simpa using h3) (by omega) (by simp; omega)
  have HS := Lib.hid hspec
  have hcm := Lib.hid hc2
  unfold maxLen at hc2
  simp only [List.length_cons] at hc1 HL ⊢
  clear hcell hr h1 h2 hlen hspec
  go_enter Try.func64, Try.ntmps64
  go_wp2_with fail
  refine (HL.out _ (gr_alloc w _)).mono ?_
  rintro e _ ⟨rfl, v1, rfl, hv1⟩
  unfold LenV at hv1
  clear HL
  cases hh : hdr (c :: t) 128 with
  | none =>
    rw [hh] at hv1 HP
    obtain ⟨x, y, rfl⟩ := hv1
    clear hh HS
    go_wp2_with fail
    exact bodyPost_ret (results_item3 rfl _ _ w.heap.size #[.bool false, .slice none 0 0, .slice none 0 0] rfl (heap_alloc_new w _) rfl) rfl ⟨_, rfl, gr_alloc w _, readV_err HP.out rfl⟩
  | some hn =>
    obtain ⟨h, n⟩ := hn
    rw [hh] at hv1 HP
    dsimp only at hv1
    subst hv1
    obtain ⟨_, s1, s2, s3⟩ := HS.out h n hh
    simp only [List.length_cons] at s1 s3
    clear hh HS
    by_cases hn1 : n = 1
    · subst hn1
      have hx := HC.out h (by simp; omega)
      have hxl := bv_lt ((c :: t)[h]'(by simp; omega))
      have hgd : (c :: t).getD h 0 = (c :: t)[h]'(by simp; omega) := by rw [List.getD_eq_getElem?_getD, List.getElem?_eq_getElem (by simp; omega)]; rfl
      have hch : cp ≠ h := by omega
      by_cases hb128 : (c :: t)[h]'(by simp; omega) < 128
      · have HP2 := Lib.hid (show parse m (c :: t) = .error 4 by rw [HP.out]; dsimp only; rw [if_pos ⟨rfl, by rw [hgd]; exact hb128⟩])
        have h5 := UInt8.lt_iff_toNat_lt.1 hb128
        have h128 : (128 : UInt8).toNat = 128 := rfl
        rw [h128] at h5
        clear HP hgd hb128 h128
        generalize ((c :: t)[h]'(by simp; omega)).toNat = x at hx hxl h5
        go_wp2_with fail
        exact bodyPost_ret (results_item3 rfl _ _ w.heap.size #[.bool false, .slice none 0 0, .slice none 0 0] rfl (heap_alloc_new w _) rfl) rfl ⟨_, rfl, gr_alloc w _, readV_err HP2.out rfl⟩
      · have HP2 := Lib.hid (show parse m (c :: t) = .ok (.mk false (((c :: t).drop h).take 1) [], h + 1) by rw [HP.out]; dsimp only; rw [if_neg (fun e => hb128 (by rw [← hgd]; exact e.2))])
        have h5 : 128 ≤ ((c :: t)[h]'(by simp; omega)).toNat := Nat.not_lt.1 fun e => hb128 (UInt8.lt_iff_toNat_lt.2 e)
        clear HP hgd hb128
        generalize ((c :: t)[h]'(by simp; omega)).toNat = x at hx hxl h5
        have hcut := slot_cut w bl o (c :: t) h 1 cp HR.out s1 hc1 hcm.out hch
        have HCUT := Lib.hid (hcut.gr (gr_alloc w (.cells #[.bool false, .slice none 0 0, .slice none 0 0] 45)))
        clear hcut
        have hLn : (((c :: t).drop h).take 1).length ≤ 16777217 := by rw [List.length_take, List.length_drop]; simp only [List.length_cons]; omega
        generalize ((c :: t).drop h).take 1 = L at HCUT HP2 hLn
        go_wp2_with fail
        refine (clone_bytes _ _ _ HCUT.out (by omega)).mono ?_
        rintro e w1 ⟨v1, rfl, hg1, ho1⟩
        obtain ⟨A1, c1, rfl, f1, f2⟩ := own_form ho1
        have HG1 := Lib.hid ((gr_alloc w _).trans hg1)
        have HO1 := Lib.hid ho1
        have hz := (hg1.block w.heap.size (by simp)).trans (heap_alloc_new w _)
        clear hg1 ho1
        go_wp2_with (refine wpList_store_row rfl 45 (.tmp 4) (.tmp 65) rfl w.heap.size #[.bool false, .slice A1 L.length c1, .slice none 0 0] rfl rfl 45 _ hz (item_info _ rfl) rfl (by simp [Value.oneCell']) ?_)
        refine bodyPost_ret (results_item3 rfl _ _ w.heap.size _ rfl (heap_setRow_same _ _ _ _ _ hz) rfl) rfl ⟨_, rfl, gr_setRow HG1.out _ _ (Nat.le_refl _), readV_ok HP2.out rfl ?_⟩
        refine itemIn_bytes ((ownB_P HO1.out).mono (fun b hb => ⟨?_, ?_⟩) (fun p hp => cell_setRow ?_))
        · have := hb.1
          simp at this
          omega
        · have := hb.2
          simpa using this
        · have := hp.1
          simp at this
          omega
    · have hn2 : ((n : Int) == 1) = false := by simp; omega
      have HP2 := Lib.hid (show parse m (c :: t) = .ok (.mk false (((c :: t).drop h).take n) [], h + n) by rw [HP.out]; dsimp only; rw [if_neg (fun e => hn1 e.1)])
      clear HP hn1
      by_cases hch : cp = h
      · have hn0 : n = 0 := by omega
        subst hn0
        subst hch
        have HCUT : Hid (IsB (w.alloc (.cells #[.bool false, .slice none 0 0, .slice none 0 0] 45)) (.slice (some ⟨bl, o, none⟩) 0 0) (((c :: t).drop cp).take 0)) := by
          rw [List.take_zero]
          exact Lib.hid ⟨_, 0, rfl, Nat.le_refl _, by simp [maxLen], Rd.nil⟩
        have hLn : (((c :: t).drop cp).take 0).length ≤ 16777217 := by rw [List.length_take, List.length_drop]; simp only [List.length_cons]; omega
        generalize ((c :: t).drop cp).take 0 = L at HCUT HP2 hLn
        go_wp2_with fail
        refine (clone_bytes _ _ _ HCUT.out (by omega)).mono ?_
        rintro e w1 ⟨v1, rfl, hg1, ho1⟩
        obtain ⟨A1, c1, rfl, f1, f2⟩ := own_form ho1
        have HG1 := Lib.hid ((gr_alloc w _).trans hg1)
        have HO1 := Lib.hid ho1
        have hz := (hg1.block w.heap.size (by simp)).trans (heap_alloc_new w _)
        clear hg1 ho1
        go_wp2_with (refine wpList_store_row rfl 45 (.tmp 4) (.tmp 65) rfl w.heap.size #[.bool false, .slice A1 L.length c1, .slice none 0 0] rfl rfl 45 _ hz (item_info _ rfl) rfl (by simp [Value.oneCell']) ?_)
        refine bodyPost_ret (results_item3 rfl _ _ w.heap.size _ rfl (heap_setRow_same _ _ _ _ _ hz) rfl) rfl ⟨_, rfl, gr_setRow HG1.out _ _ (Nat.le_refl _), readV_ok HP2.out rfl ?_⟩
        refine itemIn_bytes ((ownB_P HO1.out).mono (fun b hb => ⟨?_, ?_⟩) (fun p hp => cell_setRow ?_))
        · have := hb.1
          simp at this
          omega
        · have := hb.2
          simpa using this
        · have := hp.1
          simp at this
          omega
      · have hcut := slot_cut w bl o (c :: t) h n cp HR.out s1 hc1 hcm.out hch
        have HCUT := Lib.hid (hcut.gr (gr_alloc w (.cells #[.bool false, .slice none 0 0, .slice none 0 0] 45)))
        clear hcut
        have hLn : (((c :: t).drop h).take n).length ≤ 16777217 := by rw [List.length_take, List.length_drop]; simp only [List.length_cons]; omega
        generalize ((c :: t).drop h).take n = L at HCUT HP2 hLn
        go_wp2_with fail
        refine (clone_bytes _ _ _ HCUT.out (by omega)).mono ?_
        rintro e w1 ⟨v1, rfl, hg1, ho1⟩
        obtain ⟨A1, c1, rfl, f1, f2⟩ := own_form ho1
        have HG1 := Lib.hid ((gr_alloc w _).trans hg1)
        have HO1 := Lib.hid ho1
        have hz := (hg1.block w.heap.size (by simp)).trans (heap_alloc_new w _)
        clear hg1 ho1
        go_wp2_with (refine wpList_store_row rfl 45 (.tmp 4) (.tmp 65) rfl w.heap.size #[.bool false, .slice A1 L.length c1, .slice none 0 0] rfl rfl 45 _ hz (item_info _ rfl) rfl (by simp [Value.oneCell']) ?_)
        refine bodyPost_ret (results_item3 rfl _ _ w.heap.size _ rfl (heap_setRow_same _ _ _ _ _ hz) rfl) rfl ⟨_, rfl, gr_setRow HG1.out _ _ (Nat.le_refl _), readV_ok HP2.out rfl ?_⟩
        refine itemIn_bytes ((ownB_P HO1.out).mono (fun b hb => ⟨?_, ?_⟩) (fun p hp => cell_setRow ?_))
        · have := hb.1
          simp at this
          omega
        · have := hb.2
          simpa using this
        · have := hp.1
          simp at this
          omega
end Go.Proofs.Ytfpigemikpbbhaa
