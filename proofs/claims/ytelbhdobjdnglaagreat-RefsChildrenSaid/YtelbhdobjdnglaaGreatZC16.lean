/-
 Merged: lemmas of this claim.
 Conditions: none.
-/
import Derived.Test.YtelbhdobjdnglaaGreatZC2
import Derived.BigQuiet
import Derived.Deep.QuietTactic
import Derived.RegionTactic
import Derived.BigRegion
import Derived.Lib.SliceRun
import Derived.Test.YtelbhdobjdnglaaGreatZC5
import Derived.Test.YtelbhdobjdnglaaGreatZC15
import Derived.Laws.BitsAllLaws
import Derived.Test.YtelbhdobjdnglaaGreatZC0
namespace Go.Proofs.YtelbhdobjdnglaaGreat
set_option linter.unusedVariables false
set_option maxRecDepth 20000
set_option maxHeartbeats 4000000
open Go.RowKit Mono Rlp
def xu (l : List UInt8) (i : Nat) : List UInt8 := (List.range l.length).map fun k => if k < i ∨ l.length ≤ k + i then l.getD (l.length - 1 - k) 0 else l.getD k 0
theorem kM (l : List UInt8) (i : Nat) : (xu l i).length = l.length := by simp [xu]
theorem nX (l : List UInt8) (i k : Nat) (hk : k < l.length) : (xu l i)[k]? = some (if k < i ∨ l.length ≤ k + i then l.getD (l.length - 1 - k) 0 else l.getD k 0) := by
 unfold xu
 rw [Xl, YA hk]
 rfl
theorem KW (l : List UInt8) : xu l 0 = l := by
 apply Yo
 intro k
 by_cases hk : k < l.length
 ·
  rw [nX l 0 k hk, if_neg (by omega)]
  simp [hk]
 · rw [XM (by rw [kM]; omega), XM (by omega)]
theorem Oy (l : List UInt8) (i : Nat) (h : l.length ≤ 2 * i + 1) : xu l i = l.reverse := by
 apply Yo
 intro k
 by_cases hk : k < l.length
 ·
  rw [nX l i k hk, List.getElem?_reverse hk]
  by_cases hi : k < i ∨ l.length ≤ k + i
  ·
   rw [if_pos hi]
   simp [show l.length - 1 - k < l.length by omega]
  ·
   rw [if_neg hi]
   have : l.length - 1 - k = k := by omega
   rw [this]
   simp [hk]
 · rw [XM (by rw [kM]; omega), XM (by simp; omega)]
theorem KX (l : List UInt8) (i : Nat) (h : 2 * i + 1 < l.length) : ((xu l i).set i (l.getD (l.length - 1 - i) 0)).set (l.length - 1 - i) (l.getD i 0) = xu l (i + 1) := by
 apply Yo
 intro k
 rw [List.getElem?_set, List.getElem?_set, Yh, kM]
 by_cases hk : k < l.length
 ·
  rw [nX l (i + 1) k hk, nX l i k hk]
  by_cases h1 : l.length - 1 - i = k
  ·
   rw [if_pos h1, if_pos (by omega), if_pos (by omega)]
   congr 2
   omega
  ·
   rw [if_neg h1]
   by_cases h2 : i = k
   ·
    subst h2
    rw [if_pos rfl, if_pos (by omega), if_pos (by omega)]
   ·
    rw [if_neg h2]
    by_cases h3 : k < i ∨ l.length ≤ k + i
    · rw [if_pos h3, if_pos (by omega)]
    · rw [if_neg h3, if_neg (by omega)]
 · rw [XM (l := xu l (i + 1)) (by rw [kM]; omega), if_neg (by omega), if_neg (by omega), XM (by rw [kM]; omega)]
theorem GK (l : List UInt8) (k : Nat) (b : UInt8) : (bvs l).set k (bv b) = bvs (l.set k b) := by simp [bvs, List.map_set]
theorem OM {w : World} {base e size n : Nat} {v : Value} {xs : List Value} (h : w.ownsRow base e size v n xs) : w.drew.ownsRow base e size v n xs := h
def WB (R : World → Prop) (e : Ending) (w' : World) : Prop := e = .returned (.tuple #[]) ∧ R w'
theorem Aj (base : Nat) (v : Value) (l : List UInt8) (w : World) (h : OwnB w base v l) (hl : l.length ≤ 1073741824) :
  Calls Tryz.prog 224 #[v] w (WB fun w' => OwnB w' base v l.reverse ∧ Below base w w') := by
 obtain ⟨A, c, rfl, hc1, hc2⟩ := dB h
 unfold maxLen at hc2
 rcases Ya l.length with h0 | h0
 ·
  obtain rfl := XF h0
  have H := Lib.hid h
  clear h h0
  go_enter Tryz.func224, Tryz.ntmps224
  go_wp2
  go_loopw [2, 3] (fun i j wr => i = .int .i64 0 ∧ j = .int .i64 (-1) ∧ wr = w) (fun _ _ _ => 0)
  case atStart => exact ⟨rfl, rfl, rfl⟩
  case round =>
   obtain ⟨rfl, rfl, rfl⟩ := hrel
   go_wp2_with fail
   exact bodyPost_end (results_none rfl _ _ _) rfl ⟨rfl, H.out, Below.refl _ _⟩
 ·
  obtain ⟨g, rfl, hgb, hgl⟩ := Fj h h0
  have H := Lib.hid h
  clear h
  go_enter Tryz.func224, Tryz.ntmps224
  go_wp2
  go_loopw [2, 3] (fun i j wr => ∃ k : Nat, 2 * k ≤ l.length ∧ i = .int .i64 k ∧ j = .int .i64 ((l.length : Int) - 1 - (k : Int)) ∧ wr.ownsRow base 5 1 (.slice (some ⟨g, 0, none⟩) l.length c) l.length (bvs (xu l k)) ∧ Below base w wr) (fun i _ _ => l.length - (intOf i).toNat)
  case atStart => exact ⟨0, by omega, rfl, by simp, by rw [KW]; exact H.out, Below.refl _ _⟩
  case round =>
   clear H
   obtain ⟨k, hk, rfl, rfl, hown, hb⟩ := hrel
   have HO := Lib.hid hown
   have HB := Lib.hid hb
   clear hown hb
   by_cases h1 : 2 * k + 1 < l.length
   ·
    have e1 := HO.out.cellAt k (by omega)
    have e2 := HO.out.cellAt (l.length - 1 - k) (by omega)
    have e3 := HO.out.frozenAt k
    have e4 := HO.out.frozenAt (l.length - 1 - k)
    have g1 : (bvs (xu l k))[k]? = some (.int .u8 ((l.getD k 0).toNat : Int)) := by
     simp only [bvs, Xl]
     rw [nX l k k (by omega), if_neg (by omega)]
     rfl
    have g2 : (bvs (xu l k))[l.length - 1 - k]? = some (.int .u8 ((l.getD (l.length - 1 - k) 0).toNat : Int)) := by
     simp only [bvs, Xl]
     rw [nX l k _ (by omega), if_neg (by omega)]
     rfl
    rw [g1] at e1
    rw [g2] at e2
    clear g1 g2
    have hne : k ≠ l.length - 1 - k := by omega
    go_wp2
    go_region
    go_wp2
    go_roundw
    case rel =>
     have hs := (HO.out.stored k (bv (l.getD (l.length - 1 - k) 0)))
     have hs2 := hs.1.stored (l.length - 1 - k) (bv (l.getD k 0))
     rw [GK, GK, KX l k h1] at hs2
     refine ⟨k + 1, by omega, by go_num, by congr 1; omega, OM hs2.1, ?_⟩
     exact ((HB.out.setCell (by dsimp only; omega) _).setCell (by dsimp only; omega) _).drew
    case measure => simp [intOf]; omega
   ·
    have h2 : l.length ≤ 2 * k + 1 := by omega
    clear h1
    have hr := Lib.hid (Oy l k h2)
    go_wp2_with fail
    refine bodyPost_end (results_none rfl _ _ _) rfl ⟨rfl, ?_, HB.out⟩
    unfold OwnB
    rw [List.length_reverse, ← hr.out]
    exact HO.out
theorem Qj (m : Nat) : Value.int .u8 ((m : Int) % 256) = bv (UInt8.ofNat m) := by
 unfold bv
 rw [Zp]
 rfl
theorem uS (m : Nat) (h : m < 256) : Value.int .u8 (m : Int) = bv (UInt8.ofNat m) := by
 unfold bv
 rw [Zp]
 congr 2
 omega
theorem Dt (n : Nat) (w : World) (hn : n ≤ 9223372036854775807) : Calls Tryz.prog 218 #[.int .i64 n] w (Ret (fun v w' => OwnB w' w.heap.size v (be n)) w) := by
 have hlen := vM 8 n (by omega)
 go_enter Tryz.func218, Tryz.ntmps218
 go_wp2
 go_loopw [0, 3] (fun i v wr => ∃ (m : Nat) (acc : List UInt8), m ≤ n ∧ i = .int .i64 m ∧ acc ++ le m = le n ∧ acc.length ≤ 8 ∧ OwnB wr w.heap.size v acc ∧ Below w.heap.size w wr) (fun i _ _ => (intOf i).toNat)
 case atStart => exact ⟨n, [], Nat.le_refl _, rfl, rfl, by simp, OwnB.nil _ _, Below.refl _ _⟩
 case round =>
  obtain ⟨m, acc, hm, rfl, hacc, hal, hown, hb⟩ := hrel
  obtain ⟨A', c', rfl, hc1, hc2⟩ := dB hown
  have hbs := hb.size
  have HO := Lib.hid hown
  have HB := Lib.hid hb
  have HA := Lib.hid hacc
  clear hown hb hacc
  by_cases h1 : 0 < m
  ·
   have hle := Lib.hid (DR m h1)
   have hal2 : acc.length + 1 ≤ 8 := by
    have h2 := congrArg List.length HA.out
    rw [hle.out, List.length_append, WS] at h2
    omega
   go_wp2_with (at_builtin; refine bn (.tmp 8) (.tmp 11) 38 cu (base := w.heap.size) _ acc.length (bvs acc) _ 1 1 (wr.heap.size + 1) [.int .u8 ((m : Int) % 256)] rfl rfl rfl rfl (HO.out.alloc _) (Rd.new _ _ _) rfl (by simp [Value.oneCell']) (by simp only [maxLen]; omega) (by omega) (by simp; omega) ?_; intro A2 c2 w2 hown2 hg2 _)
   go_roundw
   case rel =>
    refine ⟨m / 256, acc ++ [UInt8.ofNat m], by omega, by go_num, ?_, by simp; omega, ?_, (HB.out.alloc hbs _).grown hg2 (by simp; omega) fun j hj => bP HO.out j hj⟩
    · rw [Xp, YK, ← hle.out, HA.out]
    ·
     rw [Qj] at hown2
     refine ownB_of hown2 ?_
     rw [iF]
     rfl
   case measure => simp [intOf]; omega
  ·
   have h0 : m = 0 := by omega
   have HE : Hid (acc.reverse = be n) := by
    refine Lib.hid ?_
    have := HA.out
    rw [h0, le_zero, XB] at this
    rw [this]
    rfl
   clear HA hlen
   go_wp2_with fail
   refine (Aj w.heap.size _ acc _ HO.out (by omega)).mono ?_
   rintro e w2 ⟨rfl, hown2, hb2⟩
   have HO2 := Lib.hid hown2
   have HB2 := Lib.hid (HB.out.trans hb2)
   clear hown2 hb2
   go_wp2_with fail
   refine bodyPost_ret (results_tmp rfl _ _ _) rfl ?_
   refine ⟨_, rfl, HB2.out, ?_⟩
   rw [← HE.out]
   exact HO2.out
theorem mY (v : Value) (l : List UInt8) (w : World) (h : IsB w v l) (hl : l.length ≤ 140737488355328) : Calls Tryz.prog 104 #[v] w (Ret (fun v w' => OwnB w' w.heap.size v l) w) := by
 obtain ⟨A, c, rfl, hc1, hc2, hr⟩ := h
 cases A with
 | none =>
  have hl0 : l = [] := by
   by_cases hn : bvs l = []
   · simpa [bvs] using hn
   ·
    obtain ⟨b, o, e, _⟩ := hr hn
    cases e
  subst hl0
  clear hr
  have hq := Lib.run_eql_slice_nil w 38 5 none 0 c 0 0 Tryz.underlying38
  go_enter Tryz.func104, Tryz.ntmps104
  go_wp2
  refine bodyPost_ret (results_tmp rfl _ _ _) rfl ?_
  exact ⟨_, rfl, Gr.refl _, OwnB.nil _ _⟩
 | some a =>
  have HR := Lib.hid hr
  clear hr
  have hq := Lib.run_eql_slice_nil w 38 5 (some a) l.length c 0 0 Tryz.underlying38
  go_enter Tryz.func104, Tryz.ntmps104
  go_wp2_with (at_builtin; refine bn (.tmp 5) (.tmp 6) 38 cu (base := w.heap.size) _ 0 [] _ l.length c w.heap.size (bvs l) rfl rfl rfl rfl (iT w #[] 5 1 0 w.heap.size w.heap.size rfl (Nat.le_refl _) (by simp [maxLen]) rfl) (HR.out.below ((Below.refl _ _).alloc (Nat.le_refl _) _)) (by simp [bvs]) (dR _) (by simp only [maxLen]; omega) (by omega) (by simp) ?_; intro A2 c2 w2 hown2 hg2 _)
  refine bodyPost_ret (results_tmp rfl _ _ _) rfl ?_
  refine ⟨_, rfl, ((Below.refl _ _).alloc (Nat.le_refl _) _).grown hg2 (by simp) (fun j hj => by cases hj; exact Nat.le_refl _), ?_⟩
  rw [Xj, WJ] at hown2
  exact hown2
theorem yG (n : Nat) (w : World) (hn : n ≤ 4611686018427387904) : Calls Tryz.prog 202 #[.int .i64 n] w (Ret (eqV (.int .i64 (szB n))) w) := by
 have hl := rO 8 n (by omega)
 by_cases h1 : n < 56
 ·
  have hs := Lib.hid (show szB n = 1 + n from if_pos h1)
  go_enter Tryz.func202, Tryz.ntmps202
  go_wp2_with fail
  refine bodyPost_ret (results_tmp rfl _ _ _) rfl ?_
  refine ⟨_, rfl, Gr.refl _, ?_⟩
  unfold eqV
  rw [hs.out]
  simp
 ·
  have hs := Lib.hid (show szB n = 1 + (be n).length + n from if_neg h1)
  have h2 : 55 < n := by omega
  clear h1
  go_enter Tryz.func202, Tryz.ntmps202
  go_wp2_with fail
  refine (Dt n _ (by omega)).mono ?_
  rintro e w1 ⟨v, rfl, hg1, hown⟩
  obtain ⟨A, c, rfl, hc1, hc2⟩ := dB hown
  clear hown
  unfold maxLen at hc2
  go_wp2_with fail
  refine bodyPost_ret (results_tmp rfl _ _ _) rfl ?_
  refine ⟨_, rfl, hg1, ?_⟩
  unfold eqV
  rw [hs.out]
  simp
theorem Dq (n : Nat) (w : World) (hn : n ≤ 9223372036854775807) (h2 : 55 < n) : Calls Tryz.prog 202 #[.int .i64 n] w (Ret (fun v _ => ∃ z : Int, v = .int .i64 z) w) := by
 have hl := rO 8 n (by omega)
 go_enter Tryz.func202, Tryz.ntmps202
 go_wp2_with fail
 refine (Dt n _ (by omega)).mono ?_
 rintro e w1 ⟨v, rfl, hg1, hown⟩
 obtain ⟨A, c, rfl, hc1, hc2⟩ := dB hown
 clear hown
 unfold maxLen at hc2
 go_wp2_with fail
 refine bodyPost_ret (results_tmp rfl _ _ _) rfl ?_
 exact ⟨_, rfl, hg1, _, rfl⟩
theorem sV (base : Nat) (v : Value) (l : List UInt8) (w : World) (h : IsB w v l) (hl : l.length ≤ 70368744177664) (hb : base ≤ 192) : Calls Tryz.prog 203 #[.int .i64 base, v] w (Ret (fun v w' => OwnB w' w.heap.size v (head l.length base ++ l)) w) := by
 obtain ⟨A, c, rfl, hc1, hc2, hr⟩ := h
 have HR := Lib.hid hr
 clear hr
 unfold maxLen at hc2
 have hbl := rO 8 l.length (by omega)
 by_cases h1 : l.length < 56
 ·
  have hs := Lib.hid (show head l.length base = [UInt8.ofNat (base + l.length)] from if_pos h1)
  go_enter Tryz.func203, Tryz.ntmps203
  go_wp2_with (at_builtin; refine bn (.tmp 15) (.tmp 16) 38 cu (base := w.heap.size) _ 1 [.int .u8 (((base : Int) + (l.length : Int)))] _ l.length c w.heap.size (bvs l) rfl rfl rfl rfl (iT w #[.int .u8 (((base : Int) + (l.length : Int)))] 5 1 1 w.heap.size w.heap.size rfl (Nat.le_refl _) (by simp [maxLen]) rfl) (HR.out.below ((Below.refl _ _).alloc (Nat.le_refl _) _)) (by simp [bvs]) (dR _) (by simp only [maxLen]; omega) (by omega) (by simp) ?_; intro A2 c2 w2 hown2 hg2 _)
  refine bodyPost_ret (results_tmp rfl _ _ _) rfl ?_
  refine ⟨_, rfl, ((Below.refl _ _).alloc (Nat.le_refl _) _).grown hg2 (by simp) (fun j hj => by cases hj; exact Nat.le_refl _), ?_⟩
  refine ownB_of hown2 ?_
  rw [hs.out, ← XA, uS _ (by omega)]
  rfl
 ·
  have hs := Lib.hid (show head l.length base = UInt8.ofNat (base + 55 + (be l.length).length) :: be l.length from if_neg h1)
  have h2 : 55 < l.length := by omega
  clear h1
  go_enter Tryz.func203, Tryz.ntmps203
  go_wp2_with fail
  refine (Dt l.length _ (by omega)).mono ?_
  rintro e w1 ⟨v, rfl, hg1, hown⟩
  obtain ⟨A1, c1, rfl, hd1, hd2⟩ := dB hown
  have HO := Lib.hid hown
  have HG := Lib.hid hg1
  have hz1 := hg1.size
  clear hown hg1
  unfold maxLen at hd2
  have HRB := Lib.hid (OwnB.isB HO.out)
  obtain ⟨_, _, he, _, _, hrb⟩ := OwnB.isB HO.out
  injection he with he1 _ he2
  subst he1 he2
  have HB := Lib.hid hrb
  clear hrb HRB
  go_wp2_with first
   | (at_builtin; refine bn (.tmp 26) (.tmp 27) 38 cu (base := w.heap.size) _ 1 [.int .u8 (((base : Int) + 55 + ((be l.length).length : Int)))] _ (be l.length).length c1 w1.heap.size (bvs (be l.length)) rfl rfl rfl rfl (iT w1 #[.int .u8 (((base : Int) + 55 + ((be l.length).length : Int)))] 5 1 1 w1.heap.size w.heap.size rfl hz1 (by simp [maxLen]) rfl) (HB.out.below ((Below.refl _ _).alloc (Nat.le_refl _) _)) (by simp [bvs]) (dR _) (by simp only [maxLen]; omega) (by omega) (by simp; omega) ?_; intro A2 c2 w2 hown2 hg2 _; have HG2 := Lib.hid ((HG.out.alloc hz1 _).grown hg2 (by simp; omega) (fun j hj => by cases hj; exact hz1)); have HO2 := Lib.hid hown2; clear hown2 hg2)
   | (at_builtin; refine bn (.tmp 28) (.tmp 29) 38 cu (base := w.heap.size) _ _ _ _ l.length c w.heap.size (bvs l) rfl rfl rfl rfl HO2.out (HR.out.below HG2.out) (by simp [bvs]) (dR _) (by simp only [maxLen]; omega) (by omega) HG2.out.size ?_; intro A3 c3 w3 hown3 hg3 _)
  refine bodyPost_ret (results_tmp rfl _ _ _) rfl ?_
  refine ⟨_, rfl, HG2.out.grown hg3 HG2.out.size fun j hj => bP HO2.out j hj, ?_⟩
  refine ownB_of hown3 ?_
  have e1 : ((base : Int) + 55 + ((be l.length).length : Int)) = ((base + 55 + (be l.length).length : Nat) : Int) := by simp
  rw [hs.out, e1, uS _ (by omega)]
  simp [bvs]
theorem uK {a w : World} (h : Gr a w) (n : Nat) : Gr a (w.drewN n) := below_drewN h n
theorem gu {fn : Func} {p u : Tmp} (h : fn.results = #[.cell p 29, .tmp u]) (tmps : Array Value) (w : World) (g : Nat) (t : TypeId) (l : List UInt8)
  (hp : tmps.getD p undef = .pointer (some ⟨g, 0, none⟩)) (hg : Arr w g t l) (hs : l.length = 32) :
  (results fn tmps).run Tryz.prog w = .ok (.tuple #[dG l, tmps.getD u undef]) w := by
 have hp' : tmps[p]?.getD undef = .pointer (some ⟨g, 0, none⟩) := by simpa using hp
 have hr := run_loadVar_row w g t 29 (bvs l).toArray (0, 0) _ hg Tryz.underlying29 rfl (fO l hs)
 simp [results, h, hp', asAddr, hr]
 rfl
theorem Qv (w : World) : Arr (w.alloc (.cells (bvs zero32).toArray 29)) w.heap.size 29 zero32 := heap_alloc_new w _
theorem iM {w : World} {g : Nat} {t : TypeId} {l m : List UInt8} (h : Arr w g t l) : Arr (w.setRow g (bvs m).toArray) g t m := aS w g _ _ t h
theorem lJ {w : World} {g : Nat} {a b c : Value} {T : TypeId} (h : w.heap[g]? = some (.cells #[a, b, c] T (0, 0))) : w.cell? ⟨g, 0, none⟩ = some a ∧ w.cell? ⟨g, 1, none⟩ = some b ∧ w.cell? ⟨g, 2, none⟩ = some c :=
 ⟨by rw [cell_of_row _ _ _ _ _ (0, 0) h]; rfl, by rw [cell_of_row _ _ _ _ _ (0, 0) h]; rfl, by rw [cell_of_row _ _ _ _ _ (0, 0) h]; rfl⟩
set_option maxRecDepth 100000 in
theorem yD (w : World) : (Instr.alloc 29 true (.tuple #[])).run Tryz.prog w = .ok (.pointer (some ⟨w.heap.size, 0, none⟩)) (w.alloc (.cells (bvs zero32).toArray 29)) := by kernel_rfl
theorem dh {w : World} {ops : Array Oper} {rest : List Oper} {o : Oper} {a : Act} {Q : Exit → Act → World → Prop} (g : Nat) (hg : w.heap.size = g) (hgd : o.guard = none) (ho : o.op = .alloc 29)
  (h : ∀ w', Hid (Arr w' g 29 zero32) → Hid (Gr w w') → w'.heap.size = g + 1 → wpList Tryz.prog ops Q rest (a.put o.dst (.pointer (some ⟨g, 0, none⟩))) w') : wpList Tryz.prog ops Q (o :: rest) a w := by
 subst hg
 refine wpList_plain hgd fun _ hK => ?_
 have h1 := hK _ _ (h _ (Lib.hid (Qv w)) (Lib.hid (au w _)) (by simp))
 unfold Oper.wp execOp
 simp only [ho, WX, yD, WV, Xc]
 exact h1
theorem H7 (w : World) (g k : Nat) (z : Int) (hz : z = (k : Int)) (hk : k ≤ 32) : (Instr.sliceAt 29 (.pointer (some ⟨g, 0, none⟩)) (some (.int .i64 z)) none none).run Tryz.prog w = .ok (.slice (if 32 = k then some ⟨g, 0, none⟩ else some ⟨g, k, none⟩) (32 - k) (32 - k)) w := by
 have hn : Tryz.prog.arrayLen 29 = 32 := by kernel_rfl
 subst hz
 have hs : (sizeOf (Tryz.prog.elem 29)).run Tryz.prog w = .ok 1 w := by kernel_rfl
 rw [run_sliceAt_array_l (P := Tryz.prog) w 29 ⟨g, 0, none⟩ (by kernel_rfl) .i64 (k : Int) (by omega) (by rw [hn]; omega), hs]
 simp [slicedAt, hn, eu, Result.andThen]
 split <;> rfl
theorem qo (g n : Nat) (z : Int) (hz : z = 32 - (n : Int)) (hn : n ≤ 32) : ∃ dp, (∀ w, (Instr.sliceAt 29 (.pointer (some ⟨g, 0, none⟩)) (some (.int .i64 z)) none none).run Tryz.prog w = .ok (.slice dp n n) w) ∧ (0 < n → dp = some ⟨g, 32 - n, none⟩) := by
 refine ⟨if 32 = 32 - n then some ⟨g, 0, none⟩ else some ⟨g, 32 - n, none⟩, fun w => ?_, fun h => ?_⟩
 ·
  have := H7 w g (32 - n) z (by omega) (by omega)
  rw [show 32 - (32 - n) = n by omega] at this
  exact this
 · rw [if_neg (by omega)]
theorem dw (cs : Array Value) (h : cs.size = 3) : (Tryz.prog.info? 138).map (·.size) = some cs.size := by
 rw [h]
 kernel_rfl
theorem IX (n : Int) : bits .and .i64 n 255 = n % 256 := by
 have h255 : (BitVec.ofInt 64 255).toNat = 2 ^ 8 - 1 := by decide
 have key : (BitVec.ofInt 64 n &&& BitVec.ofInt 64 255).toNat = (n % ((2 ^ 64 : Nat) : Int)).toNat % 2 ^ 8 := by
  rw [BitVec.toNat_and, Zo, h255, X9]
 show IntKind.i64.wrap ((BitVec.ofInt 64 n &&& BitVec.ofInt 64 255).toNat : Nat) = n % 256
 rw [key, IntKind.wrap_i64]
 omega
theorem vw (n : Nat) (h : n ≤ most) : szB n ≤ most + 9 := by
 have := rO 8 n (by simp only [most] at h; omega)
 unfold szB
 split <;> omega
theorem Oc (bs : List UInt8) (h : bs.length ≤ most) : szE bs ≤ most + 9 := by
 unfold szE
 split
 · simp only [most]; omega
 · exact vw _ h
theorem FD : ∀ (xs : List Raw) (d n k : Nat), jA xs d n = some k → n ≤ most → k ≤ most
 | [], d, n, k, h, hn => by rw [jA] at h; rw [← Xr h]; exact hn
 | x :: xs, d, n, k, h, hn => by
  rw [jA] at h
  cases hx : meas x d with
  | none => rw [hx] at h; cases h
  | some j =>
   rw [hx] at h
   dsimp only at h
   split at h
   · cases h
   · exact FD xs d _ k h (by omega)
theorem JM : ∀ (r : Raw) (d k : Nat), meas r d = some k → k ≤ most + 9
 | .mk false bs _, d, k, h => by
  rw [meas] at h
  split at h
  · rw [← Xr h]; exact Oc bs (by assumption)
  · cases h
 | .mk true _ xs, d, k, h => by
  rw [meas] at h
  split at h
  · cases h
  ·
   cases hm : jA xs (d + 1) 0 with
   | none => rw [hm] at h; cases h
   | some j =>
    rw [hm] at h
    rw [← Xr h]
    exact vw _ (FD xs _ 0 j hm (by simp [most]))
def xq (r : Raw) (d : Nat) : VP := fun v _ => match meas r d with
 | some k => v = .tuple #[.int .i64 (k : Int), .bool true]
 | none => ∃ z : Int, v = .tuple #[.int .i64 z, .bool false]
theorem o9 {r : Raw} {d k : Nat} {v : Value} {w : World} (h : meas r d = some k) (hv : v = .tuple #[.int .i64 (k : Int), .bool true]) : xq r d v w := by unfold xq; rw [h]; exact hv
theorem pq {r : Raw} {d : Nat} {v : Value} {w : World} (h : meas r d = none) (z : Int) (hv : v = .tuple #[.int .i64 z, .bool false]) : xq r d v w := by unfold xq; rw [h]; exact ⟨z, hv⟩
theorem II (d : Nat) (v : Value) (bs : List UInt8) (w : World) (hv : IsB w v bs) (xs : List Raw) : Calls Tryz.prog 180 #[.iface 38 v, .int .i64 d] w (Ret (xq (.mk false bs xs) d) w) := by
 obtain ⟨A, c, rfl, hc1, hc2, hr⟩ := hv
 have HR := Lib.hid hr
 unfold maxLen at hc2
 clear hr
 by_cases h1 : bs.length = 1
 ·
  obtain ⟨b, rfl⟩ := Yf.1 h1
  obtain ⟨bl, o, rfl, hbl, hcell⟩ := HR.out (by simp [bvs])
  have e1 := hcell 0 (bv b) rfl
  rw [XI] at e1
  unfold bv at e1
  clear hcell h1
  have hbl2 := jh b
  simp only [List.length_singleton] at hc1 ⊢
  by_cases h2 : b < 128
  ·
   have h3 : b.toNat < 128 := Xe.1 h2
   have HM := Lib.hid (show meas (.mk false [b] xs) d = some 1 by rw [meas, if_pos (by simp [most]), szE, if_pos ⟨rfl, h2⟩])
   clear h2
   go_enter Tryz.func180, Tryz.ntmps180
   go_wp2_with fail
   refine bodyPost_ret (results_tmp2 rfl _ _ _) rfl ?_
   exact ⟨_, rfl, Gr.refl _, o9 HM.out (by simp)⟩
  ·
   have h3 : 128 ≤ b.toNat := Yw.1 fun e => h2 (Xe.2 e)
   have HM := Lib.hid (show meas (.mk false [b] xs) d = some (szB 1) by rw [meas, if_pos (by simp [most]), szE, if_neg (fun h => h2 h.2)]; rfl)
   clear h2
   go_enter Tryz.func180, Tryz.ntmps180
   go_wp2_with fail
   refine (yG 1 _ (by omega)).mono ?_
   rintro e w1 ⟨_, rfl, hg1, rfl⟩
   go_wp2_with fail
   refine bodyPost_ret (results_tmp2 rfl _ _ _) rfl ?_
   exact ⟨_, rfl, hg1, o9 HM.out (by simp)⟩
 ·
  have hd : ((bs.length : Int) == 1) = false := by simp; omega
  by_cases h2 : bs.length ≤ most
  ·
   have HM := Lib.hid (show meas (.mk false bs xs) d = some (szB bs.length) by rw [meas, if_pos h2, szE, if_neg (fun h => h1 h.1)])
   simp only [most] at h2
   clear h1
   go_enter Tryz.func180, Tryz.ntmps180
   go_wp2_with fail
   refine (yG bs.length _ (by omega)).mono ?_
   rintro e w1 ⟨_, rfl, hg1, rfl⟩
   go_wp2_with fail
   refine bodyPost_ret (results_tmp2 rfl _ _ _) rfl ?_
   exact ⟨_, rfl, hg1, o9 HM.out (by simp; omega)⟩
  ·
   have HM := Lib.hid (show meas (.mk false bs xs) d = none by rw [meas, if_neg h2])
   have h3 : 16777216 < bs.length := by simp only [most] at h2; omega
   clear h1 h2
   go_enter Tryz.func180, Tryz.ntmps180
   go_wp2_with fail
   refine (Dq bs.length _ (by omega) (by omega)).mono ?_
   rintro e w1 ⟨_, rfl, hg1, z, rfl⟩
   go_wp2_with fail
   refine bodyPost_ret (results_tmp2 rfl _ _ _) rfl ?_
   exact ⟨_, rfl, hg1, pq HM.out z (by simp; try omega)⟩
theorem wO : ∀ (m d : Nat), d + m = 32 → ∀ (r : Raw) (v : Value) (w : World), NR w v r → Calls Tryz.prog 180 #[v, .int .i64 d] w (Ret (xq r d) w)
 | m, d, hd, .mk false bs xs, v, w, h => by
  obtain ⟨vb, rfl, hb⟩ := h
  exact II d vb bs w hb xs
 | 0, d, hd, .mk true bs xs, v, w, h => by
  obtain ⟨vl, rfl, A, c, rows, rfl, _, _, _, _, _⟩ := h
  obtain rfl : d = 32 := by omega
  have HM := Lib.hid (show meas (.mk true bs xs) 32 = none by rw [meas, if_pos rfl])
  go_enter Tryz.func180, Tryz.ntmps180
  go_wp2_with fail
  refine bodyPost_ret (results_tmp2 rfl _ _ _) rfl ?_
  exact ⟨_, rfl, Gr.refl _, pq HM.out 0 rfl⟩
 | m + 1, d, hd, .mk true bs xs, v, w, h => by
  have ih := Lib.hid (wO m (d + 1) (by omega))
  obtain ⟨vl, rfl, A, c, rows, rfl, hc1, hc2, _, hr, hi⟩ := h
  have HR := Lib.hid hr
  have HI := Lib.hid hi
  have hd2 : d < 32 := by omega
  have hdd : ((d : Int) == 32) = false := by simp; omega
  unfold maxLen at hc2
  clear hr hi
  go_enter Tryz.func180, Tryz.ntmps180
  go_wp2_with fail
  go_loopw [8, 39] (fun nv i wr => ∃ k n : Nat, k ≤ xs.length ∧ i = .int .i64 k ∧ nv = .int .i64 n ∧ n ≤ 16777216 ∧ jA xs (d + 1) 0 = jA (xs.drop k) (d + 1) n ∧ Gr w wr) (fun _ i _ => xs.length - (intOf i).toNat)
  case atStart => exact ⟨0, 0, by omega, rfl, rfl, by omega, rfl, Gr.refl _⟩
  case round =>
   obtain ⟨k, n, hk, rfl, rfl, hn, hM, hb⟩ := hrel
   have HM := Lib.hid hM
   have HB := Lib.hid hb
   have hbs := hb.size
   clear hM hb
   by_cases h1 : k < xs.length
   ·
    obtain ⟨bl, o, f, vb, vl, rfl, hbl, e1, e2, e3, hx, ⟨A2, n2, c2, rfl⟩, A', n', c', rfl⟩ := uH HR.out HI.out k h1
    have e1' := (HB.out.cell (p := ⟨bl, o + k * 3, none⟩) hbl).trans e1
    have e2' := (HB.out.cell (p := ⟨bl, o + k * 3 + 1, none⟩) hbl).trans e2
    have e3' := (HB.out.cell (p := ⟨bl, o + k * 3 + 2, none⟩) hbl).trans e3
    have HX := Lib.hid (hx.gr HB.out)
    clear e1 e2 e3 hx
    go_wp2_with (refine wpList_store_row rfl 138 (.tmp 10) (.tmp 42) rfl wr.heap.size #[.bool f, .slice A2 n2 c2, .slice A' n' c'] rfl rfl 138 _ (heap_alloc_new wr _) (by kernel_rfl) (by kernel_rfl) (by simp [Value.oneCell']) ?_; rw [World.setRow_alloc_new])
    refine (yH _ xs[k] _ (HX.out.gr (au _ _))).mono ?_
    rintro e w1 ⟨v1, rfl, hg1, ho1⟩
    have HG1 := Lib.hid ((au _ _).trans hg1)
    have HO1 := Lib.hid ho1
    clear hg1 ho1
    go_wp2_with fail
    refine (ih.out xs[k] v1 _ HO1.out).mono ?_
    rintro e w2 ⟨v2, rfl, hg2, hm2⟩
    have HG2 := Lib.hid ((HB.out.trans HG1.out).trans hg2)
    have hdk : xs.drop k = xs[k] :: xs.drop (k + 1) := Xn h1
    have HM2 : Hid (jA xs (d + 1) 0 = match meas xs[k] (d + 1) with | none => none | some j => if n + j > most then none else jA (xs.drop (k + 1)) (d + 1) (n + j)) := by
     refine Lib.hid ?_
     rw [HM.out, hdk, jA]
     cases meas xs[k] (d + 1) <;> rfl
    unfold xq at hm2
    clear HO1 HG1 hg2 HM hdk HX e1' e2' e3'
    cases hmx : meas xs[k] (d + 1) with
    | none =>
     rw [hmx] at HM2 hm2
     obtain ⟨z, rfl⟩ := hm2
     have HM3 := Lib.hid (show meas (.mk true bs xs) d = none by rw [meas, if_neg (by omega), HM2.out]; rfl)
     clear hmx HM2
     go_wp2_with fail
     refine bodyPost_ret (results_tmp2 rfl _ _ _) rfl ?_
     exact ⟨_, rfl, HG2.out, pq HM3.out 0 (by simp)⟩
    | some j =>
     rw [hmx] at HM2 hm2
     dsimp only at hm2
     subst hm2
     have hj := JM _ _ _ hmx
     simp only [most] at hj
     clear hmx
     by_cases h3 : n + j > 16777216
     ·
      have HM3 := Lib.hid (show meas (.mk true bs xs) d = none by rw [meas, if_neg (by omega), HM2.out]; dsimp only; rw [if_pos h3]; rfl)
      clear HM2
      go_wp2_with fail
      refine bodyPost_ret (results_tmp2 rfl _ _ _) rfl ?_
      exact ⟨_, rfl, HG2.out, pq HM3.out 0 (by simp)⟩
     ·
      have HM3 := Lib.hid (show jA xs (d + 1) 0 = jA (xs.drop (k + 1)) (d + 1) (n + j) by rw [HM2.out]; dsimp only; rw [if_neg h3])
      clear HM2
      go_wp2_with fail
      go_roundw
      case rel => exact ⟨k + 1, n + j, by omega, by go_num, by go_num, by omega, HM3.out, HG2.out⟩
      case measure => simp [intOf]; omega
   ·
    have h2 : xs.length ≤ k := by omega
    have HM2 := Lib.hid (show meas (.mk true bs xs) d = some (szB n) by
     rw [meas, if_neg (by omega), HM.out, Xt h2, jA]
     rfl)
    clear h1 HM
    go_wp2_with fail
    refine (yG n _ (by omega)).mono ?_
    rintro e w2 ⟨_, rfl, hg2, rfl⟩
    have HG2 := Lib.hid (HB.out.trans hg2)
    clear hg2
    go_wp2_with fail
    refine bodyPost_ret (results_tmp2 rfl _ _ _) rfl ?_
    exact ⟨_, rfl, HG2.out, o9 HM2.out (by simp)⟩
end Go.Proofs.YtelbhdobjdnglaaGreat
namespace Go.Proofs.YtelbhdobjdnglaaGreat
namespace Rlp
set_option maxRecDepth 100000
def hdr (b : List UInt8) (base : Nat) : Option (Nat × Nat) :=
 if (b.getD 0 0).toNat - base ≤ 55 then
  if (b.getD 0 0).toNat - base ≤ b.length - 1 then some (1, (b.getD 0 0).toNat - base) else none
 else if b.length < 1 + ((b.getD 0 0).toNat - base - 55) ∨ b.getD 1 0 = 0 then none
 else if val ((b.drop 1).take ((b.getD 0 0).toNat - base - 55)) > most then none
 else if 55 < val ((b.drop 1).take ((b.getD 0 0).toNat - base - 55)) ∧ val ((b.drop 1).take ((b.getD 0 0).toNat - base - 55)) ≤ b.length - 1 - ((b.getD 0 0).toNat - base - 55) then
  some (1 + ((b.getD 0 0).toNat - base - 55), val ((b.drop 1).take ((b.getD 0 0).toNat - base - 55)))
 else none
def bI (p : List UInt8 → Except Nat (Raw × Nat)) : Nat → List UInt8 → Except Nat (List Raw)
 | _, [] => .ok []
 | 0, _ :: _ => .error 4
 | f + 1, c :: b => match p (c :: b) with
  | .error e => .error e
  | .ok (x, k) => match bI p f ((c :: b).drop k) with
   | .error e => .error e
   | .ok xs => .ok (x :: xs)
def ql (p : Option (List UInt8 → Except Nat (Raw × Nat))) : List UInt8 → Except Nat (Raw × Nat)
 | [] => .error 4
 | c :: t =>
  if c < 128 then .ok (.mk false [c] [], 1)
  else if c < 192 then match hdr (c :: t) 128 with
   | none => .error 4
   | some (h, n) => if n = 1 ∧ (c :: t).getD h 0 < 128 then .error 4 else .ok (.mk false (((c :: t).drop h).take n) [], h + n)
  else match p with
   | none => .error 3
   | some p => match hdr (c :: t) 192 with
    | none => .error 4
    | some (h, n) => match bI p n (((c :: t).drop h).take n) with
     | .error e => .error e
     | .ok xs => .ok (.mk true [] xs, h + n)
theorem gI (p : Option (List UInt8 → Except Nat (Raw × Nat))) (c : UInt8) (t : List UInt8) : ql p (c :: t) =
  if c < 128 then .ok (.mk false [c] [], 1)
  else if c < 192 then match hdr (c :: t) 128 with
   | none => .error 4
   | some (h, n) => if n = 1 ∧ (c :: t).getD h 0 < 128 then .error 4 else .ok (.mk false (((c :: t).drop h).take n) [], h + n)
  else match p with
   | none => .error 3
   | some p => match hdr (c :: t) 192 with
    | none => .error 4
    | some (h, n) => match bI p n (((c :: t).drop h).take n) with
     | .error e => .error e
     | .ok xs => .ok (.mk true [] xs, h + n) := rfl
def parse : Nat → List UInt8 → Except Nat (Raw × Nat)
 | 0 => ql none
 | d + 1 => ql (some (parse d))
def fU (b : List UInt8) : Except Nat Raw := if b.length > most then .error 3 else match parse 32 b with
 | .error e => .error e
 | .ok (x, n) => if n = b.length then .ok x else .error 4
theorem uJ {b : List UInt8} {base h n : Nat} (hb : hdr b base = some (h, n)) (h0 : b ≠ []) (h1 : base ≤ (b.getD 0 0).toNat) (_ : base ≤ 192) (h2 : (b.getD 0 0).toNat < base + 64) :
  b.take h = head n base ∧ h + n ≤ b.length ∧ 0 < h ∧ n ≤ b.length := by
 obtain ⟨c, t, rfl⟩ := List.exists_cons_of_ne_nil h0
 unfold hdr at hb
 simp only [List.getD_cons_zero, WS, List.getD_cons_succ, WG, WM, Y2] at hb h1 h2
 have hcl := c.toNat_lt
 split at hb
 ·
  rename_i hk
  split at hb
  ·
   rename_i hk2
   simp only [Xw, Prod.mk.injEq] at hb
   obtain ⟨rfl, rfl⟩ := hb
   refine ⟨?_, by simp; omega, by omega, by simp; omega⟩
   unfold head
   rw [if_pos (by omega), show base + (c.toNat - base) = c.toNat by omega, UInt8.ofNat_toNat]
   rfl
  · cases hb
 ·
  rename_i hk
  split at hb
  · cases hb
  ·
   rename_i hk2
   split at hb
   · cases hb
   ·
    split at hb
    ·
     rename_i hk3 hk4
     simp only [Xw, Prod.mk.injEq] at hb
     obtain ⟨rfl, rfl⟩ := hb
     obtain ⟨hm, hz⟩ : ¬ t.length + 1 < 1 + (c.toNat - base - 55) ∧ ¬ t.getD 0 0 = 0 := ⟨fun h => hk2 (.inl h), fun h => hk2 (.inr h)⟩
     refine ⟨?_, by simp; omega, by omega, by simp; omega⟩
     have hml : (t.take (c.toNat - base - 55)).length = c.toNat - base - 55 := by rw [Xi]; omega
     have hbe := U4 (t.take (c.toNat - base - 55)) (fun e => hz (by
      rcases t with _ | ⟨x, t⟩
      · simp at hml; omega
      ·
       rw [show c.toNat - base - 55 = (c.toNat - base - 56) + 1 by omega, WH] at e
       simpa using e))
     unfold head
     rw [if_neg (by omega), hbe, hml, Yv 1, WH]
     congr 1
     rw [show base + 55 + (c.toNat - base - 55) = c.toNat by omega, UInt8.ofNat_toNat]
    · cases hb
theorem Fb {p : List UInt8 → Except Nat (Raw × Nat)} (hp : ∀ b x k, p b = .ok (x, k) → b.take k = E x ∧ k ≤ b.length) : ∀ (f : Nat) (b : List UInt8) (xs : List Raw), bI p f b = .ok xs → EL xs = b
 | _, [], xs, h => by unfold bI at h; cases h; rfl
 | 0, _ :: _, xs, h => by unfold bI at h; cases h
 | f + 1, c :: b, xs, h => by
  unfold bI at h
  split at h
  · cases h
  ·
   rename_i x k hx
   split at h
   · cases h
   ·
    rename_i ys hy
    cases h
    have h1 := hp _ _ _ hx
    have h2 := Fb hp f _ ys hy
    rw [EL, h2, ← h1.1, XE]
theorem Jy (p : Option (List UInt8 → Except Nat (Raw × Nat))) (hp : ∀ q, p = some q → ∀ b x k, q b = .ok (x, k) → b.take k = E x ∧ k ≤ b.length ∧ 0 < k) (b : List UInt8) (x : Raw) (n : Nat) (h : ql p b = .ok (x, n)) : b.take n = E x ∧ n ≤ b.length ∧ 0 < n := by
 cases b with
 | nil => cases h
 | cons c t =>
  rw [gI] at h
  split at h
  ·
   rename_i hc
   cases h
   refine ⟨?_, by simp, by omega⟩
   rw [E, EB, if_pos ⟨rfl, hc⟩]
   rfl
  ·
   rename_i hc
   have hcn : 128 ≤ c.toNat := by
    exact Yw.1 fun e => hc (Xe.2 e)
   split at h
   ·
    rename_i hc2
    have hcm : c.toNat < 192 := Xe.1 hc2
    split at h
    · cases h
    ·
     rename_i k m hh
     split at h
     · cases h
     ·
      rename_i hne
      cases h
      obtain ⟨h1, h2, h3, _⟩ := uJ hh (by simp) (by simpa using hcn) (by omega) (by simp; omega)
      refine ⟨?_, h2, by omega⟩
      have hl : (((c :: t).drop k).take m).length = m := by rw [Xi, W9]; omega
      rw [E, EB, hl, if_neg ?_, ← h1, List.take_add]
      rintro ⟨h4, h5⟩
      refine hne ⟨h4, ?_⟩
      have h6 : (((c :: t).drop k).take m).getD 0 0 = (c :: t).getD k 0 := by
       simp only [List.getD_eq_getElem?_getD, YH, YG]
       rw [if_pos (by omega), XI]
      rw [h6] at h5
      exact h5
   ·
    rename_i hc2
    have hcm : 192 ≤ c.toNat := by
     exact Yw.1 fun e => hc2 (Xe.2 e)
    have hcl := c.toNat_lt
    cases p with
    | none => cases h
    | some p =>
     dsimp only at h
     split at h
     · cases h
     ·
      rename_i k m hh
      split at h
      · cases h
      ·
       rename_i ys hy
       cases h
       obtain ⟨h1, h2, h3, _⟩ := uJ hh (by simp) (by simpa using hcm) (by omega) (by simp; omega)
       refine ⟨?_, h2, by omega⟩
       have hE := Fb (fun b x k hb => ⟨(hp p rfl b x k hb).1, (hp p rfl b x k hb).2.1⟩) _ _ _ hy
       have hl : (((c :: t).drop k).take m).length = m := by rw [Xi, W9]; omega
       rw [E, hE, hl, ← h1, List.take_add]
theorem mP : ∀ (d : Nat) (b : List UInt8) (x : Raw) (n : Nat), parse d b = .ok (x, n) → b.take n = E x ∧ n ≤ b.length ∧ 0 < n
 | 0, b, x, n, h => Jy none (fun q e => by cases e) b x n h
 | d + 1, b, x, n, h => Jy (some (parse d)) (fun q e => by cases e; exact mP d) b x n h
theorem Dw {b : List UInt8} {x : Raw} (h : fU b = .ok x) : b = E x := by
 unfold fU at h
 split at h
 · cases h
 ·
  split at h
  · cases h
  ·
   rename_i y n hy
   split at h
   ·
    rename_i hn
    cases h
    have h1 := (mP 32 b x n hy).1
    rw [hn, Yb] at h1
    exact h1
   · cases h
mutual
def norm : Raw → Raw
 | .mk false bs _ => .mk false bs []
 | .mk true _ xs => .mk true [] (yZ xs)
def yZ : List Raw → List Raw
 | [] => []
 | x :: xs => norm x :: yZ xs
end
theorem zB (n base : Nat) : 0 < (head n base).length := by
 unfold head
 split <;> simp
theorem QK : ∀ r : Raw, 0 < (E r).length
 | .mk false bs _ => by
  rw [E, EB]
  split
  · rename_i h; omega
  · rw [List.length_append]; have := zB bs.length 128; omega
 | .mk true _ xs => by rw [E, List.length_append]; have := zB (EL xs).length 192; omega
theorem oZ (m : Nat) : ∃ p, parse m = ql p ∧ (∀ k, m = k + 1 → p = some (parse k)) := by
 cases m with
 | zero => exact ⟨none, rfl, fun k e => by cases e⟩
 | succ m => exact ⟨some (parse m), rfl, fun k e => by cases e; rfl⟩
end Rlp
end Go.Proofs.YtelbhdobjdnglaaGreat
namespace Go.Proofs.YtelbhdobjdnglaaGreat
set_option linter.unusedVariables false
set_option maxRecDepth 20000
set_option maxHeartbeats 4000000
open Go.RowKit Mono Rlp
theorem KI (xs : List Raw) (k : Nat) (h : k < xs.length) : EL (xs.take (k + 1)) = EL (xs.take k) ++ E xs[k] := by
 rw [Xa h, rV, EL, EL, XB]
theorem Ae (xs : List Raw) (k : Nat) : (EL (xs.take k)).length ≤ (EL xs).length := by
 have h := congrArg List.length (rV (xs.take k) (xs.drop k))
 rw [XE, List.length_append] at h
 omega
theorem WE (xs : List Raw) (k : Nat) (h : k < xs.length) : (E xs[k]).length ≤ (EL xs).length := by
 have h1 := Ae xs (k + 1)
 rw [KI xs k h, List.length_append] at h1
 omega
theorem Bg : ∀ (n : Nat) (r : Raw) (v : Value) (w : World), (E r).length < n → (E r).length ≤ most → NR w v r → Calls Tryz.prog 181 #[v] w (Ret (fun v w' => OwnB w' w.heap.size v (E r)) w)
 | 0, r, v, w, hn, _, _ => by omega
 | n + 1, .mk false bs xs, v, w, hn, hm, h => by
  obtain ⟨vb, rfl, A, c, rfl, hc1, hc2, hr⟩ := h
  have hE : E (.mk false bs xs) = EB bs := by rw [E]
  rw [hE] at hm ⊢
  have HR := Lib.hid hr
  unfold maxLen at hc2
  clear hr hn hE
  by_cases h1 : bs.length = 1
  ·
   obtain ⟨b, rfl⟩ := Yf.1 h1
   obtain ⟨bl, o, rfl, hbl, hcell⟩ := HR.out (by simp [bvs])
   have e1 := hcell 0 (bv b) rfl
   rw [XI] at e1
   unfold bv at e1
   clear hcell h1
   have hbl2 := jh b
   simp only [List.length_singleton] at hc1 ⊢
   by_cases h2 : b < 128
   ·
    have h3 : b.toNat < 128 := Xe.1 h2
    have HM := Lib.hid (show EB [b] = [b] by rw [EB, if_pos ⟨rfl, h2⟩])
    clear h2
    go_enter Tryz.func181, Tryz.ntmps181
    go_wp2_with fail
    refine bodyPost_ret (results_tmp rfl _ _ _) rfl ?_
    refine ⟨_, rfl, au w _, ?_⟩
    rw [HM.out]
    exact iT w #[.int .u8 (b.toNat : Int)] 5 1 1 w.heap.size w.heap.size rfl (Nat.le_refl _) (by simp [maxLen]) rfl
   ·
    have h3 : 128 ≤ b.toNat := Yw.1 fun e => h2 (Xe.2 e)
    have HM := Lib.hid (show EB [b] = head [b].length 128 ++ [b] by rw [EB, if_neg (fun h => h2 h.2)])
    clear h2
    go_enter Tryz.func181, Tryz.ntmps181
    go_wp2_with fail
    refine (sV 128 _ [b] _ ⟨_, c, rfl, hc1, by simp only [maxLen]; omega, HR.out⟩ (by simp) (by omega)).mono ?_
    rintro e w1 ⟨v1, rfl, hg1, ho1⟩
    have HO1 := Lib.hid ho1
    clear ho1
    go_wp2_with fail
    refine bodyPost_ret (results_tmp rfl _ _ _) rfl ?_
    exact ⟨_, rfl, hg1, by rw [HM.out]; exact HO1.out⟩
  ·
   have hd : ((bs.length : Int) == 1) = false := by simp; omega
   have HM := Lib.hid (show EB bs = head bs.length 128 ++ bs by rw [EB, if_neg (fun h => h1 h.1)])
   rw [HM.out, List.length_append] at hm
   simp only [most] at hm
   clear h1
   go_enter Tryz.func181, Tryz.ntmps181
   go_wp2_with fail
   refine (sV 128 _ bs _ ⟨_, c, rfl, hc1, by simp only [maxLen]; omega, HR.out⟩ (by omega) (by omega)).mono ?_
   rintro e w1 ⟨v1, rfl, hg1, ho1⟩
   have HO1 := Lib.hid ho1
   clear ho1
   go_wp2_with fail
   refine bodyPost_ret (results_tmp rfl _ _ _) rfl ?_
   exact ⟨_, rfl, hg1, by rw [HM.out]; exact HO1.out⟩
 | n + 1, .mk true bs xs, v, w, hn, hm, h => by
  have ih := Lib.hid (Bg n)
  obtain ⟨vl, rfl, A, c, rows, rfl, hc1, hc2, _, hr, hi⟩ := h
  have HE := Lib.hid (show E (.mk true bs xs) = head (EL xs).length 192 ++ EL xs by rw [E])
  rw [HE.out, List.length_append] at hm hn
  have hhp := zB (EL xs).length 192
  have hel : (EL xs).length < n := by omega
  have hel2 : (EL xs).length ≤ 16777216 := by simp only [most] at hm; omega
  have HR := Lib.hid hr
  have HI := Lib.hid hi
  unfold maxLen at hc2
  clear hr hi hm hn hhp
  go_enter Tryz.func181, Tryz.ntmps181
  go_wp2_with fail
  go_loopw [5, 32] (fun ov i wr => ∃ (k : Nat) (acc : List UInt8), k ≤ xs.length ∧ i = .int .i64 k ∧ acc = EL (xs.take k) ∧ acc.length ≤ 16777216 ∧ OwnB wr w.heap.size ov acc ∧ Gr w wr) (fun _ i _ => xs.length - (intOf i).toNat)
  case atStart => exact ⟨0, [], by omega, rfl, by rw [WO, EL], by simp, OwnB.nil _ _, Gr.refl _⟩
  case round =>
   obtain ⟨k, acc, hk, rfl, hacc, hal, hown, hb⟩ := hrel
   obtain ⟨A3, c3, rfl, hd1, hd2⟩ := dB hown
   have HA := Lib.hid hacc
   have HO := Lib.hid hown
   have HB := Lib.hid hb
   have hbs := hb.size
   unfold maxLen at hd2
   clear hacc hown hb
   by_cases h1 : k < xs.length
   ·
    obtain ⟨bl, o, f, vb, vl, rfl, hbl, e1, e2, e3, hx, ⟨A2, n2, c2, rfl⟩, A', n', c', rfl⟩ := uH HR.out HI.out k h1
    have e1' := (HB.out.cell (p := ⟨bl, o + k * 3, none⟩) hbl).trans e1
    have e2' := (HB.out.cell (p := ⟨bl, o + k * 3 + 1, none⟩) hbl).trans e2
    have e3' := (HB.out.cell (p := ⟨bl, o + k * 3 + 2, none⟩) hbl).trans e3
    have HX := Lib.hid (hx.gr HB.out)
    have hle := WE xs k h1
    have HT := Lib.hid (KI xs k h1)
    have htl := Ae xs (k + 1)
    rw [HT.out, ← HA.out, List.length_append] at htl
    clear e1 e2 e3 hx
    go_wp2_with (refine wpList_store_row rfl 138 (.tmp 7) (.tmp 35) rfl wr.heap.size #[.bool f, .slice A2 n2 c2, .slice A' n' c'] rfl rfl 138 _ (heap_alloc_new wr _) (by kernel_rfl) (by kernel_rfl) (by simp [Value.oneCell']) ?_; rw [World.setRow_alloc_new])
    refine (yH _ xs[k] _ (HX.out.gr (au _ _))).mono ?_
    rintro e w1 ⟨v1, rfl, hg1, ho1⟩
    have HG1 := Lib.hid ((au _ _).trans hg1)
    have HO1 := Lib.hid ho1
    clear hg1 ho1 e1' e2' e3' HX
    go_wp2_with fail
    refine (ih.out xs[k] v1 _ (by omega) (by simp only [most]; omega) HO1.out).mono ?_
    rintro e w2 ⟨v2, rfl, hg2, ho2⟩
    obtain ⟨A4, c4, rfl, he1, he2⟩ := dB ho2
    obtain ⟨_, _, he, _, _, hrb⟩ := OwnB.isB ho2
    injection he with he3 _ he4
    subst he3 he4
    have HR2 := Lib.hid hrb
    have HG2 := Lib.hid (HG1.out.trans hg2)
    have HO2 := Lib.hid (o7 HO.out HG2.out)
    have hz2 := HG2.out.size
    unfold maxLen at he2
    generalize E xs[k] = ek at hle HT htl HR2 he1 ⊢
    clear HO1 HG1 hg2 ho2 hrb HO
    go_wp2_with (at_builtin; refine bn _ _ 38 cu _ _ _ _ _ _ _ (bvs ek) rfl rfl rfl rfl HO2.out HR2.out (by simp [bvs]) (dR _) (by simp only [maxLen]; omega) (by omega) (by omega) ?_; intro A5 c5 w5 hown5 hg5 _)
    go_roundw
    case rel =>
     refine ⟨k + 1, acc ++ ek, by omega, by go_num, by rw [HT.out, HA.out], by rw [List.length_append]; omega, ?_, (HB.out.trans HG2.out).grown hg5 (by omega) fun j hj => bP HO2.out j hj⟩
     unfold OwnB
     rw [List.length_append, iF]
     exact hown5
    case measure => simp [intOf]; omega
   ·
    have h2 : xs.length ≤ k := by omega
    have HA2 := Lib.hid (show acc = EL xs by rw [HA.out, XT h2])
    clear h1 HA
    have hi2 := OwnB.isB HO.out
    have HI2 := Lib.hid hi2
    clear hi2
    go_wp2_with fail
    refine (sV 192 _ acc _ HI2.out (by omega) (by omega)).mono ?_
    rintro e w2 ⟨v2, rfl, hg2, ho2⟩
    have HG2 := Lib.hid (HB.out.trans hg2)
    have HO2 := Lib.hid (own_base ho2 hbs)
    clear hg2 ho2
    go_wp2_with fail
    refine bodyPost_ret (results_tmp rfl _ _ _) rfl ?_
    refine ⟨_, rfl, HG2.out, ?_⟩
    rw [HE.out, ← HA2.out]
    exact HO2.out
theorem Rt : ∀ (xs : List Raw) (m n k : Nat), n ≤ k → (∀ x ∈ xs, fE x m ≤ k) → maxD xs m n ≤ k := fun xs m n k h1 h2 => (maxD_le xs m n k).2 ⟨h1, h2⟩
theorem zK : ∀ (m : Nat) (r : Raw), fE r m ≤ m + 1
 | m, .mk false bs xs => by rw [fE]; omega
 | 0, .mk true bs xs => by rw [fE]; omega
 | m + 1, .mk true bs xs => by
  rw [fE]
  have := Rt xs m 0 (m + 1) (by omega) fun x _ => zK m x
  omega
theorem EY : ∀ (m : Nat) (r : Raw) (v : Value) (w : World), m ≤ 32 → jl w v r → Calls Tryz.prog 120 #[v, .int .i64 m] w (Ret (eqV (.int .i64 (fE r m))) w)
 | m, .mk false bs xs, v, w, hm, h => by
  obtain ⟨vb, vl, rfl, _, _⟩ := eX h
  clear h
  have hd := Lib.hid (show fE (.mk false bs xs) m = 0 by rw [fE])
  go_enter Tryz.func120, Tryz.ntmps120
  go_wp2_with fail
  refine bodyPost_ret (results_tmp rfl _ _ _) rfl ?_
  exact ⟨_, rfl, au w _, by rw [hd.out]; rfl⟩
 | 0, .mk true bs xs, v, w, hm, h => by
  obtain ⟨vb, vl, rfl, _, _⟩ := eX h
  clear h
  have hd := Lib.hid (show fE (.mk true bs xs) 0 = 1 by rw [fE])
  go_enter Tryz.func120, Tryz.ntmps120
  go_wp2_with fail
  refine bodyPost_ret (results_tmp rfl _ _ _) rfl ?_
  exact ⟨_, rfl, au w _, by rw [hd.out]; rfl⟩
 | m + 1, .mk true bs xs, v, w, hm, h => by
  have ih := Lib.hid (EY m)
  obtain ⟨vb, vl, rfl, _, A, c, rows, rfl, hc1, hc2, _, hr, hi⟩ := eX h
  have HR := Lib.hid hr
  have HI := Lib.hid hi
  have hd := Lib.hid (show fE (.mk true bs xs) (m + 1) = maxD xs m 0 + 1 by rw [fE])
  have hdm : (((m : Int) + 1) == 0) = false := by simp; omega
  rw [show ((m + 1 : Nat) : Int) = (m : Int) + 1 from rfl]
  unfold maxLen at hc2
  clear h hr hi
  go_enter Tryz.func120, Tryz.ntmps120
  go_wp2_with fail
  go_loopw [5, 6] (fun nv i wr => ∃ k n : Nat, k ≤ xs.length ∧ i = .int .i64 k ∧ nv = .int .i64 n ∧ n ≤ 33 ∧ maxD xs m 0 = maxD (xs.drop k) m n ∧ Gr (w.alloc (.cells #[.bool true, vb, .slice A xs.length c] 138)) wr) (fun _ i _ => xs.length - (intOf i).toNat)
  case atStart => exact ⟨0, 0, by omega, rfl, rfl, by omega, rfl, Gr.refl _⟩
  case round =>
   obtain ⟨k, n, hk, rfl, rfl, hn, hM, hb⟩ := hrel
   have HM := Lib.hid hM
   have HB := Lib.hid hb
   have hbs := hb.size
   have hcl := hb.cell (p := ⟨w.heap.size, 2, none⟩) (by simp)
   have hcl2 : (w.alloc (.cells #[.bool true, vb, .slice A xs.length c] 138)).cell? ⟨w.heap.size, 2, none⟩ = some (.slice A xs.length c) := by rw [cell_of_row _ _ _ _ _ (0, 0) (heap_alloc_new w _)]; rfl
   rw [hcl2] at hcl
   clear hM hb hcl2
   by_cases h1 : k < xs.length
   ·
    obtain ⟨bl, o, f, vb', vl, rfl, hbl, e1, e2, e3, hx, ⟨A2, n2, c2, rfl⟩, A', n', c', rfl⟩ := uH HR.out HI.out k h1
    have e1' := (((au w _).trans HB.out).cell (p := ⟨bl, o + k * 3, none⟩) hbl).trans e1
    have e2' := (((au w _).trans HB.out).cell (p := ⟨bl, o + k * 3 + 1, none⟩) hbl).trans e2
    have e3' := (((au w _).trans HB.out).cell (p := ⟨bl, o + k * 3 + 2, none⟩) hbl).trans e3
    have HX := Lib.hid (hx.gr ((au w _).trans HB.out))
    have hdk : xs.drop k = xs[k] :: xs.drop (k + 1) := Xn h1
    have hdl := zK m xs[k]
    have HM2 := Lib.hid (show maxD xs m 0 = maxD (xs.drop (k + 1)) m (if fE xs[k] m > n then fE xs[k] m else n) by rw [HM.out, hdk, maxD])
    clear e1 e2 e3 hx hdk HM
    go_wp2_with fail
    refine (ih.out xs[k] _ _ (by omega) HX.out).mono ?_
    rintro e w1 ⟨_, rfl, hg1, rfl⟩
    have HG1 := Lib.hid (HB.out.trans hg1)
    clear hg1 e1' e2' e3' hcl
    by_cases h3 : fE xs[k] m > n
    ·
     have HM3 := Lib.hid (show maxD xs m 0 = maxD (xs.drop (k + 1)) m (fE xs[k] m) by rw [HM2.out, if_pos h3])
     clear HM2
     go_wp2_with fail
     go_roundw
     case rel => exact ⟨k + 1, _, by omega, by go_num, rfl, by omega, HM3.out, HG1.out⟩
     case measure => simp [intOf]; omega
    ·
     have HM3 := Lib.hid (show maxD xs m 0 = maxD (xs.drop (k + 1)) m n by rw [HM2.out, if_neg h3])
     clear HM2
     go_wp2_with fail
     go_roundw
     case rel => exact ⟨k + 1, _, by omega, by go_num, rfl, by omega, HM3.out, HG1.out⟩
     case measure => simp [intOf]; omega
   ·
    have h2 : xs.length ≤ k := by omega
    have HM2 := Lib.hid (show fE (.mk true bs xs) (m + 1) = n + 1 by rw [hd.out, HM.out, Xt h2, maxD])
    clear h1 HM
    go_wp2_with fail
    refine bodyPost_ret (results_tmp rfl _ _ _) rfl ?_
    refine ⟨_, rfl, (au w _).trans HB.out, ?_⟩
    rw [HM2.out]
    rfl
theorem BX (n : Int) : bits .and .i64 n 63 = n % 64 := by
 have h63 : (BitVec.ofInt 64 63).toNat = 2 ^ 6 - 1 := by decide
 have key : (BitVec.ofInt 64 n &&& BitVec.ofInt 64 63).toNat = (n % ((2 ^ 64 : Nat) : Int)).toNat % 2 ^ 6 := by
  rw [BitVec.toNat_and, Zo, h63, X9]
 show IntKind.i64.wrap ((BitVec.ofInt 64 n &&& BitVec.ofInt 64 63).toNat : Nat) = n % 64
 rw [key, IntKind.wrap_i64]
 omega
theorem yK (n base : Nat) (w : World) (hn : n ≤ 9223372036854775807) (hb : base ≤ 192) : Calls Tryz.prog 165 #[.int .i64 n, .int .i64 base] w (Ret (fun v w' => OwnB w' w.heap.size v (head n base)) w) := by
 have hlen := vM 8 n (by omega)
 by_cases h56 : n < 56
 ·
  have hs := Lib.hid (show head n base = [UInt8.ofNat (base + n)] from if_pos h56)
  clear hlen
  go_enter Tryz.func165, Tryz.ntmps165
  go_wp2
  refine bodyPost_ret (results_tmp rfl _ _ _) rfl ?_
  refine ⟨_, rfl, au w _, ?_⟩
  rw [hs.out]
  have := iT w #[.int .u8 ((base : Int) + (n : Int))] 5 1 1 w.heap.size w.heap.size rfl (Nat.le_refl _) (by simp [maxLen]) rfl
  refine ownB_of this ?_
  rw [← XA, uS _ (by omega)]
  rfl
 ·
  have hs := Lib.hid (show head n base = UInt8.ofNat (base + 55 + (be n).length) :: be n from if_neg h56)
  have h57 : 55 < n := by omega
  clear h56
  go_enter Tryz.func165, Tryz.ntmps165
  go_wp2
  go_loopw [5, 6] (fun v i wr => ∃ (m : Nat) (acc : List UInt8), m ≤ n ∧ i = .int .i64 m ∧ acc.reverse ++ le m = le n ∧ acc.length ≤ 8 ∧ OwnB wr w.heap.size v acc ∧ Below w.heap.size w wr) (fun _ i _ => (intOf i).toNat)
  case atStart => exact ⟨n, [], Nat.le_refl _, rfl, rfl, by simp, OwnB.nil _ _, Below.refl _ _⟩
  case round =>
   obtain ⟨m, acc, hm, rfl, hacc, hal, hown, hb⟩ := hrel
   obtain ⟨A', c', rfl, hc1, hc2⟩ := dB hown
   obtain ⟨_, _, he, _, _, hrd⟩ := OwnB.isB hown
   injection he with he1 _ he2
   subst he1 he2
   have hbs := hb.size
   have HO := Lib.hid hown
   have HB := Lib.hid hb
   have HA := Lib.hid hacc
   have HRD := Lib.hid hrd
   clear hown hb hacc hrd
   unfold maxLen at hc2
   by_cases h1 : 0 < m
   ·
    have hle := Lib.hid (DR m h1)
    have hal2 : acc.length + 1 ≤ 8 := by
     have h2 := congrArg List.length HA.out
     rw [hle.out, List.length_append, WS, List.length_reverse] at h2
     omega
    have hlow := IX m
    go_wp2_with (at_builtin; refine bn (.tmp 22) (.tmp 23) 38 cu (base := w.heap.size) _ 1 [.int .u8 ((m : Int) % 256)] _ acc.length _ _ (bvs acc) rfl rfl rfl rfl (iT wr #[.int .u8 ((m : Int) % 256)] 5 1 1 wr.heap.size w.heap.size rfl hbs (by simp [maxLen]) rfl) (HRD.out.below ((Below.refl _ _).alloc (Nat.le_refl _) _)) (by simp [bvs]) (dR _) (by simp only [maxLen]; omega) (by omega) (by simp; omega) ?_; intro A2 c2 w2 hown2 hg2 _)
    go_roundw
    case rel =>
     refine ⟨m / 256, UInt8.ofNat m :: acc, by omega, by go_num, ?_, by simp; omega, ?_, (HB.out.alloc hbs _).grown hg2 (by simp; omega) fun j hj => by cases hj; exact hbs⟩
     · rw [List.reverse_cons, Xp, YK, ← hle.out, HA.out]
     ·
      rw [Qj] at hown2
      exact ownB_of hown2 rfl
    case measure => simp [intOf]; omega
   ·
    have HE : Hid (acc = be n) := by
     refine Lib.hid ?_
     have h2 := HA.out
     rw [show m = 0 by omega, le_zero, XB] at h2
     unfold be
     rw [← h2, List.reverse_reverse]
    clear HA
    go_wp2_with (at_builtin; refine bn (.tmp 31) (.tmp 32) 38 cu (base := w.heap.size) _ 1 [.int .u8 ((base : Int) + 55 + (acc.length : Int))] _ acc.length _ _ (bvs acc) rfl rfl rfl rfl (iT wr #[.int .u8 ((base : Int) + 55 + (acc.length : Int))] 5 1 1 wr.heap.size w.heap.size rfl hbs (by simp [maxLen]) rfl) (HRD.out.below ((Below.refl _ _).alloc (Nat.le_refl _) _)) (by simp [bvs]) (dR _) (by simp only [maxLen]; omega) (by omega) (by simp; omega) ?_; intro A2 c2 w2 hown2 hg2 _)
    refine bodyPost_ret (results_tmp rfl _ _ _) rfl ?_
    refine ⟨_, rfl, (HB.out.alloc hbs _).grown hg2 (by simp; omega) fun j hj => by cases hj; exact hbs, ?_⟩
    refine ownB_of hown2 ?_
    have e1 : ((base : Int) + 55 + (acc.length : Int)) = ((base + 55 + acc.length : Nat) : Int) := by simp
    rw [hs.out, ← HE.out, e1, uS _ (by omega)]
    rfl
theorem BH : ∀ (xs : List Raw) (acc l : List UInt8), fQ xs acc = some l → acc.length ≤ most → l.length ≤ most
 | [], acc, l, h, ha => by rw [fQ] at h; rw [← Xr h]; exact ha
 | x :: xs, acc, l, h, ha => by
  rw [fQ] at h
  cases hx : fD x with
  | none => rw [hx] at h; cases h
  | some j =>
   rw [hx] at h
   dsimp only at h
   split at h
   · cases h
   · exact BH xs _ l h (by rw [List.length_append]; omega)
theorem Fg (r : Raw) (b : List UInt8) (h : fD r = some b) : b.length ≤ most + 9 := by
 obtain ⟨lst, bs, xs⟩ := r
 cases lst with
 | false =>
  rw [fD] at h
  split at h
  · cases h
  · rw [← Xr h, wE]; exact Oc bs (by omega)
 | true =>
  rw [fD] at h
  cases hm : fQ xs [] with
  | none => rw [hm] at h; cases h
  | some l =>
   rw [hm] at h
   have := BH xs [] l hm (by simp)
   rw [← Xr h, List.length_append, jI]
   exact vw _ this
end Go.Proofs.YtelbhdobjdnglaaGreat
