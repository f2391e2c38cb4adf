/-
  Merged (wip/tools/merge.py): KecSum, KecKeccak, TS2, Item, EItem0, RlpBig, NumW, RlpMeas, RlpRead.
  Conditions: none.
-/
import Derived.Test.YtmlajcbabimkjaaZR12
import Derived.Test.YtmlajcbabimkjaaZR2
import Derived.Test.YtmlajcbabimkjaaZR11
import Derived.Test.YtmlajcbabimkjaaZR7
import Derived.Test.YtmlajcbabimkjaaZR8
import Derived.Laws.Rows
import Derived.BigQuiet
import Derived.Deep.QuietTactic
import Derived.RegionTactic
import Derived.BigRegion
import Derived.Lib.SliceRun
import Derived.Test.YtmlajcbabimkjaaZR5
/-
  keccak.Sum.
  Conditions: none.
-/
namespace Go.Proofs.Ytmlajcbabimkjaa
open Go.RowKit Mono
open Kec (L St rotl)
def outV (f : St) (k : Nat) : Value := .int .u8 (((f (k / 8) >>> (8 * (k % 8))).toNat % 256 : Nat) : Int)
def outC (f : St) (n : Nat) : Array Value := ((List.range 32).map fun k => if k < n then outV f k else .int .u8 0).toArray
def Out (w : World) (g : Nat) (f : St) (n : Nat) : Prop := w.heap[g]? = some (.cells (outC f n) 32 (0, 0))
theorem Out.lt {w : World} {g : Nat} {f : St} {n : Nat} (h : Out w g f n) : g < w.heap.size := by
  rcases Nat.lt_or_ge g w.heap.size with h1 | h1
  · exact h1
  · unfold Out at h; rw [Array.getElem?_eq_none h1] at h; cases h
theorem Out.cell {w : World} {g : Nat} {f : St} {n : Nat} (h : Out w g f n) (hn : n < 32) : w.cell? ⟨g, n, none⟩ = some (.int .u8 0) := by
  rw [cell_of_row w g n _ 32 (0, 0) h]
  simp [outC, hn]
theorem Out.frozen {w : World} {g : Nat} {f : St} {n : Nat} (h : Out w g f n) (k : Nat) : w.frozen? ⟨g, k, none⟩ = false := by
  unfold Out at h
  simp [World.frozen?, h]
theorem outC_set (f : St) (n : Nat) : (outC f n).setIfInBounds n (outV f n) = outC f (n + 1) := by
  apply Array.ext_getElem?
  intro i
  rw [Array.getElem?_setIfInBounds]
  unfold outC
  by_cases hi : i < 32
  · by_cases hk : n = i
    · subst hk
      simp [hi]
    · rw [if_neg hk]
      simp only [List.getElem?_toArray, List.getElem?_map, List.getElem?_range hi, Option.map_some, Option.some.injEq]
      by_cases h2 : i < n
      · rw [if_pos h2, if_pos (by omega)]
      · rw [if_neg h2, if_neg (by omega)]
  · simp [hi]
    omega
theorem Out.set {w : World} {g : Nat} {f : St} {n : Nat} (h : Out w g f n) : Out (w.setCell ⟨g, n, none⟩ (outV f n)) g f (n + 1) := by
  unfold Out at h ⊢
  simp [World.setCell, Array.getElem?_modify, h, outC_set]
theorem outC_size (f : St) (n : Nat) : (outC f n).size = 32 := by simp [outC]
theorem outC_size2 (f g : St) (n m : Nat) : (outC f n).size = (outC g m).size := by rw [outC_size, outC_size]
theorem outC_info (f : St) (n : Nat) : (Try.prog.info? 32).map (·.size) = some (outC f n).size := by
  rw [outC_size]
  kernel_rfl
theorem outC_one (f : St) (n : Nat) : (outC f n).all (·.oneCell') = true := by
  simp only [outC, List.all_toArray, List.all_eq_true, List.mem_map]
  rintro x ⟨k, _, rfl⟩
  split <;> rfl
theorem out_val (f : St) (k : Nat) : Value.int .u8 (u (f (k / 8)) / 2 ^ (8 * (k % 8)) % 256) = outV f k := by
  rw [u_shr]
  unfold outV u
  simp
set_option maxRecDepth 20000 in
set_option maxHeartbeats 1000000 in
theorem kec_sum (v : Value) (ms : List (List UInt8)) (w : World) (h : IsBB w v ms) : Calls Try.prog 63 #[v] w (Ret (fun v' _ => v' = .agg (outC (sponge ms.flatten) 32)) w) := by
  obtain ⟨A, c, vals, rfl, hc1, hc2, hlen, hrd, hel⟩ := h
  unfold maxLen at hc2
  have HRD := Lib.hid hrd
  have HEL := Lib.hid hel
  have HLEN := Lib.hid hlen
  clear hrd hel hlen
  go_enter Try.func63, Try.ntmps63
  go_wp2
  go_loopw [4, 13] (fun at_ i wr => ∃ k : Nat, k ≤ ms.length ∧ i = .int .i64 k ∧ at_ = .int .i64 ((absorbs (ms.take k).flatten).2 : Nat) ∧ Lanes wr (w.heap.size + 1) 176 25 (absorbs (ms.take k).flatten).1 ∧ Out wr w.heap.size (fun _ => 0) 0 ∧ Gr w wr) (fun _ i _ => ms.length - (intOf i).toNat)
  case atStart =>
    refine ⟨0, by omega, rfl, rfl, ?_, ?_, (gr_alloc w _).trans (gr_alloc _ _)⟩
    · have := lanes_new (w.alloc (.cells (outC (fun _ => 0) 0) 32)) 176 25 _ rfl
      rw [alloc_len] at this
      exact this
    · exact (Below.heap_alloc (w.alloc (.cells (outC (fun _ => 0) 0) 32)) _ _ (by simp)).trans (heap_alloc_new w _)
  case round =>
    obtain ⟨k, hk, rfl, rfl, hl, ho, hb⟩ := hrel
    have HL := Lib.hid hl
    have HO := Lib.hid ho
    have HB := Lib.hid hb
    clear hl ho hb
    by_cases h1 : k < ms.length
    · obtain ⟨b, o, x, rfl, hbl, hcell, hx⟩ := IsBB.at HLEN.out HRD.out HEL.out k h1
      have hcell' := (HB.out.cell (p := ⟨b, o + k, none⟩) hbl).trans hcell
      clear hcell
      obtain ⟨A2, c2, rfl, hd1, hd2, hr2⟩ := hx
      unfold maxLen at hd2
      have HR2 := Lib.hid (hr2.below HB.out)
      clear hr2
      go_wp2_with fail
      obtain ⟨wo, rfl⟩ : ∃ wo : World, wo = wr := ⟨_, rfl⟩
      go_loopw [4, 19] (fun at_ i wr => ∃ j : Nat, j ≤ ms[k].length ∧ i = .int .i64 j ∧ at_ = .int .i64 ((absorbs ((ms.take k).flatten ++ ms[k].take j)).2 : Nat) ∧ Lanes wr (w.heap.size + 1) 176 25 (absorbs ((ms.take k).flatten ++ ms[k].take j)).1 ∧ Out wr w.heap.size (fun _ => 0) 0 ∧ Only (w.heap.size + 1) wo wr) (fun _ i _ => ms[k].length - (intOf i).toNat)
      case atStart => exact ⟨0, by omega, rfl, by simp, by simpa using HL.out, HO.out, Only.refl _ _⟩
      case round =>
        clear HO HL
        obtain ⟨j, hj, rfl, rfl, hl, ho, hb⟩ := hrel
        have HL := Lib.hid hl
        have HO := Lib.hid ho
        have HP := Lib.hid hb
        clear hl ho hb
        have hlt := absorbs_lt ((ms.take k).flatten ++ ms[k].take j)
        by_cases h2 : j < ms[k].length
        · have hsn := Lib.hid (take_snoc (ms.take k).flatten ms[k] j h2)
          have hr3 := HR2.out.keep (fun p hp => World.cell?_of_block (HP.out.block p.block (by have := HB.out.size; omega) (fun e => by injection e with e; omega)))
          obtain ⟨b2, o2, rfl, hb2, hc2⟩ := isB_at hr3 j h2
          have hlt2 := bv_lt ms[k][j]
          go_wp2_with fail
          refine (kec_take (w.heap.size + 1) 176 _ _ _ hlt hlt2 _ HL.out).mono ?_
          rintro e w3 ⟨rfl, hl3, ho3⟩
          have HL3 := Lib.hid hl3
          have HP3 := Lib.hid (HP.out.trans ho3)
          have HO3 : Hid (Out w3 w.heap.size (fun _ => 0) 0) := Lib.hid ((ho3.block w.heap.size HO.out.lt (by simp)).trans HO.out)
          clear hl3 ho3 HL HP HO hc2 hr3
          by_cases h136 : (absorbs ((ms.take k).flatten ++ ms[k].take j)).2 + 1 = 136
          · have hA : absorbs ((ms.take k).flatten ++ ms[k].take (j + 1)) = _ := hsn.out.trans (if_pos h136)
            have HA := Lib.hid hA
            clear hA
            have h135 : (absorbs ((ms.take k).flatten ++ ms[k].take j)).2 = 135 := by omega
            rw [h135]
            go_wp2_with fail
            refine (kec_permute (w.heap.size + 1) 176 _ _ HL3.out).mono ?_
            rintro e w4 ⟨rfl, hl4, ho4⟩
            have HL4 := Lib.hid hl4
            have HP4 := Lib.hid (HP3.out.trans ho4)
            have HO4 : Hid (Out w4 w.heap.size (fun _ => 0) 0) := Lib.hid ((ho4.block w.heap.size HO3.out.lt (by simp)).trans HO3.out)
            clear hl4 ho4 HL3 HP3 HO3
            go_wp2_with fail
            go_roundw
            case rel => exact ⟨j + 1, by omega, by go_num, by rw [HA.out]; rfl, by rw [HA.out]; exact HL4.out, HO4.out, HP4.out⟩
            case measure => simp [intOf]; omega
          · have hA : absorbs ((ms.take k).flatten ++ ms[k].take (j + 1)) = _ := hsn.out.trans (if_neg h136)
            have HA := Lib.hid hA
            clear hA
            go_wp2_with fail
            go_roundw
            case rel => exact ⟨j + 1, by omega, by go_num, by rw [HA.out]; go_num, by rw [HA.out]; exact HL3.out, HO3.out, HP3.out⟩
            case measure => simp [intOf]; omega
        · have h5 : j = ms[k].length := by omega
          subst h5
          have hfl : (ms.take k).flatten ++ ms[k].take ms[k].length = (ms.take (k + 1)).flatten := by rw [List.take_length, take_flat ms k h1]
          rw [hfl] at HL
          rw [hfl]
          have HB2 := Lib.hid (Only.gr HB.out HP.out (by omega))
          clear HB HP hfl
          go_wp2_with fail
          go_roundw
          case rel => exact ⟨k + 1, by omega, by go_num, rfl, HL.out, HO.out, HB2.out⟩
          case measure => simp [intOf]; omega
    · have h5 : k = ms.length := by omega
      subst h5
      have hlt := absorbs_lt ms.flatten
      have hfl : (ms.take ms.length).flatten = ms.flatten := by rw [List.take_length]
      rw [hfl] at HL
      rw [hfl]
      clear hfl
      go_wp2_with fail
      refine (kec_take (w.heap.size + 1) 176 _ _ 1 hlt (by omega) _ HL.out).mono ?_
      rintro e w3 ⟨rfl, hl3, ho3⟩
      have HL3 := Lib.hid hl3
      have HB3 := Lib.hid (Only.gr HB.out ho3 (by omega))
      have HO3 : Hid (Out w3 w.heap.size (fun _ => 0) 0) := Lib.hid ((ho3.block w.heap.size HO.out.lt (by simp)).trans HO.out)
      clear hl3 ho3 HL HB HO
      go_wp2_with fail
      refine (kec_take (w.heap.size + 1) 176 _ 135 128 (by omega) (by omega) _ HL3.out).mono ?_
      rintro e w4 ⟨rfl, hl4, ho4⟩
      have HL4 := Lib.hid hl4
      have HB4 := Lib.hid (Only.gr HB3.out ho4 (by omega))
      have HO4 : Hid (Out w4 w.heap.size (fun _ => 0) 0) := Lib.hid ((ho4.block w.heap.size HO3.out.lt (by simp)).trans HO3.out)
      clear hl4 ho4 HL3 HB3 HO3
      go_wp2_with fail
      refine (kec_permute (w.heap.size + 1) 176 _ _ HL4.out).mono ?_
      rintro e w5 ⟨rfl, hl5, ho5⟩
      have HL5 : Hid (Lanes w5 (w.heap.size + 1) 176 25 (sponge ms.flatten)) := Lib.hid hl5
      have HB5 := Lib.hid (Only.gr HB4.out ho5 (by omega))
      have HO5 : Hid (Out w5 w.heap.size (fun _ => 0) 0) := Lib.hid ((ho5.block w.heap.size HO4.out.lt (by simp)).trans HO4.out)
      clear hl5 ho5 HL4 HB4 HO4
      go_wp2_with fail
      go_loopw [37] (fun i wr => ∃ k : Nat, k ≤ 32 ∧ i = .int .i64 k ∧ Lanes wr (w.heap.size + 1) 176 25 (sponge ms.flatten) ∧ Out wr w.heap.size (fun _ => 0) 0 ∧ Out wr w5.heap.size (sponge ms.flatten) k ∧ Gr w wr) (fun i _ => 32 - (intOf i).toNat)
      case atStart =>
        refine ⟨0, by omega, rfl, HL5.out.alloc _, ?_, heap_alloc_new w5 _, HB5.out.trans (gr_alloc _ _)⟩
        exact (Below.heap_alloc w5 _ _ HO5.out.lt).trans HO5.out
      case round =>
        have hs5 := HB5.out.size
        have hl5 := HL5.out.lt
        clear HL5 HB5 HO5
        obtain ⟨k, hk, rfl, hl, ho, hw5, hb⟩ := hrel
        have HL := Lib.hid hl
        have HO := Lib.hid ho
        have HW := Lib.hid hw5
        have HB := Lib.hid hb
        clear hl ho hw5 hb
        by_cases h1 : k < 32
        · have c1 := HL.out.cell (k / 8) (by omega)
          have c2 := HW.out.cell h1
          have c3 := HW.out.frozen k
          unfold lv at c1
          have hu := u_range (sponge ms.flatten (k / 8))
          have hu0 := hu.1
          clear hu
          go_wp2_with fail
          go_roundw
          case rel =>
            refine ⟨k + 1, by omega, by go_num, HL.out.far (by dsimp only; omega) _, ?_, ?_, ?_⟩
            · exact (Below.heap_setCell _ _ _ _ (by dsimp only; omega)).trans HO.out
            · rw [out_val]
              exact HW.out.set
            · exact (Only.set (g := w5.heap.size) _ k _).gr HB.out (by omega)
          case measure => simp [intOf]; omega
        · have h5 : k = 32 := by omega
          subst h5
          have HC := HW.out
          unfold Out at HC
          have HOO := HO.out
          unfold Out at HOO
          go_wp2_with first
            | refine wpList_load_row rfl 32 (.tmp 9) rfl w5.heap.size rfl 32 (outC (sponge ms.flatten) 32) (0, 0) _ HC rfl rfl (outC_info _ _) ?_
            | refine wpList_store_row rfl 32 (.tmp 2) (.tmp 52) rfl w.heap.size (outC (sponge ms.flatten) 32) rfl rfl 32 _ HOO (outC_info _ _) (outC_size2 _ _ _ _) (outC_one _ _) ?_
          exact bodyPost_ret (results_cell_row rfl _ _ w.heap.size 32 (outC (sponge ms.flatten) 32) (0, 0) _ rfl (heap_setRow_same _ _ _ _ _ HOO) rfl rfl (outC_info _ _)) rfl ⟨_, rfl, gr_setRow HB.out _ _ (Nat.le_refl _), rfl⟩
theorem outC_hash (l : List UInt8) : Value.agg (outC (sponge l) 32) = arrV (hash l) := by
  unfold outC arrV hash outL bvs
  rw [List.map_map]
  congr 2
theorem sum_all (v : Value) (ms : List (List UInt8)) (w : World) (h : IsBB w v ms) : Calls Try.prog 63 #[v] w (Ret (eqV (arrV (hash ms.flatten))) w) :=
  (kec_sum v ms w h).mono fun e w' ⟨x, he, hg, hx⟩ => ⟨x, he, hg, by unfold eqV; rw [hx, outC_hash]⟩
end Go.Proofs.Ytmlajcbabimkjaa
/-
  The reference's Keccak.
  Conditions: the bytes are at most 2^40.
-/
namespace Go.Proofs.Ytmlajcbabimkjaa
open Go.RowKit Mono
open Kec (L St rotl Same)
end Go.Proofs.Ytmlajcbabimkjaa
/-
  keccak.Sum, munimentsref1.Keccak and the empty root, as the abstract machine calls them.
  Conditions: none.
-/
namespace Go.Proofs.Ytmlajcbabimkjaa
set_option linter.unusedVariables false
open Go.RowKit Mono Rlp
namespace E
theorem rows_bs {ok : Nat → Prop} {w : World} (hok : ∀ b, ok b → b < w.heap.size) : ∀ (ms : List (List UInt8)) (rows : List (List Value)), ReadsRows ok w 1 (ms.map D.bs) rows → rows.flatten.length = ms.length ∧ ∀ (i : Nat) (x : Value) (m : List UInt8), rows.flatten[i]? = some x → ms[i]? = some m → IsB w x m
  | [], rows, h => by
    rw [List.map_nil, ReadsRows] at h
    subst h
    exact ⟨rfl, fun i x m h => by simp at h⟩
  | m :: ms, rows, h => by
    rw [List.map_cons, ReadsRows] at h
    obtain ⟨r, rest, rfl, _, h2, h3⟩ := h
    have h4 := h2
    rw [Reads] at h4
    obtain ⟨u, rfl, _⟩ := h4
    obtain ⟨g1, g2⟩ := rows_bs hok ms rest h3
    refine ⟨by simp [g1], fun i x m' hx hm => ?_⟩
    cases i with
    | zero =>
      simp only [List.flatten_cons, List.singleton_append, List.getElem?_cons_zero, Option.some.injEq] at hx hm
      subst hx
      subst hm
      exact isB_of hok ((readV_one rfl).2 h2)
    | succ i =>
      simp only [List.flatten_cons, List.singleton_append, List.getElem?_cons_succ] at hx hm
      exact g2 i x m' hx hm
theorem isBB_of {ok : Nat → Prop} {w : World} (hok : ∀ b, ok b → b < w.heap.size) {ms : List (List UInt8)} {v : Value} (h : ReadV ok w (.sl 1 (ms.map D.bs)) v) : IsBB w v ms := by
  obtain ⟨cs, h1, rfl⟩ := h
  rw [Reads] at h1
  obtain ⟨A, c, rows, rfl, g1, g2, g3, g4, g5⟩ := h1
  rw [List.length_map] at g1 g3
  obtain ⟨k1, k2⟩ := rows_bs hok ms rows g5
  refine ⟨A, c, rows.flatten, ?_, g1, g2, k1, fun hn => ?_, k2⟩
  · show Value.slice A (ms.map D.bs).length c = _
    rw [List.length_map]
  · obtain ⟨b, o, e, hb, hc⟩ := g4 hn
    exact ⟨b, o, e, hok b hb, hc⟩
theorem f_kSum (ms : List (List UInt8)) : Fn 63 [.sl 1 (ms.map D.bs)] (· = .val (.arr 32 (hash ms.flatten))) := ⟨fun ok w xs hok hr => by
  obtain ⟨v, rfl, h⟩ := one_arg hr
  refine (sum_all v ms w (isBB_of hok h)).mono ?_
  rintro e w' ⟨_, rfl, hg, rfl⟩
  exact ⟨hg, _, _, rfl, rfl, arrV_mk (hash_length _)⟩⟩
theorem f_kSum1 (l : List UInt8) : Fn 63 [.sl 1 [.bs l]] (· = .val (.arr 32 (hash l))) := by
  have h := f_kSum [l]
  rw [List.flatten_cons, List.flatten_nil, List.append_nil] at h
  exact h
theorem reads_bvs {ok : Nat → Prop} {w : World} : ∀ (l : List UInt8) (rows : List (List Value)), ReadsRows ok w 1 (l.map fun b => D.v (bv b)) rows → rows.flatten = bvs l
  | [], rows, h => by
    rw [List.map_nil, ReadsRows] at h
    subst h
    rfl
  | b :: l, rows, h => by
    rw [List.map_cons, ReadsRows] at h
    obtain ⟨r, rest, rfl, _, h2, h3⟩ := h
    rw [Reads] at h2
    rw [List.flatten_cons, reads_bvs l rest h3, h2.2]
    rfl
theorem Le.slB {N : Nat} {X : Cx N} {S : St} {t : Tmp} {l : List UInt8} (hl : look S.regs t = some (.val (.sl 1 (l.map fun b => D.v (bv b))))) : Le X S ⟨(t, .val (.bs l)) :: S.regs, S.objs, S.facts⟩ := fun a w h => by
  refine ⟨h.mem, fun u r hu => ?_, h.size, h.defers⟩
  unfold look at hu
  split at hu
  · rename_i e
    subst e
    obtain rfl := Option.some.inj hu
    have h1 := (readV_one (d := .sl 1 (l.map fun b => D.v (bv b))) rfl).1 (h.regs _ _ hl)
    refine (readV_one (d := .bs l) rfl).2 ?_
    rw [Reads] at h1
    rw [Reads]
    obtain ⟨A, c, rows, e, g1, g2, g3, g4, g5⟩ := h1
    rw [List.length_map] at e g1 g3
    refine ⟨_, rfl, A, c, List.singleton_inj.1 e, g1, g2, ?_⟩
    rw [← reads_bvs l rows g5]
    exact g4
  · exact h.regs u r hu
def root0 : List UInt8 := hash [128]
theorem f_shEmpty : Fn 62 [] (· = .val (.arr 32 root0)) := by
  have h1 := f_kSum1 [128]
  refine Fn.walk 4 Try.func62 rfl Try.ntmps62 (by simp) fun X => ?_
  repeat
    (first
     | (apply P_call (h1); exact rfl; (focus (repeat first | exact RefineL.refl _ _ | exact RL.nil | exact Rf.same | exact Rf.bs0 | exact Rf.sl0 | (apply Rf.fact; (focus (simp; done)); exact rfl) | apply Rf.tup | apply RL.cons)); (focus (intro _ _; simp [go_sem]; done)); (iterate 2 exact rfl))
     | (apply P_lit; (iterate 9 exact rfl); refine EL.le (Le.slB (t := 1) (l := [128]) rfl) ?_) | (apply P_lit; (iterate 9 exact rfl)) | (apply P_alloc; exact rfl; exact rfl; exact rfl; intro _)
     | (apply P_store; exact rfl; (focus (repeat first | exact .z | apply SetAt.s | apply SetAtF.s)); (iterate 4 exact rfl)) | apply EL.nil | ((with_reducible apply EK.then_normal); apply EK.code)
     | (with_reducible first | apply EC.seq | apply EC.region | apply EC.skip | apply EC.label | apply EC.block | apply EC.exit | apply EC.ret | apply EK.in_normal | apply EK.in_same | apply EK.in_ret | apply EK.then_ret | apply EK.then_exit))
  refine EK.retc1r 0 rfl rfl rfl rfl ?_ rfl
  (repeat first | exact RefineL.refl _ _ | exact RL.nil | exact Rf.same | exact Rf.bs0 | exact Rf.sl0 | (apply Rf.fact; (focus (simp; done)); exact rfl) | apply Rf.tup | apply RL.cons)
end E
end Go.Proofs.Ytmlajcbabimkjaa
/-
  Items in memory; rlp's of.
  Conditions: none.
-/
namespace Go.Proofs.Ytmlajcbabimkjaa
set_option linter.unusedVariables false
open Go.RowKit Mono Rlp
mutual
def ItemAtP (ok : Nat → Prop) (w : World) : Raw → List Value → Prop
  | .mk b bs xs, cs => ∃ vb A c rows, cs = [.bool b, vb, .slice A xs.length c] ∧ IsBP ok w vb bs ∧ xs.length ≤ c ∧ c ≤ maxLen ∧ (A = none → xs.length = 0 ∧ c = 0) ∧ RdP ok w A rows.flatten ∧ ItemsAtP ok w xs rows
def ItemsAtP (ok : Nat → Prop) (w : World) : List Raw → List (List Value) → Prop
  | [], rows => rows = []
  | x :: xs, rows => ∃ r rest, rows = r :: rest ∧ ItemAtP ok w x r ∧ ItemsAtP ok w xs rest
end
def ItemAt (w : World) (x : Raw) (cs : List Value) : Prop := ItemAtP (fun b => b < w.heap.size) w x cs
def ItemsAt (w : World) (xs : List Raw) (rows : List (List Value)) : Prop := ItemsAtP (fun b => b < w.heap.size) w xs rows
mutual
theorem ItemAtP.mono {ok ok' : Nat → Prop} {w w' : World} (h1 : ∀ b, ok b → ok' b) (h2 : ∀ p : Addr, ok p.block → w'.cell? p = w.cell? p) : ∀ (x : Raw) (cs : List Value), ItemAtP ok w x cs → ItemAtP ok' w' x cs
  | .mk b bs xs, cs, h => by
    rw [ItemAtP] at h ⊢
    obtain ⟨vb, A, c, rows, g1, g2, g3, g4, g5, g6, g7⟩ := h
    exact ⟨vb, A, c, rows, g1, g2.mono h1 h2, g3, g4, g5, g6.mono h1 h2, ItemsAtP.mono h1 h2 xs rows g7⟩
theorem ItemsAtP.mono {ok ok' : Nat → Prop} {w w' : World} (h1 : ∀ b, ok b → ok' b) (h2 : ∀ p : Addr, ok p.block → w'.cell? p = w.cell? p) : ∀ (xs : List Raw) (rows : List (List Value)), ItemsAtP ok w xs rows → ItemsAtP ok' w' xs rows
  | [], rows, h => by rw [ItemsAtP] at h ⊢; exact h
  | x :: xs, rows, h => by
    rw [ItemsAtP] at h ⊢
    obtain ⟨r, rest, g1, g2, g3⟩ := h
    exact ⟨r, rest, g1, ItemAtP.mono h1 h2 x r g2, ItemsAtP.mono h1 h2 xs rest g3⟩
end
theorem ItemAt.eq (w : World) (b : Bool) (bs : List UInt8) (xs : List Raw) (cs : List Value) : ItemAt w (.mk b bs xs) cs = ∃ vb A c rows, cs = [.bool b, vb, .slice A xs.length c] ∧ IsB w vb bs ∧ xs.length ≤ c ∧ c ≤ maxLen ∧ (A = none → xs.length = 0 ∧ c = 0) ∧ Rd w w.heap.size A rows.flatten ∧ ItemsAt w xs rows := by
  unfold ItemAt
  rw [ItemAtP]
  rfl
theorem ItemsAt.nil_eq (w : World) (rows : List (List Value)) : ItemsAt w [] rows = (rows = []) := by unfold ItemsAt; rw [ItemsAtP]
theorem ItemsAt.cons_eq (w : World) (x : Raw) (xs : List Raw) (rows : List (List Value)) : ItemsAt w (x :: xs) rows = ∃ r rest, rows = r :: rest ∧ ItemAt w x r ∧ ItemsAt w xs rest := by
  unfold ItemsAt
  rw [ItemsAtP]
  rfl
theorem ItemAt.gr {w w' : World} (hg : Gr w w') (x : Raw) (cs : List Value) (h : ItemAt w x cs) : ItemAt w' x cs :=
  ItemAtP.mono (fun b hb => Nat.lt_of_lt_of_le hb hg.size) (fun p hp => hg.cell hp) x cs h
theorem ItemsAt.gr {w w' : World} (hg : Gr w w') (xs : List Raw) (rows : List (List Value)) (h : ItemsAt w xs rows) : ItemsAt w' xs rows :=
  ItemsAtP.mono (fun b hb => Nat.lt_of_lt_of_le hb hg.size) (fun p hp => hg.cell hp) xs rows h
theorem ItemsAtP.append {ok : Nat → Prop} {w : World} : ∀ (xs ys : List Raw) (rows rest : List (List Value)), ItemsAtP ok w xs rows → ItemsAtP ok w ys rest → ItemsAtP ok w (xs ++ ys) (rows ++ rest)
  | [], ys, rows, rest, h, h2 => by rw [ItemsAtP] at h; subst h; exact h2
  | x :: xs, ys, rows, rest, h, h2 => by
    rw [ItemsAtP] at h
    obtain ⟨r, rs, rfl, h3, h4⟩ := h
    rw [List.cons_append, ItemsAtP]
    exact ⟨r, rs ++ rest, rfl, h3, ItemsAtP.append xs ys rs rest h4 h2⟩
theorem ItemAtP.len {ok : Nat → Prop} {w : World} {x : Raw} {cs : List Value} (h : ItemAtP ok w x cs) : ∃ b A1 n1 c1 A n c, cs = [.bool b, .slice A1 n1 c1, .slice A n c] := by
  cases x
  rw [ItemAtP] at h
  obtain ⟨vb, A, c, rows, h1, ⟨A1, c1, rfl, _⟩, _⟩ := h
  exact ⟨_, _, _, _, _, _, _, h1⟩
theorem ItemAt.len {w : World} {x : Raw} {cs : List Value} (h : ItemAt w x cs) : ∃ b vb A n c, cs = [.bool b, vb, .slice A n c] := by
  cases x
  rw [ItemAt.eq] at h
  obtain ⟨vb, A, c, rows, h1, _⟩ := h
  exact ⟨_, _, _, _, _, h1⟩
theorem ItemsAt.length {w : World} : ∀ (xs : List Raw) (rows : List (List Value)), ItemsAt w xs rows → rows.length = xs.length
  | [], rows, h => by rw [ItemsAt.nil_eq] at h; rw [h]; rfl
  | x :: xs, rows, h => by
    rw [ItemsAt.cons_eq] at h
    obtain ⟨r, rest, rfl, _, h3⟩ := h
    simp [ItemsAt.length xs rest h3]
theorem ItemsAt.get {w : World} : ∀ (xs : List Raw) (rows : List (List Value)), ItemsAt w xs rows → ∀ k (hk : k < xs.length), ∃ cs, ItemAt w xs[k] cs ∧ ∀ j u, cs[j]? = some u → rows.flatten[k * 3 + j]? = some u
  | [], rows, _, k, hk => by simp at hk
  | x :: xs, rows, h, k, hk => by
    rw [ItemsAt.cons_eq] at h
    obtain ⟨r, rest, rfl, h2, h3⟩ := h
    obtain ⟨b, vb, A, n, c, hr⟩ := h2.len
    have hr3 : r.length = 3 := by rw [hr]; rfl
    cases k with
    | zero =>
      refine ⟨r, h2, fun j u hu => ?_⟩
      have hj := (List.getElem?_eq_some_iff.1 hu).1
      rw [Nat.zero_mul, Nat.zero_add, List.flatten_cons, List.getElem?_append_left hj]
      exact hu
    | succ k =>
      obtain ⟨cs, h4, h5⟩ := ItemsAt.get xs rest h3 k (by simpa using hk)
      refine ⟨cs, h4, fun j u hu => ?_⟩
      rw [List.flatten_cons, List.getElem?_append_right (by omega), hr3, ← h5 j u hu]
      congr 1
      omega
def IsItem (w : World) (v : Value) (x : Raw) : Prop := ∃ cs, v = .agg cs.toArray ∧ ItemAt w x cs
def IsItems (w : World) (v : Value) (xs : List Raw) : Prop := ∃ A c rows, v = .slice A xs.length c ∧ xs.length ≤ c ∧ c ≤ maxLen ∧ (A = none → xs.length = 0 ∧ c = 0) ∧ Rd w w.heap.size A rows.flatten ∧ ItemsAt w xs rows
theorem IsItem.gr {w w' : World} {v : Value} {x : Raw} (h : IsItem w v x) (hg : Gr w w') : IsItem w' v x := by
  obtain ⟨cs, h1, h2⟩ := h
  exact ⟨cs, h1, h2.gr hg⟩
theorem IsItems.gr {w w' : World} {v : Value} {xs : List Raw} (h : IsItems w v xs) (hg : Gr w w') : IsItems w' v xs := by
  obtain ⟨A, c, rows, h1, h2, h3, h4, h5, h6⟩ := h
  exact ⟨A, c, rows, h1, h2, h3, h4, h5.gr hg, h6.gr hg⟩
theorem isItem_form {w : World} {v : Value} {b : Bool} {bs : List UInt8} {xs : List Raw} (h : IsItem w v (.mk b bs xs)) : ∃ vb vl, v = .agg #[.bool b, vb, vl] ∧ IsB w vb bs ∧ IsItems w vl xs := by
  obtain ⟨cs, rfl, h⟩ := h
  rw [ItemAt.eq] at h
  obtain ⟨vb, A, c, rows, rfl, h2, h3, h4, h5, h6, h7⟩ := h
  exact ⟨vb, _, rfl, h2, A, c, rows, rfl, h3, h4, h5, h6, h7⟩
theorem IsItems.nil (w : World) : IsItems w (.slice none 0 0) [] := ⟨none, 0, [], rfl, Nat.le_refl _, by simp [maxLen], fun _ => ⟨rfl, rfl⟩, Rd.nil, by rw [ItemsAt.nil_eq]⟩
theorem items_at {w : World} {A : Option Addr} {xs : List Raw} {rows : List (List Value)} (hr : Rd w w.heap.size A rows.flatten) (h : ItemsAt w xs rows) (k : Nat) (hk : k < xs.length) :
    ∃ bl o f vb vl, A = some ⟨bl, o, none⟩ ∧ bl < w.heap.size ∧ w.cell? ⟨bl, o + k * 3, none⟩ = some (.bool f) ∧ w.cell? ⟨bl, o + k * 3 + 1, none⟩ = some vb ∧ w.cell? ⟨bl, o + k * 3 + 2, none⟩ = some vl ∧
      IsItem w (.agg #[.bool f, vb, vl]) xs[k] ∧ (∃ A' n c, vb = .slice A' n c) ∧ (∃ A' n c, vl = .slice A' n c) := by
  obtain ⟨cs, h1, h2⟩ := ItemsAt.get xs rows h k hk
  obtain ⟨f, vb, A', n, c, rfl⟩ := h1.len
  have hvb : ∃ A' n c, vb = .slice A' n c := by
    have h3 := h1
    generalize xs[k] = x at h3
    obtain ⟨b', bs', xs'⟩ := x
    rw [ItemAt.eq] at h3
    obtain ⟨vb', A2, c2, rows2, h4, h5, _⟩ := h3
    simp only [List.cons.injEq] at h4
    obtain ⟨A3, c3, h6, _⟩ := h5
    exact ⟨_, _, _, h4.2.1.trans h6⟩
  have hne : rows.flatten ≠ [] := fun e => by
    have := h2 0 _ rfl
    rw [e] at this
    simp at this
  obtain ⟨bl, o, rfl, hb, hc⟩ := hr hne
  exact ⟨bl, o, f, vb, .slice A' n c, rfl, hb, hc _ _ (h2 0 _ rfl), hc _ _ (h2 1 _ rfl), hc _ _ (h2 2 _ rfl), ⟨_, rfl, h1⟩, hvb, A', n, c, rfl⟩
@[go_sem] theorem as_bytes (v : Value) (w : World) : (Instr.typeAssert (.iface 23 v) 145 23 true).run Try.prog w = .ok (.tuple #[v, .bool true]) w := by kernel_rfl
@[go_sem] theorem as_bytes_no (v : Value) (w : World) : (Instr.typeAssert (.iface 39 v) 145 23 true).run Try.prog w = .ok (.tuple #[.slice none 0 0, .bool false]) w := by kernel_rfl
@[go_sem] theorem as_items (v : Value) (w : World) : (Instr.typeAssert (.iface 39 v) 145 39 true).run Try.prog w = .ok (.tuple #[v, .bool true]) w := by kernel_rfl
def IsOf (w : World) (v : Value) : Raw → Prop
  | .mk false bs _ => ∃ vb, v = .iface 23 vb ∧ IsB w vb bs
  | .mk true _ xs => ∃ vl, v = .iface 39 vl ∧ IsItems w vl xs
theorem IsOf.gr {w w' : World} {v : Value} {x : Raw} (h : IsOf w v x) (hg : Gr w w') : IsOf w' v x := by
  obtain ⟨b, bs, xs⟩ := x
  cases b
  · obtain ⟨vb, h1, h2⟩ := h
    exact ⟨vb, h1, h2.gr hg⟩
  · obtain ⟨vb, h1, h2⟩ := h
    exact ⟨vb, h1, h2.gr hg⟩
set_option maxHeartbeats 400000 in
theorem rlp_of (v : Value) (x : Raw) (w : World) (h : IsItem w v x) : Calls Try.prog 76 #[v] w (Ret (fun v w' => IsOf w' v x) w) := by
  obtain ⟨b, bs, xs⟩ := x
  obtain ⟨vb, vl, rfl, h1, h2⟩ := isItem_form h
  have H1 := Lib.hid h1
  have H2 := Lib.hid h2
  clear h h1 h2
  cases b with
  | false =>
    go_enter Try.func76, Try.ntmps76
    go_wp2
    refine bodyPost_ret (results_tmp rfl _ _ _) rfl ?_
    exact ⟨_, rfl, gr_alloc w _, _, rfl, H1.out.gr (gr_alloc w _)⟩
  | true =>
    go_enter Try.func76, Try.ntmps76
    go_wp2
    refine bodyPost_ret (results_tmp rfl _ _ _) rfl ?_
    exact ⟨_, rfl, gr_alloc w _, _, rfl, H2.out.gr (gr_alloc w _)⟩
def ItemIn (ok : Nat → Prop) (w : World) (v : Value) (x : Raw) : Prop := ∃ cs, v = .agg cs.toArray ∧ ItemAtP ok w x cs
theorem ItemIn.mono {ok ok' : Nat → Prop} {w w' : World} {v : Value} {x : Raw} (h : ItemIn ok w v x) (h1 : ∀ b, ok b → ok' b) (h2 : ∀ p : Addr, ok p.block → w'.cell? p = w.cell? p) : ItemIn ok' w' v x := by
  obtain ⟨cs, e, h⟩ := h
  exact ⟨cs, e, ItemAtP.mono h1 h2 x cs h⟩
theorem ItemIn.is {ok : Nat → Prop} {w : World} {v : Value} {x : Raw} (h : ItemIn ok w v x) (h1 : ∀ b, ok b → b < w.heap.size) : IsItem w v x := h.mono h1 fun _ _ => rfl
end Go.Proofs.Ytmlajcbabimkjaa
/-
  Items, slots, changes, diffs as the abstract machine reads them; what the functions of rlp and of the reference yield of them.
  Conditions: none.
-/
namespace Go.Proofs.Ytmlajcbabimkjaa
set_option linter.unusedVariables false
open Go.RowKit Mono Rlp
namespace E
mutual
def dItem : Raw → D
  | .mk b bs xs => .tup [.v (.bool b), .bs bs, .sl 3 (dItems xs)]
def dItems : List Raw → List D
  | [] => []
  | x :: xs => dItem x :: dItems xs
end
theorem dItems_map : ∀ xs : List Raw, dItems xs = xs.map dItem
  | [] => rfl
  | x :: xs => by rw [dItems, List.map_cons, dItems_map xs]
theorem dItems_length (xs : List Raw) : (dItems xs).length = xs.length := by rw [dItems_map, List.length_map]
section
variable {ok : Nat → Prop} {w : World}
theorem dItem_size (x : Raw) : (dItem x).size = 3 := by
  obtain ⟨b, bs, xs⟩ := x
  rw [dItem]
  rfl
theorem dItem_agg (x : Raw) : (dItem x).agg = true := by
  obtain ⟨b, bs, xs⟩ := x
  rw [dItem]
  rfl
mutual
theorem reads_item : ∀ (x : Raw) (cs : List Value), Reads ok w (dItem x) cs ↔ ItemAtP ok w x cs
  | .mk b bs xs, cs => by
    rw [dItem, Reads, ItemAtP, ReadsL]
    constructor
    · rintro ⟨c1, c2, rfl, h1, h2⟩
      rw [ReadsL] at h2
      obtain ⟨c3, c4, rfl, h3, h4⟩ := h2
      rw [ReadsL] at h4
      obtain ⟨c5, c6, rfl, h5, h6⟩ := h4
      rw [ReadsL] at h6
      subst h6
      rw [Reads] at h1
      rw [Reads] at h3
      rw [Reads] at h5
      obtain ⟨u, rfl, h3⟩ := h3
      obtain ⟨A, c, rows, rfl, g2, g3, g4, g5, g6⟩ := h5
      rw [h1.2]
      rw [dItems_length] at *
      exact ⟨u, A, c, rows, rfl, h3, g2, g3, g4, g5, (reads_items xs rows).1 g6⟩
    · rintro ⟨vb, A, c, rows, rfl, g1, g2, g3, g4, g5, g6⟩
      refine ⟨[.bool b], [vb, .slice A xs.length c], rfl, by rw [Reads]; exact ⟨rfl, rfl⟩, ?_⟩
      rw [ReadsL]
      refine ⟨[vb], [.slice A xs.length c], rfl, by rw [Reads]; exact ⟨vb, rfl, g1⟩, ?_⟩
      rw [ReadsL]
      refine ⟨[.slice A xs.length c], [], rfl, ?_, by rw [ReadsL]⟩
      rw [Reads, dItems_length]
      exact ⟨A, c, rows, rfl, g2, g3, g4, g5, (reads_items xs rows).2 g6⟩
theorem reads_items : ∀ (xs : List Raw) (rows : List (List Value)), ReadsRows ok w 3 (dItems xs) rows ↔ ItemsAtP ok w xs rows
  | [], rows => by rw [dItems, ReadsRows, ItemsAtP]
  | x :: xs, rows => by
    rw [dItems, ReadsRows, ItemsAtP]
    constructor
    · rintro ⟨r, rest, rfl, h1, h2, h3⟩
      exact ⟨r, rest, rfl, (reads_item x r).1 h2, (reads_items xs rest).1 h3⟩
    · rintro ⟨r, rest, rfl, h2, h3⟩
      have h4 := (reads_item x r).2 h2
      exact ⟨r, rest, rfl, by rw [Reads.len _ _ h4, dItem_size], h4, (reads_items xs rest).2 h3⟩
end
theorem readV_item {x : Raw} {v : Value} : ReadV ok w (dItem x) v ↔ ItemIn ok w v x := by
  rw [readV_agg (dItem_agg x)]
  constructor
  · rintro ⟨cs, h, rfl⟩
    exact ⟨cs, rfl, (reads_item x cs).1 h⟩
  · rintro ⟨cs, rfl, h⟩
    exact ⟨cs, (reads_item x cs).2 h, rfl⟩
theorem isItem_of (hok : ∀ b, ok b → b < w.heap.size) {x : Raw} {v : Value} (h : ReadV ok w (dItem x) v) : IsItem w v x := ItemIn.is (readV_item.1 h) hok
theorem tpl2 {d e : D} {x y : Value} (h1 : ReadV ok w d x) (h2 : ReadV ok w e y) : ReadR ok w (.tpl [d, e]) (.tuple #[x, y]) := ⟨[x, y], rfl, x, [y], rfl, h1, y, [], rfl, h2, rfl⟩
end
/-! ### What functions yield -/
def packD (o : Option (List UInt8)) : R := match o with
  | some b => .tpl [.bs b, .v (.int .i64 0)]
  | none => .tpl [.v (.slice none 0 0), .v (.int .i64 3)]
theorem more_new {ok : Nat → Prop} {w w' : World} (b : Nat) (h : w.heap.size ≤ b ∧ b < w'.heap.size) : (ok b ∨ w.heap.size ≤ b) ∧ b < w'.heap.size := ⟨.inr h.1, h.2⟩
end E
end Go.Proofs.Ytmlajcbabimkjaa
/-
  rlp: a number's bytes, heads.
  Conditions: lengths are at most 2^46.
-/
namespace Go.Proofs.Ytmlajcbabimkjaa
open Go.RowKit Mono Rlp
def revd (l : List UInt8) (i : Nat) : List UInt8 := (List.range l.length).map fun k => if k < i ∨ l.length ≤ k + i then l.getD (l.length - 1 - k) 0 else l.getD k 0
theorem revd_length (l : List UInt8) (i : Nat) : (revd l i).length = l.length := by simp [revd]
theorem revd_get (l : List UInt8) (i k : Nat) (hk : k < l.length) : (revd l i)[k]? = some (if k < i ∨ l.length ≤ k + i then l.getD (l.length - 1 - k) 0 else l.getD k 0) := by
  unfold revd
  rw [List.getElem?_map, List.getElem?_range hk]
  rfl
theorem revd_zero (l : List UInt8) : revd l 0 = l := by
  apply List.ext_getElem?
  intro k
  by_cases hk : k < l.length
  · rw [revd_get l 0 k hk, if_neg (by omega)]
    simp [hk]
  · rw [List.getElem?_eq_none (by rw [revd_length]; omega), List.getElem?_eq_none (by omega)]
theorem revd_all (l : List UInt8) (i : Nat) (h : l.length ≤ 2 * i + 1) : revd l i = l.reverse := by
  apply List.ext_getElem?
  intro k
  by_cases hk : k < l.length
  · rw [revd_get l i k hk, List.getElem?_reverse hk]
    by_cases hi : k < i ∨ l.length ≤ k + i
    · rw [if_pos hi]
      simp [show l.length - 1 - k < l.length by omega]
    · rw [if_neg hi]
      have : l.length - 1 - k = k := by omega
      rw [this]
      simp [hk]
  · rw [List.getElem?_eq_none (by rw [revd_length]; omega), List.getElem?_eq_none (by simp; omega)]
theorem revd_step (l : List UInt8) (i : Nat) (h : 2 * i + 1 < l.length) : ((revd l i).set i (l.getD (l.length - 1 - i) 0)).set (l.length - 1 - i) (l.getD i 0) = revd l (i + 1) := by
  apply List.ext_getElem?
  intro k
  rw [List.getElem?_set, List.getElem?_set, List.length_set, revd_length]
  by_cases hk : k < l.length
  · rw [revd_get l (i + 1) k hk, revd_get l i k hk]
    by_cases h1 : l.length - 1 - i = k
    · rw [if_pos h1, if_pos (by omega), if_pos (by omega)]
      congr 2
      omega
    · rw [if_neg h1]
      by_cases h2 : i = k
      · subst h2
        rw [if_pos rfl, if_pos (by omega), if_pos (by omega)]
      · rw [if_neg h2]
        by_cases h3 : k < i ∨ l.length ≤ k + i
        · rw [if_pos h3, if_pos (by omega)]
        · rw [if_neg h3, if_neg (by omega)]
  · rw [List.getElem?_eq_none (l := revd l (i + 1)) (by rw [revd_length]; omega), if_neg (by omega), if_neg (by omega), List.getElem?_eq_none (by rw [revd_length]; omega)]
theorem bvs_set' (l : List UInt8) (k : Nat) (b : UInt8) : (bvs l).set k (bv b) = bvs (l.set k b) := by simp [bvs, List.map_set]
theorem own_drew {w : World} {base e size n : Nat} {v : Value} {xs : List Value} (h : w.ownsRow base e size v n xs) : w.drew.ownsRow base e size v n xs := h
def RetB (R : World → Prop) (e : Ending) (w' : World) : Prop := e = .returned (.tuple #[]) ∧ R w'
set_option maxHeartbeats 1000000 in
theorem reverse_bytes (base : Nat) (v : Value) (l : List UInt8) (w : World) (h : OwnB w base v l) (hl : l.length ≤ 1073741824) :
    Calls Try.prog 107 #[v] w (RetB fun w' => OwnB w' base v l.reverse ∧ Below base w w') := by
  obtain ⟨A, c, rfl, hc1, hc2⟩ := own_form h
  unfold maxLen at hc2
  rcases Nat.eq_zero_or_pos l.length with h0 | h0
  · obtain rfl := List.eq_nil_of_length_eq_zero h0
    have H := Lib.hid h
    clear h h0
    go_enter Try.func107, Try.ntmps107
    go_wp2
    go_loopw [2, 3] (fun i j wr => i = .int .i64 0 ∧ j = .int .i64 (-1) ∧ wr = w) (fun _ _ _ => 0)
    case atStart => exact ⟨rfl, rfl, rfl⟩
    case round =>
      obtain ⟨rfl, rfl, rfl⟩ := hrel
      go_wp2_with fail
      exact bodyPost_end (results_none rfl _ _ _) rfl ⟨rfl, H.out, Below.refl _ _⟩
  · obtain ⟨g, rfl, hgb, hgl⟩ := own_some h h0
    have H := Lib.hid h
    clear h
    go_enter Try.func107, Try.ntmps107
    go_wp2
    go_loopw [2, 3] (fun i j wr => ∃ k : Nat, 2 * k ≤ l.length ∧ i = .int .i64 k ∧ j = .int .i64 ((l.length : Int) - 1 - (k : Int)) ∧ wr.ownsRow base 5 1 (.slice (some ⟨g, 0, none⟩) l.length c) l.length (bvs (revd l k)) ∧ Below base w wr) (fun i _ _ => l.length - (intOf i).toNat)
    case atStart => exact ⟨0, by omega, rfl, by simp, by rw [revd_zero]; exact H.out, Below.refl _ _⟩
    case round =>
      clear H
      obtain ⟨k, hk, rfl, rfl, hown, hb⟩ := hrel
      have HO := Lib.hid hown
      have HB := Lib.hid hb
      clear hown hb
      by_cases h1 : 2 * k + 1 < l.length
      · have e1 := HO.out.cellAt k (by omega)
        have e2 := HO.out.cellAt (l.length - 1 - k) (by omega)
        have e3 := HO.out.frozenAt k
        have e4 := HO.out.frozenAt (l.length - 1 - k)
        have g1 : (bvs (revd l k))[k]? = some (.int .u8 ((l.getD k 0).toNat : Int)) := by
          simp only [bvs, List.getElem?_map]
          rw [revd_get l k k (by omega), if_neg (by omega)]
          rfl
        have g2 : (bvs (revd l k))[l.length - 1 - k]? = some (.int .u8 ((l.getD (l.length - 1 - k) 0).toNat : Int)) := by
          simp only [bvs, List.getElem?_map]
          rw [revd_get l k _ (by omega), if_neg (by omega)]
          rfl
        rw [g1] at e1
        rw [g2] at e2
        clear g1 g2
        have hne : k ≠ l.length - 1 - k := by omega
        go_wp2
        go_region
        go_wp2
        go_roundw
        case rel =>
          have hs := (HO.out.stored k (bv (l.getD (l.length - 1 - k) 0)))
          have hs2 := hs.1.stored (l.length - 1 - k) (bv (l.getD k 0))
          rw [bvs_set', bvs_set', revd_step l k h1] at hs2
          refine ⟨k + 1, by omega, by go_num, by congr 1; omega, own_drew hs2.1, ?_⟩
          exact ((HB.out.setCell (by dsimp only; omega) _).setCell (by dsimp only; omega) _).drew
        case measure => simp [intOf]; omega
      · have h2 : l.length ≤ 2 * k + 1 := by omega
        clear h1
        have hr := Lib.hid (revd_all l k h2)
        go_wp2_with fail
        refine bodyPost_end (results_none rfl _ _ _) rfl ⟨rfl, ?_, HB.out⟩
        unfold OwnB
        rw [List.length_reverse, ← hr.out]
        exact HO.out
theorem bv_nat (m : Nat) : Value.int .u8 ((m : Int) % 256) = bv (UInt8.ofNat m) := by
  unfold bv
  rw [UInt8.toNat_ofNat']
  rfl
theorem bv_small (m : Nat) (h : m < 256) : Value.int .u8 (m : Int) = bv (UInt8.ofNat m) := by
  unfold bv
  rw [UInt8.toNat_ofNat']
  congr 2
  omega
set_option maxHeartbeats 1000000 in
theorem rlp_big (n : Nat) (w : World) (hn : n ≤ 9223372036854775807) : Calls Try.prog 75 #[.int .i64 n] w (Ret (fun v w' => OwnB w' w.heap.size v (be n)) w) := by
  have hlen := le_length 8 n (by omega)
  go_enter Try.func75, Try.ntmps75
  go_wp2
  go_loopw [0, 3] (fun i v wr => ∃ (m : Nat) (acc : List UInt8), m ≤ n ∧ i = .int .i64 m ∧ acc ++ le m = le n ∧ acc.length ≤ 8 ∧ OwnB wr w.heap.size v acc ∧ Below w.heap.size w wr) (fun i _ _ => (intOf i).toNat)
  case atStart => exact ⟨n, [], Nat.le_refl _, rfl, rfl, by simp, OwnB.nil _ _, Below.refl _ _⟩
  case round =>
    obtain ⟨m, acc, hm, rfl, hacc, hal, hown, hb⟩ := hrel
    obtain ⟨A', c', rfl, hc1, hc2⟩ := own_form hown
    have hbs := hb.size
    have HO := Lib.hid hown
    have HB := Lib.hid hb
    have HA := Lib.hid hacc
    clear hown hb hacc
    by_cases h1 : 0 < m
    · have hle := Lib.hid (le_pos m h1)
      have hal2 : acc.length + 1 ≤ 8 := by
        have h2 := congrArg List.length HA.out
        rw [hle.out, List.length_append, List.length_cons] at h2
        omega
      go_wp2_with (at_builtin; refine wpL_append (.tmp 8) (.tmp 11) 23 slT_bytes (base := w.heap.size) _ acc.length (bvs acc) _ 1 1 (wr.heap.size + 1) [.int .u8 ((m : Int) % 256)] rfl rfl rfl rfl (HO.out.alloc _) (Rd.new _ _ _) rfl (by simp [Value.oneCell']) (by simp only [maxLen]; omega) (by omega) (by simp; omega) ?_; intro A2 c2 w2 hown2 hg2 _)
      go_roundw
      case rel =>
        refine ⟨m / 256, acc ++ [UInt8.ofNat m], by omega, by go_num, ?_, by simp; omega, ?_, (HB.out.alloc hbs _).grown hg2 (by simp; omega) fun j hj => own_block_ge HO.out j hj⟩
        · rw [List.append_assoc, List.singleton_append, ← hle.out, HA.out]
        · rw [bv_nat] at hown2
          refine ownB_of hown2 ?_
          rw [bvs_append]
          rfl
      case measure => simp [intOf]; omega
    · have h0 : m = 0 := by omega
      have HE : Hid (acc.reverse = be n) := by
        refine Lib.hid ?_
        have := HA.out
        rw [h0, le_zero, List.append_nil] at this
        rw [this]
        rfl
      clear HA hlen
      go_wp2_with fail
      refine (reverse_bytes w.heap.size _ acc _ HO.out (by omega)).mono ?_
      rintro e w2 ⟨rfl, hown2, hb2⟩
      have HO2 := Lib.hid hown2
      have HB2 := Lib.hid (HB.out.trans hb2)
      clear hown2 hb2
      go_wp2_with fail
      refine bodyPost_ret (results_tmp rfl _ _ _) rfl ?_
      refine ⟨_, rfl, HB2.out, ?_⟩
      rw [← HE.out]
      exact HO2.out
set_option maxHeartbeats 1000000 in
theorem clone_bytes (v : Value) (l : List UInt8) (w : World) (h : IsB w v l) (hl : l.length ≤ 140737488355328) : Calls Try.prog 71 #[v] w (Ret (fun v w' => OwnB w' w.heap.size v l) w) := by
  obtain ⟨A, c, rfl, hc1, hc2, hr⟩ := h
  cases A with
  | none =>
    have hl0 : l = [] := by
      by_cases hn : bvs l = []
      · simpa [bvs] using hn
      · obtain ⟨b, o, e, _⟩ := hr hn
        cases e
    subst hl0
    clear hr
    have hq := Lib.run_eql_slice_nil w 23 5 none 0 c 0 0 Try.underlying23
    go_enter Try.func71, Try.ntmps71
    go_wp2
    refine bodyPost_ret (results_tmp rfl _ _ _) rfl ?_
    exact ⟨_, rfl, Gr.refl _, OwnB.nil _ _⟩
  | some a =>
    have HR := Lib.hid hr
    clear hr
    have hq := Lib.run_eql_slice_nil w 23 5 (some a) l.length c 0 0 Try.underlying23
    go_enter Try.func71, Try.ntmps71
    go_wp2_with (at_builtin; refine wpL_append (.tmp 5) (.tmp 6) 23 slT_bytes (base := w.heap.size) _ 0 [] _ l.length c w.heap.size (bvs l) rfl rfl rfl rfl (own_lit w #[] 5 1 0 w.heap.size w.heap.size rfl (Nat.le_refl _) (by simp [maxLen]) rfl) (HR.out.below ((Below.refl _ _).alloc (Nat.le_refl _) _)) (by simp [bvs]) (bvs_one _) (by simp only [maxLen]; omega) (by omega) (by simp) ?_; intro A2 c2 w2 hown2 hg2 _)
    refine bodyPost_ret (results_tmp rfl _ _ _) rfl ?_
    refine ⟨_, rfl, ((Below.refl _ _).alloc (Nat.le_refl _) _).grown hg2 (by simp) (fun j hj => by cases hj; exact Nat.le_refl _), ?_⟩
    rw [Nat.zero_add, List.nil_append] at hown2
    exact hown2
set_option maxHeartbeats 1000000 in
theorem rlp_size (n : Nat) (w : World) (hn : n ≤ 4611686018427387904) : Calls Try.prog 108 #[.int .i64 n] w (Ret (eqV (.int .i64 (szB n))) w) := by
  have hl := be_length 8 n (by omega)
  by_cases h1 : n < 56
  · have hs := Lib.hid (show szB n = 1 + n from if_pos h1)
    go_enter Try.func108, Try.ntmps108
    go_wp2_with fail
    refine bodyPost_ret (results_tmp rfl _ _ _) rfl ?_
    refine ⟨_, rfl, Gr.refl _, ?_⟩
    unfold eqV
    rw [hs.out]
    simp
  · have hs := Lib.hid (show szB n = 1 + (be n).length + n from if_neg h1)
    have h2 : 55 < n := by omega
    clear h1
    go_enter Try.func108, Try.ntmps108
    go_wp2_with fail
    refine (rlp_big n _ (by omega)).mono ?_
    rintro e w1 ⟨v, rfl, hg1, hown⟩
    obtain ⟨A, c, rfl, hc1, hc2⟩ := own_form hown
    clear hown
    unfold maxLen at hc2
    go_wp2_with fail
    refine bodyPost_ret (results_tmp rfl _ _ _) rfl ?_
    refine ⟨_, rfl, hg1, ?_⟩
    unfold eqV
    rw [hs.out]
    simp
set_option maxHeartbeats 1000000 in
theorem rlp_size_any (n : Nat) (w : World) (hn : n ≤ 9223372036854775807) (h2 : 55 < n) : Calls Try.prog 108 #[.int .i64 n] w (Ret (fun v _ => ∃ z : Int, v = .int .i64 z) w) := by
  have hl := be_length 8 n (by omega)
  go_enter Try.func108, Try.ntmps108
  go_wp2_with fail
  refine (rlp_big n _ (by omega)).mono ?_
  rintro e w1 ⟨v, rfl, hg1, hown⟩
  obtain ⟨A, c, rfl, hc1, hc2⟩ := own_form hown
  clear hown
  unfold maxLen at hc2
  go_wp2_with fail
  refine bodyPost_ret (results_tmp rfl _ _ _) rfl ?_
  exact ⟨_, rfl, hg1, _, rfl⟩
set_option maxHeartbeats 1000000 in
theorem rlp_headed (base : Nat) (v : Value) (l : List UInt8) (w : World) (h : IsB w v l) (hl : l.length ≤ 70368744177664) (hb : base ≤ 192) : Calls Try.prog 109 #[.int .i64 base, v] w (Ret (fun v w' => OwnB w' w.heap.size v (head l.length base ++ l)) w) := by
  obtain ⟨A, c, rfl, hc1, hc2, hr⟩ := h
  have HR := Lib.hid hr
  clear hr
  unfold maxLen at hc2
  have hbl := be_length 8 l.length (by omega)
  by_cases h1 : l.length < 56
  · have hs := Lib.hid (show head l.length base = [UInt8.ofNat (base + l.length)] from if_pos h1)
    go_enter Try.func109, Try.ntmps109
    go_wp2_with (at_builtin; refine wpL_append (.tmp 15) (.tmp 16) 23 slT_bytes (base := w.heap.size) _ 1 [.int .u8 (((base : Int) + (l.length : Int)))] _ l.length c w.heap.size (bvs l) rfl rfl rfl rfl (own_lit w #[.int .u8 (((base : Int) + (l.length : Int)))] 5 1 1 w.heap.size w.heap.size rfl (Nat.le_refl _) (by simp [maxLen]) rfl) (HR.out.below ((Below.refl _ _).alloc (Nat.le_refl _) _)) (by simp [bvs]) (bvs_one _) (by simp only [maxLen]; omega) (by omega) (by simp) ?_; intro A2 c2 w2 hown2 hg2 _)
    refine bodyPost_ret (results_tmp rfl _ _ _) rfl ?_
    refine ⟨_, rfl, ((Below.refl _ _).alloc (Nat.le_refl _) _).grown hg2 (by simp) (fun j hj => by cases hj; exact Nat.le_refl _), ?_⟩
    refine ownB_of hown2 ?_
    rw [hs.out, ← Int.natCast_add, bv_small _ (by omega)]
    rfl
  · have hs := Lib.hid (show head l.length base = UInt8.ofNat (base + 55 + (be l.length).length) :: be l.length from if_neg h1)
    have h2 : 55 < l.length := by omega
    clear h1
    go_enter Try.func109, Try.ntmps109
    go_wp2_with fail
    refine (rlp_big l.length _ (by omega)).mono ?_
    rintro e w1 ⟨v, rfl, hg1, hown⟩
    obtain ⟨A1, c1, rfl, hd1, hd2⟩ := own_form hown
    have HO := Lib.hid hown
    have HG := Lib.hid hg1
    have hz1 := hg1.size
    clear hown hg1
    unfold maxLen at hd2
    have HRB := Lib.hid (OwnB.isB HO.out)
    obtain ⟨_, _, he, _, _, hrb⟩ := OwnB.isB HO.out
    injection he with he1 _ he2
    subst he1 he2
    have HB := Lib.hid hrb
    clear hrb HRB
    go_wp2_with first
      | (at_builtin; refine wpL_append (.tmp 26) (.tmp 27) 23 slT_bytes (base := w.heap.size) _ 1 [.int .u8 (((base : Int) + 55 + ((be l.length).length : Int)))] _ (be l.length).length c1 w1.heap.size (bvs (be l.length)) rfl rfl rfl rfl (own_lit w1 #[.int .u8 (((base : Int) + 55 + ((be l.length).length : Int)))] 5 1 1 w1.heap.size w.heap.size rfl hz1 (by simp [maxLen]) rfl) (HB.out.below ((Below.refl _ _).alloc (Nat.le_refl _) _)) (by simp [bvs]) (bvs_one _) (by simp only [maxLen]; omega) (by omega) (by simp; omega) ?_; intro A2 c2 w2 hown2 hg2 _; have HG2 := Lib.hid ((HG.out.alloc hz1 _).grown hg2 (by simp; omega) (fun j hj => by cases hj; exact hz1)); have HO2 := Lib.hid hown2; clear hown2 hg2)
      | (at_builtin; refine wpL_append (.tmp 28) (.tmp 29) 23 slT_bytes (base := w.heap.size) _ _ _ _ l.length c w.heap.size (bvs l) rfl rfl rfl rfl HO2.out (HR.out.below HG2.out) (by simp [bvs]) (bvs_one _) (by simp only [maxLen]; omega) (by omega) HG2.out.size ?_; intro A3 c3 w3 hown3 hg3 _)
    refine bodyPost_ret (results_tmp rfl _ _ _) rfl ?_
    refine ⟨_, rfl, HG2.out.grown hg3 HG2.out.size fun j hj => own_block_ge HO2.out j hj, ?_⟩
    refine ownB_of hown3 ?_
    have e1 : ((base : Int) + 55 + ((be l.length).length : Int)) = ((base + 55 + (be l.length).length : Nat) : Int) := by simp
    rw [hs.out, e1, bv_small _ (by omega)]
    simp [bvs]
end Go.Proofs.Ytmlajcbabimkjaa
/-
  Words: variables of words, slices of them.
  Conditions: none.
-/
namespace Go.Proofs.Ytmlajcbabimkjaa
set_option linter.unusedVariables false
open Go.RowKit Mono Rlp
end Go.Proofs.Ytmlajcbabimkjaa
/-
  rlp: how an item is measured.
  Conditions: none.
-/
namespace Go.Proofs.Ytmlajcbabimkjaa
open Go.RowKit Mono Rlp
theorem szB_le (n : Nat) (h : n ≤ most) : szB n ≤ most + 9 := by
  have := be_length 8 n (by simp only [most] at h; omega)
  unfold szB
  split <;> omega
theorem szE_le (bs : List UInt8) (h : bs.length ≤ most) : szE bs ≤ most + 9 := by
  unfold szE
  split
  · simp only [most]; omega
  · exact szB_le _ h
theorem measL_le : ∀ (xs : List Raw) (d n k : Nat), measL xs d n = some k → n ≤ most → k ≤ most
  | [], d, n, k, h, hn => by rw [measL] at h; rw [← Option.some.inj h]; exact hn
  | x :: xs, d, n, k, h, hn => by
    rw [measL] at h
    cases hx : meas x d with
    | none => rw [hx] at h; cases h
    | some j =>
      rw [hx] at h
      dsimp only at h
      split at h
      · cases h
      · exact measL_le xs d _ k h (by omega)
theorem meas_le : ∀ (r : Raw) (d k : Nat), meas r d = some k → k ≤ most + 9
  | .mk false bs _, d, k, h => by
    rw [meas] at h
    split at h
    · rw [← Option.some.inj h]; exact szE_le bs (by assumption)
    · cases h
  | .mk true _ xs, d, k, h => by
    rw [meas] at h
    split at h
    · cases h
    · cases hm : measL xs (d + 1) 0 with
      | none => rw [hm] at h; cases h
      | some j =>
        rw [hm] at h
        rw [← Option.some.inj h]
        exact szB_le _ (measL_le xs _ 0 j hm (by simp [most]))
def MeasV (r : Raw) (d : Nat) : VP := fun v _ => match meas r d with
  | some k => v = .tuple #[.int .i64 (k : Int), .bool true]
  | none => ∃ z : Int, v = .tuple #[.int .i64 z, .bool false]
theorem measV_some {r : Raw} {d k : Nat} {v : Value} {w : World} (h : meas r d = some k) (hv : v = .tuple #[.int .i64 (k : Int), .bool true]) : MeasV r d v w := by unfold MeasV; rw [h]; exact hv
theorem measV_none {r : Raw} {d : Nat} {v : Value} {w : World} (h : meas r d = none) (z : Int) (hv : v = .tuple #[.int .i64 z, .bool false]) : MeasV r d v w := by unfold MeasV; rw [h]; exact ⟨z, hv⟩
set_option maxHeartbeats 1000000 in
set_option maxRecDepth 20000 in
theorem meas_bytes (d : Nat) (v : Value) (bs : List UInt8) (w : World) (hv : IsB w v bs) (xs : List Raw) : Calls Try.prog 77 #[.iface 23 v, .int .i64 d] w (Ret (MeasV (.mk false bs xs) d) w) := by
  obtain ⟨A, c, rfl, hc1, hc2, hr⟩ := hv
  have HR := Lib.hid hr
  unfold maxLen at hc2
  clear hr
  by_cases h1 : bs.length = 1
  · obtain ⟨b, rfl⟩ := List.length_eq_one_iff.1 h1
    obtain ⟨bl, o, rfl, hbl, hcell⟩ := HR.out (by simp [bvs])
    have e1 := hcell 0 (bv b) rfl
    rw [Nat.add_zero] at e1
    unfold bv at e1
    clear hcell h1
    have hbl2 := bv_lt b
    simp only [List.length_singleton] at hc1 ⊢
    by_cases h2 : b < 128
    · have h3 : b.toNat < 128 := UInt8.lt_iff_toNat_lt.1 h2
      have HM := Lib.hid (show meas (.mk false [b] xs) d = some 1 by rw [meas, if_pos (by simp [most]), szE, if_pos ⟨rfl, h2⟩])
      clear h2
      go_enter Try.func77, Try.ntmps77
      go_wp2_with fail
      refine bodyPost_ret (results_tmp2 rfl _ _ _) rfl ?_
      exact ⟨_, rfl, Gr.refl _, measV_some HM.out (by simp)⟩
    · have h3 : 128 ≤ b.toNat := Nat.not_lt.1 fun e => h2 (UInt8.lt_iff_toNat_lt.2 e)
      have HM := Lib.hid (show meas (.mk false [b] xs) d = some (szB 1) by rw [meas, if_pos (by simp [most]), szE, if_neg (fun h => h2 h.2)]; rfl)
      clear h2
      go_enter Try.func77, Try.ntmps77
      go_wp2_with fail
      refine (rlp_size 1 _ (by omega)).mono ?_
      rintro e w1 ⟨_, rfl, hg1, rfl⟩
      go_wp2_with fail
      refine bodyPost_ret (results_tmp2 rfl _ _ _) rfl ?_
      exact ⟨_, rfl, hg1, measV_some HM.out (by simp)⟩
  · have hd : ((bs.length : Int) == 1) = false := by simp; omega
    by_cases h2 : bs.length ≤ most
    · have HM := Lib.hid (show meas (.mk false bs xs) d = some (szB bs.length) by rw [meas, if_pos h2, szE, if_neg (fun h => h1 h.1)])
      simp only [most] at h2
      clear h1
      go_enter Try.func77, Try.ntmps77
      go_wp2_with fail
      refine (rlp_size bs.length _ (by omega)).mono ?_
      rintro e w1 ⟨_, rfl, hg1, rfl⟩
      go_wp2_with fail
      refine bodyPost_ret (results_tmp2 rfl _ _ _) rfl ?_
      exact ⟨_, rfl, hg1, measV_some HM.out (by simp; omega)⟩
    · have HM := Lib.hid (show meas (.mk false bs xs) d = none by rw [meas, if_neg h2])
      have h3 : 16777216 < bs.length := by simp only [most] at h2; omega
      clear h1 h2
      go_enter Try.func77, Try.ntmps77
      go_wp2_with fail
      refine (rlp_size_any bs.length _ (by omega) (by omega)).mono ?_
      rintro e w1 ⟨_, rfl, hg1, z, rfl⟩
      go_wp2_with fail
      refine bodyPost_ret (results_tmp2 rfl _ _ _) rfl ?_
      exact ⟨_, rfl, hg1, measV_none HM.out z (by simp; try omega)⟩
set_option maxHeartbeats 4000000 in
set_option maxRecDepth 20000 in
theorem rlp_measure : ∀ (m d : Nat), d + m = 32 → ∀ (r : Raw) (v : Value) (w : World), IsOf w v r → Calls Try.prog 77 #[v, .int .i64 d] w (Ret (MeasV r d) w)
  | m, d, hd, .mk false bs xs, v, w, h => by
    obtain ⟨vb, rfl, hb⟩ := h
    exact meas_bytes d vb bs w hb xs
  | 0, d, hd, .mk true bs xs, v, w, h => by
    obtain ⟨vl, rfl, A, c, rows, rfl, _, _, _, _, _⟩ := h
    obtain rfl : d = 32 := by omega
    have HM := Lib.hid (show meas (.mk true bs xs) 32 = none by rw [meas, if_pos rfl])
    go_enter Try.func77, Try.ntmps77
    go_wp2_with fail
    refine bodyPost_ret (results_tmp2 rfl _ _ _) rfl ?_
    exact ⟨_, rfl, Gr.refl _, measV_none HM.out 0 rfl⟩
  | m + 1, d, hd, .mk true bs xs, v, w, h => by
    have ih := Lib.hid (rlp_measure m (d + 1) (by omega))
    obtain ⟨vl, rfl, A, c, rows, rfl, hc1, hc2, _, hr, hi⟩ := h
    have HR := Lib.hid hr
    have HI := Lib.hid hi
    have hd2 : d < 32 := by omega
    have hdd : ((d : Int) == 32) = false := by simp; omega
    unfold maxLen at hc2
    clear hr hi
    go_enter Try.func77, Try.ntmps77
    go_wp2_with fail
    go_loopw [8, 39] (fun nv i wr => ∃ k n : Nat, k ≤ xs.length ∧ i = .int .i64 k ∧ nv = .int .i64 n ∧ n ≤ 16777216 ∧ measL xs (d + 1) 0 = measL (xs.drop k) (d + 1) n ∧ Gr w wr) (fun _ i _ => xs.length - (intOf i).toNat)
    case atStart => exact ⟨0, 0, by omega, rfl, rfl, by omega, rfl, Gr.refl _⟩
    case round =>
      obtain ⟨k, n, hk, rfl, rfl, hn, hM, hb⟩ := hrel
      have HM := Lib.hid hM
      have HB := Lib.hid hb
      have hbs := hb.size
      clear hM hb
      by_cases h1 : k < xs.length
      · obtain ⟨bl, o, f, vb, vl, rfl, hbl, e1, e2, e3, hx, ⟨A2, n2, c2, rfl⟩, A', n', c', rfl⟩ := items_at HR.out HI.out k h1
        have e1' := (HB.out.cell (p := ⟨bl, o + k * 3, none⟩) hbl).trans e1
        have e2' := (HB.out.cell (p := ⟨bl, o + k * 3 + 1, none⟩) hbl).trans e2
        have e3' := (HB.out.cell (p := ⟨bl, o + k * 3 + 2, none⟩) hbl).trans e3
        have HX := Lib.hid (hx.gr HB.out)
        clear e1 e2 e3 hx
        go_wp2_with (refine wpList_store_row rfl 41 (.tmp 10) (.tmp 42) rfl wr.heap.size #[.bool f, .slice A2 n2 c2, .slice A' n' c'] rfl rfl 41 _ (heap_alloc_new wr _) (by kernel_rfl) (by kernel_rfl) (by simp [Value.oneCell']) ?_; rw [World.setRow_alloc_new])
        refine (rlp_of _ xs[k] _ (HX.out.gr (gr_alloc _ _))).mono ?_
        rintro e w1 ⟨v1, rfl, hg1, ho1⟩
        have HG1 := Lib.hid ((gr_alloc _ _).trans hg1)
        have HO1 := Lib.hid ho1
        clear hg1 ho1
        go_wp2_with fail
        refine (ih.out xs[k] v1 _ HO1.out).mono ?_
        rintro e w2 ⟨v2, rfl, hg2, hm2⟩
        have HG2 := Lib.hid ((HB.out.trans HG1.out).trans hg2)
        have hdk : xs.drop k = xs[k] :: xs.drop (k + 1) := List.drop_eq_getElem_cons h1
        have HM2 : Hid (measL xs (d + 1) 0 = match meas xs[k] (d + 1) with | none => none | some j => if n + j > most then none else measL (xs.drop (k + 1)) (d + 1) (n + j)) := by
          refine Lib.hid ?_
          rw [HM.out, hdk, measL]
          cases meas xs[k] (d + 1) <;> rfl
        unfold MeasV at hm2
        clear HO1 HG1 hg2 HM hdk HX e1' e2' e3'
        cases hmx : meas xs[k] (d + 1) with
        | none =>
          rw [hmx] at HM2 hm2
          obtain ⟨z, rfl⟩ := hm2
          have HM3 := Lib.hid (show meas (.mk true bs xs) d = none by rw [meas, if_neg (by omega), HM2.out]; rfl)
          clear hmx HM2
          go_wp2_with fail
          refine bodyPost_ret (results_tmp2 rfl _ _ _) rfl ?_
          exact ⟨_, rfl, HG2.out, measV_none HM3.out 0 (by simp)⟩
        | some j =>
          rw [hmx] at HM2 hm2
          dsimp only at hm2
          subst hm2
          have hj := meas_le _ _ _ hmx
          simp only [most] at hj
          clear hmx
          by_cases h3 : n + j > 16777216
          · have HM3 := Lib.hid (show meas (.mk true bs xs) d = none by rw [meas, if_neg (by omega), HM2.out]; dsimp only; rw [if_pos h3]; rfl)
            clear HM2
            go_wp2_with fail
            refine bodyPost_ret (results_tmp2 rfl _ _ _) rfl ?_
            exact ⟨_, rfl, HG2.out, measV_none HM3.out 0 (by simp)⟩
          · have HM3 := Lib.hid (show measL xs (d + 1) 0 = measL (xs.drop (k + 1)) (d + 1) (n + j) by rw [HM2.out]; dsimp only; rw [if_neg h3])
            clear HM2
            go_wp2_with fail
            go_roundw
            case rel => exact ⟨k + 1, n + j, by omega, by go_num, by go_num, by omega, HM3.out, HG2.out⟩
            case measure => simp [intOf]; omega
      · have h2 : xs.length ≤ k := by omega
        have HM2 := Lib.hid (show meas (.mk true bs xs) d = some (szB n) by
          rw [meas, if_neg (by omega), HM.out, List.drop_eq_nil_of_le h2, measL]
          rfl)
        clear h1 HM
        go_wp2_with fail
        refine (rlp_size n _ (by omega)).mono ?_
        rintro e w2 ⟨_, rfl, hg2, rfl⟩
        have HG2 := Lib.hid (HB.out.trans hg2)
        clear hg2
        go_wp2_with fail
        refine bodyPost_ret (results_tmp2 rfl _ _ _) rfl ?_
        exact ⟨_, rfl, HG2.out, measV_some HM2.out (by simp)⟩
end Go.Proofs.Ytmlajcbabimkjaa
/-
  Items in plain words: what bytes are read as.
  Conditions: none. No program is named here.
-/
namespace Go.Proofs.Ytmlajcbabimkjaa
namespace Rlp
set_option maxRecDepth 100000
def hdr (b : List UInt8) (base : Nat) : Option (Nat × Nat) :=
  if (b.getD 0 0).toNat - base ≤ 55 then
    if (b.getD 0 0).toNat - base ≤ b.length - 1 then some (1, (b.getD 0 0).toNat - base) else none
  else if b.length < 1 + ((b.getD 0 0).toNat - base - 55) ∨ b.getD 1 0 = 0 then none
  else if val ((b.drop 1).take ((b.getD 0 0).toNat - base - 55)) > most then none
  else if 55 < val ((b.drop 1).take ((b.getD 0 0).toNat - base - 55)) ∧ val ((b.drop 1).take ((b.getD 0 0).toNat - base - 55)) ≤ b.length - 1 - ((b.getD 0 0).toNat - base - 55) then
    some (1 + ((b.getD 0 0).toNat - base - 55), val ((b.drop 1).take ((b.getD 0 0).toNat - base - 55)))
  else none
/-! ### What is read is an item's bytes -/
/-! ### An item's bytes are read as it -/
theorem head_pos (n base : Nat) : 0 < (head n base).length := by
  unfold head
  split <;> simp
/-! ### Items that are one -/
end Rlp
end Go.Proofs.Ytmlajcbabimkjaa
