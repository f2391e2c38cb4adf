/-
  Merged (wip/tools/merge.py): TS2, SortP, SortL, SK5, SK6.
  Conditions: none.
-/
import Derived.Test.YtdhicdnmgmkpkaaGreatZE4
import Derived.Test.YtdhicdnmgmkpkaaGreatZE15
import Derived.Test.YtdhicdnmgmkpkaaGreatZE16
import Derived.Shelf.SlSortCmp.WholeK
import Derived.Shelf.SlGeneric
import Derived.Ground.SlsfProg
import Derived.Test.YtdhicdnmgmkpkaaGreatRows
import Derived.Shelf.SlSortCmp.NoneTotal
import Derived.Test.YtdhicdnmgmkpkaaGreatZE13
/-
  keccak.Sum, munimentsref1.Keccak and the empty root, as the abstract machine calls them.
  Conditions: none.
-/
namespace Go.Proofs.YtdhicdnmgmkpkaaGreat
set_option linter.unusedVariables false
open Go.RowKit Mono Rlp
namespace E
theorem rows_bs {ok : Nat → Prop} {w : World} (hok : ∀ b, ok b → b < w.heap.size) : ∀ (ms : List (List UInt8)) (rows : List (List Value)), ReadsRows ok w 1 (ms.map D.bs) rows → rows.flatten.length = ms.length ∧ ∀ (i : Nat) (x : Value) (m : List UInt8), rows.flatten[i]? = some x → ms[i]? = some m → IsB w x m
  | [], rows, h => by
    rw [List.map_nil, ReadsRows] at h
    subst h
    exact ⟨rfl, fun i x m h => by simp at h⟩
  | m :: ms, rows, h => by
    rw [List.map_cons, ReadsRows] at h
    obtain ⟨r, rest, rfl, _, h2, h3⟩ := h
    have h4 := h2
    rw [Reads] at h4
    obtain ⟨u, rfl, _⟩ := h4
    obtain ⟨g1, g2⟩ := rows_bs hok ms rest h3
    refine ⟨by simp [g1], fun i x m' hx hm => ?_⟩
    cases i with
    | zero =>
      simp only [List.flatten_cons, List.singleton_append, List.getElem?_cons_zero, Option.some.injEq] at hx hm
      subst hx
      subst hm
      exact isB_of hok ((readV_one rfl).2 h2)
    | succ i =>
      simp only [List.flatten_cons, List.singleton_append, List.getElem?_cons_succ] at hx hm
      exact g2 i x m' hx hm
theorem isBB_of {ok : Nat → Prop} {w : World} (hok : ∀ b, ok b → b < w.heap.size) {ms : List (List UInt8)} {v : Value} (h : ReadV ok w (.sl 1 (ms.map D.bs)) v) : IsBB w v ms := by
  obtain ⟨cs, h1, rfl⟩ := h
  rw [Reads] at h1
  obtain ⟨A, c, rows, rfl, g1, g2, g3, g4, g5⟩ := h1
  rw [List.length_map] at g1 g3
  obtain ⟨k1, k2⟩ := rows_bs hok ms rows g5
  refine ⟨A, c, rows.flatten, ?_, g1, g2, k1, fun hn => ?_, k2⟩
  · show Value.slice A (ms.map D.bs).length c = _
    rw [List.length_map]
  · obtain ⟨b, o, e, hb, hc⟩ := g4 hn
    exact ⟨b, o, e, hok b hb, hc⟩
theorem f_kSum (ms : List (List UInt8)) : Fn 176 [.sl 1 (ms.map D.bs)] (· = .val (.arr 32 (hash ms.flatten))) := ⟨fun ok w xs hok hr => by
  obtain ⟨v, rfl, h⟩ := one_arg hr
  refine (sum_all v ms w (isBB_of hok h)).mono ?_
  rintro e w' ⟨_, rfl, hg, rfl⟩
  exact ⟨hg, _, _, rfl, rfl, arrV_mk (hash_length _)⟩⟩
theorem f_kSum1 (l : List UInt8) : Fn 176 [.sl 1 [.bs l]] (· = .val (.arr 32 (hash l))) := by
  have h := f_kSum [l]
  rw [List.flatten_cons, List.flatten_nil, List.append_nil] at h
  exact h
theorem f_Keccak (l : List UInt8) (hl : l.length ≤ 1099511627776) : Fn 109 [.bs l] (· = .val (.arr 32 (hash l))) := ⟨fun ok w xs hok hr => by
  obtain ⟨v, rfl, h⟩ := one_arg hr
  refine (ref_keccak v l w (isB_of hok h) hl).mono ?_
  rintro e w' ⟨_, rfl, hg, rfl⟩
  exact ⟨hg, _, _, rfl, rfl, arrV_mk (hash_length _)⟩⟩
theorem reads_bvs {ok : Nat → Prop} {w : World} : ∀ (l : List UInt8) (rows : List (List Value)), ReadsRows ok w 1 (l.map fun b => D.v (bv b)) rows → rows.flatten = bvs l
  | [], rows, h => by
    rw [List.map_nil, ReadsRows] at h
    subst h
    rfl
  | b :: l, rows, h => by
    rw [List.map_cons, ReadsRows] at h
    obtain ⟨r, rest, rfl, _, h2, h3⟩ := h
    rw [Reads] at h2
    rw [List.flatten_cons, reads_bvs l rest h3, h2.2]
    rfl
theorem Le.slB {N : Nat} {X : Cx N} {S : St} {t : Tmp} {l : List UInt8} (hl : look S.regs t = some (.val (.sl 1 (l.map fun b => D.v (bv b))))) : Le X S ⟨(t, .val (.bs l)) :: S.regs, S.objs, S.facts⟩ := fun a w h => by
  refine ⟨h.mem, fun u r hu => ?_, h.size, h.defers⟩
  unfold look at hu
  split at hu
  · rename_i e
    subst e
    obtain rfl := Option.some.inj hu
    have h1 := (readV_one (d := .sl 1 (l.map fun b => D.v (bv b))) rfl).1 (h.regs _ _ hl)
    refine (readV_one (d := .bs l) rfl).2 ?_
    rw [Reads] at h1
    rw [Reads]
    obtain ⟨A, c, rows, e, g1, g2, g3, g4, g5⟩ := h1
    rw [List.length_map] at e g1 g3
    refine ⟨_, rfl, A, c, List.singleton_inj.1 e, g1, g2, ?_⟩
    rw [← reads_bvs l rows g5]
    exact g4
  · exact h.regs u r hu
def root0 : List UInt8 := hash [128]
theorem f_shEmpty : Fn 206 [] (· = .val (.arr 32 root0)) := by
  have h1 := f_kSum1 [128]
  refine Fn.walk 4 Tryz.func206 rfl Tryz.ntmps206 (by simp) fun X => ?_
  repeat
    (first
     | (apply P_call (h1); exact rfl; (focus (repeat first | exact RefineL.refl _ _ | exact RL.nil | exact Rf.same | exact Rf.bs0 | exact Rf.sl0 | (apply Rf.fact; (focus (simp; done)); exact rfl) | apply Rf.tup | apply RL.cons)); (focus (intro _ _; simp [go_sem]; done)); (iterate 2 exact rfl))
     | (apply P_lit; (iterate 9 exact rfl); refine EL.le (Le.slB (t := 1) (l := [128]) rfl) ?_) | (apply P_lit; (iterate 9 exact rfl)) | (apply P_alloc; exact rfl; exact rfl; exact rfl; intro _)
     | (apply P_store; exact rfl; (focus (repeat first | exact .z | apply SetAt.s | apply SetAtF.s)); (iterate 4 exact rfl)) | apply EL.nil | ((with_reducible apply EK.then_normal); apply EK.code)
     | (with_reducible first | apply EC.seq | apply EC.region | apply EC.skip | apply EC.label | apply EC.block | apply EC.exit | apply EC.ret | apply EK.in_normal | apply EK.in_same | apply EK.in_ret | apply EK.then_ret | apply EK.then_exit))
  refine EK.retc1r 0 rfl rfl rfl rfl ?_ rfl
  (repeat first | exact RefineL.refl _ _ | exact RL.nil | exact Rf.same | exact Rf.bs0 | exact Rf.sl0 | (apply Rf.fact; (focus (simp; done)); exact rfl) | apply Rf.tup | apply RL.cons)
theorem f_rEmpty : Fn 55 [] (· = .val (.arr 32 root0)) := by
  have h1 := f_Keccak [128] (by decide)
  refine Fn.walk 3 Tryz.func55 rfl Tryz.ntmps55 (by simp) fun X => ?_
  repeat
    (first
     | (apply P_call (h1); exact rfl; (focus (repeat first | exact RefineL.refl _ _ | exact RL.nil | exact Rf.same | exact Rf.bs0 | exact Rf.sl0 | (apply Rf.fact; (focus (simp; done)); exact rfl) | apply Rf.tup | apply RL.cons)); (focus (intro _ _; simp [go_sem]; done)); (iterate 2 exact rfl))
     | (apply P_lit; (iterate 9 exact rfl); refine EL.le (Le.slB (t := 1) (l := [128]) rfl) ?_) | (apply P_alloc; exact rfl; exact rfl; exact rfl; intro _)
     | (apply P_store; exact rfl; (focus (repeat first | exact .z | apply SetAt.s | apply SetAtF.s)); (iterate 4 exact rfl)) | apply EL.nil | ((with_reducible apply EK.then_normal); apply EK.code)
     | (with_reducible first | apply EC.seq | apply EC.region | apply EC.skip | apply EC.label | apply EC.block | apply EC.exit | apply EC.ret | apply EK.in_normal | apply EK.in_same | apply EK.in_ret | apply EK.then_ret | apply EK.then_exit))
  refine EK.retc1r 0 rfl rfl rfl rfl ?_ rfl
  (repeat first | exact RefineL.refl _ _ | exact RL.nil | exact Rf.same | exact Rf.bs0 | exact Rf.sl0 | (apply Rf.fact; (focus (simp; done)); exact rfl) | apply Rf.tup | apply RL.cons)
end E
end Go.Proofs.YtdhicdnmgmkpkaaGreat
/-
  The laying of slices.SortFunc, printed by the shelf's own tool.
  Conditions: none.
-/
namespace Go.Proofs.YtdhicdnmgmkpkaaGreat
open Go.Shelf
def sortPair_ren : Go.Shelf.Ren := ⟨fun | 6 => 235 | 15 => 127 | 14 => 246 | 28 => 163 | 29 => 164 | 20 => 250 | 21 => 251 | 22 => 252 | 23 => 253 | 24 => 254 | 25 => 255 | 26 => 256 | 27 => 257 | 46 => 259 | 47 => 191 | 48 => 192 | 49 => 260 | 50 => 261 | 57 => 263 | n => n, fun | 22 => 297 | 24 => 337 | 25 => 339 | 3 => 3 | 39 => 166 | 0 => 0 | 53 => 241 | 55 => 209 | 4 => 4 | 46 => 235 | 45 => 234 | 50 => 196 | 5 => 5 | 9 => 9 | 66 => 282 | 70 => 286 | 76 => 317 | 77 => 318 | n => n, fun | n => n⟩
theorem sortPair : Go.Proofs.SlLaysF0.n6 Tryz.prog sortPair_ren := {
  mixed := by kernel_rfl
  f6 := ⟨Tryz.f235.name, by decide, Tryz.func235.trans (congrArg some (by kernel_rfl))⟩
  f14 := ⟨Tryz.f246.name, by decide, Tryz.func246.trans (congrArg some (by kernel_rfl))⟩
  f15 := Tryz.func127.trans (congrArg some (by kernel_rfl))
  f20 := ⟨Tryz.f250.name, by decide, Tryz.func250.trans (congrArg some (by kernel_rfl))⟩
  f21 := ⟨Tryz.f251.name, by decide, Tryz.func251.trans (congrArg some (by kernel_rfl))⟩
  f22 := ⟨Tryz.f252.name, by decide, Tryz.func252.trans (congrArg some (by kernel_rfl))⟩
  f23 := ⟨Tryz.f253.name, by decide, Tryz.func253.trans (congrArg some (by kernel_rfl))⟩
  f24 := ⟨Tryz.f254.name, by decide, Tryz.func254.trans (congrArg some (by kernel_rfl))⟩
  f25 := ⟨Tryz.f255.name, by decide, Tryz.func255.trans (congrArg some (by kernel_rfl))⟩
  f26 := ⟨Tryz.f256.name, by decide, Tryz.func256.trans (congrArg some (by kernel_rfl))⟩
  f27 := ⟨Tryz.f257.name, by decide, Tryz.func257.trans (congrArg some (by kernel_rfl))⟩
  f28 := Tryz.func163.trans (congrArg some (by kernel_rfl))
  f29 := Tryz.func164.trans (congrArg some (by kernel_rfl))
  f46 := ⟨Tryz.f259.name, by decide, Tryz.func259.trans (congrArg some (by kernel_rfl))⟩
  f47 := Tryz.func191.trans (congrArg some (by kernel_rfl))
  f48 := Tryz.func192.trans (congrArg some (by kernel_rfl))
  f49 := ⟨Tryz.f260.name, by decide, Tryz.func260.trans (congrArg some (by kernel_rfl))⟩
  f50 := ⟨Tryz.f261.name, by decide, Tryz.func261.trans (congrArg some (by kernel_rfl))⟩
  f57 := ⟨Tryz.f263.name, by decide, Tryz.func263.trans (congrArg some (by kernel_rfl))⟩
  t0 := Tryz.underlying0
  a0 := Tryz.isAgg0
  z0 := Tryz.sizeOf0
  v0 := Tryz.zeroValue0
  t3 := Tryz.underlying3
  a3 := Tryz.isAgg3
  z3 := Tryz.sizeOf3
  v3 := Tryz.zeroValue3
  t4 := Tryz.underlying4
  a4 := Tryz.isAgg4
  z4 := Tryz.sizeOf4
  v4 := Tryz.zeroValue4
  t5 := Tryz.underlying5
  a5 := Tryz.isAgg5
  z5 := Tryz.sizeOf5
  v5 := Tryz.zeroValue5
  t9 := Tryz.underlying9
  a9 := Tryz.isAgg9
  z9 := Tryz.sizeOf9
  v9 := Tryz.zeroValue9
  t22 := Tryz.underlying297
  a22 := Tryz.isAgg297
  z22 := Tryz.sizeOf297
  v22 := Tryz.zeroValue297
  t25 := Tryz.underlying339
  a25 := Tryz.isAgg339
  z25 := Tryz.sizeOf339
  v25 := Tryz.zeroValue339
  t39 := Tryz.underlying166
  a39 := Tryz.isAgg166
  z39 := Tryz.sizeOf166
  v39 := Tryz.zeroValue166
  t45 := Tryz.underlying234
  a45 := Tryz.isAgg234
  z45 := Tryz.sizeOf234
  v45 := Tryz.zeroValue234
  t46 := Tryz.underlying235
  a46 := Tryz.isAgg235
  z46 := Tryz.sizeOf235
  v46 := Tryz.zeroValue235
  t50 := Tryz.underlying196
  a50 := Tryz.isAgg196
  z50 := Tryz.sizeOf196
  v50 := Tryz.zeroValue196
  t53 := Tryz.underlying241
  a53 := Tryz.isAgg241
  z53 := Tryz.sizeOf241
  v53 := Tryz.zeroValue241
  t55 := Tryz.underlying209
  a55 := Tryz.isAgg209
  z55 := Tryz.sizeOf209
  v55 := Tryz.zeroValue209
  t66 := Tryz.underlying282
  a66 := Tryz.isAgg282
  z66 := Tryz.sizeOf282
  v66 := Tryz.zeroValue282
  t70 := Tryz.underlying286
  a70 := Tryz.isAgg286
  z70 := Tryz.sizeOf286
  v70 := Tryz.zeroValue286
  t76 := Tryz.underlying317
  a76 := Tryz.isAgg317
  z76 := Tryz.sizeOf317
  v76 := Tryz.zeroValue317
  t77 := Tryz.underlying318
  a77 := Tryz.isAgg318
  z77 := Tryz.sizeOf318
  v77 := Tryz.zeroValue318 }
end Go.Proofs.YtdhicdnmgmkpkaaGreat
/-
  The laying of slices.SortFunc, printed by the shelf's own tool.
  Conditions: none.
-/
namespace Go.Proofs.YtdhicdnmgmkpkaaGreat
open Go.Shelf
def sortAddr_ren : Go.Shelf.Ren := ⟨fun | 6 => 95 | 15 => 127 | 14 => 136 | 28 => 163 | 29 => 164 | 20 => 166 | 21 => 167 | 22 => 168 | 23 => 169 | 24 => 170 | 25 => 171 | 26 => 172 | 27 => 173 | 46 => 195 | 47 => 191 | 48 => 192 | 49 => 196 | 50 => 197 | 57 => 222 | n => n, fun | 22 => 129 | 24 => 32 | 25 => 135 | 3 => 3 | 39 => 166 | 0 => 0 | 53 => 241 | 55 => 209 | 4 => 4 | 46 => 235 | 45 => 234 | 50 => 196 | 5 => 5 | 9 => 9 | 66 => 282 | 70 => 286 | 76 => 317 | 77 => 318 | n => n, fun | n => n⟩
theorem sortAddr : Go.Proofs.SlLaysF0.n6 Tryz.prog sortAddr_ren := {
  mixed := by kernel_rfl
  f6 := ⟨Tryz.f95.name, by decide, Tryz.func95.trans (congrArg some (by kernel_rfl))⟩
  f14 := ⟨Tryz.f136.name, by decide, Tryz.func136.trans (congrArg some (by kernel_rfl))⟩
  f15 := Tryz.func127.trans (congrArg some (by kernel_rfl))
  f20 := ⟨Tryz.f166.name, by decide, Tryz.func166.trans (congrArg some (by kernel_rfl))⟩
  f21 := ⟨Tryz.f167.name, by decide, Tryz.func167.trans (congrArg some (by kernel_rfl))⟩
  f22 := ⟨Tryz.f168.name, by decide, Tryz.func168.trans (congrArg some (by kernel_rfl))⟩
  f23 := ⟨Tryz.f169.name, by decide, Tryz.func169.trans (congrArg some (by kernel_rfl))⟩
  f24 := ⟨Tryz.f170.name, by decide, Tryz.func170.trans (congrArg some (by kernel_rfl))⟩
  f25 := ⟨Tryz.f171.name, by decide, Tryz.func171.trans (congrArg some (by kernel_rfl))⟩
  f26 := ⟨Tryz.f172.name, by decide, Tryz.func172.trans (congrArg some (by kernel_rfl))⟩
  f27 := ⟨Tryz.f173.name, by decide, Tryz.func173.trans (congrArg some (by kernel_rfl))⟩
  f28 := Tryz.func163.trans (congrArg some (by kernel_rfl))
  f29 := Tryz.func164.trans (congrArg some (by kernel_rfl))
  f46 := ⟨Tryz.f195.name, by decide, Tryz.func195.trans (congrArg some (by kernel_rfl))⟩
  f47 := Tryz.func191.trans (congrArg some (by kernel_rfl))
  f48 := Tryz.func192.trans (congrArg some (by kernel_rfl))
  f49 := ⟨Tryz.f196.name, by decide, Tryz.func196.trans (congrArg some (by kernel_rfl))⟩
  f50 := ⟨Tryz.f197.name, by decide, Tryz.func197.trans (congrArg some (by kernel_rfl))⟩
  f57 := ⟨Tryz.f222.name, by decide, Tryz.func222.trans (congrArg some (by kernel_rfl))⟩
  t0 := Tryz.underlying0
  a0 := Tryz.isAgg0
  z0 := Tryz.sizeOf0
  v0 := Tryz.zeroValue0
  t3 := Tryz.underlying3
  a3 := Tryz.isAgg3
  z3 := Tryz.sizeOf3
  v3 := Tryz.zeroValue3
  t4 := Tryz.underlying4
  a4 := Tryz.isAgg4
  z4 := Tryz.sizeOf4
  v4 := Tryz.zeroValue4
  t5 := Tryz.underlying5
  a5 := Tryz.isAgg5
  z5 := Tryz.sizeOf5
  v5 := Tryz.zeroValue5
  t9 := Tryz.underlying9
  a9 := Tryz.isAgg9
  z9 := Tryz.sizeOf9
  v9 := Tryz.zeroValue9
  t22 := Tryz.underlying129
  a22 := Tryz.isAgg129
  z22 := Tryz.sizeOf129
  v22 := Tryz.zeroValue129
  t25 := Tryz.underlying135
  a25 := Tryz.isAgg135
  z25 := Tryz.sizeOf135
  v25 := Tryz.zeroValue135
  t39 := Tryz.underlying166
  a39 := Tryz.isAgg166
  z39 := Tryz.sizeOf166
  v39 := Tryz.zeroValue166
  t45 := Tryz.underlying234
  a45 := Tryz.isAgg234
  z45 := Tryz.sizeOf234
  v45 := Tryz.zeroValue234
  t46 := Tryz.underlying235
  a46 := Tryz.isAgg235
  z46 := Tryz.sizeOf235
  v46 := Tryz.zeroValue235
  t50 := Tryz.underlying196
  a50 := Tryz.isAgg196
  z50 := Tryz.sizeOf196
  v50 := Tryz.zeroValue196
  t53 := Tryz.underlying241
  a53 := Tryz.isAgg241
  z53 := Tryz.sizeOf241
  v53 := Tryz.zeroValue241
  t55 := Tryz.underlying209
  a55 := Tryz.isAgg209
  z55 := Tryz.sizeOf209
  v55 := Tryz.zeroValue209
  t66 := Tryz.underlying282
  a66 := Tryz.isAgg282
  z66 := Tryz.sizeOf282
  v66 := Tryz.zeroValue282
  t70 := Tryz.underlying286
  a70 := Tryz.isAgg286
  z70 := Tryz.sizeOf286
  v70 := Tryz.zeroValue286
  t76 := Tryz.underlying317
  a76 := Tryz.isAgg317
  z76 := Tryz.sizeOf317
  v76 := Tryz.zeroValue317
  t77 := Tryz.underlying318
  a77 := Tryz.isAgg318
  z77 := Tryz.sizeOf318
  v77 := Tryz.zeroValue318 }
def sortWord_ren : Go.Shelf.Ren := ⟨fun | 6 => 86 | 15 => 127 | 14 => 126 | 28 => 163 | 29 => 164 | 20 => 155 | 21 => 156 | 22 => 157 | 23 => 158 | 24 => 159 | 25 => 160 | 26 => 161 | 27 => 162 | 46 => 190 | 47 => 191 | 48 => 192 | 49 => 193 | 50 => 194 | 57 => 221 | n => n, fun | 22 => 62 | 24 => 34 | 25 => 140 | 3 => 3 | 39 => 166 | 0 => 0 | 53 => 241 | 55 => 209 | 4 => 4 | 46 => 235 | 45 => 234 | 50 => 196 | 5 => 5 | 9 => 9 | 66 => 282 | 70 => 286 | 76 => 317 | 77 => 318 | n => n, fun | n => n⟩
theorem sortWord : Go.Proofs.SlLaysF0.n6 Tryz.prog sortWord_ren := {
  mixed := by kernel_rfl
  f6 := ⟨Tryz.f86.name, by decide, Tryz.func86.trans (congrArg some (by kernel_rfl))⟩
  f14 := ⟨Tryz.f126.name, by decide, Tryz.func126.trans (congrArg some (by kernel_rfl))⟩
  f15 := Tryz.func127.trans (congrArg some (by kernel_rfl))
  f20 := ⟨Tryz.f155.name, by decide, Tryz.func155.trans (congrArg some (by kernel_rfl))⟩
  f21 := ⟨Tryz.f156.name, by decide, Tryz.func156.trans (congrArg some (by kernel_rfl))⟩
  f22 := ⟨Tryz.f157.name, by decide, Tryz.func157.trans (congrArg some (by kernel_rfl))⟩
  f23 := ⟨Tryz.f158.name, by decide, Tryz.func158.trans (congrArg some (by kernel_rfl))⟩
  f24 := ⟨Tryz.f159.name, by decide, Tryz.func159.trans (congrArg some (by kernel_rfl))⟩
  f25 := ⟨Tryz.f160.name, by decide, Tryz.func160.trans (congrArg some (by kernel_rfl))⟩
  f26 := ⟨Tryz.f161.name, by decide, Tryz.func161.trans (congrArg some (by kernel_rfl))⟩
  f27 := ⟨Tryz.f162.name, by decide, Tryz.func162.trans (congrArg some (by kernel_rfl))⟩
  f28 := Tryz.func163.trans (congrArg some (by kernel_rfl))
  f29 := Tryz.func164.trans (congrArg some (by kernel_rfl))
  f46 := ⟨Tryz.f190.name, by decide, Tryz.func190.trans (congrArg some (by kernel_rfl))⟩
  f47 := Tryz.func191.trans (congrArg some (by kernel_rfl))
  f48 := Tryz.func192.trans (congrArg some (by kernel_rfl))
  f49 := ⟨Tryz.f193.name, by decide, Tryz.func193.trans (congrArg some (by kernel_rfl))⟩
  f50 := ⟨Tryz.f194.name, by decide, Tryz.func194.trans (congrArg some (by kernel_rfl))⟩
  f57 := ⟨Tryz.f221.name, by decide, Tryz.func221.trans (congrArg some (by kernel_rfl))⟩
  t0 := Tryz.underlying0
  a0 := Tryz.isAgg0
  z0 := Tryz.sizeOf0
  v0 := Tryz.zeroValue0
  t3 := Tryz.underlying3
  a3 := Tryz.isAgg3
  z3 := Tryz.sizeOf3
  v3 := Tryz.zeroValue3
  t4 := Tryz.underlying4
  a4 := Tryz.isAgg4
  z4 := Tryz.sizeOf4
  v4 := Tryz.zeroValue4
  t5 := Tryz.underlying5
  a5 := Tryz.isAgg5
  z5 := Tryz.sizeOf5
  v5 := Tryz.zeroValue5
  t9 := Tryz.underlying9
  a9 := Tryz.isAgg9
  z9 := Tryz.sizeOf9
  v9 := Tryz.zeroValue9
  t22 := Tryz.underlying62
  a22 := Tryz.isAgg62
  z22 := Tryz.sizeOf62
  v22 := Tryz.zeroValue62
  t25 := Tryz.underlying140
  a25 := Tryz.isAgg140
  z25 := Tryz.sizeOf140
  v25 := Tryz.zeroValue140
  t39 := Tryz.underlying166
  a39 := Tryz.isAgg166
  z39 := Tryz.sizeOf166
  v39 := Tryz.zeroValue166
  t45 := Tryz.underlying234
  a45 := Tryz.isAgg234
  z45 := Tryz.sizeOf234
  v45 := Tryz.zeroValue234
  t46 := Tryz.underlying235
  a46 := Tryz.isAgg235
  z46 := Tryz.sizeOf235
  v46 := Tryz.zeroValue235
  t50 := Tryz.underlying196
  a50 := Tryz.isAgg196
  z50 := Tryz.sizeOf196
  v50 := Tryz.zeroValue196
  t53 := Tryz.underlying241
  a53 := Tryz.isAgg241
  z53 := Tryz.sizeOf241
  v53 := Tryz.zeroValue241
  t55 := Tryz.underlying209
  a55 := Tryz.isAgg209
  z55 := Tryz.sizeOf209
  v55 := Tryz.zeroValue209
  t66 := Tryz.underlying282
  a66 := Tryz.isAgg282
  z66 := Tryz.sizeOf282
  v66 := Tryz.zeroValue282
  t70 := Tryz.underlying286
  a70 := Tryz.isAgg286
  z70 := Tryz.sizeOf286
  v70 := Tryz.zeroValue286
  t76 := Tryz.underlying317
  a76 := Tryz.isAgg317
  z76 := Tryz.sizeOf317
  v76 := Tryz.zeroValue317
  t77 := Tryz.underlying318
  a77 := Tryz.isAgg318
  z77 := Tryz.sizeOf318
  v77 := Tryz.zeroValue318 }
end Go.Proofs.YtdhicdnmgmkpkaaGreat
/-
  slices.SortFunc at arrays of bytes, as a function that writes a row.
  Conditions: none.
-/
namespace Go.Proofs.YtdhicdnmgmkpkaaGreat
set_option linter.unusedVariables false
open Go.RowKit Mono Rlp Go.Sort
namespace E
def sortL (l : List (List UInt8)) : List (List UInt8) := l.mergeSort fun a b => decide (a ≤ b)
theorem sortL_perm (l : List (List UInt8)) : (sortL l).Perm l := List.mergeSort_perm _ _
theorem sortL_sorted (l : List (List UInt8)) : (sortL l).Pairwise (· ≤ ·) := by
  have h := List.pairwise_mergeSort (le := fun a b : List UInt8 => decide (a ≤ b)) (fun a b c h1 h2 => by simp only [decide_eq_true_eq] at h1 h2 ⊢; exact List.le_trans h1 h2) (fun a b => by simp only [Bool.or_eq_true, decide_eq_true_eq]; exact List.le_total a b) l
  exact h.imp fun h => by simpa using h
theorem sortL_eq {l m : List (List UInt8)} (hp : m.Perm l) (hs : m.Pairwise (· ≤ ·)) : m = sortL l :=
  List.Perm.eq_of_pairwise (fun a b _ _ h1 h2 => List.le_antisymm h1 h2) hs (sortL_sorted l) (hp.trans (sortL_perm l).symm)
theorem flat_at {n : Nat} (hn : 0 < n) [Inhabited (Ky n)] : ∀ (ks : List (Ky n)) (t : Nat), t < ks.length * n → (ks.map kc).flatten[t]? = some ((kc (ks[t / n]!))[t % n]!)
  | [], t, h => by simp at h
  | k :: ks, t, h => by
    have hk : (kc k).length = n := by unfold kc; rw [bvs_length, k.2]
    rw [List.map_cons, List.flatten_cons]
    by_cases ht : t < n
    · rw [List.getElem?_append_left (by omega), Nat.div_eq_of_lt ht, Nat.mod_eq_of_lt ht]
      simp [hk, ht]
    · rw [List.getElem?_append_right (by omega), hk, flat_at hn ks (t - n) (by simp [Nat.add_mul] at h; omega)]
      have h1 : t / n = (t - n) / n + 1 := by
        conv => lhs; rw [show t = t - n + n by omega, Nat.add_div_right _ hn]
      have h2 : t % n = (t - n) % n := by
        conv => lhs; rw [show t = t - n + n by omega, Nat.add_mod_right]
      rw [h1, h2]
      simp
theorem flatK_list {n : Nat} (hn : 0 < n) [Inhabited (Ky n)] (ks : List (Ky n)) : (flatK kc n ks.toArray).toList = (ks.map kc).flatten := by
  have hl : (ks.map kc).flatten.length = ks.length * n := by
    have : ∀ ks : List (Ky n), (ks.map kc).flatten.length = ks.length * n := fun ks => by
      induction ks with
      | nil => simp
      | cons k ks ih =>
        have hk : (kc k).length = n := by unfold kc; rw [bvs_length, k.2]
        rw [List.map_cons, List.flatten_cons, List.length_append, ih, hk, List.length_cons, Nat.add_mul, Nat.one_mul, Nat.add_comm]
    exact this ks
  refine List.ext_getElem? fun t => ?_
  by_cases ht : t < ks.length * n
  · rw [flat_at hn ks t ht, Array.getElem?_toList]
    have hs : t < (flatK kc n ks.toArray).size := by simpa using ht
    have := get_flatK kc n ks.toArray t (by simpa using ht)
    rw [getElem!_pos _ t hs] at this
    rw [Array.getElem?_eq_getElem hs, this]
    simp
  · rw [List.getElem?_eq_none (by simp; omega), List.getElem?_eq_none (by omega)]
theorem heap_row {w : World} {g n : Nat} {os : Array Go.Obj} {cur : Array Value} {e : TypeId} {fr : Nat × Nat} (F : Array Value) (hb : w.heap[g]? = some (.cells cur e fr)) :
    (grow (putRow id (Sort.ahead w n) g 0 F) os).heap[g]? = some (.cells (putCells id 0 F cur) e fr) := by
  have hg : g < w.heap.size := (Array.getElem?_eq_some_iff.1 hb).1
  rw [heap_grow_old _ _ (by simpa using hg)]
  simp [putRow, mapBlock, Sort.ahead, Array.getElem?_modify, hb, onCells]
theorem grown_row {w : World} {g n : Nat} {os : Array Go.Obj} (F : Array Value) : w.grownBy (grow (putRow id (Sort.ahead w n) g 0 F) os) (some g) := by
  refine ⟨rfl, rfl, rfl, by simp, fun k hk hne => ?_⟩
  rw [heap_grow_old _ _ (by simpa using hk)]
  have : g ≠ k := fun e => hne (by rw [e])
  simp [putRow, mapBlock, Sort.ahead, Array.getElem?_modify, this]
theorem take_row (cur F : Array Value) (h : F.size ≤ cur.size) : (putCells id 0 F cur).toList.take F.size = F.toList := by
  apply List.ext_getElem?
  intro j
  by_cases hj : j < F.size
  · rw [List.getElem?_take_of_lt hj, Array.getElem?_toList]
    simp [putCells, hj, show j < cur.size by omega]
  · rw [List.getElem?_take_eq_none (by omega), List.getElem?_eq_none (by simp; omega)]
instance inh_addr : Inhabited (Ky 20) := ⟨⟨List.replicate 20 0, by simp⟩⟩
theorem sortRun_addr (cf : FuncId) (hc : ∀ l m : List UInt8, l.length = 20 → m.length = 20 → ∀ w, Calls Tryz.prog cf #[arrV l, arrV m] w fun e w' => e = .returned (.int .i64 (cmpB l m)) ∧ ∃ q os', w' = grow (w.drewN q) os') (ec : ∀ args w, (callFunc cf args).run Tryz.prog w = .ok (.enter cf args) w)
    (g cap : Nat) (ks : List (Ky 20)) (w : World) (hl : ks.length < 4611686018427387904) (hH : HoldsK kc 20 w g 0 ks.toArray) (hb : g < w.heap.size) :
    Calls Tryz.prog 95 #[.slice (some ⟨g, 0, none⟩) ks.length cap, .func (.func cf) #[] #[]] w fun e w' => e = .returned (.tuple #[]) ∧ ∃ n os, w' = grow (putRow id (Sort.ahead w n) g 0 (flatK kc 20 (ks.mergeSort fun x y => decide (x.1 ≤ y.1)).toArray)) os := by
  have hT : ∀ x y : Ky 20, ltOf (fun x y : Ky 20 => cmpB x.1 y.1) x y = false → ltOf (fun x y : Ky 20 => cmpB x.1 y.1) y x = false → x = y := fun x y h1 h2 => by
    rw [show ltOf (fun x y : Ky 20 => cmpB x.1 y.1) x y = decide (x.1 < y.1) from cmpB_lt x.1 y.1] at h1
    rw [show ltOf (fun x y : Ky 20 => cmpB x.1 y.1) y x = decide (y.1 < x.1) from cmpB_lt y.1 x.1] at h2
    simp only [decide_eq_false_iff_not, List.not_lt] at h1 h2
    exact Subtype.ext (List.le_antisymm h2 h1)
  have h := AnyQ.slices_SortFunc_total sortAddr 20 Tryz.isAgg32 Tryz.sizeOf32 kc (fun x => by unfold kc; rw [bvs_length, x.2]) (fun x v hv => bvs_one x.1 v hv) (fun x y : Ky 20 => cmpB x.1 y.1) (swo 20) cf #[] g 0 cap ks.toArray w ec (fun m os dk hs x y => hc x.1 y.1 x.2 y.2 _) hH hb (by simpa using hl) hT
  have hf : (fun x y : Ky 20 => !(ltOf fun x y : Ky 20 => cmpB x.1 y.1) y x) = fun x y => decide (x.1 ≤ y.1) := by
    funext x y
    rw [show ltOf (fun x y : Ky 20 => cmpB x.1 y.1) y x = decide (y.1 < x.1) from cmpB_lt y.1 x.1]
    by_cases h : y.1 < x.1
    · simp [h, List.not_le.2 h]
    · simp [h, List.not_lt.1 h]
  rw [hf] at h
  exact h.mono fun e w' ⟨he, n, os, hw⟩ => ⟨he, n, os, hw⟩
theorem sort_addr (cf : FuncId) (hc : ∀ l m : List UInt8, l.length = 20 → m.length = 20 → ∀ w, Calls Tryz.prog cf #[arrV l, arrV m] w fun e w' => e = .returned (.int .i64 (cmpB l m)) ∧ ∃ q os', w' = grow (w.drewN q) os') (ec : ∀ args w, (callFunc cf args).run Tryz.prog w = .ok (.enter cf args) w)
    (v : Value) (ks : List (Ky 20)) (hl : ks.length < 4611686018427387904) :
    FnM 95 [.v v, .v (.func (.func cf) #[] #[])] [.row v 32 20 (ks.map dK)] (fun r os' => r = .tpl [] ∧ os' = [.row v 32 20 ((ks.mergeSort fun x y => decide (x.1 ≤ y.1)).map dK)]) := by
  constructor
  intro ok w xs hok hown hr
  obtain ⟨x1, _, rfl, hx1, x2, _, rfl, hx2, rfl⟩ := hr
  obtain rfl := (readV_v.1 hx1).2
  obtain rfl := (readV_v.1 hx2).2
  obtain ⟨rows, ⟨hrow, hbase⟩, hrows⟩ := hown.at_ _ (List.mem_cons_self ..)
  rw [keys_rows _ _ hrows, List.length_map] at hrow
  rcases hrow.2 with ⟨rfl, h0⟩ | ⟨g, cap, cur, rfl, _, hgb, r1, r2, r3, r4⟩
  · obtain rfl : ks = [] := List.eq_nil_of_length_eq_zero h0
    have hms : ([] : List (Ky 20)).mergeSort (fun x y => decide (x.1 ≤ y.1)) = [] := by simp
    rw [hms]
    refine (AnyF.slices_SortFunc_none sortAddr none 0 (.func (.func cf) #[] #[]) w).mono ?_
    rintro e w' ⟨rfl, rfl⟩
    refine ⟨_, .tpl [], _, rfl, ⟨rfl, rfl⟩, ⟨.refl _, hown.apart, fun o ho => ?_⟩, [], rfl, rfl⟩
    obtain rfl : o = _ := by simpa using ho
    exact ⟨[], ⟨⟨by simp, .inl ⟨rfl, rfl⟩⟩, fun b hb => by cases hb⟩, rows_keys []⟩
  · have hlt := (Array.getElem?_eq_some_iff.1 hgb).1
    have hml : (ks.mergeSort fun x y => decide (x.1 ≤ y.1)).length = ks.length := List.length_mergeSort _
    have hH : HoldsK kc 20 w g 0 ks.toArray := fun j hj => by
      have hj' : j < ks.length * 20 := by simpa using hj
      have h1 : (cur.toList.take (ks.length * 20))[j]? = (ks.map kc).flatten[j]? := by rw [r4]
      rw [List.getElem?_take_of_lt hj', ← flatK_list (by decide)] at h1
      refine ⟨?_, by simp [World.frozen?, hgb]⟩
      rw [cell_of_row w g (0 + j) cur 32 (0, 0) hgb, Nat.zero_add, ← Array.getElem?_toList, h1, Array.getElem?_toList, Array.getElem?_eq_getElem hj, getElem!_pos _ j hj]
      rfl
    refine (sortRun_addr cf hc ec g cap ks w hl hH hlt).mono ?_
    rintro e w' ⟨rfl, n, os, rfl⟩
    have hg := grown_row (w := w) (g := g) (n := n) (os := os) (flatK kc 20 (ks.mergeSort fun x y => decide (x.1 ≤ y.1)).toArray)
    have hh := heap_row (n := n) (os := os) (flatK kc 20 (ks.mergeSort fun x y => decide (x.1 ≤ y.1)).toArray) hgb
    have hF : (flatK kc 20 (ks.mergeSort fun x y => decide (x.1 ≤ y.1)).toArray).size = ks.length * 20 := by rw [size_flatK]; simp [hml]
    have htk := take_row cur (flatK kc 20 (ks.mergeSort fun x y => decide (x.1 ≤ y.1)).toArray) (by rw [hF, r3]; exact Nat.mul_le_mul_right _ r1)
    rw [hF, flatK_list (by decide)] at htk
    refine ⟨_, .tpl [], _, rfl, ⟨rfl, rfl⟩, ⟨⟨hg.os, hg.tape, hg.output, hg.size, fun k hk hn => hg.block k hk fun e => hn ?_⟩, .cons (fun _ h => by simp at h) .nil, fun o ho => ?_⟩, [], rfl, rfl⟩
    · cases e
      exact ⟨_, List.mem_cons_self .., rfl⟩
    · obtain rfl : o = _ := by simpa using ho
      refine ⟨_, ⟨⟨?_, .inr ⟨g, cap, _, ?_, Nat.zero_le _, hh, ?_, r2, ?_, ?_⟩⟩, fun b hb => .inl ⟨_, List.mem_cons_self .., hb⟩⟩, rows_keys _⟩
      · rw [← flatK_list (by decide), Array.length_toList, hF, List.length_map, hml]
      · rw [List.length_map, hml]
      · rw [List.length_map, hml]
        exact r1
      · simp [putCells, r3]
      · rw [List.length_map, hml]
        exact htk
instance inh_word : Inhabited (Ky 32) := ⟨⟨List.replicate 32 0, by simp⟩⟩
theorem sortRun_word (cf : FuncId) (hc : ∀ l m : List UInt8, l.length = 32 → m.length = 32 → ∀ w, Calls Tryz.prog cf #[arrV l, arrV m] w fun e w' => e = .returned (.int .i64 (cmpB l m)) ∧ ∃ q os', w' = grow (w.drewN q) os') (ec : ∀ args w, (callFunc cf args).run Tryz.prog w = .ok (.enter cf args) w)
    (g cap : Nat) (ks : List (Ky 32)) (w : World) (hl : ks.length < 4611686018427387904) (hH : HoldsK kc 32 w g 0 ks.toArray) (hb : g < w.heap.size) :
    Calls Tryz.prog 86 #[.slice (some ⟨g, 0, none⟩) ks.length cap, .func (.func cf) #[] #[]] w fun e w' => e = .returned (.tuple #[]) ∧ ∃ n os, w' = grow (putRow id (Sort.ahead w n) g 0 (flatK kc 32 (ks.mergeSort fun x y => decide (x.1 ≤ y.1)).toArray)) os := by
  have hT : ∀ x y : Ky 32, ltOf (fun x y : Ky 32 => cmpB x.1 y.1) x y = false → ltOf (fun x y : Ky 32 => cmpB x.1 y.1) y x = false → x = y := fun x y h1 h2 => by
    rw [show ltOf (fun x y : Ky 32 => cmpB x.1 y.1) x y = decide (x.1 < y.1) from cmpB_lt x.1 y.1] at h1
    rw [show ltOf (fun x y : Ky 32 => cmpB x.1 y.1) y x = decide (y.1 < x.1) from cmpB_lt y.1 x.1] at h2
    simp only [decide_eq_false_iff_not, List.not_lt] at h1 h2
    exact Subtype.ext (List.le_antisymm h2 h1)
  have h := AnyQ.slices_SortFunc_total sortWord 32 Tryz.isAgg34 Tryz.sizeOf34 kc (fun x => by unfold kc; rw [bvs_length, x.2]) (fun x v hv => bvs_one x.1 v hv) (fun x y : Ky 32 => cmpB x.1 y.1) (swo 32) cf #[] g 0 cap ks.toArray w ec (fun m os dk hs x y => hc x.1 y.1 x.2 y.2 _) hH hb (by simpa using hl) hT
  have hf : (fun x y : Ky 32 => !(ltOf fun x y : Ky 32 => cmpB x.1 y.1) y x) = fun x y => decide (x.1 ≤ y.1) := by
    funext x y
    rw [show ltOf (fun x y : Ky 32 => cmpB x.1 y.1) y x = decide (y.1 < x.1) from cmpB_lt y.1 x.1]
    by_cases h : y.1 < x.1
    · simp [h, List.not_le.2 h]
    · simp [h, List.not_lt.1 h]
  rw [hf] at h
  exact h.mono fun e w' ⟨he, n, os, hw⟩ => ⟨he, n, os, hw⟩
theorem sort_word (cf : FuncId) (hc : ∀ l m : List UInt8, l.length = 32 → m.length = 32 → ∀ w, Calls Tryz.prog cf #[arrV l, arrV m] w fun e w' => e = .returned (.int .i64 (cmpB l m)) ∧ ∃ q os', w' = grow (w.drewN q) os') (ec : ∀ args w, (callFunc cf args).run Tryz.prog w = .ok (.enter cf args) w)
    (v : Value) (ks : List (Ky 32)) (hl : ks.length < 4611686018427387904) :
    FnM 86 [.v v, .v (.func (.func cf) #[] #[])] [.row v 34 32 (ks.map dK)] (fun r os' => r = .tpl [] ∧ os' = [.row v 34 32 ((ks.mergeSort fun x y => decide (x.1 ≤ y.1)).map dK)]) := by
  constructor
  intro ok w xs hok hown hr
  obtain ⟨x1, _, rfl, hx1, x2, _, rfl, hx2, rfl⟩ := hr
  obtain rfl := (readV_v.1 hx1).2
  obtain rfl := (readV_v.1 hx2).2
  obtain ⟨rows, ⟨hrow, hbase⟩, hrows⟩ := hown.at_ _ (List.mem_cons_self ..)
  rw [keys_rows _ _ hrows, List.length_map] at hrow
  rcases hrow.2 with ⟨rfl, h0⟩ | ⟨g, cap, cur, rfl, _, hgb, r1, r2, r3, r4⟩
  · obtain rfl : ks = [] := List.eq_nil_of_length_eq_zero h0
    have hms : ([] : List (Ky 32)).mergeSort (fun x y => decide (x.1 ≤ y.1)) = [] := by simp
    rw [hms]
    refine (AnyF.slices_SortFunc_none sortWord none 0 (.func (.func cf) #[] #[]) w).mono ?_
    rintro e w' ⟨rfl, rfl⟩
    refine ⟨_, .tpl [], _, rfl, ⟨rfl, rfl⟩, ⟨.refl _, hown.apart, fun o ho => ?_⟩, [], rfl, rfl⟩
    obtain rfl : o = _ := by simpa using ho
    exact ⟨[], ⟨⟨by simp, .inl ⟨rfl, rfl⟩⟩, fun b hb => by cases hb⟩, rows_keys []⟩
  · have hlt := (Array.getElem?_eq_some_iff.1 hgb).1
    have hml : (ks.mergeSort fun x y => decide (x.1 ≤ y.1)).length = ks.length := List.length_mergeSort _
    have hH : HoldsK kc 32 w g 0 ks.toArray := fun j hj => by
      have hj' : j < ks.length * 32 := by simpa using hj
      have h1 : (cur.toList.take (ks.length * 32))[j]? = (ks.map kc).flatten[j]? := by rw [r4]
      rw [List.getElem?_take_of_lt hj', ← flatK_list (by decide)] at h1
      refine ⟨?_, by simp [World.frozen?, hgb]⟩
      rw [cell_of_row w g (0 + j) cur 34 (0, 0) hgb, Nat.zero_add, ← Array.getElem?_toList, h1, Array.getElem?_toList, Array.getElem?_eq_getElem hj, getElem!_pos _ j hj]
      rfl
    refine (sortRun_word cf hc ec g cap ks w hl hH hlt).mono ?_
    rintro e w' ⟨rfl, n, os, rfl⟩
    have hg := grown_row (w := w) (g := g) (n := n) (os := os) (flatK kc 32 (ks.mergeSort fun x y => decide (x.1 ≤ y.1)).toArray)
    have hh := heap_row (n := n) (os := os) (flatK kc 32 (ks.mergeSort fun x y => decide (x.1 ≤ y.1)).toArray) hgb
    have hF : (flatK kc 32 (ks.mergeSort fun x y => decide (x.1 ≤ y.1)).toArray).size = ks.length * 32 := by rw [size_flatK]; simp [hml]
    have htk := take_row cur (flatK kc 32 (ks.mergeSort fun x y => decide (x.1 ≤ y.1)).toArray) (by rw [hF, r3]; exact Nat.mul_le_mul_right _ r1)
    rw [hF, flatK_list (by decide)] at htk
    refine ⟨_, .tpl [], _, rfl, ⟨rfl, rfl⟩, ⟨⟨hg.os, hg.tape, hg.output, hg.size, fun k hk hn => hg.block k hk fun e => hn ?_⟩, .cons (fun _ h => by simp at h) .nil, fun o ho => ?_⟩, [], rfl, rfl⟩
    · cases e
      exact ⟨_, List.mem_cons_self .., rfl⟩
    · obtain rfl : o = _ := by simpa using ho
      refine ⟨_, ⟨⟨?_, .inr ⟨g, cap, _, ?_, Nat.zero_le _, hh, ?_, r2, ?_, ?_⟩⟩, fun b hb => .inl ⟨_, List.mem_cons_self .., hb⟩⟩, rows_keys _⟩
      · rw [← flatK_list (by decide), Array.length_toList, hF, List.length_map, hml]
      · rw [List.length_map, hml]
      · rw [List.length_map, hml]
        exact r1
      · simp [putCells, r3]
      · rw [List.length_map, hml]
        exact htk
end E
end Go.Proofs.YtdhicdnmgmkpkaaGreat
/-
  slices.SortedFunc of maps.Keys: the keys of a map, in their order.
  Conditions: none.
-/
namespace Go.Proofs.YtdhicdnmgmkpkaaGreat
set_option linter.unusedVariables false
open Go.RowKit Mono Rlp Go.Sort
namespace E
def unV : Value → List UInt8
  | .agg cs => cs.toList.map fun v => match v with
    | .int _ n => UInt8.ofNat n.toNat
    | _ => 0
  | _ => []
theorem unV_arr (l : List UInt8) : unV (arrV l) = l := by
  unfold arrV unV bvs
  simp only [List.map_map]
  refine (List.map_congr_left fun b _ => ?_).trans (List.map_id l)
  simp [bv]
theorem all2_map {α β γ : Type} {R : α → β → Prop} {f : α → γ} {g : β → γ} (h : ∀ a b, R a b → f a = g b) : ∀ {l : List α} {m : List β}, All2 R l m → l.map f = m.map g
  | _, _, .nil => rfl
  | _, _, .cons h1 h2 => by rw [List.map_cons, List.map_cons, h _ _ h1, all2_map h h2]
theorem all2_mem {α β : Type} {R : α → β → Prop} {l : List α} {m : List β} (h : All2 R l m) {a : α} (ha : a ∈ l) : ∃ b ∈ m, R a b := by
  induction h with
  | nil => cases ha
  | cons h1 h2 ih =>
    rcases List.mem_cons.1 ha with rfl | ha
    · exact ⟨_, List.mem_cons_self .., h1⟩
    · obtain ⟨b, hb, hr⟩ := ih ha
      exact ⟨b, List.mem_cons_of_mem _ hb, hr⟩
theorem all2_length {α β : Type} {R : α → β → Prop} : ∀ {l : List α} {m : List β}, All2 R l m → l.length = m.length
  | _, _, .nil => rfl
  | _, _, .cons _ h2 => by rw [List.length_cons, List.length_cons, all2_length h2]
theorem val_dK {n : Nat} (ks : List (Ky n)) : ks.map dK = (ks.map (·.1)).map (D.arr n) := by
  rw [List.map_map]
  rfl
theorem enters_addr : ∀ args w, (callFunc 122 args).run Tryz.prog w = .ok (.enter 122 args) w := enters_of Tryz.func122 (by kernel_rfl) rfl
theorem append_addr (g m c : Nat) (es : List Ent) (hl : es.length * 20 ≤ 140737488355328) : FnM 153 [.v (.slice none 0 0), .v (.func (.func 122) #[] #[.pointer (some ⟨g, 0, none⟩)])] [.var g 106 (.v (.map (some m))), .map m 20 c es] (fun r os' => ∃ v, ∃ ks : List (Ky 20), r = .val (.v v) ∧ (ks.map (·.1)).Perm (es.map (·.2.1)) ∧ os' = [.row v 32 20 (ks.map dK), .var g 106 (.v (.map (some m))), .map m 20 c es]) := by
  constructor
  intro ok w xs hok hown hr
  obtain ⟨x1, _, rfl, hx1, x2, _, rfl, hx2, rfl⟩ := hr
  obtain rfl := (readV_v.1 hx1).2
  obtain rfl := (readV_v.1 hx2).2
  obtain ⟨_, cs, hg, hrd⟩ := hown.at_ _ (List.mem_cons_self ..)
  obtain ⟨_, hent, arr, hm, hall⟩ := hown.at_ _ (List.mem_cons_of_mem _ (List.mem_cons_self ..))
  rw [Reads] at hrd
  rw [hrd.2] at hg
  have hglt := (Array.getElem?_eq_some_iff.1 hg).1
  have hmlt := (Array.getElem?_eq_some_iff.1 hm).1
  have hbs : arr.toList.map (·.born) = es.map (·.1) := all2_map (fun a b h => h.born) hall
  have hks : arr.toList.map (·.key) = es.map fun x => arrV x.2.1 := all2_map (fun a b h => h.key) hall
  have hsz : arr.size = es.length := by rw [← Array.length_toList, all2_length hall]
  have hseq : SeqStopsK Fence.wide 3 Tryz.prog 122 #[.pointer (some ⟨g, 0, none⟩)] (fun x : Ky 20 => #[kv x]) KeepsWalks (fun ss => (ss.map kv).Perm (arr.toList.map (·.key))) (fun _ => True) arr.size w := fun l J Jx W hW hJ _ hY h0 =>
    keys1_addr 3 l g m (by omega) arr c J Jx hY W hJ ((hW.cell (p := ⟨g, 0, none⟩) hglt).trans (by rw [cell_of_row w g 0 _ _ _ hg]; rfl)) ((hW.block m hmlt).trans hm) (by rw [hbs]; exact hent.borns)
      (fun x hx => by obtain ⟨y, hy, he⟩ := all2_mem hall hx; rw [he.born]; exact hent.lt y hy)
      (fun x hx => by obtain ⟨y, hy, he⟩ := all2_mem hall hx; exact ⟨⟨y.2.1, he.len⟩, he.key⟩) h0
  refine (callsIn_wide.1 (appendSeq_addr 4 (by omega) 122 #[.pointer (some ⟨g, 0, none⟩)] enters_addr _ _ arr.size (by rw [hsz]; exact hl) w hseq)).mono ?_
  rintro e w' ⟨v, ks, rfl, hp, hrow, hnil, hB⟩
  have hp' : (ks.map (·.1)).Perm (es.map (·.2.1)) := by
    rw [hks] at hp
    have := hp.map unV
    rw [List.map_map, List.map_map] at this
    have e1 : ks.map (unV ∘ kv) = ks.map (·.1) := List.map_congr_left fun k _ => unV_arr k.1
    have e2 : es.map (unV ∘ fun x => arrV x.2.1) = es.map (·.2.1) := List.map_congr_left fun k _ => unV_arr k.2.1
    rwa [e1, e2] at this
  have hnew : ∀ b, v.ownBlock = some b → w.heap.size ≤ b := fun b hb => (hrow.lt b hb).1
  refine ⟨v, .val (.v v), _, rfl, ⟨v, ks, rfl, hp', rfl⟩, ⟨.of hB, .cons (fun p hp b hb e => ?_) hown.apart, fun o ho => ?_⟩, readV_v.2 ⟨owns_one hrow, rfl⟩⟩
  · have h1 := hnew b hb
    have h2 := (Obj.blk_lt (hown.at_ p hp) e).2
    omega
  · rcases List.mem_cons.1 ho with rfl | ho
    · refine ⟨ks.map kc, ⟨?_, fun b hb => .inr (hnew b hb)⟩, rows_keys ks⟩
      rw [List.length_map]
      exact owns_low hrow
    · refine ((hown.at_ o ho).move (fun b hb => ⟨.inl hb, Nat.lt_of_lt_of_le (hok b hb) hB.size, fun o' ho' e => ?_⟩) (fun p hp => hB.cell (hok _ hp)) fun b hb => hB.block b (Obj.blk_lt (hown.at_ o ho) hb).2).rebase fun b hb => .inl ⟨o, ho, hb⟩
      rcases List.mem_cons.1 ho' with rfl | ho'
      · have := hnew b e
        have := hok b hb
        omega
      · exact hown.off b ⟨o', ho', e⟩ hb
set_option maxRecDepth 20000 in
set_option maxHeartbeats 2000000 in
theorem keys_addr (m : Nat) : FnM 75 [.v (.map (some m))] [] (fun r os' => ∃ g, r = .val (.v (.func (.func 122) #[] #[.pointer (some ⟨g, 0, none⟩)])) ∧ os' = [.var g 106 (.v (.map (some m)))]) := by
  refine FnM.walk 4 Tryz.func75 rfl Tryz.ntmps75 (by simp) fun X => ?_
  repeat
    (first
     | (apply P_assign; (iterate 3 exact rfl)) | (apply P_mkfunc; (iterate 3 exact rfl)) | (apply P_box; exact rfl; exact rfl; exact rfl; intro _) | apply EL.nil
     | ((with_reducible apply EK.then_normal); apply EK.code)
     | (with_reducible first | apply EC.seq | apply EC.region | apply EC.skip | apply EC.label | apply EC.block | apply EC.exit | apply EC.ret | apply EK.in_normal | apply EK.in_same | apply EK.in_ret | apply EK.then_ret | apply EK.then_exit))
  rename_i g
  exact EK.retM1s [.var g 106 (.v (.map (some m)))] rfl rfl (by (repeat first | exact List.nil_sublist _ | apply List.Sublist.cons_cons | apply List.Sublist.cons)) ⟨g, rfl, rfl⟩
set_option maxRecDepth 20000 in
set_option maxHeartbeats 2000000 in
theorem collect_addr (g m c : Nat) (es : List Ent) (hl : es.length * 20 ≤ 140737488355328) : FnM 121 [.v (.func (.func 122) #[] #[.pointer (some ⟨g, 0, none⟩)])] [.var g 106 (.v (.map (some m))), .map m 20 c es] (fun r os' => ∃ v, ∃ ks : List (Ky 20), r = .val (.v v) ∧ (ks.map (·.1)).Perm (es.map (·.2.1)) ∧ os' = [.row v 32 20 (ks.map dK), .var g 106 (.v (.map (some m))), .map m 20 c es]) := by
  have h1 := append_addr g m c es hl
  refine FnM.walk 5 Tryz.func121 rfl Tryz.ntmps121 (by simp) fun X => ?_
  repeat
    (first
     | (apply P_callM (os := [.var g 106 (.v (.map (some m))), .map m 20 c es]) h1; (iterate 2 exact rfl); exact RefineL.refl _ _; (focus (intro _ _; simp [go_sem]; done)); (iterate 2 exact rfl); rintro _ _ ⟨v, ks, rfl, hp, rfl⟩)
     | (apply P_move; (iterate 3 exact rfl)) | (apply P_assign; (iterate 3 exact rfl)) | apply EL.nil | ((with_reducible apply EK.then_normal); apply EK.code)
     | (with_reducible first | apply EC.seq | apply EC.region | apply EC.skip | apply EC.label | apply EC.block | apply EC.exit | apply EC.ret | apply EK.in_normal | apply EK.in_same | apply EK.in_ret | apply EK.then_ret | apply EK.then_exit))
  exact EK.retM1s [.row v 32 20 (ks.map dK), .var g 106 (.v (.map (some m))), .map m 20 c es] rfl rfl (by (repeat first | exact List.nil_sublist _ | apply List.Sublist.cons_cons | apply List.Sublist.cons)) ⟨v, ks, rfl, hp, rfl⟩
set_option maxRecDepth 20000 in
set_option maxHeartbeats 2000000 in
theorem sorted_addr (cf : FuncId) (hc : ∀ l m : List UInt8, l.length = 20 → m.length = 20 → ∀ w, Calls Tryz.prog cf #[arrV l, arrV m] w fun e w' => e = .returned (.int .i64 (cmpB l m)) ∧ ∃ q os', w' = grow (w.drewN q) os') (ec : ∀ args w, (callFunc cf args).run Tryz.prog w = .ok (.enter cf args) w)
    (g m c : Nat) (es : List Ent) (hl : es.length * 20 ≤ 140737488355328) : FnM 74 [.v (.func (.func 122) #[] #[.pointer (some ⟨g, 0, none⟩)]), .v (.func (.func cf) #[] #[])] [.var g 106 (.v (.map (some m))), .map m 20 c es] (fun r os' => ∃ v, r = .val (.v v) ∧ os' = [.row v 32 20 ((sortL (es.map (·.2.1))).map (D.arr 20)), .var g 106 (.v (.map (some m))), .map m 20 c es]) := by
  have h1 := collect_addr g m c es hl
  refine FnM.walk 12 Tryz.func74 rfl Tryz.ntmps74 (by simp) fun X => ?_
  repeat
    (first
     | (apply P_callM (os := [.var g 106 (.v (.map (some m))), .map m 20 c es]) h1; (iterate 2 exact rfl); exact RefineL.refl _ _; (focus (intro _ _; simp [go_sem]; done)); (iterate 2 exact rfl); rintro _ _ ⟨v, ks, rfl, hp, rfl⟩)
     | (apply P_move; (iterate 3 exact rfl)) | (apply P_assign; (iterate 3 exact rfl)) | apply EL.nil | ((with_reducible apply EK.then_normal); apply EK.code)
     | (with_reducible first | apply EC.seq | apply EC.region | apply EC.skip | apply EC.label | apply EC.block | apply EC.exit | apply EC.ret | apply EK.in_normal | apply EK.in_same | apply EK.in_ret | apply EK.then_ret | apply EK.then_exit))
  have hkl : ks.length = es.length := by simpa using hp.length_eq
  have h2 := sort_addr cf hc ec v ks (by omega)
  repeat
    (first
     | (apply P_callM (os := [.row v 32 20 (ks.map dK)]) h2; (iterate 2 exact rfl); exact RefineL.refl _ _; (focus (intro _ _; simp [go_sem]; done)); (iterate 2 exact rfl); rintro _ _ ⟨rfl, rfl⟩)
     | (apply P_move; (iterate 3 exact rfl)) | (apply P_assign; (iterate 3 exact rfl)) | apply EL.nil | ((with_reducible apply EK.then_normal); apply EK.code)
     | (with_reducible first | apply EC.seq | apply EC.region | apply EC.skip | apply EC.label | apply EC.block | apply EC.exit | apply EC.ret | apply EK.in_normal | apply EK.in_same | apply EK.in_ret | apply EK.then_ret | apply EK.then_exit))
  have hs : (ks.mergeSort fun x y => decide (x.1 ≤ y.1)).map (·.1) = sortL (es.map (·.2.1)) := by
    refine sortL_eq (((List.mergeSort_perm ks _).map (·.1)).trans hp) ?_
    have h := List.pairwise_mergeSort (le := fun x y : Ky 20 => decide (x.1 ≤ y.1)) (fun a b c h1 h2 => by simp only [decide_eq_true_eq] at h1 h2 ⊢; exact List.le_trans h1 h2) (fun a b => by simp only [Bool.or_eq_true, decide_eq_true_eq]; exact List.le_total a.1 b.1) ks
    rw [List.pairwise_map]
    exact h.imp fun h => by simpa using h
  exact EK.retM1s [.row v 32 20 ((ks.mergeSort fun x y => decide (x.1 ≤ y.1)).map dK), .var g 106 (.v (.map (some m))), .map m 20 c es] rfl rfl (by (repeat first | exact List.nil_sublist _ | apply List.Sublist.cons_cons | apply List.Sublist.cons)) ⟨v, rfl, by rw [val_dK, hs]⟩
theorem enters_word : ∀ args w, (callFunc 125 args).run Tryz.prog w = .ok (.enter 125 args) w := enters_of Tryz.func125 (by kernel_rfl) rfl
theorem append_word (g m c : Nat) (es : List Ent) (hl : es.length * 32 ≤ 140737488355328) : FnM 154 [.v (.slice none 0 0), .v (.func (.func 125) #[] #[.pointer (some ⟨g, 0, none⟩)])] [.var g 113 (.v (.map (some m))), .map m 32 c es] (fun r os' => ∃ v, ∃ ks : List (Ky 32), r = .val (.v v) ∧ (ks.map (·.1)).Perm (es.map (·.2.1)) ∧ os' = [.row v 34 32 (ks.map dK), .var g 113 (.v (.map (some m))), .map m 32 c es]) := by
  constructor
  intro ok w xs hok hown hr
  obtain ⟨x1, _, rfl, hx1, x2, _, rfl, hx2, rfl⟩ := hr
  obtain rfl := (readV_v.1 hx1).2
  obtain rfl := (readV_v.1 hx2).2
  obtain ⟨_, cs, hg, hrd⟩ := hown.at_ _ (List.mem_cons_self ..)
  obtain ⟨_, hent, arr, hm, hall⟩ := hown.at_ _ (List.mem_cons_of_mem _ (List.mem_cons_self ..))
  rw [Reads] at hrd
  rw [hrd.2] at hg
  have hglt := (Array.getElem?_eq_some_iff.1 hg).1
  have hmlt := (Array.getElem?_eq_some_iff.1 hm).1
  have hbs : arr.toList.map (·.born) = es.map (·.1) := all2_map (fun a b h => h.born) hall
  have hks : arr.toList.map (·.key) = es.map fun x => arrV x.2.1 := all2_map (fun a b h => h.key) hall
  have hsz : arr.size = es.length := by rw [← Array.length_toList, all2_length hall]
  have hseq : SeqStopsK Fence.wide 3 Tryz.prog 125 #[.pointer (some ⟨g, 0, none⟩)] (fun x : Ky 32 => #[kv x]) KeepsWalks (fun ss => (ss.map kv).Perm (arr.toList.map (·.key))) (fun _ => True) arr.size w := fun l J Jx W hW hJ _ hY h0 =>
    keys1_word 3 l g m (by omega) arr c J Jx hY W hJ ((hW.cell (p := ⟨g, 0, none⟩) hglt).trans (by rw [cell_of_row w g 0 _ _ _ hg]; rfl)) ((hW.block m hmlt).trans hm) (by rw [hbs]; exact hent.borns)
      (fun x hx => by obtain ⟨y, hy, he⟩ := all2_mem hall hx; rw [he.born]; exact hent.lt y hy)
      (fun x hx => by obtain ⟨y, hy, he⟩ := all2_mem hall hx; exact ⟨⟨y.2.1, he.len⟩, he.key⟩) h0
  refine (callsIn_wide.1 (appendSeq_word 4 (by omega) 125 #[.pointer (some ⟨g, 0, none⟩)] enters_word _ _ arr.size (by rw [hsz]; exact hl) w hseq)).mono ?_
  rintro e w' ⟨v, ks, rfl, hp, hrow, hnil, hB⟩
  have hp' : (ks.map (·.1)).Perm (es.map (·.2.1)) := by
    rw [hks] at hp
    have := hp.map unV
    rw [List.map_map, List.map_map] at this
    have e1 : ks.map (unV ∘ kv) = ks.map (·.1) := List.map_congr_left fun k _ => unV_arr k.1
    have e2 : es.map (unV ∘ fun x => arrV x.2.1) = es.map (·.2.1) := List.map_congr_left fun k _ => unV_arr k.2.1
    rwa [e1, e2] at this
  have hnew : ∀ b, v.ownBlock = some b → w.heap.size ≤ b := fun b hb => (hrow.lt b hb).1
  refine ⟨v, .val (.v v), _, rfl, ⟨v, ks, rfl, hp', rfl⟩, ⟨.of hB, .cons (fun p hp b hb e => ?_) hown.apart, fun o ho => ?_⟩, readV_v.2 ⟨owns_one hrow, rfl⟩⟩
  · have h1 := hnew b hb
    have h2 := (Obj.blk_lt (hown.at_ p hp) e).2
    omega
  · rcases List.mem_cons.1 ho with rfl | ho
    · refine ⟨ks.map kc, ⟨?_, fun b hb => .inr (hnew b hb)⟩, rows_keys ks⟩
      rw [List.length_map]
      exact owns_low hrow
    · refine ((hown.at_ o ho).move (fun b hb => ⟨.inl hb, Nat.lt_of_lt_of_le (hok b hb) hB.size, fun o' ho' e => ?_⟩) (fun p hp => hB.cell (hok _ hp)) fun b hb => hB.block b (Obj.blk_lt (hown.at_ o ho) hb).2).rebase fun b hb => .inl ⟨o, ho, hb⟩
      rcases List.mem_cons.1 ho' with rfl | ho'
      · have := hnew b e
        have := hok b hb
        omega
      · exact hown.off b ⟨o', ho', e⟩ hb
set_option maxRecDepth 20000 in
set_option maxHeartbeats 2000000 in
theorem keys_word (m : Nat) : FnM 80 [.v (.map (some m))] [] (fun r os' => ∃ g, r = .val (.v (.func (.func 125) #[] #[.pointer (some ⟨g, 0, none⟩)])) ∧ os' = [.var g 113 (.v (.map (some m)))]) := by
  refine FnM.walk 4 Tryz.func80 rfl Tryz.ntmps80 (by simp) fun X => ?_
  repeat
    (first
     | (apply P_assign; (iterate 3 exact rfl)) | (apply P_mkfunc; (iterate 3 exact rfl)) | (apply P_box; exact rfl; exact rfl; exact rfl; intro _) | apply EL.nil
     | ((with_reducible apply EK.then_normal); apply EK.code)
     | (with_reducible first | apply EC.seq | apply EC.region | apply EC.skip | apply EC.label | apply EC.block | apply EC.exit | apply EC.ret | apply EK.in_normal | apply EK.in_same | apply EK.in_ret | apply EK.then_ret | apply EK.then_exit))
  rename_i g
  exact EK.retM1s [.var g 113 (.v (.map (some m)))] rfl rfl (by (repeat first | exact List.nil_sublist _ | apply List.Sublist.cons_cons | apply List.Sublist.cons)) ⟨g, rfl, rfl⟩
set_option maxRecDepth 20000 in
set_option maxHeartbeats 2000000 in
theorem collect_word (g m c : Nat) (es : List Ent) (hl : es.length * 32 ≤ 140737488355328) : FnM 124 [.v (.func (.func 125) #[] #[.pointer (some ⟨g, 0, none⟩)])] [.var g 113 (.v (.map (some m))), .map m 32 c es] (fun r os' => ∃ v, ∃ ks : List (Ky 32), r = .val (.v v) ∧ (ks.map (·.1)).Perm (es.map (·.2.1)) ∧ os' = [.row v 34 32 (ks.map dK), .var g 113 (.v (.map (some m))), .map m 32 c es]) := by
  have h1 := append_word g m c es hl
  refine FnM.walk 5 Tryz.func124 rfl Tryz.ntmps124 (by simp) fun X => ?_
  repeat
    (first
     | (apply P_callM (os := [.var g 113 (.v (.map (some m))), .map m 32 c es]) h1; (iterate 2 exact rfl); exact RefineL.refl _ _; (focus (intro _ _; simp [go_sem]; done)); (iterate 2 exact rfl); rintro _ _ ⟨v, ks, rfl, hp, rfl⟩)
     | (apply P_move; (iterate 3 exact rfl)) | (apply P_assign; (iterate 3 exact rfl)) | apply EL.nil | ((with_reducible apply EK.then_normal); apply EK.code)
     | (with_reducible first | apply EC.seq | apply EC.region | apply EC.skip | apply EC.label | apply EC.block | apply EC.exit | apply EC.ret | apply EK.in_normal | apply EK.in_same | apply EK.in_ret | apply EK.then_ret | apply EK.then_exit))
  exact EK.retM1s [.row v 34 32 (ks.map dK), .var g 113 (.v (.map (some m))), .map m 32 c es] rfl rfl (by (repeat first | exact List.nil_sublist _ | apply List.Sublist.cons_cons | apply List.Sublist.cons)) ⟨v, ks, rfl, hp, rfl⟩
set_option maxRecDepth 20000 in
set_option maxHeartbeats 2000000 in
theorem sorted_word (cf : FuncId) (hc : ∀ l m : List UInt8, l.length = 32 → m.length = 32 → ∀ w, Calls Tryz.prog cf #[arrV l, arrV m] w fun e w' => e = .returned (.int .i64 (cmpB l m)) ∧ ∃ q os', w' = grow (w.drewN q) os') (ec : ∀ args w, (callFunc cf args).run Tryz.prog w = .ok (.enter cf args) w)
    (g m c : Nat) (es : List Ent) (hl : es.length * 32 ≤ 140737488355328) : FnM 79 [.v (.func (.func 125) #[] #[.pointer (some ⟨g, 0, none⟩)]), .v (.func (.func cf) #[] #[])] [.var g 113 (.v (.map (some m))), .map m 32 c es] (fun r os' => ∃ v, r = .val (.v v) ∧ os' = [.row v 34 32 ((sortL (es.map (·.2.1))).map (D.arr 32)), .var g 113 (.v (.map (some m))), .map m 32 c es]) := by
  have h1 := collect_word g m c es hl
  refine FnM.walk 12 Tryz.func79 rfl Tryz.ntmps79 (by simp) fun X => ?_
  repeat
    (first
     | (apply P_callM (os := [.var g 113 (.v (.map (some m))), .map m 32 c es]) h1; (iterate 2 exact rfl); exact RefineL.refl _ _; (focus (intro _ _; simp [go_sem]; done)); (iterate 2 exact rfl); rintro _ _ ⟨v, ks, rfl, hp, rfl⟩)
     | (apply P_move; (iterate 3 exact rfl)) | (apply P_assign; (iterate 3 exact rfl)) | apply EL.nil | ((with_reducible apply EK.then_normal); apply EK.code)
     | (with_reducible first | apply EC.seq | apply EC.region | apply EC.skip | apply EC.label | apply EC.block | apply EC.exit | apply EC.ret | apply EK.in_normal | apply EK.in_same | apply EK.in_ret | apply EK.then_ret | apply EK.then_exit))
  have hkl : ks.length = es.length := by simpa using hp.length_eq
  have h2 := sort_word cf hc ec v ks (by omega)
  repeat
    (first
     | (apply P_callM (os := [.row v 34 32 (ks.map dK)]) h2; (iterate 2 exact rfl); exact RefineL.refl _ _; (focus (intro _ _; simp [go_sem]; done)); (iterate 2 exact rfl); rintro _ _ ⟨rfl, rfl⟩)
     | (apply P_move; (iterate 3 exact rfl)) | (apply P_assign; (iterate 3 exact rfl)) | apply EL.nil | ((with_reducible apply EK.then_normal); apply EK.code)
     | (with_reducible first | apply EC.seq | apply EC.region | apply EC.skip | apply EC.label | apply EC.block | apply EC.exit | apply EC.ret | apply EK.in_normal | apply EK.in_same | apply EK.in_ret | apply EK.then_ret | apply EK.then_exit))
  have hs : (ks.mergeSort fun x y => decide (x.1 ≤ y.1)).map (·.1) = sortL (es.map (·.2.1)) := by
    refine sortL_eq (((List.mergeSort_perm ks _).map (·.1)).trans hp) ?_
    have h := List.pairwise_mergeSort (le := fun x y : Ky 32 => decide (x.1 ≤ y.1)) (fun a b c h1 h2 => by simp only [decide_eq_true_eq] at h1 h2 ⊢; exact List.le_trans h1 h2) (fun a b => by simp only [Bool.or_eq_true, decide_eq_true_eq]; exact List.le_total a.1 b.1) ks
    rw [List.pairwise_map]
    exact h.imp fun h => by simpa using h
  exact EK.retM1s [.row v 34 32 ((ks.mergeSort fun x y => decide (x.1 ≤ y.1)).map dK), .var g 113 (.v (.map (some m))), .map m 32 c es] rfl rfl (by (repeat first | exact List.nil_sublist _ | apply List.Sublist.cons_cons | apply List.Sublist.cons)) ⟨v, rfl, by rw [val_dK, hs]⟩
end E
end Go.Proofs.YtdhicdnmgmkpkaaGreat
