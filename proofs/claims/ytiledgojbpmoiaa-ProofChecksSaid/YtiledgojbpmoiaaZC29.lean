/-
 Merged (wip/tools/merge.py): TP9, KecHash, KecA1, EBC.
 Conditions: none.
-/
import Derived.Test.YtiledgojbpmoiaaZC20
import Derived.Test.YtiledgojbpmoiaaZC13
import Derived.Test.YtiledgojbpmoiaaZC16
import Derived.Test.YtiledgojbpmoiaaZC2
/-
 trie.Tree, trie.Root.
 Conditions: none.
-/
namespace Go.Proofs.Ytiledgojbpmoiaa
set_option linter.unusedVariables false
open Go.RowKit Mono Rlp
namespace E
theorem nib_hiT (x : UInt8) : (x >>> 4).toNat = x.toNat / 16 := by rw [UInt8.toNat_shiftRight]; simp [Nat.shiftRight_eq_div_pow]
theorem nib_loT (x : UInt8) : (x &&& 15).toNat = x.toNat % 16 := by rw [UInt8.toNat_and]; exact Nat.and_two_pow_sub_one_eq_mod _ 4
theorem split_smallT (l : List UInt8) : ∀ x ∈ split l, x.toNat ≤ 15 := by
 intro x hx
 obtain ⟨y, _, hy⟩ := List.mem_flatMap.1 hx
 simp only [List.mem_cons, List.not_mem_nil, or_false] at hy
 rcases hy with rfl | rfl
 · rw [nib_hiT]; have := y.toNat_lt; omega
 · rw [nib_loT]; omega
theorem bd_ok : ∀ (f : Nat) (l : List Pr) (at_ : Nat), (∀ x ∈ l, x.1.length ≤ 536870912) → (bdF f l at_).ok := by
 intro f
 induction f with
 | zero => intro l at_ h; exact trivial
 | succ f ih =>
  intro l at_ h
  match l with
  | [] => exact trivial
  | [x] =>
   show (x.1.drop at_).length ≤ 536870912
   have := h x (by simp)
   rw [List.length_drop]
   omega
  | x :: y :: r =>
   have hx := h x (by simp)
   rw [bdF]
   split
   ·
    refine ⟨?_, ih _ _ h⟩
    rw [List.length_take, List.length_drop]
    omega
   ·
    split
    · exact fun i => ih _ _ fun z hz => h z (List.mem_cons_of_mem _ ((List.mem_filter.1 hz).1))
    · exact fun i => ih _ _ fun z hz => h z ((List.mem_filter.1 hz).1)
def errP (l : List Pr) : Nat := if 100000 < l.length ∨ l.any lg = true then 3 else if l.any (·.2.isEmpty) = true then 1 else if ((l.map sp).map (·.1)).Nodup then 0 else 1
def treeT (l : List Pr) : Tn := bdF 200 (srt (l.map sp)) 0
theorem pairsF_ok {l : List Pr} (h : errP l = 0) : pairsF l = .tpl [.sl 2 ((srt (l.map sp)).map dPr), .v (.int .i64 0)] ∧ l.any lg = false ∧ ((l.map sp).map (·.1)).Nodup := by
 unfold errP at h
 unfold pairsF
 split at h
 · cases h
 ·
  rename_i h1
  rw [if_neg h1]
  split at h
  · cases h
  ·
   rename_i h2
   rw [if_neg h2]
   split at h
   ·
    rename_i h3
    rw [if_pos h3]
    exact ⟨rfl, by simpa using fun e => h1 (.inr e), h3⟩
   · cases h
theorem pairsF_err {l : List Pr} (h : errP l ≠ 0) : pairsF l = .tpl [.v (.slice none 0 0), .v (.int .i64 (errP l : Int))] := by
 unfold errP at h ⊢
 unfold pairsF
 split
 · rfl
 ·
  rename_i h1
  rw [if_neg h1] at h
  split
  · rfl
  ·
   rename_i h2
   rw [if_neg h2] at h
   split
   ·
    rename_i h3
    rw [if_pos h3] at h
    exact absurd rfl h
   · rfl
theorem rise_srt {l : List Pr} (hn : ((l.map sp).map (·.1)).Nodup) : Rise 0 (srt (l.map sp)) := by
 refine ⟨?_, fun x _ => Nat.zero_le _, fun x _ y _ => rfl, fun x hx b hb => ?_⟩
 ·
  have h1 := srt_sorted (l.map sp)
  have h2 : ((srt (l.map sp)).map (·.1)).Nodup := ((srt_perm (l.map sp)).map (·.1)).nodup_iff.2 hn
  unfold List.Nodup at h2
  rw [List.pairwise_map] at h2
  refine (h1.and h2).imp fun h => ?_
  exact Classical.byContradiction fun hn => h.2 (List.le_antisymm h.1 (List.not_lt.1 hn))
 ·
  obtain ⟨y, _, rfl⟩ := List.mem_map.1 ((srt_perm (l.map sp)).mem_iff.1 hx)
  have := split_smallT y.1 b hb
  omega
set_option maxRecDepth 20000 in
set_option maxHeartbeats 4000000 in
theorem f_Tree (l : List Pr) : Fn 23 [.sl 2 (l.map dPr)] (· = .tpl [if errP l = 0 then dT (treeT l) else .v .nilIface, .v (.int .i64 (errP l : Int))]) := by
 have h1 := f_pairs l
 refine Fn.walk 16 Try.func23 rfl Try.ntmps23 (by simp) fun X => ?_
 by_cases he : errP l = 0
 ·
  obtain ⟨e1, e2, e3⟩ := pairsF_ok he
  rw [e1] at h1
  rw [if_pos he, he]
  have hlen : ∀ x ∈ srt (l.map sp), x.1.length ≤ 128 := fun x hx => by
   obtain ⟨y, hy, rfl⟩ := List.mem_map.1 ((srt_perm (l.map sp)).mem_iff.1 hx)
   have := not_long e2 hy
   show (split y.1).length ≤ 128
   rw [split_length]
   omega
  have h2 := f_build 200 (srt (l.map sp)) 0 (rise_srt e3) (fun x hx => by have := hlen x hx; omega) (fun x hx => by have := hlen x hx; omega)
  repeat
   (first
    | (apply P_call (h1); rfl; exact RefineL.refl _ _; (focus (intro _ _; simp [go_sem]; done)); iterate 2 rfl)
    | (apply P_call (h2); rfl; exact RefineL.refl _ _; (focus (intro _ _; simp [go_sem]; done)); iterate 2 rfl) | (apply P_move; iterate 3 rfl)
    | (apply P_assign; iterate 3 rfl) | (apply P_extract; iterate 4 rfl)
    | (apply P_cmp (b := false); (iterate 2 rfl); (focus (first | (simp [cmpI]; done) | (simp [cmpI]; omega))); iterate 2 rfl) | apply EL.nil
    | ((with_reducible apply EK.then_normal); apply EK.code) | (apply EC.cond_false; rfl) | (with_reducible first | apply EC.seq | apply EC.region | apply EC.skip | apply EC.ret))
  exact EK.ret2 rfl rfl rfl rfl
 ·
  rw [pairsF_err he] at h1
  rw [if_neg he]
  have hne : (errP l : Int) ≠ 0 := by omega
  repeat
   (first
    | (apply P_call (h1); rfl; exact RefineL.refl _ _; (focus (intro _ _; simp [go_sem]; done)); iterate 2 rfl) | (apply P_move; iterate 3 rfl)
    | (apply P_assign; iterate 3 rfl) | (apply P_extract; iterate 4 rfl)
    | (apply P_cmp (b := true); (iterate 2 rfl); (focus (first | (simp [cmpI]; done) | (simp [cmpI]; omega))); iterate 2 rfl) | apply EL.nil
    | ((with_reducible apply EK.then_normal); apply EK.code) | (apply EC.cond_true; rfl) | (with_reducible first | apply EC.seq | apply EC.region | apply EC.ret | apply EK.then_ret))
  exact EK.ret2 rfl rfl rfl rfl
theorem tree_ok {l : List Pr} (h : errP l = 0) : (treeT l).ok := bd_ok _ _ _ fun x hx => by
 obtain ⟨y, hy, rfl⟩ := List.mem_map.1 ((srt_perm (l.map sp)).mem_iff.1 hx)
 have := not_long (pairsF_ok h).2.1 hy
 show (split y.1).length ≤ _
 rw [split_length]
 omega
def rootP (l : List Pr) : List UInt8 := if errP l = 0 then sumT (treeT l) else zero32
set_option maxRecDepth 20000 in
set_option maxHeartbeats 4000000 in
theorem f_Root (l : List Pr) : Fn 9 [.sl 2 (l.map dPr)] (· = .tpl [.arr 32 (rootP l), .v (.int .i64 (errP l : Int))]) := by
 have h1 := f_Tree l
 unfold rootP
 refine Fn.walk 17 Try.func9 rfl Try.ntmps9 (by simp) fun X => ?_
 by_cases he : errP l = 0
 ·
  have h2 := f_Sum (treeT l) (tree_ok he)
  rw [if_pos he, he] at h1 ⊢
  repeat
   (first
    | (apply P_call (h1); rfl; exact RefineL.refl _ _; (focus (intro _ _; simp [go_sem]; done)); iterate 2 rfl)
    | (apply P_call (h2); rfl; exact RefineL.refl _ _; (focus (intro _ _; simp [go_sem]; done)); iterate 2 rfl) | (apply P_move; iterate 3 rfl)
    | (apply P_assign; iterate 3 rfl) | (apply P_extract; iterate 4 rfl)
    | (apply P_cmp (b := false); (iterate 2 rfl); (focus (first | (simp [cmpI]; done) | (simp [cmpI]; omega))); iterate 2 rfl) | (apply P_alloc; rfl; rfl; rfl; intro _)
    | (apply P_store; rfl; (focus (repeat first | exact .z | apply SetAt.s | apply SetAtF.s)); iterate 4 rfl) | apply EL.nil | ((with_reducible apply EK.then_normal); apply EK.code)
    | (apply EC.cond_false; rfl) | (with_reducible first | apply EC.seq | apply EC.region | apply EC.skip | apply EC.ret))
  refine EK.retc2r 0 rfl rfl rfl rfl rfl ?_ rfl
  (repeat first | exact RefineL.refl _ _ | exact RL.nil | exact Rf.same | exact Rf.bs0 | exact Rf.sl0 | (apply Rf.fact; (focus (simp; done)); rfl) | apply Rf.tup | apply RL.cons)
 ·
  rw [if_neg he] at h1 ⊢
  have hne : (errP l : Int) ≠ 0 := by omega
  repeat
   (first
    | (apply P_call (h1); rfl; exact RefineL.refl _ _; (focus (intro _ _; simp [go_sem]; done)); iterate 2 rfl) | (apply P_move; iterate 3 rfl)
    | (apply P_assign; iterate 3 rfl) | (apply P_extract; iterate 4 rfl)
    | (apply P_cmp (b := true); (iterate 2 rfl); (focus (first | (simp [cmpI]; done) | (simp [cmpI]; omega))); iterate 2 rfl) | (apply P_build0; iterate 5 rfl)
    | (apply P_alloc; rfl; rfl; rfl; intro _) | (apply P_store; rfl; (focus (repeat first | exact .z | apply SetAt.s | apply SetAtF.s)); iterate 4 rfl) | apply EL.nil
    | ((with_reducible apply EK.then_normal); apply EK.code) | (apply EC.cond_true; rfl) | (with_reducible first | apply EC.seq | apply EC.region | apply EC.ret | apply EK.then_ret))
  refine EK.retc2r 0 rfl rfl rfl rfl rfl ?_ rfl
  (repeat first | exact RefineL.refl _ _ | exact RL.nil | exact Rf.same | exact Rf.bs0 | exact Rf.sl0 | (apply Rf.fact; (focus (simp; done)); rfl) | apply Rf.tup | apply RL.cons)
end E
end Go.Proofs.Ytiledgojbpmoiaa
/-
 Keccak in plain words: the sums of no bytes and of 'abc', round by round.
 Conditions: none. No program is named here. Printed by wip/tools/kechash.py.
-/
namespace Go.Proofs.Ytiledgojbpmoiaa.Kec
def ofL (l : List L) : St := fun k => l.getD k 0
def a0 : List L := [0x1, 0x0, 0x0, 0x0, 0x0, 0x0, 0x0, 0x0, 0x0, 0x0, 0x0, 0x0, 0x0, 0x0, 0x0, 0x0, 0x8000000000000000, 0x0, 0x0, 0x0, 0x0, 0x0, 0x0, 0x0, 0x0]
def a1 : List L := [0x40000000001, 0x100000000000, 0x40000008000, 0x0, 0x100000008000, 0x8, 0x300000200000, 0x1000000000000008, 0x300000000000, 0x1000000000200000, 0x2, 0x220, 0x40000, 0x202, 0x40020, 0x10000400, 0x1000004000, 0x400, 0x10004000, 0x1000000000, 0x2000010000000000, 0x20000000000, 0x10000000004, 0x2000020000000000, 0x4]
def a2 : List L := [0x36305230006404e6, 0x10c339b88b760106, 0x2c31260010309901, 0xb402598888e60461, 0x8ec12c0011141902, 0x479c441202162, 0xa9834204a1850002, 0x8002a96207243bf4, 0x2986b00442e20013, 0x88030ae2a44318c5, 0x40002504a452186c, 0x298438083b9f34, 0x14c09a8c9df0c04b, 0x382e3020480c46, 0x54d1819819b14311, 0x1bc065087388d40, 0x254056d141076300, 0x442c006724388184, 0x22881640e2122040, 0x425040a620050f84, 0x10250ab408141191, 0xea18c00a90a046e2, 0x2252e3040181054, 0xd800c8a408a061a1, 0x2218340ad024160e]
def a3 : List L := [0x7308cf19f675a28c, 0x24c8413593a231e3, 0x9f099d478b237977, 0x2ab7f95c8ac310b3, 0x8e28a10fc66873fc, 0x5d32e773b2b55c7d, 0x7d33980232045c83, 0xe28a2b70205085a5, 0xcc2cd7e324d2468e, 0xb74a863bf2536585, 0x5d369d3c79ba85a5, 0x22ed7119e3c4e384, 0x4bcc0c935097f374, 0x2e5dc77a860ca66f, 0x2dbeea71f1e35a7a, 0xc669dec7291539ab, 0x9f80d8ac374bb6cd, 0x91c77afe0262c26d, 0x2de8dbd4dcde6fb1, 0x46c24c7c739d6870, 0x783e0513afeccc1a, 0xa29ac517088ad63a, 0x1d20df7ecb8e7067, 0x655b7bf46aae9a3c, 0x43c735309c4e1439]
def a4 : List L := [0x7eec1012f66baee6, 0xe6d2e4458cac18a9, 0x5096c520535f288f, 0x5adf5824750696d5, 0x2867f1088b8fd658, 0xaccfdcb0bd9bcea8, 0x5fd9797e9164980, 0x44a2cbf947e16cee, 0xaceb2429db2cd55d, 0x6a48fc23515ee2a8, 0xb94607983d4705bf, 0x1b1bd3901a486275, 0xf1c146f6afe51ec3, 0x10de9de4ef506c58, 0x6ac0b280c3c395bb, 0xf97c5fbe14ff3bc6, 0x19cb20108c838c96, 0x982b0cf11854f22c, 0xd75032de9743a238, 0x27f400cc90c3447, 0xf2facacde688afb6, 0x682013742aa1e73d, 0xce5665bb2df4e84, 0x279226377095e8d6, 0x634646675441ce51]
def a5 : List L := [0x2ca78d1fb0a64dc7, 0x6450dd6a88cd74e3, 0x6cce78e37be7ccf9, 0x5f5144ba9082b898, 0x50bd6ebb1a526d89, 0x6b68cee4f00b096, 0x1d0fd475cb63df7b, 0xb871c02c5547e2ee, 0x54e2ff6b9c6e656e, 0xac2400ff8481b1e8, 0x484fb645561a4af9, 0x5b2d34b2fa6df33c, 0x85ee3ce0c5e41191, 0x19852566623a33e5, 0x5623446d9c77334d, 0xc0041cd3a2e7cde2, 0x268a41a57a642f48, 0x7f274ee5a657e34e, 0x23cb54ee34c79a96, 0x4087455b7b69c9a0, 0x3c4eee45f0e96635, 0xf60516babe614702, 0xdd5dc346837e8117, 0x14a0e647eb74e246, 0x6875306431036be1]
def a9 : List L := [0xe6793e2397506542, 0x1ddb637d149a8a06, 0x5b35a54e14bcffff, 0xcb5aa90388eba654, 0xa3a4bfc5a60473eb, 0x386aee2b513a1936, 0x6513d1f1219cb90f, 0xb8ec554e5f878440, 0x3580a2caed41269, 0x385bdf5eee3b532d, 0xd41099a6aef35b05, 0x262bc24121ebed31, 0x258932bf7f92e37d, 0x57cf2d18c4cd4f90, 0x1bf18ba20cfb0ba5, 0x9d56828b652f2b44, 0x8a1abfdf9d671216, 0xd32d5e80ee56ead9, 0x38c279ac8674cd62, 0x8e6b4f19f3ab9e48, 0xa101a4b68570f00b, 0x3646245c26b464b4, 0x1a0312ee4becc874, 0xcb1c53d72f8f5bde, 0xa5533594f4a600fc]
def a22 : List L := [0x67a6b668b7823e97, 0x6836c186c6896c37, 0x5228a82d35ea443d, 0x1147f1f0d89e6089, 0x9e61b976def8787e, 0x425268b17d929984, 0xbb647912c69e8767, 0x7dfe5dcd8c02e555, 0x7d8a497e88d5bc58, 0x1fa3ea82647afdfd, 0xd716262751ecd3f, 0xaddf2b6362a74ade, 0xd1ae1668ee1f7b6b, 0x22e411de1ce7ae26, 0xb573b3fa09ab1497, 0x8a84d26fc954382a, 0x97ac3379cd19e543, 0x95b0a4d5625a494a, 0x1e25db0b8cba4e17, 0xd342634463487e3b, 0x5ab2266e5f4f1133, 0x29ed02739defd2a4, 0x5ff62da7fb015c4a, 0xc488556b6dd3a215, 0x24b8bdcde0e9ebd8]
def b0 : List L := [0x1636261, 0x0, 0x0, 0x0, 0x0, 0x0, 0x0, 0x0, 0x0, 0x0, 0x0, 0x0, 0x0, 0x0, 0x0, 0x0, 0x8000000000000000, 0x0, 0x0, 0x0, 0x0, 0x0, 0x0, 0x0, 0x0]
def b1 : List L := [0x40001636261, 0x3626100000000016, 0x4b1b1308000, 0x436260, 0x362610b1b1308016, 0x8, 0x6c4c1c6c4c200024, 0x1000000000000008, 0x6c4c30000000002c, 0x10002c6c4c200000, 0x2c6c4c2, 0x2c6c4c220, 0x0, 0x2c40606c2, 0x40020, 0x1636239d898400, 0x1000004000, 0x58d898400, 0x16362610004000, 0x1000000000, 0x4362610000000001, 0x20000000000, 0x63626100058d8985, 0x2000020000000000, 0x58d8984]
def b2 : List L := [0xb6b21630dc026e64, 0x52ba4c56c5443c02, 0xded88d32d221a9bb, 0x535904cb1907aa56, 0xe991b3eb3a57a2ac, 0xeb855fc9f3e0a146, 0xc8dc57e61ea49e20, 0xc79089c798424af5, 0x27b647be0009fc0a, 0x744d8cf0e8f16279, 0x6f3510a79cc66f45, 0x1723ff0092b34376, 0x5e59853074605839, 0x918e737fd5e1ebc6, 0x94433808356fc6f1, 0x90a84b0c6728e506, 0xd4188ab88f232267, 0x2a670ca60fa64406, 0x11d916f3e7a3c06f, 0xac1fbeff27ca0496, 0xbca7ccc0ecc6a273, 0xd1aab11697c8054e, 0x870bd6f6841f1f6, 0x9326ada5ccef36e0, 0xd4ca5839a234e7ce]
def b3 : List L := [0xc61779d91d24b16d, 0x6cefc4cdde848952, 0xa15378cc82c99dd7, 0xaea845d98752cd7c, 0xfbd0cd045a2d2bcb, 0x8c48d4e2154cad66, 0xab8aec7f7604bc0f, 0x7c7274eaf4518220, 0xeb07e061a78e4bc6, 0x97066857e55a4bd, 0xad7721e6cca59f3c, 0x1e981ba123872c56, 0xf6b4e45d717e6b09, 0x9bdbc6096c8d2bc2, 0x5e24ae020cd1508a, 0x1c61295aa9750d20, 0x48ec4c90ba0816d1, 0x94121d34c7b4eb2c, 0xe2e3c08ce6a836da, 0xbd18315e115166f1, 0xa2657100b036c63a, 0x6bc8115a14660210, 0xae05dc7782050c51, 0xfd5982e51a3dc97f, 0xe3c3caa7f63fc4c]
def b4 : List L := [0xe0c2c79192c46b5, 0x5c76741a579886e1, 0x3a0180758acbf2ec, 0x2b459935eb34a4ae, 0xbc2d1c2ce932df28, 0xee8b9c4fdc46a6c0, 0xe1371e96fbaf5e5b, 0x2befb93d67f60fc2, 0xcb3c671c994edf25, 0x1bcc5eb3db7d9cba, 0x9f8f1c348c2bef4c, 0x4d6e61b6248ed041, 0xaf41a881e57332ef, 0xa3318d1b85e6baee, 0xd346917643b931df, 0xd8afef82fc4fdfac, 0x88553b2645021058, 0xa4a4c3fb8b5cfdc2, 0x182265eae5acd485, 0x7e838b9f32755c81, 0x320c917b3189056b, 0x1bc40b84fddc62e1, 0x83c91087c997ea27, 0xc8a268a4e77b364b, 0x6603c31ff29c66c]
def b8 : List L := [0xe4fdef2d684cc642, 0x9d647f607f8b13a7, 0x7eb8bb335fa1c983, 0xa9811160dbf15e95, 0x2daba9c1250543bb, 0x5ff481275c8e7001, 0x82ef9690b3fb8994, 0xcb42184bf3dbafcd, 0x7de15c665b133728, 0x4106fd241f1f5a95, 0x2932b23376846559, 0xc566160db5f858f9, 0x9fd1193e136d8add, 0x2b853389d5dc2799, 0x985ab50f090e7e5f, 0x99d77bef83ae3aac, 0xcb4e5d8d0936fba3, 0x2d82e3e716bc9f48, 0x5b684c24c0109ffb, 0xd5aea2723a9b3884, 0x63e9064ebe19aab9, 0x611c49f17262f69b, 0x9b4d0e374b99cab5, 0x8686021a3c424bfd, 0xd91a7be2e452997f]
theorem perm_congr {a b : St} (h : Same a b) : ∀ k, Same (perm a k) (perm b k)
 | 0 => h
 | k + 1 => round_same (perm_congr h k) (rc k)
end Go.Proofs.Ytiledgojbpmoiaa.Kec
/-
 Keccak in plain words: the sums of some bytes, round by round.
 Conditions: none. No program is named here. Printed by wip/tools/kech.py.
-/
namespace Go.Proofs.Ytiledgojbpmoiaa.Kec
def ea0 : List L := [0x180, 0x0, 0x0, 0x0, 0x0, 0x0, 0x0, 0x0, 0x0, 0x0, 0x0, 0x0, 0x0, 0x0, 0x0, 0x0, 0x8000000000000000, 0x0, 0x0, 0x0, 0x0, 0x0, 0x0, 0x0, 0x0]
def ea1 : List L := [0x40000000180, 0x18000000000000, 0x40000c00000, 0x181, 0x18000000c00000, 0x8, 0x30100030000000, 0x1000000000000008, 0x30100000000000, 0x1000000030000000, 0x300, 0x30020, 0x40000, 0x30300, 0x40020, 0x1800060000, 0x1000004000, 0x60000, 0x1800004000, 0x0, 0x2001800000000000, 0x20000000000, 0x1800000000600, 0x2000020000000000, 0x600]
def ea2 : List L := [0x1e48322010f207e2, 0xa1eda94a21c78528, 0x4aab1200d1d1598c, 0x934c0969498481d0, 0xe62b8000f9655814, 0x65481be15033040, 0xeb1100f428960301, 0x824917c680149344, 0x4fc78038c0820030, 0xe88a36846e14bb55, 0xf70a2293043c38, 0x2115a00c0e76daf4, 0x8043d11880e0230e, 0x332e30300d438d70, 0x8289c30619f183a2, 0x42167a3a8b39f8d1, 0x1d287e80e6034221, 0x4a304180045aaa0a, 0x1b165239699130f5, 0x4438350704e3480e, 0x91b1d4b815bc6148, 0xac1400ca8070c5a4, 0x5a1e0f01f8d1e40, 0x191cc4a8987931a9, 0x240238220608be65]
def ea3 : List L := [0x92eef97b5e30a756, 0xaaa0a063d7d9fb58, 0x7376f45f672b17d2, 0xda8753ae5708a048, 0x6e6a9a51a422cfcd, 0x3c6553212d548d0, 0x5583a58939a534a3, 0xcafcebb3ec90f08a, 0x645d5d005419ef7a, 0x5085f9943b9848d3, 0xcab2a22a21ef4c6f, 0xfc8ff582a2b56176, 0xa337a963db5e5569, 0xcf360963d7419d7d, 0x3fb0387983d78125, 0x2581f3c4fde6750c, 0xac9d46b5cae16ed8, 0xe573b60fc3c5e790, 0xf4ed04a481c505d1, 0xacd60c514b4b56d0, 0x5add1afa8597e255, 0xf7e8a9816c13c939, 0x5e97167cfd60654a, 0xa5b9dc355dbe9f89, 0xa0e393a41f9ba355]
def ea4 : List L := [0xb6571f4bcafff638, 0xa712c135767b0b37, 0x3ef15dd558442b4d, 0x5769df500abaa833, 0x6098cf6594883b70, 0x3ad175fc9734dc9d, 0xc304ad5e8ac19b2e, 0xbbd2c077e944d7cb, 0x4577f851c792003f, 0x8dc776f108a2bc83, 0x93e8b59c7ce45975, 0x341f96adbd4cf0f5, 0x1a70b485dc616d3c, 0xfa9d27e5a677e3ad, 0xc43a65318fd5ba17, 0xb023fbf1d82afe1e, 0xe2eb9b3bf6c3c42c, 0xf8f6bcaf7852c76b, 0x2bd456e1bf710678, 0x5fd635487a628568, 0x9ba79464a7d1ed64, 0x2cc73cf10757b11e, 0x810121ab4734dee8, 0x43aec45ed243ea46, 0x2239e41387a66162]
def ea5 : List L := [0x9f9724a944211ce6, 0x88ff73a8f6de6398, 0x81b7e335762b8946, 0xbdf48083b7ac88b5, 0x65e55c1af2b011c5, 0x684ca8bf71d4860f, 0x5bf5965daca66e38, 0xf8005bdda7dcc937, 0xde9aa35448f4668b, 0x36f9fd42bb73f831, 0xcb323f3b9948e6cc, 0x89a8131459e2ea2f, 0x72588f88c9761718, 0xcba47cc2a6e391f6, 0x8e00e4fc1afcc59d, 0x70737bf7824d33e4, 0x9e304e84a1d92131, 0x703d49145e18b377, 0x72f882f192c4b3b2, 0x2f8c9a6ba14c33c0, 0x2823c50ff1745669, 0x4f15f20a8334d5b8, 0x5ded6e10bb680808, 0x8250d2a9cf9474cd, 0x9097b287f0b3a60b]
def ea6 : List L := [0x4b9edd775044644a, 0x1aff93b62bb408ad, 0x5abb8218ddb2ef4e, 0x2abdbae98169a21, 0xf9f950d420cb18e5, 0x1563f516b7edd5a6, 0x96408b97192a6e3c, 0xf11f746ed93bc655, 0xac3eb6fca9f74014, 0x86d5cf5dba7b2754, 0x6c4c9975a5226c35, 0x40c143217882d362, 0xedd667c48527b6c, 0x9c9eb51a2fda27af, 0x62e587697d11e768, 0x4212bd27170d0643, 0x1da10009bc5413a9, 0x2df861f6019eeec5, 0x6efa279d6a0fafbb, 0x82c163189d67f47b, 0xad9c05fb1f82f7cb, 0xacc6d7b4a55c80f8, 0x97a4555f80301d21, 0xe7ec97aaf7a6698e, 0xdf492c5e5d1450c5]
def ea7 : List L := [0x70ac9b87e0fea58b, 0xde1da48340bf8798, 0xf4c80ef1f1a4e9, 0xee5d9ad68dd22bc4, 0x95fc76f380f3ff1e, 0xa1785d7eeb924d90, 0x5239c86cd987e6a, 0x21f69d683442e8be, 0x6fb7c3cee9400993, 0xd9926323be883bf0, 0x9347b2af52b4def4, 0x8f0aea215b74eebc, 0xe7dc1e9ce6267b45, 0x7119719a1981f787, 0x209670e31be17fb3, 0x4dba397e49249355, 0x6bae480cb817bdc2, 0x952efba9b691329e, 0x9658aa94551c9324, 0xf33c0b9cf56e5b92, 0x952405b7e00aef9d, 0xeb50d1e89142704, 0x55422e3cd5764b25, 0x2e4ae2e2e1c7f6ad, 0x1e5394a5df5aae3d]
def ea8 : List L := [0x7464df921b37467, 0xabd1fd64bb9c1bf0, 0x3ca943ae28ca9c95, 0x9fc504680c6358f9, 0x31ca0ddb3c86d33a, 0x5d5ddb8c8f280728, 0x78da359bc6bf799, 0xd6da3640adea1c70, 0xac5cff184d01b208, 0xdc35cf5d0474a452, 0x12e6b38df772a9cd, 0x4380ec4468d7e5a8, 0xc28dde4b37695307, 0x5751765d4a7da4c7, 0x350c846e97c9b93, 0xc76ebe51d7af1858, 0xfd53e6244c188b12, 0xab79162d08cbc565, 0xd2ff497829920ef9, 0xc9bad6acb1be68a7, 0x680ea51e454c9264, 0x7ab538041bc1146d, 0xc2dd528d36c154df, 0xdf8f6ddce49e2120, 0x60c4f53f7e88e4cf]
def ea9 : List L := [0x10e1b5dc6df83103, 0x7979721bd4ddd61c, 0xb037704c7e1c7d1c, 0x8bf2a029b60b88f6, 0xea6e0981d91137e7, 0xbbdf1df8f4dbdb98, 0x3a54c73d6c17b993, 0x4e0a5fd451cfe111, 0x9b26930f65c3087a, 0xef128fbef847e056, 0x446a7f9e2008c79, 0x64420026c5da6073, 0xbe0a3c5135349917, 0xb400594139a8343f, 0x33fce819737dbeaf, 0x4b674a1c04fe5ec9, 0x12b4b07eaf82a6df, 0xea33c33d5b93bd38, 0xb5d7d60748a8ca50, 0x5a01d3b0d4550db4, 0x65741feb87053239, 0xfb333c004b6f3839, 0x8bf98090c82e50d0, 0xc923f3b9909f1300, 0xe47622e379cd088c]
def ea10 : List L := [0x1d5e5855a5b07998, 0xa727df161afdf8d3, 0x18c67a0594d6e943, 0x1083c2cb7c50c8a7, 0x947be902ce1f0fc7, 0xe40b3a04f9fa0dfa, 0x2786920d1012f6ea, 0x9b00574274ea1010, 0xafa46100b043a417, 0xbd8aa4c286aef144, 0xe3d039f07d601fb6, 0x4b9e523d955ea18c, 0x941a29294181a520, 0xc1782cd7bf346810, 0xc1a36b3ef2a32147, 0x2e15b67519e4d708, 0x39299bface9fcf47, 0x42ea3423daea37b9, 0xf2fe510072f28edd, 0x3ed17917d0eda320, 0x7e85d12025d3cdb0, 0x42d59a76c04fde9d, 0xcfe9bff681094cf4, 0x7d05509ca19f6951, 0xe6db11d04403bd30]
def ea11 : List L := [0xcee0290529cb549a, 0x6d8dbd038339edb3, 0x8e6ca32427443456, 0x5d3aa28449efd62a, 0x49b1a31ead210bdd, 0xaded66c39e5ed8b8, 0x74a945ff7e0fa047, 0x91f663e802ed97f5, 0xf239c89063af6de7, 0x418cfea7ab1ea6dd, 0xad3bfcbbeedda9c9, 0x611b622bd61ad9b3, 0xbc01a7284e3a075a, 0x6f852740b9b3d6da, 0x8bb4a5f1c3eebd5c, 0xd32788913da5c8a3, 0x565b0b175cd11eaf, 0x15c593b3ae7a449d, 0xbe415bfad4e0882, 0xcbdf6d4915562ec1, 0x7bc30629830cad69, 0xd6eee394e58be20b, 0x28bab8d236ffaf24, 0xb4d51ed487ca1266, 0xf5d60644c338d430]
def ea12 : List L := [0x9274d3ed9e5067fb, 0xc5e372db6f26d7f6, 0x1cf2f4de22080ca5, 0x760f767a4525ee2f, 0x6b760d7168e341fd, 0xb59864c9d3bd788b, 0xa13c7bb52744135c, 0x289652e9c670511b, 0x11c5a834fa332b, 0x25ce52eb3e8ee470, 0x7776b79a07f8a6bc, 0xc4a7399afd8d0c44, 0x9dddb4859b104d9e, 0xe478dfe2e639525b, 0x4797911ec008c55c, 0x51dd25b22fd158f5, 0x201a1d0e365113ea, 0x4e0a875bc60fee60, 0xb440a0f245401d65, 0xfd532878cb53a182, 0xe3c607cf61f32c54, 0xbe496f726be93b7e, 0xbfb57adc43cc2270, 0x2dc5913f0719f645, 0x2bd8f57b9f103185]
def ea13 : List L := [0xb88e85fb8ed7f5d3, 0x56623f7f15719c6e, 0xa968d591a2afaec3, 0x1981318f931b675c, 0x3d210ab033e8f16c, 0x79d353b2b941fe6, 0xa1d2d3f3f97efaf4, 0x362218458b8495ee, 0x2de8c358d534c246, 0x3ac910b56456014e, 0x8fce04b9b48d4dd8, 0x5ceae7a1550765d0, 0xf4747237fc866cef, 0x98aa13118f5b6316, 0x15452fe8338b22d2, 0xf9b9ddd85c6cbaa8, 0x344881124bd345f, 0xefde417bb1ecea50, 0xba355631ab7633d3, 0xda8e895827fafa9f, 0xe94b932b6a08f980, 0x4bb3ac268d074677, 0xef1bbc4e9b45830b, 0xfc902fe54f2e087a, 0xa12663eeeb003fc8]
def ea14 : List L := [0xbfd7068c065c0d88, 0xc630bce4fa4d7209, 0xee8c3442a111cff1, 0x5e41b90445847885, 0x39a133efa7880cb, 0xe7541b681323dc0e, 0x2a0172f140db1525, 0x6864edde924c5d5, 0x55651d931ee4c379, 0x432f14fd5e2dc225, 0xe33480b419a60f2d, 0x472582f05a4bf1e0, 0xa850026db243b9de, 0xb5805e740be8b353, 0x5992d0cc71c8ec90, 0x7e8c9c1a1f685999, 0x2fe4dcbbc272519, 0x4e271a6293318eac, 0x3daa73aba824af7b, 0xac37409304e2b05b, 0x9683406bd811293a, 0xce5e8c3fdc25dfea, 0x882b36dfac276728, 0x889fa60564b96e93, 0xb9e34011563ba843]
def ea15 : List L := [0xf64fb3a4a6adeb5d, 0xb53906605084b33b, 0x1a38f88ef0ce3c55, 0x5be47193399621e1, 0x3bf7d30a9655954b, 0x8a4fca3f4de0525, 0x7db8d4bc73224aeb, 0x1d705cd658f349ba, 0xe71dcbfc088bbbac, 0xa806bfbea1ba8bf9, 0x73c8a8bef40af3bb, 0x124ac9d0402fd51d, 0x609061abcadc332c, 0xd6a51d1fd4778d99, 0xb3322eed1c8d5c62, 0x7ad78a0467bcdf1, 0x7dcb24e05cefe771, 0xc4ae1271ee0d1460, 0x627c55421c5e12f9, 0x79052f1f592b7050, 0x2d9e387a9e6d2d55, 0xc5a66a7367eb8ef8, 0xf3c77fee8aaf571, 0x6e92a8a2ecb2133, 0x8548d407149596d4]
def ea16 : List L := [0x1ffd81075d634423, 0x89868c214376b84c, 0x79faeb3d6e2b39e5, 0x1897142d912461f1, 0x109c57cdd0114934, 0x9953cae1a88b5b2f, 0x36aa89e592879aa2, 0x5454d42b1df6e93b, 0x7bb0fcc07c6f7d77, 0x2a09136651ffbbc1, 0xd7e8d333c94ac6f5, 0xbc6e6f19ea3930b8, 0xc2ff1649c187b5df, 0xf8d1a021cb6683bb, 0xa8132aa42e35e178, 0xa9d2aa16f249e81e, 0xf2c43fb51e6eed8a, 0x3ca91d9b459c5fb5, 0x5ea78cbb8fd497ec, 0x5813ab7970a1310e, 0xcd431fe96de30dda, 0x42ff270893d10c0a, 0x56c97c7aed7c0953, 0x6a871a24df1eb320, 0xca3617a7c43442c8]
def ea17 : List L := [0xb826e67726460f57, 0xb8652e9d72603263, 0x798750413e84fd42, 0x6df0fc4b99395a68, 0x20f97db03149f399, 0x921900307a9e1717, 0x24060025848a961b, 0xccf8f4c71da8831, 0x5e5f1086397a7f11, 0xb345a6d012f871a4, 0x37ae604fae75cb6d, 0x2027c451d199c2aa, 0xff0e80ebbcf966da, 0x232d7fa5d4f7c6a9, 0xa7e4f21a3978acca, 0x52470535fb27069c, 0x720f4e9d986f8f2d, 0x7f0d4d14059e3a4f, 0xe7af8b12abc46ea0, 0xf146397d38fbf141, 0x454b91c8dcb3be7c, 0x93b16301ec0028c7, 0x443175d6255203ef, 0xd09e7199ce78ad1f, 0xf71e0f7834bd5f62]
def ea18 : List L := [0x14f2d4ca96d24d7a, 0xa9e44c6ddcd87e6, 0x2fede69ddea3672a, 0x7809e20ab4f65628, 0x9ad023f5832c6361, 0x4421d1cc098ee858, 0xa98af92465582dfe, 0xda1e02f0de958e4c, 0x23e305cc3441768, 0x835fa40cce9bc4c7, 0xca08e45803729173, 0x95c68fc1b5806544, 0xfe5587ce638dac74, 0x6f7d31c3811abdc0, 0x1593ab96c7e3567c, 0xdc333cab21a740ac, 0x26115371bac93c94, 0x2a67f2a9d9d5d927, 0xec83a24a7d5737c1, 0x9c85a738dd7816d6, 0x1beedc76837e1768, 0x7a45f291ef43c7bc, 0xcc4f118aac4b1521, 0x328c70bfe56b439f, 0xaf63fc7653bddc65]
def ea19 : List L := [0x660c4c6fe35996f0, 0x44c420f01fd3e776, 0xfecdf8322fb64fb3, 0xdd0dce5503f6d748, 0xb24432a1f866168e, 0x8bef3b7bea672e5c, 0xceadce18fb2f6167, 0x1f5cfed93efb580, 0x2112168f80fe4dce, 0x6208b8113427a73c, 0x1a0a8a8b9bf3e203, 0x483db89ccaebc108, 0x307cbb851c5ccabc, 0xc49f5e448e190a7c, 0xb7f0af1153afc52e, 0xa8a6b360bf4f28c8, 0x43db99bbe34c1d8b, 0x2e1dda92f1dbe4c7, 0x5d72f517c73eb35, 0x1bb9fa843dda7a8f, 0xfc7c81f7b6c588b2, 0x476a3862cffe20f4, 0xadd544301a6a3869, 0x14a65fc988d91990, 0xf27bea43bed4f947]
def ea20 : List L := [0x8e39b670eff2b56f, 0x903fcf9c40e49ff2, 0x7bb7390bdd056c7d, 0xe98942ded7f9a4ea, 0x709315701ba0ed6b, 0xda8839d01a98df76, 0x26ebb3100a0a8c1, 0xede2e57c03d80cc2, 0x57e39b320ee8b6cc, 0x277debd11977305f, 0x3cd75c1147d2838a, 0x32f710ba89c6f715, 0xa1d4f41de92b5a4d, 0xbf4393f2edbd7bb6, 0x6f0ebef6a4afab00, 0xf0b39708c4eefb55, 0x9c42dc5cadaf947a, 0x410d4538c77e5dda, 0x4123000c2f0bcf49, 0x14049e77fcfaa831, 0x9673b4ac959bfe12, 0x216e332559697da6, 0x78a825453a6383ce, 0xc0a613d2964bcd1f, 0xd40f4b7847200828]
def ea21 : List L := [0xd8e771143a9fb023, 0xe8879118c520ff6b, 0x15a5d6ad3667960e, 0x1438e010fedffa88, 0x1cbc435debb11532, 0x4a2fb26475a7b01d, 0x2585315cb31760a5, 0xf1cdfe8947d3161e, 0x244c6d95a7ecdb76, 0xd0f43bd4187e677, 0xa7ab5d6a6b7c3557, 0x930fc59d826b375, 0xb2b8642774a461d6, 0xe42789be8dca7e48, 0x94b7ea44ff2dde1c, 0xfe4cbbf64f6b85e4, 0x410c5af197fd2f28, 0x65d606ff57697580, 0xe66b5a795bdebe8f, 0xa31e5570e567c586, 0xddd1f7780be66802, 0xb825007a42d7b27f, 0x2a0cf3615247ec4f, 0x99251867980b1d45, 0xee0544787dd4e185]
def ea22 : List L := [0xfb8a995c07308a25, 0xa23b8004e9070ffa, 0x5903760ca667c937, 0x95ba931e862deb42, 0x6ddc6ad80336ff23, 0xe24f15534dd29aed, 0xbebd326cb39bebb, 0xe4145c51859efeaa, 0x6acbcbcb67bb4ad, 0x4125cdbf10ec90b9, 0xdcf829440ba38ae5, 0xb18f2056bc5702c7, 0xf56dc8edeadb3e4e, 0x66ae5c3a99a2e428, 0x24e5d4e4ae55ffe2, 0x899a24c2cad945b1, 0x658da8fa1064490c, 0x5477ceb06f6ec0b3, 0xc6f9e3859a9a077b, 0x9f15996ba3276f33, 0xd7a814145bc1d342, 0xc5c0fc0168840931, 0xdb69bc492a84a796, 0xe55fdc949adbf8ad, 0x536c2fd129946b92]
def ea23 : List L := [0x8fcd2572748ef35a, 0x33398182d222a029, 0x823e7f0ed3bd0ef9, 0x3a0c163237c17bdf, 0x522848a4cfefacff, 0x1345cbc371849083, 0x12d37ab4b2c2036e, 0xd251b451c27aadb, 0xb506e4892fbf9b27, 0x7978f46633b6f9c9, 0x6fbc6e16818fbf93, 0x1ab06be43f41d1cf, 0x6af6215659d3020c, 0x13ceb1ae603eaf6e, 0x78ca16f29dd1cf8a, 0x5050ecd66768e8eb, 0xe7dc9835e479d777, 0x66fdf15659279802, 0xa84760568d93206c, 0xc724e0e7aff97daf, 0xda1a540434b0a6a9, 0xb00899cac6ae2559, 0xa9402766727b8b59, 0x7f2e6c7bb79dc4c1, 0x643da5edc63d215b]
def ea24 : List L := [0xa655cc1b171fe856, 0x6ef8c092e64583ff, 0xc0ad6c991be0485b, 0x21b463e3b52f6201, 0x6f2789526bdcb6fa, 0xb9a4dfa32e467194, 0x7fbf54770eac2b9d, 0x3b151fb49843c62a, 0x7456e960fec6dd27, 0x280ba513315a09b9, 0x7e575e5cfa088096, 0xac01167b7b5d86fb, 0xef9b6d2997b479f9, 0x6d93135b74fab5fa, 0xe593186487a0cc7b, 0x349ad316f75f5f7e, 0x7055a8558ef92038, 0xbd670349dcb6a5b4, 0x670d5078a2288496, 0x27f151402aba31fd, 0xcc7acc34cf013622, 0x61e0a6c7f80274d2, 0xf72051e0eeb4827c, 0x9a7f5ef7dcd7ed2b, 0x56db3f518f237f3f]
theorem ear0 : ∀ k, k < 25 → round (ofL ea0) (rc 0) k = ofL ea1 k := by decide +kernel
theorem ear1 : ∀ k, k < 25 → round (ofL ea1) (rc 1) k = ofL ea2 k := by decide +kernel
theorem ear2 : ∀ k, k < 25 → round (ofL ea2) (rc 2) k = ofL ea3 k := by decide +kernel
theorem ear3 : ∀ k, k < 25 → round (ofL ea3) (rc 3) k = ofL ea4 k := by decide +kernel
theorem ear4 : ∀ k, k < 25 → round (ofL ea4) (rc 4) k = ofL ea5 k := by decide +kernel
theorem ear5 : ∀ k, k < 25 → round (ofL ea5) (rc 5) k = ofL ea6 k := by decide +kernel
theorem ear6 : ∀ k, k < 25 → round (ofL ea6) (rc 6) k = ofL ea7 k := by decide +kernel
theorem ear7 : ∀ k, k < 25 → round (ofL ea7) (rc 7) k = ofL ea8 k := by decide +kernel
theorem ear8 : ∀ k, k < 25 → round (ofL ea8) (rc 8) k = ofL ea9 k := by decide +kernel
theorem ear9 : ∀ k, k < 25 → round (ofL ea9) (rc 9) k = ofL ea10 k := by decide +kernel
theorem ear10 : ∀ k, k < 25 → round (ofL ea10) (rc 10) k = ofL ea11 k := by decide +kernel
theorem ear11 : ∀ k, k < 25 → round (ofL ea11) (rc 11) k = ofL ea12 k := by decide +kernel
theorem ear12 : ∀ k, k < 25 → round (ofL ea12) (rc 12) k = ofL ea13 k := by decide +kernel
theorem ear13 : ∀ k, k < 25 → round (ofL ea13) (rc 13) k = ofL ea14 k := by decide +kernel
theorem ear14 : ∀ k, k < 25 → round (ofL ea14) (rc 14) k = ofL ea15 k := by decide +kernel
theorem ear15 : ∀ k, k < 25 → round (ofL ea15) (rc 15) k = ofL ea16 k := by decide +kernel
theorem ear16 : ∀ k, k < 25 → round (ofL ea16) (rc 16) k = ofL ea17 k := by decide +kernel
theorem ear17 : ∀ k, k < 25 → round (ofL ea17) (rc 17) k = ofL ea18 k := by decide +kernel
theorem ear18 : ∀ k, k < 25 → round (ofL ea18) (rc 18) k = ofL ea19 k := by decide +kernel
theorem ear19 : ∀ k, k < 25 → round (ofL ea19) (rc 19) k = ofL ea20 k := by decide +kernel
theorem ear20 : ∀ k, k < 25 → round (ofL ea20) (rc 20) k = ofL ea21 k := by decide +kernel
theorem ear21 : ∀ k, k < 25 → round (ofL ea21) (rc 21) k = ofL ea22 k := by decide +kernel
theorem ear22 : ∀ k, k < 25 → round (ofL ea22) (rc 22) k = ofL ea23 k := by decide +kernel
theorem ear23 : ∀ k, k < 25 → round (ofL ea23) (rc 23) k = ofL ea24 k := by decide +kernel
theorem ea_perm0 : Same (perm (ofL ea0) 0) (ofL ea0) := Same.refl _
theorem ea_perm1 : Same (perm (ofL ea0) 1) (ofL ea1) := (round_same ea_perm0 (rc 0)).trans ear0
theorem ea_perm2 : Same (perm (ofL ea0) 2) (ofL ea2) := (round_same ea_perm1 (rc 1)).trans ear1
theorem ea_perm3 : Same (perm (ofL ea0) 3) (ofL ea3) := (round_same ea_perm2 (rc 2)).trans ear2
theorem ea_perm4 : Same (perm (ofL ea0) 4) (ofL ea4) := (round_same ea_perm3 (rc 3)).trans ear3
theorem ea_perm5 : Same (perm (ofL ea0) 5) (ofL ea5) := (round_same ea_perm4 (rc 4)).trans ear4
theorem ea_perm6 : Same (perm (ofL ea0) 6) (ofL ea6) := (round_same ea_perm5 (rc 5)).trans ear5
theorem ea_perm7 : Same (perm (ofL ea0) 7) (ofL ea7) := (round_same ea_perm6 (rc 6)).trans ear6
theorem ea_perm8 : Same (perm (ofL ea0) 8) (ofL ea8) := (round_same ea_perm7 (rc 7)).trans ear7
theorem ea_perm9 : Same (perm (ofL ea0) 9) (ofL ea9) := (round_same ea_perm8 (rc 8)).trans ear8
theorem ea_perm10 : Same (perm (ofL ea0) 10) (ofL ea10) := (round_same ea_perm9 (rc 9)).trans ear9
theorem ea_perm11 : Same (perm (ofL ea0) 11) (ofL ea11) := (round_same ea_perm10 (rc 10)).trans ear10
theorem ea_perm12 : Same (perm (ofL ea0) 12) (ofL ea12) := (round_same ea_perm11 (rc 11)).trans ear11
theorem ea_perm13 : Same (perm (ofL ea0) 13) (ofL ea13) := (round_same ea_perm12 (rc 12)).trans ear12
theorem ea_perm14 : Same (perm (ofL ea0) 14) (ofL ea14) := (round_same ea_perm13 (rc 13)).trans ear13
theorem ea_perm15 : Same (perm (ofL ea0) 15) (ofL ea15) := (round_same ea_perm14 (rc 14)).trans ear14
theorem ea_perm16 : Same (perm (ofL ea0) 16) (ofL ea16) := (round_same ea_perm15 (rc 15)).trans ear15
theorem ea_perm17 : Same (perm (ofL ea0) 17) (ofL ea17) := (round_same ea_perm16 (rc 16)).trans ear16
theorem ea_perm18 : Same (perm (ofL ea0) 18) (ofL ea18) := (round_same ea_perm17 (rc 17)).trans ear17
theorem ea_perm19 : Same (perm (ofL ea0) 19) (ofL ea19) := (round_same ea_perm18 (rc 18)).trans ear18
theorem ea_perm20 : Same (perm (ofL ea0) 20) (ofL ea20) := (round_same ea_perm19 (rc 19)).trans ear19
theorem ea_perm21 : Same (perm (ofL ea0) 21) (ofL ea21) := (round_same ea_perm20 (rc 20)).trans ear20
theorem ea_perm22 : Same (perm (ofL ea0) 22) (ofL ea22) := (round_same ea_perm21 (rc 21)).trans ear21
theorem ea_perm23 : Same (perm (ofL ea0) 23) (ofL ea23) := (round_same ea_perm22 (rc 22)).trans ear22
theorem ea_perm24 : Same (perm (ofL ea0) 24) (ofL ea24) := (round_same ea_perm23 (rc 23)).trans ear23
def eaMsg : List UInt8 := [128]
def eaHash : List UInt8 := [86, 232, 31, 23, 27, 204, 85, 166, 255, 131, 69, 230, 146, 192, 248, 110, 91, 72, 224, 27, 153, 108, 173, 192, 1, 98, 47, 181, 227, 99, 180, 33]
theorem ea_start : ∀ k, k < 25 → takeB (takeB (absorbs eaMsg).1 (absorbs eaMsg).2 1) 135 128 k = ofL ea0 k := by decide +kernel
theorem ea_hash : hash eaMsg = eaHash := by
 unfold hash sponge
 rw [outL_same ((perm_congr ea_start 24).trans ea_perm24)]
 decide +kernel
def aa0 : List L := [0x131612082c4, 0x0, 0x0, 0x0, 0x0, 0x0, 0x0, 0x0, 0x0, 0x0, 0x0, 0x0, 0x0, 0x0, 0x0, 0x0, 0x8000000000000000, 0x0, 0x0, 0x0, 0x0, 0x0, 0x0, 0x0, 0x0]
def aa1 : List L := [0x531612082c4, 0x82c400000131612, 0x98b49041620000, 0x121200082c5, 0x8b4f09041711412, 0x8, 0x3674b41058a62c24, 0x8, 0x1058900000262c24, 0x362c241058800000, 0x262c2410588, 0x262c241058820, 0x0, 0x260a083448d88, 0x40020, 0x1616cda8c20b1013, 0x1000004000, 0x4c584820b1000, 0x1612082c40004013, 0x1000000000, 0x82c40000013161, 0x20000000000, 0x2082c0c584833a71, 0x2000020000000000, 0x4c584820b10]
def aa2 : List L := [0x622ced72cd3ebdd2, 0x97aea6055955ba61, 0xb1871ad3131c4ea3, 0x68cff42a83ff1ea1, 0xa565ab40d98100f9, 0xa49805e6874ed137, 0xc2a79116fc63dd09, 0x196ee9b1e0e93432, 0x63c8c3d129292dd2, 0x6a6ea67bfb5fe51a, 0xb82e5bb3ffeb89cf, 0xf2daac7748083e94, 0x22fc316d622a5257, 0x68ee0981616fd70b, 0xf5961c1b29b938ac, 0x57166f42e93ea0f6, 0xb26f306530cfb53f, 0x804f6fbe81e7954a, 0x910cae77927399c5, 0x9d14bf3778bc191c, 0x4c85f5c767c4a1b8, 0x2fe69b68fb364354, 0x98b61e4238e42491, 0xbfc67a283368f6f0, 0x5a87b76722c5db15]
def aa3 : List L := [0x2cdc00c0d3a529b4, 0x18346a47bde0226b, 0x445a599f2aaa74e5, 0x849502371b34f717, 0x93a0e78e0a74372c, 0x9c90fb960203ff5b, 0x91e27dba8dfef7b3, 0x8fb071870bfe9d88, 0xfcec9ec4efc70f02, 0xe63b7f245090d313, 0x8fe9cae3431ae86c, 0x5cc3248013b9cfe4, 0x3546b7f2340139f5, 0xab6e46e4bd42511b, 0x6197c9531fa2137c, 0xc2fca12e0928a11, 0xf9bf24c246275468, 0xb99ca426a3b2698, 0x4be6b9325621b0a9, 0xd107231b299ccc19, 0x485ebf242aa5a4f1, 0x32c5b525697ca424, 0x4c27d4bb5440a91e, 0x5fe596b160286829, 0x9dda54b306ea1429]
def aa4 : List L := [0xa0d2678d242e542b, 0x5eff1571bb990f0, 0x638c972916a2072d, 0xd0a72c528a0cfae8, 0x1f04ea1102c94349, 0x2a53a37f7ac2cb77, 0x3b2b71e06df90870, 0x3fb56d91b6298bff, 0x1b055247044ea1ee, 0x6aa4732131c4b40e, 0x218a4944a52d9c7a, 0xecd58c382c3d79a6, 0xea847cb18a471d14, 0xb9d591a330fa59c9, 0xad01618b65089046, 0x272e4343151e8498, 0x1cd004058f918b9c, 0xd98f8575b983cb54, 0xe7d8cefbb2fa4d7f, 0xc9d759d7887e6d4e, 0xb706140b731b3f0a, 0x4db82af9f8884b81, 0xce31d0290976e020, 0xa7e704da23137924, 0xa4abe421162c696d]
def aa5 : List L := [0x117d4e6dbe95d67d, 0x86d11a4e1dbd476, 0x1388f872620f37c5, 0xe45a2ba48514a964, 0xf110d0bd4bee7029, 0x4901be517134e619, 0x7c73f9493d28ee3e, 0xb0185479bdc1f87e, 0x40c904ffffabe69d, 0x518956a081541d20, 0x31e3d24f601abac2, 0x178816a5f9f9d93b, 0xdc76d84a25b2d9b0, 0x71dda599a22a18cf, 0x5083a720629d5190, 0x9ab19c3382c989c2, 0xb5cae30956e82c6e, 0x46a8ac4b3ed9de53, 0x7e84e5026973c4e1, 0xd6237c55012ba009, 0xc11a7eed1a2182df, 0x8fe8dc0dc4026de9, 0x385b9de5c302f8f8, 0x2243be241b84d380, 0xde91dab180787560]
def aa6 : List L := [0xfdaf431d7cf42440, 0x18ccd7c6ab222052, 0xb7df0cbd84567afc, 0xf3db8da44431ea34, 0x62c3c5ed4e93ccce, 0xd1704ca4421d65c, 0x49645997601c8f9c, 0x975bb73d357824d3, 0x289290b8c44e69d5, 0xebfc6f9a41edbd4, 0x70c4f54fb78d5b9b, 0xedcd9d175b96815e, 0xa57fd9e70c1f309b, 0xd36e6e6aee636829, 0x61bc7840b36cab09, 0x1d1a029fd003848c, 0xde1484e8420bb712, 0x59e75a0791adc8ae, 0xfb4e36f6fea50207, 0xa1d6a7f45546fb23, 0x964afee540e04836, 0x3e1ae3871155520a, 0x2b991087a1b7df11, 0xf84a17a6e13226ad, 0x97ca5df9e16b06ca]
def aa7 : List L := [0x1c81bf3d06d1630b, 0x15da6a512b68c85f, 0x93ac565a10bc91cb, 0x8e7402cd090e3e41, 0x658cab25a0dea6f9, 0xf68610eb61a39f0, 0xd1bdab7dfed9bc30, 0xb6447a36ed663a8c, 0xc50f2646f46c82c8, 0x3ca0162d18ebd54b, 0xd9b5b0f7d53deef9, 0xdd91c01f75047cc3, 0x2fe50821eca6e08a, 0xd2906cabf71114d, 0x5bb4ed0659305404, 0x760b965fbff4c075, 0xa1311beee376d5c2, 0xbc40cf605c5f503f, 0x6d3258e44fb949e5, 0xd2787f1db2b59dde, 0x77ffbf9428bf4ada, 0x9174925d764d54c9, 0xe0843a3e31fbc5fd, 0x53a8c82a09dbe018, 0xe8f3b2e104a32082]
def aa8 : List L := [0xf7f7f74921d7da24, 0x53993b3824254e4d, 0xf286ae942f1dfec6, 0x5612aa516f4e91b3, 0xe394715a5258048a, 0xb9bf7d7ca38ba6ee, 0xe33986cad4ddf680, 0x9319223b49993a6d, 0xe2453de8f5d1fb0d, 0x55458f64186f985, 0x85990b316c999c58, 0x19a56a36900ee67e, 0x77434f712d4fcdd8, 0xc2008163fee439ed, 0xd5bcb2c30fde302f, 0xa29a7644fe61a49b, 0xb020254789caefd9, 0x6a949fda36f3c6e4, 0x39759845e8f5b285, 0xc2344720dc557f4b, 0x86e5ade90d1c864f, 0x69f0f0c6b08659b7, 0x14baee9b176acbb4, 0xf651801af4455f03, 0xd42d8dd7a584105b]
def aa9 : List L := [0x333dd07377738d07, 0x3ec00dc373d7d84c, 0x92456aaa0081702b, 0xf71a2ce2db0689f, 0x8d40340b8204bcd0, 0xe4492d0ec76be3bf, 0xf619230c1fc637b6, 0x8f2ff2f454f9d52, 0x6891f0c86358083d, 0x50c13cfaaf7cffd8, 0x4b942b9ccab3399b, 0x49cf8834cf2ec460, 0x78bd22934dd0792a, 0x3fcf683e72713b4, 0xe3e43ac3f21dcecf, 0xc18d90d69c9ca64c, 0x12f51c4cf64a82a7, 0xb9c2a5f4dca57893, 0xe841df0929e17e13, 0x52a42f90f657b4bc, 0x2c286d3f29c890ce, 0x2eca3e9201e8340c, 0x664426d88dacc8aa, 0xabae62feabc2bc71, 0xddaf2fc5e4484ecc]
def aa10 : List L := [0x7c136a4d8392500f, 0x2a647fc064536620, 0xa4170853998a9670, 0x9f9d2a1eb2d6a2f3, 0x99c58196cb3b8015, 0xbaad333c8410bf5b, 0x49a3f4f8d68d4a84, 0x7c9bd8f478aa4f0, 0xf91e4b2d8fe40872, 0x7381f6c36b34466a, 0x9331d5e7c2cbb72, 0x9e7209d3879e206d, 0xec408d9452904d0c, 0xfc527a1a4dc2e8b5, 0xda0954a6f6bb9cd9, 0x8b5b63e3af5cedf, 0xb2382b82f74052ba, 0x3f4932c9f7fc557f, 0x889aefb5f3a4ef0e, 0x46febeb2ce681157, 0x9be6ab1980dbe3fe, 0x241ae0d43f957a31, 0x7d6bb3bde1ad027, 0xb3f530176144f5e9, 0x9644b779eee469e5]
def aa11 : List L := [0x694f930e9c811897, 0x4d52affdc0ee597e, 0x9ecfed9052e1d249, 0x47544483067d6af, 0xb458cf4cd0a666d1, 0xbdf80161e2172bfc, 0xd12225ee97fd8bc, 0xb3702f8d95368f29, 0xb1daa09c603debc0, 0x45e72d7c359578b8, 0x11720bdbce6cef2b, 0x941f695ce7e6c50b, 0xa1299fac95954b9f, 0xccdaa0f6a2fecf5d, 0x81e57722243ab0bc, 0x4993f9554cbd37ba, 0xd11c1bbcf704a4b1, 0xb8caa0e2d39348b8, 0x9861a626e04b3661, 0x84291e7d4e68c20b, 0xf327701e6c1fcee5, 0x4de764c9abed907f, 0xc58c62e106701e5b, 0xef688e66f012fbea, 0x5f9fe267c003eb60]
def aa12 : List L := [0xdbcc9bb0f8fc673c, 0x2741895820dc864e, 0x8147d7bb295f3cd7, 0x609f68ef7041d91a, 0x6fefa09fa7b9eb80, 0xf230bba9ca23d0d7, 0x8e1f3c0855fbde94, 0x4cb2aa3169b646fd, 0xe0b2d031a6819d99, 0xde354035dbfa8525, 0x836105ced7bc5873, 0xdd1bf03c91821f1d, 0xa17b2c02f89587d2, 0xb452e0443f1f54c5, 0xf0162936a5572100, 0xb19c41b932263435, 0xc45006d077b3b580, 0xb7123963b589b497, 0x7140da6391e0f649, 0x8f49e4838138b57c, 0x19c4ff3fe1e0246e, 0x948be930df7e2cde, 0x3bbfb4b02f0d1ad1, 0xf480d6556d6fb245, 0x4d62d0ccdc05df7]
def aa13 : List L := [0x5f2e9d8f7dc1f93b, 0xe813acc0f5fefa6a, 0xff8e527651f0f0ea, 0x8bd15ab47501a9a0, 0x33808d36fdb06e72, 0x37d68c638149b821, 0xfe3f7ec2ee324096, 0x2272b00a5d121e7b, 0xcdb3c8d954e7e2dc, 0xafa3c4fce7aead89, 0xebc351eea7123fd9, 0xd928f82afd922c41, 0xf03d4e969541e4f8, 0x3e82c9f3250f257a, 0xbcfb9b75a1466aa8, 0x88fe510a2eceda46, 0x69fc2c97b5af9a2d, 0xc5cf6b81553e8af8, 0x1526fba0a7d76869, 0xd780a9bf38446e87, 0x73ac913bc2c5de98, 0x2d520bc3c2dfb050, 0xee664f3801a10def, 0x97d48664a7696648, 0x546521da94bfd1c1]
def aa14 : List L := [0x678759f9c8250666, 0x622f792859656aa5, 0xdd2f63f080fe147, 0x22eeb5b56f82269e, 0x1f9dff2a7b77fb9, 0xe837b2c35a9cb635, 0x2e11cc3399ca272e, 0xfd748e3a97668e4e, 0xd61b33a9db386359, 0x16354cee92466e26, 0x39d4f3a1ea4835ff, 0x3f3d70e2059a2702, 0x2deeb7a49afc24ea, 0x789ba25201f6badd, 0x24bdcfec0a39717, 0x5c34afd2b9c80fec, 0xdf797f4629f5990b, 0x4971fbe169768071, 0xd504cf1f03b1d138, 0x1e9e96b38171d3c4, 0x79390eeeb218835d, 0xa4c674dabd7b1cb3, 0x1f7f13dd8d83a4a4, 0x616ba4d92c22732e, 0xe36cbd4fb19c0e65]
def aa15 : List L := [0x5e01b12d2af906d1, 0xab64cffe4b2ba282, 0x6b8c58aad772ad9c, 0x964b5cca518d504, 0x816639d21156cfed, 0x5419ddf3d3912421, 0x8b81cde1802adc77, 0x22f05ba848050997, 0xd9ceacf913bf7282, 0xae7e08553d305467, 0x4bd51f2af1095db1, 0x7a9ff684546e48e1, 0x7496d2c760046e4c, 0x4bbe79d42d9d8828, 0xe8c993d410ac8097, 0x84c199949cb81591, 0x500133c91398b177, 0x6829bb93fe83eee3, 0x718b963dea155bf6, 0xa38e12a7a429cc8, 0x9c7329d29322a119, 0x1e5794ae34d692fd, 0x9be6101e4eb13e5e, 0x18446f88b9ae8dad, 0x868adb3436b33d48]
def aa16 : List L := [0xb97bc6990a90953b, 0xbb8c94adcded1ca7, 0x1440d4393d9642c9, 0x91d226eeacc52b6b, 0xb3450c1311e7d12e, 0xe182eb384e986ff1, 0x4ed7d663a017f4fd, 0x37788fee7e46a80, 0xa9493322819575ac, 0x6b12aa6accf4fb05, 0xd9a2b13e34a0b93e, 0xca34b7686d2bffbc, 0x4c05128f1227e846, 0x98deaa2c10f6af16, 0x5bd6432c8bb8bda0, 0x97b586385adb43bd, 0x7aea38c3f22e2c7c, 0xab061f1104cfe6dc, 0x7fd26ad880434dc4, 0x454afe267a32bca2, 0x2ab2a67b9d94a09b, 0xa34897f894d6459e, 0x81f5f6647477406d, 0x810d2182bc4c41c1, 0xecca9e32b6f7f703]
def aa17 : List L := [0x9c8ab64d31af0482, 0xad15b750828c0662, 0xeb6320bbff1f8318, 0xf6e10eb069eb4718, 0xe5d97f34d09cb0d8, 0x834b5d531be1005c, 0x7ea87da0de5cd510, 0xe28da23a16c5f0d1, 0x683403eea00c8687, 0x4fd18895c6356bba, 0xcc97c4174fe0d21b, 0x6b8ce4f4a3bb0976, 0x35398641fb991c8b, 0xe9d7e50041001073, 0x7b4b2f42a2f83da2, 0xa6ef09e6eeeb7c4e, 0xd82cfd72c02d8419, 0x8497f1a856484cd7, 0xd62430b87133787f, 0x23a43b8c3d24fcae, 0x1feeb1c4a6da34fb, 0xa381510f4b0e52dc, 0xdf186923f8673732, 0xcf653460497f9701, 0x525dd17603a862c5]
def aa18 : List L := [0x324090f7412a426e, 0xb632e1064c37c8b8, 0x7f8bd35d1ee85550, 0xa31b1c13f23c049b, 0x40cbd70fb42c723d, 0xd4a6dfcfec6c5767, 0xa212b20e9e9f11f4, 0xe0a797a3d8cbb1cd, 0x426777bd4a590589, 0xd850665aed2c284a, 0x83a79db2ae88d0b8, 0x6d960394468045be, 0xe5d7afe2409fd71c, 0x4bb97d56186dde91, 0x78a7505d072cecb1, 0xf16504e080add7, 0xce84176a4086f745, 0x9ac6b9ff299830d, 0x557e25ba5c80494b, 0x6bef5b8614e6bb72, 0x7906fef3ea727cbb, 0xf387097fc30cff28, 0xa79adaacf2f74da4, 0x2c3ac9315afe732e, 0x9f3efac078231688]
def aa19 : List L := [0x2fc73dab548ad038, 0xec20173a7a3c481, 0x80c273383c2c709e, 0xea72fcb04b776d37, 0xa4a2f35bd6c594f4, 0x1111c9ad2de4d86a, 0xef0cba2e452b23d3, 0xf986877dd911178c, 0xe22b6f91bd89c4a3, 0x24a19e1a153421ce, 0xd88b04393181467, 0xc44a76e089298540, 0x477a0a7291edcd4b, 0x2332fa0696f62e9, 0x4efc9c595ac43184, 0xd3f99cfb69fdf7bc, 0x1c0652b79a131d32, 0xfdfbf018e63cc1d2, 0x68f8c40b636ff449, 0x72d76f1710b9f6bb, 0x360f1cc5f1618098, 0x24f031644f343d45, 0x9390268c37182c58, 0xfc3fa1322c5931fa, 0x527f716518406af6]
def aa20 : List L := [0x5bf41c362040043a, 0xdf5e69d0a5f5a7c4, 0xac97d03638b93451, 0x7cc9a4605ff48447, 0xcc088accae37fba2, 0x6441aa305aac828e, 0xc362a43f920041dc, 0xc9971d919bce48e2, 0x57b03dc08a91f4ea, 0x8775233de50b7b24, 0x75992e97344fc2ed, 0x69c6c1b5f6705976, 0x391e20a98b9c1b05, 0x6b3f513ec76e1649, 0xb7aee6a4f09797e4, 0x8e9680a0693aab51, 0x4644c9061827818c, 0xabff73c5ad2dcfcf, 0x578ecedac705aef9, 0xde30804b56af35eb, 0x387a4fbbc89b02ff, 0x6bb462cce585e2d1, 0xdafc25dfc8e7ed76, 0xdae74086967e911a, 0x84fb125ebdf97c9]
def aa21 : List L := [0x98c5a4af9ed0a817, 0x26736679b6d9ce05, 0xdb85c250d15def82, 0xf651d2757451f975, 0x141ecffa05419958, 0x70f652bcc25c8c63, 0x2a6b87fa35cbbc0c, 0x7a11fd8a549e6e1e, 0xdc2e96137d1c43bc, 0xcd1484ba72c721e5, 0xfa4880d62d4dc076, 0xf6adedc010d8b440, 0xd98db047a9667c29, 0x9e219c0a5abe03b8, 0xfa07b9347d66bc8d, 0x6d9a17ca57b77614, 0x4be07b7eff883273, 0xe6827e0e64fc3716, 0xe4f09a3d43f8a7d5, 0x97a24a024cde681c, 0x1ab8fac8201d2e89, 0xbed392950e0545e4, 0xd13b87d38093b976, 0x17cc1c28ffeaf437, 0x953a0d8f12761587]
def aa22 : List L := [0x36d9d8c65e571204, 0xaf53e907af9ec573, 0x18dc82d67e4a60ad, 0xd7a5b642e4c83f70, 0x913c39510082ce19, 0x5346577ba7ff7ffc, 0x1df11b192505005e, 0x2480da3dea7621bf, 0xdc685231498a0942, 0x4e9633d107a2fbb3, 0x98c0eb7a73686e60, 0xd7eb00d3ce5819a6, 0x70f1cb4665255583, 0xdb73d5b9e8fe9b7b, 0x55afd768d6fa011c, 0xbd71a04fb5d36912, 0x283983e4c6a0e295, 0x767b191d0db55426, 0x588a54ea0db77ee0, 0xb4930001d8bf3031, 0xb6a666f8f0562250, 0x5f205441d41c2561, 0x3b3401738840598e, 0x644866269cc4c714, 0x1a63874b6760fa64]
def aa23 : List L := [0x169cd9e419add6de, 0xcb2fec8aca4cf030, 0x93373c9ad3581a54, 0x4b306aa7c3c6c855, 0x31082d421d9926e3, 0xd049fdb8fdf3d8c4, 0x7064fddde9f6b3b4, 0x889fdc05c4a9129c, 0xb3c7c216b7c88c8b, 0x5d178605ccf00a42, 0xc0bc99191a256eb2, 0x87992059755e6da, 0x7ca83ada0824359e, 0xda53d7d2e8b41d87, 0xd02a8cb3ccf65b84, 0x38c2bbfa880a83fd, 0x5563161d132536f7, 0xf8d497f395a81988, 0x8d6e432a3f93d6bd, 0xab25045d90005321, 0x759d2264c06295a2, 0xdeca256653508ed6, 0xf7778aafe34d42ce, 0x54a375a690afa66, 0x23f596cdd1155d72]
def aa24 : List L := [0x55470cdba497b659, 0x49f6e8c115624840, 0xe61d298dada0a445, 0xdd39f6fbc42190cd, 0x758a6fe46027cf4e, 0x405e65eec8bcec37, 0x9a92b7db21e09996, 0x292be5615cb959c0, 0xb1a639a8d31b068b, 0x995d0f851230251e, 0xa4ddadd5bef8d38a, 0x88185acd1d3030ba, 0x12782753af96f6dc, 0xebf6f1b2019d5957, 0x9c4fd55b59a9e90e, 0x15fee6f0f82f1577, 0x1cc5fcfb3f3bc053, 0x22e3b3cc11701200, 0xbd263fde07bf4bb6, 0x1a0532938a29a6ee, 0xff8b86e52ca532ba, 0x3bd95d3fe32b6646, 0x6b8fe072bf674bb1, 0xc481ea7b00bcb171, 0x12be6f2e1f9e1401]
theorem aar0 : ∀ k, k < 25 → round (ofL aa0) (rc 0) k = ofL aa1 k := by decide +kernel
theorem aar1 : ∀ k, k < 25 → round (ofL aa1) (rc 1) k = ofL aa2 k := by decide +kernel
theorem aar2 : ∀ k, k < 25 → round (ofL aa2) (rc 2) k = ofL aa3 k := by decide +kernel
theorem aar3 : ∀ k, k < 25 → round (ofL aa3) (rc 3) k = ofL aa4 k := by decide +kernel
theorem aar4 : ∀ k, k < 25 → round (ofL aa4) (rc 4) k = ofL aa5 k := by decide +kernel
theorem aar5 : ∀ k, k < 25 → round (ofL aa5) (rc 5) k = ofL aa6 k := by decide +kernel
theorem aar6 : ∀ k, k < 25 → round (ofL aa6) (rc 6) k = ofL aa7 k := by decide +kernel
theorem aar7 : ∀ k, k < 25 → round (ofL aa7) (rc 7) k = ofL aa8 k := by decide +kernel
theorem aar8 : ∀ k, k < 25 → round (ofL aa8) (rc 8) k = ofL aa9 k := by decide +kernel
theorem aar9 : ∀ k, k < 25 → round (ofL aa9) (rc 9) k = ofL aa10 k := by decide +kernel
theorem aar10 : ∀ k, k < 25 → round (ofL aa10) (rc 10) k = ofL aa11 k := by decide +kernel
theorem aar11 : ∀ k, k < 25 → round (ofL aa11) (rc 11) k = ofL aa12 k := by decide +kernel
theorem aar12 : ∀ k, k < 25 → round (ofL aa12) (rc 12) k = ofL aa13 k := by decide +kernel
theorem aar13 : ∀ k, k < 25 → round (ofL aa13) (rc 13) k = ofL aa14 k := by decide +kernel
theorem aar14 : ∀ k, k < 25 → round (ofL aa14) (rc 14) k = ofL aa15 k := by decide +kernel
theorem aar15 : ∀ k, k < 25 → round (ofL aa15) (rc 15) k = ofL aa16 k := by decide +kernel
theorem aar16 : ∀ k, k < 25 → round (ofL aa16) (rc 16) k = ofL aa17 k := by decide +kernel
theorem aar17 : ∀ k, k < 25 → round (ofL aa17) (rc 17) k = ofL aa18 k := by decide +kernel
theorem aar18 : ∀ k, k < 25 → round (ofL aa18) (rc 18) k = ofL aa19 k := by decide +kernel
theorem aar19 : ∀ k, k < 25 → round (ofL aa19) (rc 19) k = ofL aa20 k := by decide +kernel
theorem aar20 : ∀ k, k < 25 → round (ofL aa20) (rc 20) k = ofL aa21 k := by decide +kernel
theorem aar21 : ∀ k, k < 25 → round (ofL aa21) (rc 21) k = ofL aa22 k := by decide +kernel
theorem aar22 : ∀ k, k < 25 → round (ofL aa22) (rc 22) k = ofL aa23 k := by decide +kernel
theorem aar23 : ∀ k, k < 25 → round (ofL aa23) (rc 23) k = ofL aa24 k := by decide +kernel
theorem aa_perm0 : Same (perm (ofL aa0) 0) (ofL aa0) := Same.refl _
theorem aa_perm1 : Same (perm (ofL aa0) 1) (ofL aa1) := (round_same aa_perm0 (rc 0)).trans aar0
theorem aa_perm2 : Same (perm (ofL aa0) 2) (ofL aa2) := (round_same aa_perm1 (rc 1)).trans aar1
theorem aa_perm3 : Same (perm (ofL aa0) 3) (ofL aa3) := (round_same aa_perm2 (rc 2)).trans aar2
theorem aa_perm4 : Same (perm (ofL aa0) 4) (ofL aa4) := (round_same aa_perm3 (rc 3)).trans aar3
theorem aa_perm5 : Same (perm (ofL aa0) 5) (ofL aa5) := (round_same aa_perm4 (rc 4)).trans aar4
theorem aa_perm6 : Same (perm (ofL aa0) 6) (ofL aa6) := (round_same aa_perm5 (rc 5)).trans aar5
theorem aa_perm7 : Same (perm (ofL aa0) 7) (ofL aa7) := (round_same aa_perm6 (rc 6)).trans aar6
theorem aa_perm8 : Same (perm (ofL aa0) 8) (ofL aa8) := (round_same aa_perm7 (rc 7)).trans aar7
theorem aa_perm9 : Same (perm (ofL aa0) 9) (ofL aa9) := (round_same aa_perm8 (rc 8)).trans aar8
theorem aa_perm10 : Same (perm (ofL aa0) 10) (ofL aa10) := (round_same aa_perm9 (rc 9)).trans aar9
theorem aa_perm11 : Same (perm (ofL aa0) 11) (ofL aa11) := (round_same aa_perm10 (rc 10)).trans aar10
theorem aa_perm12 : Same (perm (ofL aa0) 12) (ofL aa12) := (round_same aa_perm11 (rc 11)).trans aar11
theorem aa_perm13 : Same (perm (ofL aa0) 13) (ofL aa13) := (round_same aa_perm12 (rc 12)).trans aar12
theorem aa_perm14 : Same (perm (ofL aa0) 14) (ofL aa14) := (round_same aa_perm13 (rc 13)).trans aar13
theorem aa_perm15 : Same (perm (ofL aa0) 15) (ofL aa15) := (round_same aa_perm14 (rc 14)).trans aar14
theorem aa_perm16 : Same (perm (ofL aa0) 16) (ofL aa16) := (round_same aa_perm15 (rc 15)).trans aar15
theorem aa_perm17 : Same (perm (ofL aa0) 17) (ofL aa17) := (round_same aa_perm16 (rc 16)).trans aar16
theorem aa_perm18 : Same (perm (ofL aa0) 18) (ofL aa18) := (round_same aa_perm17 (rc 17)).trans aar17
theorem aa_perm19 : Same (perm (ofL aa0) 19) (ofL aa19) := (round_same aa_perm18 (rc 18)).trans aar18
theorem aa_perm20 : Same (perm (ofL aa0) 20) (ofL aa20) := (round_same aa_perm19 (rc 19)).trans aar19
theorem aa_perm21 : Same (perm (ofL aa0) 21) (ofL aa21) := (round_same aa_perm20 (rc 20)).trans aar20
theorem aa_perm22 : Same (perm (ofL aa0) 22) (ofL aa22) := (round_same aa_perm21 (rc 21)).trans aar21
theorem aa_perm23 : Same (perm (ofL aa0) 23) (ofL aa23) := (round_same aa_perm22 (rc 22)).trans aar22
theorem aa_perm24 : Same (perm (ofL aa0) 24) (ofL aa24) := (round_same aa_perm23 (rc 23)).trans aar23
def aaMsg : List UInt8 := [196, 130, 32, 97, 49]
def aaHash : List UInt8 := [89, 182, 151, 164, 219, 12, 71, 85, 64, 72, 98, 21, 193, 232, 246, 73, 69, 164, 160, 173, 141, 41, 29, 230, 205, 144, 33, 196, 251, 246, 57, 221]
theorem aa_start : ∀ k, k < 25 → takeB (takeB (absorbs aaMsg).1 (absorbs aaMsg).2 1) 135 128 k = ofL aa0 k := by decide +kernel
theorem aa_hash : hash aaMsg = aaHash := by
 unfold hash sponge
 rw [outL_same ((perm_congr aa_start 24).trans aa_perm24)]
 decide +kernel
end Go.Proofs.Ytiledgojbpmoiaa.Kec
/-
 The abstract machine: '[]byte("..")' of a constant.
 Conditions: none.
-/
namespace Go.Proofs.Ytiledgojbpmoiaa
set_option linter.unusedVariables false
open Go.RowKit Mono Rlp
namespace E
section
variable {N : Nat} {X : Cx N} {ops : Array Oper} {Q : Exit → Act → World → Prop} {l : List Oper} {rs : List (Tmp × R)} {os : List Obj} {fs : List (Value × D)}
theorem P_bytesC {t u ty ty' n : Nat} {pos pos' : String} {af af' : Array Edge} {parts : Array (Nat × Operand)} (bl : List UInt8) (hp : (parts.toList.map fun x => x.2) = bl.map fun b => Operand.const (bv b)) (hb : ∀ (a : Act) (w : World), (execOp a.eval ⟨some t, .buildSlice 24 n parts, ty, pos, af, none⟩).run Try.prog w = .ok (.value (.slice (some ⟨w.heap.size, 0, none⟩) n n)) (w.alloc (.cells (bvs bl).toArray 5))) (hn : n = bl.length) (hm : n ≤ 1000) (hN : Nat.blt t N = true) (hN2 : Nat.blt u N = true) (kk : EL X ops Q l ⟨(u, .val (.bs bl)) :: (t, .any) :: rs, os, fs⟩) : EL X ops Q (⟨some t, .buildSlice 24 n parts, ty, pos, af, none⟩ :: ⟨some u, .convert 24 24 (.tmp t), ty', pos', af', none⟩ :: l) ⟨rs, os, fs⟩ := by
 constructor
 intro a w ha
 have hg1 := gr_alloc w (.cells (bvs bl).toArray 5)
 have hg2 := gr_alloc w (.cells (bvs bl).toArray 5 ((bvs bl).toArray.size, (bvs bl).toArray.size + 1))
 have hd1 : ∀ x, some t = some x → x < N := fun x hx => by cases hx; simpa using hN
 have hd2 : ∀ x, some u = some x → x < N := fun x hx => by cases hx; simpa using hN2
 have a1 := (ha.gr hg1).put (d := some t) (r := .val (.v (.slice (some ⟨w.heap.size, 0, none⟩) n n))) hd1 (v_mk rfl)
 have e2 := ev_v (a1.kn fun _ => True) (x := .tmp t) (y := .slice (some ⟨w.heap.size, 0, none⟩) n n) (by simp [ev, St.put, look]) (fun _ _ => trivial)
 have hh : (w.alloc (.cells (bvs bl).toArray 5 ((bvs bl).toArray.size, (bvs bl).toArray.size + 1))).heap[w.heap.size]? = some (.cells (bvs bl).toArray 5 ((bvs bl).toArray.size, (bvs bl).toArray.size + 1)) := (MapKept.heap_alloc w _).1
 have hs : w.heap.size < (w.alloc (.cells (bvs bl).toArray 5 ((bvs bl).toArray.size, (bvs bl).toArray.size + 1))).heap.size := by simp
 have hrd : ReadR (more (X.ok os w) w (w.alloc (.cells (bvs bl).toArray 5 ((bvs bl).toArray.size, (bvs bl).toArray.size + 1)))) (w.alloc (.cells (bvs bl).toArray 5 ((bvs bl).toArray.size, (bvs bl).toArray.size + 1))) (.val (.bs bl)) (.slice (some ⟨w.heap.size, 0, none⟩) n n) := by
  subst hn
  refine bs_mk ⟨_, _, rfl, Nat.le_refl _, by simp only [maxLen]; omega, fun _ => ⟨w.heap.size, 0, rfl, ⟨.inr (Nat.le_refl _), hs⟩, fun j x hx => ?_⟩⟩
  rw [Nat.zero_add, cell_of_row _ _ j _ _ _ hh]
  simpa using hx
 have hr2 : (execOp (a.put (some t) (.slice (some ⟨w.heap.size, 0, none⟩) n n)).eval ⟨some u, .convert 24 24 (.tmp t), ty', pos', af', none⟩).run Try.prog (w.alloc (.cells (bvs bl).toArray 5)) = .ok (.value (.slice (some ⟨w.heap.size, 0, none⟩) n n)) (w.alloc (.cells (bvs bl).toArray 5 ((bvs bl).toArray.size, (bvs bl).toArray.size + 1))) := by
  unfold execOp
  simp only [e2, Sem.run_bind, conv_const, Result.andThen_ok, Sem.run_pure]
 unfold wpList
 rw [if_pos (by rfl)]
 refine .inl ?_
 unfold Oper.wp
 rw [hb a w]
 show wpList Try.prog ops Q (_ :: l) (a.put (some t) (.slice (some ⟨w.heap.size, 0, none⟩) n n)) (w.alloc (.cells (bvs bl).toArray 5))
 unfold wpList
 rw [if_pos (by rfl)]
 refine .inl ?_
 unfold Oper.wp
 rw [hr2]
 exact kk.go _ _ (((ha.gr hg2).put (d := some t) (r := .any) hd1 trivial).put (d := some u) (r := .val (.bs bl)) hd2 (hrd.mono (fun b hb => more_ok ha.mem hg2 hb) fun _ _ => rfl))
end
end E
end Go.Proofs.Ytiledgojbpmoiaa
