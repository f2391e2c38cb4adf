/-
  Merged (wip/tools/merge.py): EJ5, ECmp, EJK, JWrong, EJN.
  Conditions: none.
-/
import Derived.Test.YtekacgocjplfjaaZJ19
import Derived.Test.YtekacgocjplfjaaZJ12
import Derived.Test.YtekacgocjplfjaaZJ14
import Derived.Test.YtekacgocjplfjaaZJ11
import Derived.Test.YtekacgocjplfjaaZJ16
/-
  The laws' Big, alive.
  Conditions: none.
-/
namespace Go.Proofs.Ytekacgocjplfjaa
set_option linter.unusedVariables false
open Go.RowKit Mono Rlp Jn
namespace E
def bigC (c : Ch) : Bool := decide (200 < c.code.length) || decide (20 < c.slots.length)
def bigR (l : List Ch) : Bool := decide (20 < l.length) || l.any bigC
theorem big_small {d : Df} (h : bigR d.chs = false) : d.small := by
  unfold bigR at h
  simp only [Bool.or_eq_false_iff, decide_eq_false_iff_not, List.any_eq_false, bigC, Bool.or_eq_true, decide_eq_true_eq] at h
  refine ⟨by omega, fun c hc => ?_⟩
  have := h.2 c hc
  omega
theorem any_take (l : List Ch) (k : Nat) (hk : k < l.length) : (l.take (k + 1)).any bigC = ((l.take k).any bigC || bigC l[k]) := by
  rw [← List.take_append_getElem hk, List.any_append]
  simp
set_option maxRecDepth 20000 in
set_option maxHeartbeats 4000000 in
theorem f_Big (l : List Ch) : Fn 8 [.sl 56 (l.map dCh)] (· = .val (.v (.bool (bigR l)))) := by
  refine Fn.walk 29 Try.func8 rfl Try.ntmps8 (by simp) fun X => ?_
  have hlen : (l.map dCh).length = l.length := List.length_map _
  by_cases h20 : 20 < l.length
  · have hb : bigR l = true := by unfold bigR; simp [h20]
    rw [hb]
    clear hb
    repeat
      (first
       | (apply P_skip; exact rfl) | (apply P_move; (iterate 3 exact rfl)) | (apply P_assign; (iterate 3 exact rfl)) | (apply P_field; (iterate 6 exact rfl)) | (apply P_fieldpd; (iterate 7 exact rfl))
       | (apply P_extract; (iterate 4 exact rfl)) | (apply P_loadpd; (iterate 5 exact rfl)) | (apply P_pick; (iterate 4 exact rfl)) | (apply P_not; (iterate 3 exact rfl))
       | (apply P_load; exact rfl; (first | exact I0 | exact I1 | exact I2 | exact I3 | exact I4 | exact I5 | exact I6); (iterate 4 exact rfl))
       | (apply P_cmp (b := true); (iterate 2 exact rfl); (focus (first | (simp [cmpI]; done) | (simp [cmpI]; omega))); (iterate 2 exact rfl))
       | (apply P_cmp (b := false); (iterate 2 exact rfl); (focus (first | (simp [cmpI]; done) | (simp [cmpI]; omega))); (iterate 2 exact rfl)) | (apply P_cmp; (iterate 5 exact rfl))
       | (apply P_ar; (iterate 3 exact rfl); (focus omega); (focus omega); (iterate 2 exact rfl)) | (apply P_lenbs; (iterate 4 exact rfl)) | (apply P_lensl; (iterate 4 exact rfl))
       | (apply P_lenrow; exact rfl; (first | exact I0 | exact I1 | exact I2 | exact I3 | exact I4 | exact I5 | exact I6); (iterate 3 exact rfl)) | (apply P_lenv; (iterate 4 exact rfl))
       | (apply P_index; (iterate 4 exact rfl); (focus (first | exact ⟨by decide, rfl⟩ | (refine ⟨by omega, ?_⟩; rw [Int.toNat_natCast]; assumption))); (iterate 2 exact rfl))
       | (apply P_indexbs; (iterate 3 exact rfl); (focus (first | exact ⟨by decide, rfl⟩ | (refine ⟨by omega, ?_⟩; rw [Int.toNat_natCast]; assumption))); (iterate 2 exact rfl))
       | (apply P_str; (iterate 3 exact rfl)) | (apply P_build; (iterate 7 exact rfl)) | (apply P_build0; (iterate 5 exact rfl)) | (apply P_lit; (iterate 9 exact rfl))
       | (apply P_s2a; (iterate 2 exact rfl); (focus (first | assumption | omega)); (iterate 3 exact rfl)) | (apply P_alloc; exact rfl; exact rfl; exact rfl; intro _)
       | (apply P_box; exact rfl; exact rfl; exact rfl; intro _) | (apply P_store; exact rfl; (focus (repeat first | exact .z | apply SetAt.s | apply SetAtF.s)); (iterate 4 exact rfl))
       | ((apply P_append; exact rfl; (focus (repeat first | exact .z | apply SetAt.s | apply SetAtF.s)); (iterate 5 exact rfl); (focus (constructor <;> (first | (simp; done) | (simp; omega))))); intro _)
       | apply EL.nil | ((with_reducible apply EK.then_normal); apply EK.code) | with_reducible apply EC.seq | with_reducible apply EC.region | (apply EC.cond_true; exact rfl)
       | (apply EC.cond_false; exact rfl) | with_reducible apply EC.skip | with_reducible apply EC.label | with_reducible apply EC.block | with_reducible apply EC.exit | with_reducible apply EC.ret
       | with_reducible apply EK.in_normal | with_reducible apply EK.in_same | ((with_reducible apply EK.in_other); exact rfl) | with_reducible apply EK.in_ret | with_reducible apply EK.then_ret
       | with_reducible apply EK.then_exit)
    exact EK.ret1 rfl rfl rfl
  ·
    repeat
      (first
       | (apply P_skip; exact rfl) | (apply P_move; (iterate 3 exact rfl)) | (apply P_assign; (iterate 3 exact rfl)) | (apply P_field; (iterate 6 exact rfl)) | (apply P_fieldpd; (iterate 7 exact rfl))
       | (apply P_extract; (iterate 4 exact rfl)) | (apply P_loadpd; (iterate 5 exact rfl)) | (apply P_pick; (iterate 4 exact rfl)) | (apply P_not; (iterate 3 exact rfl))
       | (apply P_load; exact rfl; (first | exact I0 | exact I1 | exact I2 | exact I3 | exact I4 | exact I5 | exact I6); (iterate 4 exact rfl))
       | (apply P_cmp (b := true); (iterate 2 exact rfl); (focus (first | (simp [cmpI]; done) | (simp [cmpI]; omega))); (iterate 2 exact rfl))
       | (apply P_cmp (b := false); (iterate 2 exact rfl); (focus (first | (simp [cmpI]; done) | (simp [cmpI]; omega))); (iterate 2 exact rfl)) | (apply P_cmp; (iterate 5 exact rfl))
       | (apply P_ar; (iterate 3 exact rfl); (focus omega); (focus omega); (iterate 2 exact rfl)) | (apply P_lenbs; (iterate 4 exact rfl)) | (apply P_lensl; (iterate 4 exact rfl))
       | (apply P_lenrow; exact rfl; (first | exact I0 | exact I1 | exact I2 | exact I3 | exact I4 | exact I5 | exact I6); (iterate 3 exact rfl)) | (apply P_lenv; (iterate 4 exact rfl))
       | (apply P_index; (iterate 4 exact rfl); (focus (first | exact ⟨by decide, rfl⟩ | (refine ⟨by omega, ?_⟩; rw [Int.toNat_natCast]; assumption))); (iterate 2 exact rfl))
       | (apply P_indexbs; (iterate 3 exact rfl); (focus (first | exact ⟨by decide, rfl⟩ | (refine ⟨by omega, ?_⟩; rw [Int.toNat_natCast]; assumption))); (iterate 2 exact rfl))
       | (apply P_str; (iterate 3 exact rfl)) | (apply P_build; (iterate 7 exact rfl)) | (apply P_build0; (iterate 5 exact rfl)) | (apply P_lit; (iterate 9 exact rfl))
       | (apply P_s2a; (iterate 2 exact rfl); (focus (first | assumption | omega)); (iterate 3 exact rfl)) | (apply P_alloc; exact rfl; exact rfl; exact rfl; intro _)
       | (apply P_box; exact rfl; exact rfl; exact rfl; intro _) | (apply P_store; exact rfl; (focus (repeat first | exact .z | apply SetAt.s | apply SetAtF.s)); (iterate 4 exact rfl))
       | ((apply P_append; exact rfl; (focus (repeat first | exact .z | apply SetAt.s | apply SetAtF.s)); (iterate 5 exact rfl); (focus (constructor <;> (first | (simp; done) | (simp; omega))))); intro _)
       | apply EL.nil | ((with_reducible apply EK.then_normal); apply EK.code) | with_reducible apply EC.seq | with_reducible apply EC.region | (apply EC.cond_true; exact rfl)
       | (apply EC.cond_false; exact rfl) | with_reducible apply EC.skip | with_reducible apply EC.label | with_reducible apply EC.block | with_reducible apply EC.exit | with_reducible apply EC.ret
       | with_reducible apply EK.in_normal | with_reducible apply EK.in_same | ((with_reducible apply EK.in_other); exact rfl) | with_reducible apply EK.in_ret | with_reducible apply EK.then_ret
       | with_reducible apply EK.then_exit)
    refine EC.loop (ι := {k : Nat // k ≤ l.length ∧ (l.take k).any bigC = false}) (fun k => ⟨[(3, .val (.v (.int .i64 (k.1 : Int)))), (0, .val (.sl 56 (l.map dCh)))], [], []⟩) (fun k => l.length - k.1) ⟨0, by simp, by simp⟩ ?_ ?_
    · exact (Le.keep (by repeat first | exact trivial | refine ⟨rfl, ?_⟩) (by repeat first | exact List.nil_sublist _ | apply List.Sublist.cons_cons | apply List.Sublist.cons) (by simp))
    rintro ⟨k, hk, hd⟩
    dsimp only at hk hd ⊢
    by_cases hlt : k < l.length
    · have hy : (l.map dCh)[k]? = some (dCh l[k]) := by rw [List.getElem?_map, List.getElem?_eq_getElem hlt]; rfl
      have hany := any_take l k hlt
      have hin : l[k] ∈ l := List.getElem_mem hlt
      generalize l[k] = c at hy hany hin
      have hsl : (c.slots.map dSl).length = c.slots.length := List.length_map _
      unfold dCh at hy
      by_cases hc : bigC c = true
      · have hb : bigR l = true := by
          unfold bigR
          rw [Bool.or_eq_true]
          exact .inr (List.any_eq_true.2 ⟨c, hin, hc⟩)
        rw [hb]
        clear hb hany
        unfold bigC at hc
        by_cases h1 : 200 < c.code.length
        ·
          repeat
            (first
             | (apply P_skip; exact rfl) | (apply P_move; (iterate 3 exact rfl)) | (apply P_assign; (iterate 3 exact rfl)) | (apply P_field; (iterate 6 exact rfl)) | (apply P_fieldpd; (iterate 7 exact rfl))
             | (apply P_extract; (iterate 4 exact rfl)) | (apply P_loadpd; (iterate 5 exact rfl)) | (apply P_pick; (iterate 4 exact rfl)) | (apply P_not; (iterate 3 exact rfl))
             | (apply P_load; exact rfl; (first | exact I0 | exact I1 | exact I2 | exact I3 | exact I4 | exact I5 | exact I6); (iterate 4 exact rfl))
             | (apply P_cmp (b := true); (iterate 2 exact rfl); (focus (first | (simp [cmpI]; done) | (simp [cmpI]; omega))); (iterate 2 exact rfl))
             | (apply P_cmp (b := false); (iterate 2 exact rfl); (focus (first | (simp [cmpI]; done) | (simp [cmpI]; omega))); (iterate 2 exact rfl)) | (apply P_cmp; (iterate 5 exact rfl))
             | (apply P_ar; (iterate 3 exact rfl); (focus omega); (focus omega); (iterate 2 exact rfl)) | (apply P_lenbs; (iterate 4 exact rfl)) | (apply P_lensl; (iterate 4 exact rfl))
             | (apply P_lenrow; exact rfl; (first | exact I0 | exact I1 | exact I2 | exact I3 | exact I4 | exact I5 | exact I6); (iterate 3 exact rfl)) | (apply P_lenv; (iterate 4 exact rfl))
             | (apply P_index; (iterate 4 exact rfl); (focus (first | exact ⟨by decide, rfl⟩ | (refine ⟨by omega, ?_⟩; rw [Int.toNat_natCast]; assumption))); (iterate 2 exact rfl))
             | (apply P_indexbs; (iterate 3 exact rfl); (focus (first | exact ⟨by decide, rfl⟩ | (refine ⟨by omega, ?_⟩; rw [Int.toNat_natCast]; assumption))); (iterate 2 exact rfl))
             | (apply P_str; (iterate 3 exact rfl)) | (apply P_build; (iterate 7 exact rfl)) | (apply P_build0; (iterate 5 exact rfl)) | (apply P_lit; (iterate 9 exact rfl))
             | (apply P_s2a; (iterate 2 exact rfl); (focus (first | assumption | omega)); (iterate 3 exact rfl)) | (apply P_alloc; exact rfl; exact rfl; exact rfl; intro _)
             | (apply P_box; exact rfl; exact rfl; exact rfl; intro _) | (apply P_store; exact rfl; (focus (repeat first | exact .z | apply SetAt.s | apply SetAtF.s)); (iterate 4 exact rfl))
             | ((apply P_append; exact rfl; (focus (repeat first | exact .z | apply SetAt.s | apply SetAtF.s)); (iterate 5 exact rfl); (focus (constructor <;> (first | (simp; done) | (simp; omega))))); intro _)
             | apply EL.nil | ((with_reducible apply EK.then_normal); apply EK.code) | with_reducible apply EC.seq | with_reducible apply EC.region | (apply EC.cond_true; exact rfl)
             | (apply EC.cond_false; exact rfl) | with_reducible apply EC.skip | with_reducible apply EC.label | with_reducible apply EC.block | with_reducible apply EC.exit | with_reducible apply EC.ret
             | with_reducible apply EK.in_normal | with_reducible apply EK.in_same | ((with_reducible apply EK.in_other); exact rfl) | with_reducible apply EK.in_ret | with_reducible apply EK.then_ret
             | with_reducible apply EK.then_exit)
          exact EK.ret1 rfl rfl rfl
        · have h2 : 20 < c.slots.length := by simpa [h1] using hc
          repeat
            (first
             | (apply P_skip; exact rfl) | (apply P_move; (iterate 3 exact rfl)) | (apply P_assign; (iterate 3 exact rfl)) | (apply P_field; (iterate 6 exact rfl)) | (apply P_fieldpd; (iterate 7 exact rfl))
             | (apply P_extract; (iterate 4 exact rfl)) | (apply P_loadpd; (iterate 5 exact rfl)) | (apply P_pick; (iterate 4 exact rfl)) | (apply P_not; (iterate 3 exact rfl))
             | (apply P_load; exact rfl; (first | exact I0 | exact I1 | exact I2 | exact I3 | exact I4 | exact I5 | exact I6); (iterate 4 exact rfl))
             | (apply P_cmp (b := true); (iterate 2 exact rfl); (focus (first | (simp [cmpI]; done) | (simp [cmpI]; omega))); (iterate 2 exact rfl))
             | (apply P_cmp (b := false); (iterate 2 exact rfl); (focus (first | (simp [cmpI]; done) | (simp [cmpI]; omega))); (iterate 2 exact rfl)) | (apply P_cmp; (iterate 5 exact rfl))
             | (apply P_ar; (iterate 3 exact rfl); (focus omega); (focus omega); (iterate 2 exact rfl)) | (apply P_lenbs; (iterate 4 exact rfl)) | (apply P_lensl; (iterate 4 exact rfl))
             | (apply P_lenrow; exact rfl; (first | exact I0 | exact I1 | exact I2 | exact I3 | exact I4 | exact I5 | exact I6); (iterate 3 exact rfl)) | (apply P_lenv; (iterate 4 exact rfl))
             | (apply P_index; (iterate 4 exact rfl); (focus (first | exact ⟨by decide, rfl⟩ | (refine ⟨by omega, ?_⟩; rw [Int.toNat_natCast]; assumption))); (iterate 2 exact rfl))
             | (apply P_indexbs; (iterate 3 exact rfl); (focus (first | exact ⟨by decide, rfl⟩ | (refine ⟨by omega, ?_⟩; rw [Int.toNat_natCast]; assumption))); (iterate 2 exact rfl))
             | (apply P_str; (iterate 3 exact rfl)) | (apply P_build; (iterate 7 exact rfl)) | (apply P_build0; (iterate 5 exact rfl)) | (apply P_lit; (iterate 9 exact rfl))
             | (apply P_s2a; (iterate 2 exact rfl); (focus (first | assumption | omega)); (iterate 3 exact rfl)) | (apply P_alloc; exact rfl; exact rfl; exact rfl; intro _)
             | (apply P_box; exact rfl; exact rfl; exact rfl; intro _) | (apply P_store; exact rfl; (focus (repeat first | exact .z | apply SetAt.s | apply SetAtF.s)); (iterate 4 exact rfl))
             | ((apply P_append; exact rfl; (focus (repeat first | exact .z | apply SetAt.s | apply SetAtF.s)); (iterate 5 exact rfl); (focus (constructor <;> (first | (simp; done) | (simp; omega))))); intro _)
             | apply EL.nil | ((with_reducible apply EK.then_normal); apply EK.code) | with_reducible apply EC.seq | with_reducible apply EC.region | (apply EC.cond_true; exact rfl)
             | (apply EC.cond_false; exact rfl) | with_reducible apply EC.skip | with_reducible apply EC.label | with_reducible apply EC.block | with_reducible apply EC.exit | with_reducible apply EC.ret
             | with_reducible apply EK.in_normal | with_reducible apply EK.in_same | ((with_reducible apply EK.in_other); exact rfl) | with_reducible apply EK.in_ret | with_reducible apply EK.then_ret
             | with_reducible apply EK.then_exit)
          exact EK.ret1 rfl rfl rfl
      · rw [hd, Bool.eq_false_iff.2 hc] at hany
        unfold bigC at hc
        simp only [Bool.or_eq_true, decide_eq_true_eq] at hc
        repeat
          (first
           | (apply P_skip; exact rfl) | (apply P_move; (iterate 3 exact rfl)) | (apply P_assign; (iterate 3 exact rfl)) | (apply P_field; (iterate 6 exact rfl)) | (apply P_fieldpd; (iterate 7 exact rfl))
           | (apply P_extract; (iterate 4 exact rfl)) | (apply P_loadpd; (iterate 5 exact rfl)) | (apply P_pick; (iterate 4 exact rfl)) | (apply P_not; (iterate 3 exact rfl))
           | (apply P_load; exact rfl; (first | exact I0 | exact I1 | exact I2 | exact I3 | exact I4 | exact I5 | exact I6); (iterate 4 exact rfl))
           | (apply P_cmp (b := true); (iterate 2 exact rfl); (focus (first | (simp [cmpI]; done) | (simp [cmpI]; omega))); (iterate 2 exact rfl))
           | (apply P_cmp (b := false); (iterate 2 exact rfl); (focus (first | (simp [cmpI]; done) | (simp [cmpI]; omega))); (iterate 2 exact rfl)) | (apply P_cmp; (iterate 5 exact rfl))
           | (apply P_ar; (iterate 3 exact rfl); (focus omega); (focus omega); (iterate 2 exact rfl)) | (apply P_lenbs; (iterate 4 exact rfl)) | (apply P_lensl; (iterate 4 exact rfl))
           | (apply P_lenrow; exact rfl; (first | exact I0 | exact I1 | exact I2 | exact I3 | exact I4 | exact I5 | exact I6); (iterate 3 exact rfl)) | (apply P_lenv; (iterate 4 exact rfl))
           | (apply P_index; (iterate 4 exact rfl); (focus (first | exact ⟨by decide, rfl⟩ | (refine ⟨by omega, ?_⟩; rw [Int.toNat_natCast]; assumption))); (iterate 2 exact rfl))
           | (apply P_indexbs; (iterate 3 exact rfl); (focus (first | exact ⟨by decide, rfl⟩ | (refine ⟨by omega, ?_⟩; rw [Int.toNat_natCast]; assumption))); (iterate 2 exact rfl))
           | (apply P_str; (iterate 3 exact rfl)) | (apply P_build; (iterate 7 exact rfl)) | (apply P_build0; (iterate 5 exact rfl)) | (apply P_lit; (iterate 9 exact rfl))
           | (apply P_s2a; (iterate 2 exact rfl); (focus (first | assumption | omega)); (iterate 3 exact rfl)) | (apply P_alloc; exact rfl; exact rfl; exact rfl; intro _)
           | (apply P_box; exact rfl; exact rfl; exact rfl; intro _) | (apply P_store; exact rfl; (focus (repeat first | exact .z | apply SetAt.s | apply SetAtF.s)); (iterate 4 exact rfl))
           | ((apply P_append; exact rfl; (focus (repeat first | exact .z | apply SetAt.s | apply SetAtF.s)); (iterate 5 exact rfl); (focus (constructor <;> (first | (simp; done) | (simp; omega))))); intro _)
           | apply EL.nil | ((with_reducible apply EK.then_normal); apply EK.code) | with_reducible apply EC.seq | with_reducible apply EC.region | (apply EC.cond_true; exact rfl)
           | (apply EC.cond_false; exact rfl) | with_reducible apply EC.skip | with_reducible apply EC.label | with_reducible apply EC.block | with_reducible apply EC.exit | with_reducible apply EC.ret
           | with_reducible apply EK.in_normal | with_reducible apply EK.in_same | ((with_reducible apply EK.in_other); exact rfl) | with_reducible apply EK.in_ret | with_reducible apply EK.then_ret
           | with_reducible apply EK.then_exit)
        refine EK.again ⟨k + 1, by omega, hany⟩ (by dsimp only; omega) ?_
        simp only [Int.natCast_add]
        exact (Le.keep (by repeat first | exact trivial | refine ⟨rfl, ?_⟩) (by repeat first | exact List.nil_sublist _ | apply List.Sublist.cons_cons | apply List.Sublist.cons) (by simp))
    · rw [List.take_of_length_le (by omega)] at hd
      have hb : bigR l = false := by unfold bigR; rw [hd]; simp; omega
      rw [hb]
      repeat
        (first
         | (apply P_skip; exact rfl) | (apply P_move; (iterate 3 exact rfl)) | (apply P_assign; (iterate 3 exact rfl)) | (apply P_field; (iterate 6 exact rfl)) | (apply P_fieldpd; (iterate 7 exact rfl))
         | (apply P_extract; (iterate 4 exact rfl)) | (apply P_loadpd; (iterate 5 exact rfl)) | (apply P_pick; (iterate 4 exact rfl)) | (apply P_not; (iterate 3 exact rfl))
         | (apply P_load; exact rfl; (first | exact I0 | exact I1 | exact I2 | exact I3 | exact I4 | exact I5 | exact I6); (iterate 4 exact rfl))
         | (apply P_cmp (b := true); (iterate 2 exact rfl); (focus (first | (simp [cmpI]; done) | (simp [cmpI]; omega))); (iterate 2 exact rfl))
         | (apply P_cmp (b := false); (iterate 2 exact rfl); (focus (first | (simp [cmpI]; done) | (simp [cmpI]; omega))); (iterate 2 exact rfl)) | (apply P_cmp; (iterate 5 exact rfl))
         | (apply P_ar; (iterate 3 exact rfl); (focus omega); (focus omega); (iterate 2 exact rfl)) | (apply P_lenbs; (iterate 4 exact rfl)) | (apply P_lensl; (iterate 4 exact rfl))
         | (apply P_lenrow; exact rfl; (first | exact I0 | exact I1 | exact I2 | exact I3 | exact I4 | exact I5 | exact I6); (iterate 3 exact rfl)) | (apply P_lenv; (iterate 4 exact rfl))
         | (apply P_index; (iterate 4 exact rfl); (focus (first | exact ⟨by decide, rfl⟩ | (refine ⟨by omega, ?_⟩; rw [Int.toNat_natCast]; assumption))); (iterate 2 exact rfl))
         | (apply P_indexbs; (iterate 3 exact rfl); (focus (first | exact ⟨by decide, rfl⟩ | (refine ⟨by omega, ?_⟩; rw [Int.toNat_natCast]; assumption))); (iterate 2 exact rfl))
         | (apply P_str; (iterate 3 exact rfl)) | (apply P_build; (iterate 7 exact rfl)) | (apply P_build0; (iterate 5 exact rfl)) | (apply P_lit; (iterate 9 exact rfl))
         | (apply P_s2a; (iterate 2 exact rfl); (focus (first | assumption | omega)); (iterate 3 exact rfl)) | (apply P_alloc; exact rfl; exact rfl; exact rfl; intro _)
         | (apply P_box; exact rfl; exact rfl; exact rfl; intro _) | (apply P_store; exact rfl; (focus (repeat first | exact .z | apply SetAt.s | apply SetAtF.s)); (iterate 4 exact rfl))
         | ((apply P_append; exact rfl; (focus (repeat first | exact .z | apply SetAt.s | apply SetAtF.s)); (iterate 5 exact rfl); (focus (constructor <;> (first | (simp; done) | (simp; omega))))); intro _)
         | apply EL.nil | ((with_reducible apply EK.then_normal); apply EK.code) | with_reducible apply EC.seq | with_reducible apply EC.region | (apply EC.cond_true; exact rfl)
         | (apply EC.cond_false; exact rfl) | with_reducible apply EC.skip | with_reducible apply EC.label | with_reducible apply EC.block | with_reducible apply EC.exit | with_reducible apply EC.ret
         | with_reducible apply EK.in_normal | with_reducible apply EK.in_same | ((with_reducible apply EK.in_other); exact rfl) | with_reducible apply EK.in_ret | with_reducible apply EK.then_ret
         | with_reducible apply EK.then_exit)
      exact EK.ret1 rfl rfl rfl
theorem pack_zero : ∃ b, Jn.packD zeroDf = .ok b ∧ b.length = 69 := by
  refine ⟨E (dfI zeroDf), ?_, ?_⟩
  · kernel_rfl
  · kernel_rfl
theorem read_nil : dfOf [] = zeroDf ∧ erOf [] = 4 := ⟨by kernel_rfl, by kernel_rfl⟩
theorem zeroDf_ok : zeroDf.ok := ⟨by decide, by decide, fun c hc => by cases hc⟩
set_option maxRecDepth 20000 in
set_option maxHeartbeats 4000000 in
theorem f_alive : FnA 7 [] (· = .val (.v (.bool true))) := by
  obtain ⟨b, hb, hl⟩ := pack_zero
  have h1 := f_JPack zeroDf (fun c hc => by cases hc) ⟨by simp [zeroDf], fun c hc => by cases hc⟩
  unfold packO at h1
  rw [hb] at h1
  dsimp only at h1
  have hr := readD_of_packD pad_strip zeroDf_ok hb
  have h2 := f_JRead b
  have h3 := f_JRead []
  unfold dfD at h2 h3
  rw [read_nil.1, read_nil.2] at h3
  unfold dfOf erOf at h2
  rw [hr] at h2
  dsimp only at h2
  have hn0 := f_num 0
  have hn4 := f_num 4
  refine FnA.walk 37 Try.func7 rfl Try.ntmps7 (by simp) fun X hX => ?_
  repeat
    (first
     | (apply P_skip; exact rfl)
     | ((apply P_callA hX (h1); exact rfl; (focus (repeat first | exact RefineL.refl _ _ | exact RL.nil | exact Rf.same | exact Rf.bs0 | exact Rf.sl0 | (apply Rf.fact; (focus (simp; done)); exact rfl) | apply Rf.tup | apply RL.cons)); (focus (intro _ _; simp [go_sem]; done)); (iterate 3 exact rfl)); rintro _ rfl)
     | (apply P_call (h2); exact rfl; (focus (repeat first | exact RefineL.refl _ _ | exact RL.nil | exact Rf.same | exact Rf.bs0 | exact Rf.sl0 | (apply Rf.fact; (focus (simp; done)); exact rfl) | apply Rf.tup | apply RL.cons)); (focus (intro _ _; simp [go_sem]; done)); (iterate 2 exact rfl))
     | (apply P_call (h3); exact rfl; (focus (repeat first | exact RefineL.refl _ _ | exact RL.nil | exact Rf.same | exact Rf.bs0 | exact Rf.sl0 | (apply Rf.fact; (focus (simp; done)); exact rfl) | apply Rf.tup | apply RL.cons)); (focus (intro _ _; simp [go_sem]; done)); (iterate 2 exact rfl))
     | (apply P_call (hn0); exact rfl; (focus (repeat first | exact RefineL.refl _ _ | exact RL.nil | exact Rf.same | exact Rf.bs0 | exact Rf.sl0 | (apply Rf.fact; (focus (simp; done)); exact rfl) | apply Rf.tup | apply RL.cons)); (focus (intro _ _; simp [go_sem]; done)); (iterate 2 exact rfl))
     | (apply P_call (hn4); exact rfl; (focus (repeat first | exact RefineL.refl _ _ | exact RL.nil | exact Rf.same | exact Rf.bs0 | exact Rf.sl0 | (apply Rf.fact; (focus (simp; done)); exact rfl) | apply Rf.tup | apply RL.cons)); (focus (intro _ _; simp [go_sem]; done)); (iterate 2 exact rfl))
     | (apply P_move; (iterate 3 exact rfl)) | (apply P_assign; (iterate 3 exact rfl)) | (apply P_field; (iterate 6 exact rfl)) | (apply P_fieldpd; (iterate 7 exact rfl))
     | (apply P_extract; (iterate 4 exact rfl)) | (apply P_loadpd; (iterate 5 exact rfl)) | (apply P_pick; (iterate 4 exact rfl)) | (apply P_not; (iterate 3 exact rfl))
     | (apply P_load; exact rfl; (first | exact I0 | exact I1 | exact I2 | exact I3 | exact I4 | exact I5 | exact I6); (iterate 4 exact rfl))
     | (apply P_loadF; exact rfl; (first | exact I0 | exact I1 | exact I2 | exact I3 | exact I4 | exact I5 | exact I6); (iterate 4 exact rfl))
     | (apply P_cmp (b := true); (iterate 2 exact rfl); (focus (first | (simp [cmpI]; done) | (simp [cmpI]; omega))); (iterate 2 exact rfl))
     | (apply P_cmp (b := false); (iterate 2 exact rfl); (focus (first | (simp [cmpI]; done) | (simp [cmpI]; omega))); (iterate 2 exact rfl)) | (apply P_cmp; (iterate 5 exact rfl))
     | (apply P_ar; (iterate 3 exact rfl); (focus omega); (focus omega); (iterate 2 exact rfl)) | (apply P_lenbs; (iterate 4 exact rfl)) | (apply P_lensl; (iterate 4 exact rfl))
     | (apply P_lenrow; exact rfl; (first | exact I0 | exact I1 | exact I2 | exact I3 | exact I4 | exact I5 | exact I6); (iterate 3 exact rfl)) | (apply P_lenv; (iterate 4 exact rfl))
     | (apply P_index; (iterate 4 exact rfl); (focus (first | exact ⟨by decide, rfl⟩ | (refine ⟨by omega, ?_⟩; rw [Int.toNat_natCast]; assumption))); (iterate 2 exact rfl))
     | (apply P_indexbs; (iterate 3 exact rfl); (focus (first | exact ⟨by decide, rfl⟩ | (refine ⟨by omega, ?_⟩; rw [Int.toNat_natCast]; assumption))); (iterate 2 exact rfl))
     | (apply P_str; (iterate 3 exact rfl)) | (apply P_build; (iterate 7 exact rfl)) | (apply P_build0; (iterate 5 exact rfl)) | (apply P_lit; (iterate 9 exact rfl))
     | (apply P_s2a; (iterate 2 exact rfl); (focus (first | assumption | omega)); (iterate 3 exact rfl)) | (apply P_alloc; exact rfl; exact rfl; exact rfl; intro _)
     | (apply P_box; exact rfl; exact rfl; exact rfl; intro _) | (apply P_store; exact rfl; (focus (repeat first | exact .z | apply SetAt.s | apply SetAtF.s)); (iterate 4 exact rfl))
     | ((apply P_append; exact rfl; (focus (repeat first | exact .z | apply SetAt.s | apply SetAtF.s)); (iterate 5 exact rfl); (focus (constructor <;> (first | (simp; done) | (simp; omega))))); intro _)
     | apply EL.nil | ((with_reducible apply EK.then_normal); apply EK.code) | with_reducible apply EC.seq | with_reducible apply EC.region | (apply EC.cond_true; exact rfl)
     | (apply EC.cond_false; exact rfl) | with_reducible apply EC.skip | with_reducible apply EC.label | with_reducible apply EC.block | with_reducible apply EC.exit | with_reducible apply EC.ret
     | with_reducible apply EK.in_normal | with_reducible apply EK.in_same | ((with_reducible apply EK.in_other); exact rfl) | with_reducible apply EK.in_ret | with_reducible apply EK.then_ret
     | with_reducible apply EK.then_exit)
  exact EK.ret1 rfl rfl rfl
end E
end Go.Proofs.Ytekacgocjplfjaa
/-
  The abstract machine: tests of arrays, of structs of arrays, of strings, of bools.
  Conditions: none.
-/
namespace Go.Proofs.Ytekacgocjplfjaa
set_option linter.unusedVariables false
open Go.RowKit Mono Rlp
namespace E
section
variable {T e n : Nat}
theorem eq_arr (hT : Try.prog.underlying T = some (.array n e)) (he : Try.prog.underlying e = some (.int .u8)) (hs : ∀ w, (sizeOf e).run Try.prog w = .ok 1 w) (w : World) (l m : List UInt8) (hl : l.length = n) (hm : m.length = n) : (Op.equalIn 10000 T (arrV l) (arrV m)).run Try.prog w = .ok (l == m) w := by
  have h2 := run_equalIn_bytes w 9998 T e n hT he hs l m hl hm
  rw [show (Op.equalIn 10000 T (arrV l) (arrV m)) = (Op.equalIn (9998 + 2) T (.agg (l.map Extern.Stop.cell).toArray) (.agg (m.map Extern.Stop.cell).toArray)) from rfl, h2]
theorem eq_arr' (d : Nat) (hT : Try.prog.underlying T = some (.array n e)) (he : Try.prog.underlying e = some (.int .u8)) (hs : ∀ w, (sizeOf e).run Try.prog w = .ok 1 w) (w : World) (l m : List UInt8) (hl : l.length = n) (hm : m.length = n) : (Op.equalIn (d + 2) T (arrV l) (arrV m)).run Try.prog w = .ok (l == m) w :=
  run_equalIn_bytes w d T e n hT he hs l m hl hm
theorem bin_arr (hT : Try.prog.underlying T = some (.array n e)) (he : Try.prog.underlying e = some (.int .u8)) (hs : ∀ w, (sizeOf e).run Try.prog w = .ok 1 w) (hg : Try.prog.eqGuardType Try.prog.depth T = false) (l m : List UInt8) : Bin .eql T (.arr n l) (.arr n m) (.bool (l == m)) ∧ Bin .neq T (.arr n l) (.arr n m) (.bool (l != m)) := by
  refine ⟨⟨rfl, fun ok w p q hp hq => ?_⟩, ⟨rfl, fun ok w p q hp hq => ?_⟩⟩ <;> (obtain ⟨e1, rfl⟩ := arrV_of hp; obtain ⟨e2, rfl⟩ := arrV_of hq; refine ⟨fun x y => run_eqGuard_agg w _ _ _ _ _ _ hg, ?_⟩)
  · exact run_eql_bytes w T e n hT he hs l m e1 e2
  · have h1 : (binOp .neq T (arrV l) (arrV m)).run Try.prog w = ((Op.equalIn 10000 T (arrV l) (arrV m)).run Try.prog w).andThen fun b w' => .ok (.bool (!b)) w' := by
      simp only [arrV, binOp, Op.equal, Op.maxDepth, Sem.run_bind, Sem.run_pure]
    rw [h1, eq_arr hT he hs w l m e1 e2]
    rfl
end
theorem bin_word (l m : List UInt8) : Bin .eql 23 (.arr 32 l) (.arr 32 m) (.bool (l == m)) ∧ Bin .neq 23 (.arr 32 l) (.arr 32 m) (.bool (l != m)) :=
  bin_arr Try.underlying23 Try.underlying5 (fun w => by kernel_rfl) (by kernel_rfl) l m
theorem bin_bool (a b : Bool) : Bin .eql 4 (.v (.bool a)) (.v (.bool b)) (.bool (a == b)) ∧ Bin .neq 4 (.v (.bool a)) (.v (.bool b)) (.bool (a != b)) := by
  refine ⟨⟨rfl, fun ok w p q hp hq => ?_⟩, ⟨rfl, fun ok w p q hp hq => ?_⟩⟩ <;> (obtain rfl := (readV_v.1 hp).2; obtain rfl := (readV_v.1 hq).2; refine ⟨fun x y => by simp [eqGuard], ?_⟩)
  · simp [binOp, run_equal_bool w _ a b Try.underlying4]
  · simp [binOp, run_equal_bool w _ a b Try.underlying4, bne]
theorem bin_string (l m : List UInt8) : Bin .eql 9 (.v (.string (Go.Proofs.Ytekacgocjplfjaa.bs l))) (.v (.string (Go.Proofs.Ytekacgocjplfjaa.bs m))) (.bool (l == m)) ∧ Bin .neq 9 (.v (.string (Go.Proofs.Ytekacgocjplfjaa.bs l))) (.v (.string (Go.Proofs.Ytekacgocjplfjaa.bs m))) (.bool (l != m)) := by
  refine ⟨⟨rfl, fun ok w p q hp hq => ?_⟩, ⟨rfl, fun ok w p q hp hq => ?_⟩⟩ <;> (obtain rfl := (readV_v.1 hp).2; obtain rfl := (readV_v.1 hq).2; refine ⟨fun x y => by simp [eqGuard], ?_⟩)
  · simp [binOp, Op.stringOp, bs_toList]
  · simp [binOp, Op.stringOp, bs_toList, bne]
/-- A slice is no longer than memory goes. -/
theorem EC.lenOf {N : Nat} {X : Cx N} {S : St} {Q : Exit → Act → World → Prop} {c : Code} {t : Tmp} {z : Nat} {ds : List D} (hl : look S.regs t = some (.val (.sl z ds))) (k : ds.length ≤ maxLen → EC X Q c S) : EC X Q c S := ⟨fun a w ha => by
  obtain ⟨A, c', rows, h1, h2, h3, _⟩ := sl_ex (ha.regs t _ hl)
  exact (k (by omega)).go a w ha⟩
theorem EC.lenOfB {N : Nat} {X : Cx N} {S : St} {Q : Exit → Act → World → Prop} {c : Code} {t : Tmp} {b : List UInt8} (hl : look S.regs t = some (.val (.bs b))) (k : b.length ≤ maxLen → EC X Q c S) : EC X Q c S := ⟨fun a w ha => by
  obtain ⟨A, c', h1, h2, h3, _⟩ := bs_ex (ha.regs t _ hl)
  exact (k (by omega)).go a w ha⟩
end E
end Go.Proofs.Ytekacgocjplfjaa
/-
  journal's laws: small facts that they share.
  Conditions: none.
-/
namespace Go.Proofs.Ytekacgocjplfjaa
set_option linter.unusedVariables false
open Go.RowKit Mono Rlp Jn
namespace E
theorem f_num' (n : Nat) : Fn 11 [.v (.int .i64 (n : Int))] (· = .val (.v (.int .i64 (n : Int)))) := f_num n
theorem eq_word (l : List UInt8) : Bin .eql 23 (.arr 32 l) (.arr 32 l) (.bool true) := by
  have := (bin_word l l).1
  rwa [show (l == l) = true by simp] at this
theorem bs_read {w : World} {l : List UInt8} {v : Value} (h : IsB w v l) : ReadV (fun b => b < w.heap.size) w (.bs l) v := (readV_one rfl).2 (reads_bs.2 ⟨v, rfl, h⟩)
/-- A law's function that answers true. -/
theorem law_bool {f : FuncId} {ds : List D} {xs : List Value} {w : World} (h : FnA f ds (· = .val (.v (.bool true)))) (hr : ReadVs (fun b => b < w.heap.size) w ds xs) : Calls Try.prog f xs.toArray w fun e w' => e = .returned (.bool true) ∧ Below w.heap.size w w' :=
  (h.go w xs hr).mono fun e w' ⟨hg, v, r, he, hr', hv⟩ => by
    subst he hr'
    exact ⟨by rw [(readV_v.1 hv).2], hg⟩
theorem ok_rng {d : Df} (h : d.ok) : ∀ c ∈ d.chs, rngC c := fun c hc => ⟨(h.2.2 c hc).2.2.1, (h.2.2 c hc).2.2.2.1⟩
theorem packD_err {d : Df} {e : Nat} (h : Jn.packD d = .error e) : e = 1 ∨ e = 3 := by
  unfold Jn.packD at h
  split at h
  · split at h
    · cases h
    · cases h
      exact .inr rfl
  · cases h
    exact .inl rfl
theorem ne_string (l : List UInt8) : Bin .neq 9 (.v (.string (Go.Proofs.Ytekacgocjplfjaa.bs l))) (.v (.string (Go.Proofs.Ytekacgocjplfjaa.bs l))) (.bool false) := by
  have := (bin_string l l).2
  rwa [show (l != l) = false by simp] at this
end E
end Go.Proofs.Ytekacgocjplfjaa
/-
  The changes of JournalWrong: which have bytes (plain).
  Conditions: none.
-/
namespace Go.Proofs.Ytekacgocjplfjaa
set_option linter.unusedVariables false
open Go.RowKit Mono Rlp Jn
def nameN (n : Nat) : List UInt8 := List.replicate 19 0 ++ [UInt8.ofNat n]
theorem ofN_1 : ofN 1 = List.replicate 31 0 ++ [1] := (ofN_eq _ 1 rfl (by decide +kernel)).symm
theorem ofN_2 : ofN 2 = List.replicate 31 0 ++ [2] := (ofN_eq _ 2 rfl (by decide +kernel)).symm
def dW (a0 a1 k1 : List UInt8) (n1 : Int) (s1 : List Sl) : Df := ⟨zero32, zero32, [⟨a0, false, 0, zero32, [], [⟨ofN 1, ofN 1⟩, ⟨k1, zero32⟩]⟩, ⟨a1, true, n1, zero32, [], s1⟩]⟩
theorem dW_err {a0 a1 k1 : List UInt8} {n1 : Int} {s1 : List Sl} (h : may (dW a0 a1 k1 n1 s1).chs = false) : Jn.packD (dW a0 a1 k1 n1 s1) = .error 1 := by
  unfold Jn.packD
  rw [if_neg (by rw [h]; decide)]
theorem dW_ok {a0 a1 k1 : List UInt8} {n1 : Int} {s1 : List Sl} (h : may (dW a0 a1 k1 n1 s1).chs = true) (hl : (E (dfI (dW a0 a1 k1 n1 s1))).length ≤ most) : ∃ b, Jn.packD (dW a0 a1 k1 n1 s1) = .ok b := by
  unfold Jn.packD
  rw [if_pos h, packed_df _ hl]
  exact ⟨_, rfl⟩
theorem pw0 : ∃ b, Jn.packD (dW (nameN 1) (nameN 2) (ofN 2) 0 []) = .ok b := by
  refine dW_ok ?_ ?_ <;> (unfold dW; rw [ofN_1, ofN_2]; decide +kernel)
theorem pw1 : Jn.packD (dW (nameN 2) (nameN 2) (ofN 2) 0 []) = .error 1 := by
  refine dW_err ?_; unfold dW; rw [ofN_1, ofN_2]; decide +kernel
theorem pw2 : Jn.packD (dW (nameN 2) (nameN 1) (ofN 2) 0 []) = .error 1 := by
  refine dW_err ?_; unfold dW; rw [ofN_1, ofN_2]; decide +kernel
theorem pw3 : Jn.packD (dW (nameN 1) (nameN 2) (ofN 2) (-1) []) = .error 1 := by
  refine dW_err ?_; unfold dW; rw [ofN_1, ofN_2]; decide +kernel
theorem pw4 : Jn.packD (dW (nameN 1) (nameN 2) (ofN 1) 0 []) = .error 1 := by
  refine dW_err ?_; unfold dW; rw [ofN_1]; decide +kernel
theorem pw5 : Jn.packD (dW (nameN 1) (nameN 2) zero32 0 []) = .error 1 := by
  refine dW_err ?_; unfold dW; rw [ofN_1]; decide +kernel
theorem pw6 : ∃ b, Jn.packD (dW (nameN 1) (nameN 2) (ofN 2) 0 [⟨zero32, zero32⟩]) = .ok b := by
  refine dW_ok ?_ ?_ <;> (unfold dW; rw [ofN_1, ofN_2]; decide +kernel)
theorem dW_oks {a0 a1 k1 : List UInt8} {n1 : Int} {s1 : List Sl} (h0 : a0.length = 20) (h1 : a1.length = 20) (h2 : k1.length = 32) (h3 : -1 ≤ n1 ∧ n1 ≤ 0) (h4 : ∀ s ∈ s1, s.ok) : (dW a0 a1 k1 n1 s1).ok := by
  refine ⟨rfl, rfl, fun c hc => ?_⟩
  have h1' : (ofN 1).length = 32 := by rw [ofN_1]; rfl
  simp only [dW, List.mem_cons, List.not_mem_nil, or_false] at hc
  rcases hc with rfl | rfl
  · refine ⟨h0, rfl, by dsimp only; omega, by dsimp only; omega, fun s hs => ?_⟩
    simp only [List.mem_cons, List.not_mem_nil, or_false] at hs
    rcases hs with rfl | rfl
    · exact ⟨h1', h1'⟩
    · exact ⟨h2, rfl⟩
  · exact ⟨h1, rfl, by have := h3.1; dsimp only; omega, by have := h3.2; dsimp only; omega, h4⟩
theorem dW_small {a0 a1 k1 : List UInt8} {n1 : Int} {s1 : List Sl} (h : s1.length ≤ 1) : (dW a0 a1 k1 n1 s1).small := by
  refine ⟨by show 2 ≤ _; omega, fun c hc => ?_⟩
  simp only [dW, List.mem_cons, List.not_mem_nil, or_false] at hc
  rcases hc with rfl | rfl
  · constructor <;> simp
  · exact ⟨by simp, by dsimp only; omega⟩
end Go.Proofs.Ytekacgocjplfjaa
/-
  munimentsref16.Name, munimentsref1.Of (as the abstract machine's contracts).
  Conditions: none.
-/
namespace Go.Proofs.Ytekacgocjplfjaa
set_option linter.unusedVariables false
open Go.RowKit Mono Rlp Jn
namespace E
theorem bin_and (n : Int) (h0 : 0 ≤ n) (h1 : n < 256) : Bin .and 3 (.v (.int .i64 n)) (.v (.int .i64 255)) (.int .i64 n) := by
  refine ⟨rfl, fun ok w p q hp hq => ?_⟩
  obtain ⟨_, rfl⟩ := readV_v.1 hp
  obtain ⟨_, rfl⟩ := readV_v.1 hq
  refine ⟨fun x y => by simp [eqGuard, go_sem], ?_⟩
  have h2 := i64_and255 n
  have h3 : n % 256 = n := by omega
  rw [h3] at h2
  show Result.ok (Value.int .i64 (bits .and .i64 n 255)) w = _
  rw [h2]
set_option maxRecDepth 20000 in
theorem f_Name (n : Nat) (hn : n < 256) : Fn 15 [.v (.int .i64 (n : Int))] (· = .val (.arr 20 (nameN n))) := by
  refine Fn.walk 9 Try.func15 rfl Try.ntmps15 (by simp) fun X => ?_
  have h1 := bin_and (n : Int) (by omega) (by omega)
  have h2 : ∀ w, (Go.convert 3 5 (.int .i64 (n : Int))).run Try.prog w = .ok (bv (UInt8.ofNat n)) w := fun w => by
    rw [run_convert_int w 3 5 .i64 (n : Int) rfl rfl]
    rw [← bv_nat]
    rfl
  repeat
    (first
     | (apply P_skip; exact rfl) | (apply P_bin; (iterate 2 exact rfl); exact h1; (iterate 2 exact rfl)) | (apply P_move; (iterate 3 exact rfl)) | (apply P_assign; (iterate 3 exact rfl))
     | (apply P_field; (iterate 6 exact rfl)) | (apply P_fieldpd; (iterate 7 exact rfl)) | (apply P_extract; (iterate 4 exact rfl)) | (apply P_loadpd; (iterate 5 exact rfl))
     | (apply P_pick; (iterate 4 exact rfl)) | (apply P_not; (iterate 3 exact rfl))
     | (apply P_load; exact rfl; (first | exact I0 | exact I1 | exact I2 | exact I3 | exact I4 | exact I5 | exact I6); (iterate 4 exact rfl))
     | (apply P_cmp (b := true); (iterate 2 exact rfl); (focus (first | (simp [cmpI]; done) | (simp [cmpI]; omega))); (iterate 2 exact rfl))
     | (apply P_cmp (b := false); (iterate 2 exact rfl); (focus (first | (simp [cmpI]; done) | (simp [cmpI]; omega))); (iterate 2 exact rfl)) | (apply P_cmp; (iterate 5 exact rfl))
     | (apply P_ar; (iterate 3 exact rfl); (focus omega); (focus omega); (iterate 2 exact rfl)) | (apply P_lenbs; (iterate 4 exact rfl)) | (apply P_lensl; (iterate 4 exact rfl))
     | (apply P_lenrow; exact rfl; (first | exact I0 | exact I1 | exact I2 | exact I3 | exact I4 | exact I5 | exact I6); (iterate 3 exact rfl)) | (apply P_lenv; (iterate 4 exact rfl))
     | (apply P_index; (iterate 4 exact rfl); (focus (first | exact ⟨by decide, rfl⟩ | (refine ⟨by omega, ?_⟩; rw [Int.toNat_natCast]; assumption))); (iterate 2 exact rfl))
     | (apply P_indexbs; (iterate 3 exact rfl); (focus (first | exact ⟨by decide, rfl⟩ | (refine ⟨by omega, ?_⟩; rw [Int.toNat_natCast]; assumption))); (iterate 2 exact rfl))
     | (apply P_str; (iterate 3 exact rfl)) | (apply P_build; (iterate 7 exact rfl)) | (apply P_build0; (iterate 5 exact rfl)) | (apply P_lit; (iterate 9 exact rfl))
     | (apply P_s2a; (iterate 2 exact rfl); (focus (first | assumption | omega)); (iterate 3 exact rfl)) | (apply P_alloc; exact rfl; exact rfl; exact rfl; intro _)
     | (apply P_box; exact rfl; exact rfl; exact rfl; intro _) | (apply P_store; exact rfl; (focus (repeat first | exact .z | apply SetAt.s | apply SetAtF.s)); (iterate 4 exact rfl))
     | ((apply P_append; exact rfl; (focus (repeat first | exact .z | apply SetAt.s | apply SetAtF.s)); (iterate 5 exact rfl); (focus (constructor <;> (first | (simp; done) | (simp; omega))))); intro _)
     | apply EL.nil | ((with_reducible apply EK.then_normal); apply EK.code) | with_reducible apply EC.seq | with_reducible apply EC.region | (apply EC.cond_true; exact rfl)
     | (apply EC.cond_false; exact rfl) | with_reducible apply EC.skip | with_reducible apply EC.label | with_reducible apply EC.block | with_reducible apply EC.exit | with_reducible apply EC.ret
     | with_reducible apply EK.in_normal | with_reducible apply EK.in_same | ((with_reducible apply EK.in_other); exact rfl) | with_reducible apply EK.in_ret | with_reducible apply EK.then_ret
     | with_reducible apply EK.then_exit)
  apply P_conv
  exact rfl
  exact h2
  iterate 3 exact rfl
  repeat
    (first
     | (apply P_skip; exact rfl) | (apply P_move; (iterate 3 exact rfl)) | (apply P_assign; (iterate 3 exact rfl)) | (apply P_field; (iterate 6 exact rfl)) | (apply P_fieldpd; (iterate 7 exact rfl))
     | (apply P_extract; (iterate 4 exact rfl)) | (apply P_loadpd; (iterate 5 exact rfl)) | (apply P_pick; (iterate 4 exact rfl)) | (apply P_not; (iterate 3 exact rfl))
     | (apply P_load; exact rfl; (first | exact I0 | exact I1 | exact I2 | exact I3 | exact I4 | exact I5 | exact I6); (iterate 4 exact rfl))
     | (apply P_cmp (b := true); (iterate 2 exact rfl); (focus (first | (simp [cmpI]; done) | (simp [cmpI]; omega))); (iterate 2 exact rfl))
     | (apply P_cmp (b := false); (iterate 2 exact rfl); (focus (first | (simp [cmpI]; done) | (simp [cmpI]; omega))); (iterate 2 exact rfl)) | (apply P_cmp; (iterate 5 exact rfl))
     | (apply P_ar; (iterate 3 exact rfl); (focus omega); (focus omega); (iterate 2 exact rfl)) | (apply P_lenbs; (iterate 4 exact rfl)) | (apply P_lensl; (iterate 4 exact rfl))
     | (apply P_lenrow; exact rfl; (first | exact I0 | exact I1 | exact I2 | exact I3 | exact I4 | exact I5 | exact I6); (iterate 3 exact rfl)) | (apply P_lenv; (iterate 4 exact rfl))
     | (apply P_index; (iterate 4 exact rfl); (focus (first | exact ⟨by decide, rfl⟩ | (refine ⟨by omega, ?_⟩; rw [Int.toNat_natCast]; assumption))); (iterate 2 exact rfl))
     | (apply P_indexbs; (iterate 3 exact rfl); (focus (first | exact ⟨by decide, rfl⟩ | (refine ⟨by omega, ?_⟩; rw [Int.toNat_natCast]; assumption))); (iterate 2 exact rfl))
     | (apply P_str; (iterate 3 exact rfl)) | (apply P_build; (iterate 7 exact rfl)) | (apply P_build0; (iterate 5 exact rfl)) | (apply P_lit; (iterate 9 exact rfl))
     | (apply P_s2a; (iterate 2 exact rfl); (focus (first | assumption | omega)); (iterate 3 exact rfl)) | (apply P_alloc; exact rfl; exact rfl; exact rfl; intro _)
     | (apply P_box; exact rfl; exact rfl; exact rfl; intro _) | (apply P_store; exact rfl; (focus (repeat first | exact .z | apply SetAt.s | apply SetAtF.s)); (iterate 4 exact rfl))
     | ((apply P_append; exact rfl; (focus (repeat first | exact .z | apply SetAt.s | apply SetAtF.s)); (iterate 5 exact rfl); (focus (constructor <;> (first | (simp; done) | (simp; omega))))); intro _)
     | apply EL.nil | ((with_reducible apply EK.then_normal); apply EK.code) | with_reducible apply EC.seq | with_reducible apply EC.region | (apply EC.cond_true; exact rfl)
     | (apply EC.cond_false; exact rfl) | with_reducible apply EC.skip | with_reducible apply EC.label | with_reducible apply EC.block | with_reducible apply EC.exit | with_reducible apply EC.ret
     | with_reducible apply EK.in_normal | with_reducible apply EK.in_same | ((with_reducible apply EK.in_other); exact rfl) | with_reducible apply EK.in_ret | with_reducible apply EK.then_ret
     | with_reducible apply EK.then_exit)
  apply P_indexptr
  iterate 3 exact rfl
  exact ⟨by decide, by decide⟩
  iterate 2 exact rfl
  apply P_store8 (b := UInt8.ofNat n)
  exact rfl
  exact .z
  iterate 2 exact rfl
  · decide
  exact rfl
  repeat
    (first
     | (apply P_skip; exact rfl) | (apply P_move; (iterate 3 exact rfl)) | (apply P_assign; (iterate 3 exact rfl)) | (apply P_field; (iterate 6 exact rfl)) | (apply P_fieldpd; (iterate 7 exact rfl))
     | (apply P_extract; (iterate 4 exact rfl)) | (apply P_loadpd; (iterate 5 exact rfl)) | (apply P_pick; (iterate 4 exact rfl)) | (apply P_not; (iterate 3 exact rfl))
     | (apply P_load; exact rfl; (first | exact I0 | exact I1 | exact I2 | exact I3 | exact I4 | exact I5 | exact I6); (iterate 4 exact rfl))
     | (apply P_cmp (b := true); (iterate 2 exact rfl); (focus (first | (simp [cmpI]; done) | (simp [cmpI]; omega))); (iterate 2 exact rfl))
     | (apply P_cmp (b := false); (iterate 2 exact rfl); (focus (first | (simp [cmpI]; done) | (simp [cmpI]; omega))); (iterate 2 exact rfl)) | (apply P_cmp; (iterate 5 exact rfl))
     | (apply P_ar; (iterate 3 exact rfl); (focus omega); (focus omega); (iterate 2 exact rfl)) | (apply P_lenbs; (iterate 4 exact rfl)) | (apply P_lensl; (iterate 4 exact rfl))
     | (apply P_lenrow; exact rfl; (first | exact I0 | exact I1 | exact I2 | exact I3 | exact I4 | exact I5 | exact I6); (iterate 3 exact rfl)) | (apply P_lenv; (iterate 4 exact rfl))
     | (apply P_index; (iterate 4 exact rfl); (focus (first | exact ⟨by decide, rfl⟩ | (refine ⟨by omega, ?_⟩; rw [Int.toNat_natCast]; assumption))); (iterate 2 exact rfl))
     | (apply P_indexbs; (iterate 3 exact rfl); (focus (first | exact ⟨by decide, rfl⟩ | (refine ⟨by omega, ?_⟩; rw [Int.toNat_natCast]; assumption))); (iterate 2 exact rfl))
     | (apply P_str; (iterate 3 exact rfl)) | (apply P_build; (iterate 7 exact rfl)) | (apply P_build0; (iterate 5 exact rfl)) | (apply P_lit; (iterate 9 exact rfl))
     | (apply P_s2a; (iterate 2 exact rfl); (focus (first | assumption | omega)); (iterate 3 exact rfl)) | (apply P_alloc; exact rfl; exact rfl; exact rfl; intro _)
     | (apply P_box; exact rfl; exact rfl; exact rfl; intro _) | (apply P_store; exact rfl; (focus (repeat first | exact .z | apply SetAt.s | apply SetAtF.s)); (iterate 4 exact rfl))
     | ((apply P_append; exact rfl; (focus (repeat first | exact .z | apply SetAt.s | apply SetAtF.s)); (iterate 5 exact rfl); (focus (constructor <;> (first | (simp; done) | (simp; omega))))); intro _)
     | apply EL.nil | ((with_reducible apply EK.then_normal); apply EK.code) | with_reducible apply EC.seq | with_reducible apply EC.region | (apply EC.cond_true; exact rfl)
     | (apply EC.cond_false; exact rfl) | with_reducible apply EC.skip | with_reducible apply EC.label | with_reducible apply EC.block | with_reducible apply EC.exit | with_reducible apply EC.ret
     | with_reducible apply EK.in_normal | with_reducible apply EK.in_same | ((with_reducible apply EK.in_other); exact rfl) | with_reducible apply EK.in_ret | with_reducible apply EK.then_ret
     | with_reducible apply EK.then_exit)
  refine EK.retc1r 1 rfl rfl rfl rfl ?_ rfl
  (repeat first | exact RefineL.refl _ _ | exact RL.nil | exact Rf.same | exact Rf.bs0 | exact Rf.sl0 | (apply Rf.fact; (focus (simp; done)); exact rfl) | apply Rf.tup | apply RL.cons)
theorem f_Of (n : Nat) (hn : n ≤ 9223372036854775807) : Fn 16 [.v (.int .i64 (n : Int))] (· = .val (.arr 32 (ofN n))) := ⟨fun ok w xs hok hr => by
  obtain ⟨v, rfl, h⟩ := one_arg hr
  obtain ⟨_, rfl⟩ := readV_v.1 h
  refine (ref_Of n hn w).mono ?_
  rintro e w' ⟨_, rfl, hg, rfl⟩
  exact ⟨hg, _, _, rfl, rfl, arrV_mk (pad_length _ (Nat.le_trans (be_length 8 _ (by omega)) (by omega)))⟩⟩
end E
end Go.Proofs.Ytekacgocjplfjaa
