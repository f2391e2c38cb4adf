/-
  Merged (wip/tools/merge.py): EJ5, ECmp, EJK, E14, E15, Open, OpenAll, OpenWord, OpenW.
  Conditions: none.
-/
import Derived.Test.YtekacgocjplfjaaZP17
import Derived.Test.YtekacgocjplfjaaZP11
import Derived.Test.YtekacgocjplfjaaZP16
import Derived.Test.YtekacgocjplfjaaZP15
import Derived.Laws.IdiomCopy
import Derived.Test.YtekacgocjplfjaaZP2
import Derived.OpenShut
import Derived.Deep.Slices
import Derived.ChangeSame
import Derived.SizedLaws
/-
  The laws' Big, alive.
  Conditions: none.
-/
namespace Go.Proofs.Ytekacgocjplfjaa
set_option linter.unusedVariables false
open Go.RowKit Mono Rlp Jn
namespace E
def bigC (c : Ch) : Bool := decide (200 < c.code.length) || decide (20 < c.slots.length)
def bigR (l : List Ch) : Bool := decide (20 < l.length) || l.any bigC
theorem big_small {d : Df} (h : bigR d.chs = false) : d.small := by
  unfold bigR at h
  simp only [Bool.or_eq_false_iff, decide_eq_false_iff_not, List.any_eq_false, bigC, Bool.or_eq_true, decide_eq_true_eq] at h
  refine ⟨by omega, fun c hc => ?_⟩
  have := h.2 c hc
  omega
theorem any_take (l : List Ch) (k : Nat) (hk : k < l.length) : (l.take (k + 1)).any bigC = ((l.take k).any bigC || bigC l[k]) := by
  rw [← List.take_append_getElem hk, List.any_append]
  simp
set_option maxRecDepth 20000 in
set_option maxHeartbeats 4000000 in
theorem f_Big (l : List Ch) : Fn 8 [.sl 56 (l.map dCh)] (· = .val (.v (.bool (bigR l)))) := by
  refine Fn.walk 29 Try.func8 rfl Try.ntmps8 (by simp) fun X => ?_
  have hlen : (l.map dCh).length = l.length := List.length_map _
  by_cases h20 : 20 < l.length
  · have hb : bigR l = true := by unfold bigR; simp [h20]
    rw [hb]
    clear hb
    repeat
      (first
       | (apply P_skip; exact rfl) | (apply P_move; (iterate 3 exact rfl)) | (apply P_assign; (iterate 3 exact rfl)) | (apply P_field; (iterate 6 exact rfl)) | (apply P_fieldpd; (iterate 7 exact rfl))
       | (apply P_extract; (iterate 4 exact rfl)) | (apply P_loadpd; (iterate 5 exact rfl)) | (apply P_pick; (iterate 4 exact rfl)) | (apply P_not; (iterate 3 exact rfl))
       | (apply P_load; exact rfl; (first | exact I0 | exact I1 | exact I2 | exact I3 | exact I4 | exact I5 | exact I6); (iterate 4 exact rfl))
       | (apply P_cmp (b := true); (iterate 2 exact rfl); (focus (first | (simp [cmpI]; done) | (simp [cmpI]; omega))); (iterate 2 exact rfl))
       | (apply P_cmp (b := false); (iterate 2 exact rfl); (focus (first | (simp [cmpI]; done) | (simp [cmpI]; omega))); (iterate 2 exact rfl)) | (apply P_cmp; (iterate 5 exact rfl))
       | (apply P_ar; (iterate 3 exact rfl); (focus omega); (focus omega); (iterate 2 exact rfl)) | (apply P_lenbs; (iterate 4 exact rfl)) | (apply P_lensl; (iterate 4 exact rfl))
       | (apply P_lenrow; exact rfl; (first | exact I0 | exact I1 | exact I2 | exact I3 | exact I4 | exact I5 | exact I6); (iterate 3 exact rfl)) | (apply P_lenv; (iterate 4 exact rfl))
       | (apply P_index; (iterate 4 exact rfl); (focus (first | exact ⟨by decide, rfl⟩ | (refine ⟨by omega, ?_⟩; rw [Int.toNat_natCast]; assumption))); (iterate 2 exact rfl))
       | (apply P_indexbs; (iterate 3 exact rfl); (focus (first | exact ⟨by decide, rfl⟩ | (refine ⟨by omega, ?_⟩; rw [Int.toNat_natCast]; assumption))); (iterate 2 exact rfl))
       | (apply P_str; (iterate 3 exact rfl)) | (apply P_build; (iterate 7 exact rfl)) | (apply P_build0; (iterate 5 exact rfl)) | (apply P_lit; (iterate 9 exact rfl))
       | (apply P_s2a; (iterate 2 exact rfl); (focus (first | assumption | omega)); (iterate 3 exact rfl)) | (apply P_alloc; exact rfl; exact rfl; exact rfl; intro _)
       | (apply P_box; exact rfl; exact rfl; exact rfl; intro _) | (apply P_store; exact rfl; (focus (repeat first | exact .z | apply SetAt.s | apply SetAtF.s)); (iterate 4 exact rfl))
       | ((apply P_append; exact rfl; (focus (repeat first | exact .z | apply SetAt.s | apply SetAtF.s)); (iterate 5 exact rfl); (focus (constructor <;> (first | (simp; done) | (simp; omega))))); intro _)
       | apply EL.nil | ((with_reducible apply EK.then_normal); apply EK.code) | with_reducible apply EC.seq | with_reducible apply EC.region | (apply EC.cond_true; exact rfl)
       | (apply EC.cond_false; exact rfl) | with_reducible apply EC.skip | with_reducible apply EC.label | with_reducible apply EC.block | with_reducible apply EC.exit | with_reducible apply EC.ret
       | with_reducible apply EK.in_normal | with_reducible apply EK.in_same | ((with_reducible apply EK.in_other); exact rfl) | with_reducible apply EK.in_ret | with_reducible apply EK.then_ret
       | with_reducible apply EK.then_exit)
    exact EK.ret1 rfl rfl rfl
  ·
    repeat
      (first
       | (apply P_skip; exact rfl) | (apply P_move; (iterate 3 exact rfl)) | (apply P_assign; (iterate 3 exact rfl)) | (apply P_field; (iterate 6 exact rfl)) | (apply P_fieldpd; (iterate 7 exact rfl))
       | (apply P_extract; (iterate 4 exact rfl)) | (apply P_loadpd; (iterate 5 exact rfl)) | (apply P_pick; (iterate 4 exact rfl)) | (apply P_not; (iterate 3 exact rfl))
       | (apply P_load; exact rfl; (first | exact I0 | exact I1 | exact I2 | exact I3 | exact I4 | exact I5 | exact I6); (iterate 4 exact rfl))
       | (apply P_cmp (b := true); (iterate 2 exact rfl); (focus (first | (simp [cmpI]; done) | (simp [cmpI]; omega))); (iterate 2 exact rfl))
       | (apply P_cmp (b := false); (iterate 2 exact rfl); (focus (first | (simp [cmpI]; done) | (simp [cmpI]; omega))); (iterate 2 exact rfl)) | (apply P_cmp; (iterate 5 exact rfl))
       | (apply P_ar; (iterate 3 exact rfl); (focus omega); (focus omega); (iterate 2 exact rfl)) | (apply P_lenbs; (iterate 4 exact rfl)) | (apply P_lensl; (iterate 4 exact rfl))
       | (apply P_lenrow; exact rfl; (first | exact I0 | exact I1 | exact I2 | exact I3 | exact I4 | exact I5 | exact I6); (iterate 3 exact rfl)) | (apply P_lenv; (iterate 4 exact rfl))
       | (apply P_index; (iterate 4 exact rfl); (focus (first | exact ⟨by decide, rfl⟩ | (refine ⟨by omega, ?_⟩; rw [Int.toNat_natCast]; assumption))); (iterate 2 exact rfl))
       | (apply P_indexbs; (iterate 3 exact rfl); (focus (first | exact ⟨by decide, rfl⟩ | (refine ⟨by omega, ?_⟩; rw [Int.toNat_natCast]; assumption))); (iterate 2 exact rfl))
       | (apply P_str; (iterate 3 exact rfl)) | (apply P_build; (iterate 7 exact rfl)) | (apply P_build0; (iterate 5 exact rfl)) | (apply P_lit; (iterate 9 exact rfl))
       | (apply P_s2a; (iterate 2 exact rfl); (focus (first | assumption | omega)); (iterate 3 exact rfl)) | (apply P_alloc; exact rfl; exact rfl; exact rfl; intro _)
       | (apply P_box; exact rfl; exact rfl; exact rfl; intro _) | (apply P_store; exact rfl; (focus (repeat first | exact .z | apply SetAt.s | apply SetAtF.s)); (iterate 4 exact rfl))
       | ((apply P_append; exact rfl; (focus (repeat first | exact .z | apply SetAt.s | apply SetAtF.s)); (iterate 5 exact rfl); (focus (constructor <;> (first | (simp; done) | (simp; omega))))); intro _)
       | apply EL.nil | ((with_reducible apply EK.then_normal); apply EK.code) | with_reducible apply EC.seq | with_reducible apply EC.region | (apply EC.cond_true; exact rfl)
       | (apply EC.cond_false; exact rfl) | with_reducible apply EC.skip | with_reducible apply EC.label | with_reducible apply EC.block | with_reducible apply EC.exit | with_reducible apply EC.ret
       | with_reducible apply EK.in_normal | with_reducible apply EK.in_same | ((with_reducible apply EK.in_other); exact rfl) | with_reducible apply EK.in_ret | with_reducible apply EK.then_ret
       | with_reducible apply EK.then_exit)
    refine EC.loop (ι := {k : Nat // k ≤ l.length ∧ (l.take k).any bigC = false}) (fun k => ⟨[(3, .val (.v (.int .i64 (k.1 : Int)))), (0, .val (.sl 56 (l.map dCh)))], [], []⟩) (fun k => l.length - k.1) ⟨0, by simp, by simp⟩ ?_ ?_
    · exact (Le.keep (by repeat first | exact trivial | refine ⟨rfl, ?_⟩) (by repeat first | exact List.nil_sublist _ | apply List.Sublist.cons_cons | apply List.Sublist.cons) (by simp))
    rintro ⟨k, hk, hd⟩
    dsimp only at hk hd ⊢
    by_cases hlt : k < l.length
    · have hy : (l.map dCh)[k]? = some (dCh l[k]) := by rw [List.getElem?_map, List.getElem?_eq_getElem hlt]; rfl
      have hany := any_take l k hlt
      have hin : l[k] ∈ l := List.getElem_mem hlt
      generalize l[k] = c at hy hany hin
      have hsl : (c.slots.map dSl).length = c.slots.length := List.length_map _
      unfold dCh at hy
      by_cases hc : bigC c = true
      · have hb : bigR l = true := by
          unfold bigR
          rw [Bool.or_eq_true]
          exact .inr (List.any_eq_true.2 ⟨c, hin, hc⟩)
        rw [hb]
        clear hb hany
        unfold bigC at hc
        by_cases h1 : 200 < c.code.length
        ·
          repeat
            (first
             | (apply P_skip; exact rfl) | (apply P_move; (iterate 3 exact rfl)) | (apply P_assign; (iterate 3 exact rfl)) | (apply P_field; (iterate 6 exact rfl)) | (apply P_fieldpd; (iterate 7 exact rfl))
             | (apply P_extract; (iterate 4 exact rfl)) | (apply P_loadpd; (iterate 5 exact rfl)) | (apply P_pick; (iterate 4 exact rfl)) | (apply P_not; (iterate 3 exact rfl))
             | (apply P_load; exact rfl; (first | exact I0 | exact I1 | exact I2 | exact I3 | exact I4 | exact I5 | exact I6); (iterate 4 exact rfl))
             | (apply P_cmp (b := true); (iterate 2 exact rfl); (focus (first | (simp [cmpI]; done) | (simp [cmpI]; omega))); (iterate 2 exact rfl))
             | (apply P_cmp (b := false); (iterate 2 exact rfl); (focus (first | (simp [cmpI]; done) | (simp [cmpI]; omega))); (iterate 2 exact rfl)) | (apply P_cmp; (iterate 5 exact rfl))
             | (apply P_ar; (iterate 3 exact rfl); (focus omega); (focus omega); (iterate 2 exact rfl)) | (apply P_lenbs; (iterate 4 exact rfl)) | (apply P_lensl; (iterate 4 exact rfl))
             | (apply P_lenrow; exact rfl; (first | exact I0 | exact I1 | exact I2 | exact I3 | exact I4 | exact I5 | exact I6); (iterate 3 exact rfl)) | (apply P_lenv; (iterate 4 exact rfl))
             | (apply P_index; (iterate 4 exact rfl); (focus (first | exact ⟨by decide, rfl⟩ | (refine ⟨by omega, ?_⟩; rw [Int.toNat_natCast]; assumption))); (iterate 2 exact rfl))
             | (apply P_indexbs; (iterate 3 exact rfl); (focus (first | exact ⟨by decide, rfl⟩ | (refine ⟨by omega, ?_⟩; rw [Int.toNat_natCast]; assumption))); (iterate 2 exact rfl))
             | (apply P_str; (iterate 3 exact rfl)) | (apply P_build; (iterate 7 exact rfl)) | (apply P_build0; (iterate 5 exact rfl)) | (apply P_lit; (iterate 9 exact rfl))
             | (apply P_s2a; (iterate 2 exact rfl); (focus (first | assumption | omega)); (iterate 3 exact rfl)) | (apply P_alloc; exact rfl; exact rfl; exact rfl; intro _)
             | (apply P_box; exact rfl; exact rfl; exact rfl; intro _) | (apply P_store; exact rfl; (focus (repeat first | exact .z | apply SetAt.s | apply SetAtF.s)); (iterate 4 exact rfl))
             | ((apply P_append; exact rfl; (focus (repeat first | exact .z | apply SetAt.s | apply SetAtF.s)); (iterate 5 exact rfl); (focus (constructor <;> (first | (simp; done) | (simp; omega))))); intro _)
             | apply EL.nil | ((with_reducible apply EK.then_normal); apply EK.code) | with_reducible apply EC.seq | with_reducible apply EC.region | (apply EC.cond_true; exact rfl)
             | (apply EC.cond_false; exact rfl) | with_reducible apply EC.skip | with_reducible apply EC.label | with_reducible apply EC.block | with_reducible apply EC.exit | with_reducible apply EC.ret
             | with_reducible apply EK.in_normal | with_reducible apply EK.in_same | ((with_reducible apply EK.in_other); exact rfl) | with_reducible apply EK.in_ret | with_reducible apply EK.then_ret
             | with_reducible apply EK.then_exit)
          exact EK.ret1 rfl rfl rfl
        · have h2 : 20 < c.slots.length := by simpa [h1] using hc
          repeat
            (first
             | (apply P_skip; exact rfl) | (apply P_move; (iterate 3 exact rfl)) | (apply P_assign; (iterate 3 exact rfl)) | (apply P_field; (iterate 6 exact rfl)) | (apply P_fieldpd; (iterate 7 exact rfl))
             | (apply P_extract; (iterate 4 exact rfl)) | (apply P_loadpd; (iterate 5 exact rfl)) | (apply P_pick; (iterate 4 exact rfl)) | (apply P_not; (iterate 3 exact rfl))
             | (apply P_load; exact rfl; (first | exact I0 | exact I1 | exact I2 | exact I3 | exact I4 | exact I5 | exact I6); (iterate 4 exact rfl))
             | (apply P_cmp (b := true); (iterate 2 exact rfl); (focus (first | (simp [cmpI]; done) | (simp [cmpI]; omega))); (iterate 2 exact rfl))
             | (apply P_cmp (b := false); (iterate 2 exact rfl); (focus (first | (simp [cmpI]; done) | (simp [cmpI]; omega))); (iterate 2 exact rfl)) | (apply P_cmp; (iterate 5 exact rfl))
             | (apply P_ar; (iterate 3 exact rfl); (focus omega); (focus omega); (iterate 2 exact rfl)) | (apply P_lenbs; (iterate 4 exact rfl)) | (apply P_lensl; (iterate 4 exact rfl))
             | (apply P_lenrow; exact rfl; (first | exact I0 | exact I1 | exact I2 | exact I3 | exact I4 | exact I5 | exact I6); (iterate 3 exact rfl)) | (apply P_lenv; (iterate 4 exact rfl))
             | (apply P_index; (iterate 4 exact rfl); (focus (first | exact ⟨by decide, rfl⟩ | (refine ⟨by omega, ?_⟩; rw [Int.toNat_natCast]; assumption))); (iterate 2 exact rfl))
             | (apply P_indexbs; (iterate 3 exact rfl); (focus (first | exact ⟨by decide, rfl⟩ | (refine ⟨by omega, ?_⟩; rw [Int.toNat_natCast]; assumption))); (iterate 2 exact rfl))
             | (apply P_str; (iterate 3 exact rfl)) | (apply P_build; (iterate 7 exact rfl)) | (apply P_build0; (iterate 5 exact rfl)) | (apply P_lit; (iterate 9 exact rfl))
             | (apply P_s2a; (iterate 2 exact rfl); (focus (first | assumption | omega)); (iterate 3 exact rfl)) | (apply P_alloc; exact rfl; exact rfl; exact rfl; intro _)
             | (apply P_box; exact rfl; exact rfl; exact rfl; intro _) | (apply P_store; exact rfl; (focus (repeat first | exact .z | apply SetAt.s | apply SetAtF.s)); (iterate 4 exact rfl))
             | ((apply P_append; exact rfl; (focus (repeat first | exact .z | apply SetAt.s | apply SetAtF.s)); (iterate 5 exact rfl); (focus (constructor <;> (first | (simp; done) | (simp; omega))))); intro _)
             | apply EL.nil | ((with_reducible apply EK.then_normal); apply EK.code) | with_reducible apply EC.seq | with_reducible apply EC.region | (apply EC.cond_true; exact rfl)
             | (apply EC.cond_false; exact rfl) | with_reducible apply EC.skip | with_reducible apply EC.label | with_reducible apply EC.block | with_reducible apply EC.exit | with_reducible apply EC.ret
             | with_reducible apply EK.in_normal | with_reducible apply EK.in_same | ((with_reducible apply EK.in_other); exact rfl) | with_reducible apply EK.in_ret | with_reducible apply EK.then_ret
             | with_reducible apply EK.then_exit)
          exact EK.ret1 rfl rfl rfl
      · rw [hd, Bool.eq_false_iff.2 hc] at hany
        unfold bigC at hc
        simp only [Bool.or_eq_true, decide_eq_true_eq] at hc
        repeat
          (first
           | (apply P_skip; exact rfl) | (apply P_move; (iterate 3 exact rfl)) | (apply P_assign; (iterate 3 exact rfl)) | (apply P_field; (iterate 6 exact rfl)) | (apply P_fieldpd; (iterate 7 exact rfl))
           | (apply P_extract; (iterate 4 exact rfl)) | (apply P_loadpd; (iterate 5 exact rfl)) | (apply P_pick; (iterate 4 exact rfl)) | (apply P_not; (iterate 3 exact rfl))
           | (apply P_load; exact rfl; (first | exact I0 | exact I1 | exact I2 | exact I3 | exact I4 | exact I5 | exact I6); (iterate 4 exact rfl))
           | (apply P_cmp (b := true); (iterate 2 exact rfl); (focus (first | (simp [cmpI]; done) | (simp [cmpI]; omega))); (iterate 2 exact rfl))
           | (apply P_cmp (b := false); (iterate 2 exact rfl); (focus (first | (simp [cmpI]; done) | (simp [cmpI]; omega))); (iterate 2 exact rfl)) | (apply P_cmp; (iterate 5 exact rfl))
           | (apply P_ar; (iterate 3 exact rfl); (focus omega); (focus omega); (iterate 2 exact rfl)) | (apply P_lenbs; (iterate 4 exact rfl)) | (apply P_lensl; (iterate 4 exact rfl))
           | (apply P_lenrow; exact rfl; (first | exact I0 | exact I1 | exact I2 | exact I3 | exact I4 | exact I5 | exact I6); (iterate 3 exact rfl)) | (apply P_lenv; (iterate 4 exact rfl))
           | (apply P_index; (iterate 4 exact rfl); (focus (first | exact ⟨by decide, rfl⟩ | (refine ⟨by omega, ?_⟩; rw [Int.toNat_natCast]; assumption))); (iterate 2 exact rfl))
           | (apply P_indexbs; (iterate 3 exact rfl); (focus (first | exact ⟨by decide, rfl⟩ | (refine ⟨by omega, ?_⟩; rw [Int.toNat_natCast]; assumption))); (iterate 2 exact rfl))
           | (apply P_str; (iterate 3 exact rfl)) | (apply P_build; (iterate 7 exact rfl)) | (apply P_build0; (iterate 5 exact rfl)) | (apply P_lit; (iterate 9 exact rfl))
           | (apply P_s2a; (iterate 2 exact rfl); (focus (first | assumption | omega)); (iterate 3 exact rfl)) | (apply P_alloc; exact rfl; exact rfl; exact rfl; intro _)
           | (apply P_box; exact rfl; exact rfl; exact rfl; intro _) | (apply P_store; exact rfl; (focus (repeat first | exact .z | apply SetAt.s | apply SetAtF.s)); (iterate 4 exact rfl))
           | ((apply P_append; exact rfl; (focus (repeat first | exact .z | apply SetAt.s | apply SetAtF.s)); (iterate 5 exact rfl); (focus (constructor <;> (first | (simp; done) | (simp; omega))))); intro _)
           | apply EL.nil | ((with_reducible apply EK.then_normal); apply EK.code) | with_reducible apply EC.seq | with_reducible apply EC.region | (apply EC.cond_true; exact rfl)
           | (apply EC.cond_false; exact rfl) | with_reducible apply EC.skip | with_reducible apply EC.label | with_reducible apply EC.block | with_reducible apply EC.exit | with_reducible apply EC.ret
           | with_reducible apply EK.in_normal | with_reducible apply EK.in_same | ((with_reducible apply EK.in_other); exact rfl) | with_reducible apply EK.in_ret | with_reducible apply EK.then_ret
           | with_reducible apply EK.then_exit)
        refine EK.again ⟨k + 1, by omega, hany⟩ (by dsimp only; omega) ?_
        simp only [Int.natCast_add]
        exact (Le.keep (by repeat first | exact trivial | refine ⟨rfl, ?_⟩) (by repeat first | exact List.nil_sublist _ | apply List.Sublist.cons_cons | apply List.Sublist.cons) (by simp))
    · rw [List.take_of_length_le (by omega)] at hd
      have hb : bigR l = false := by unfold bigR; rw [hd]; simp; omega
      rw [hb]
      repeat
        (first
         | (apply P_skip; exact rfl) | (apply P_move; (iterate 3 exact rfl)) | (apply P_assign; (iterate 3 exact rfl)) | (apply P_field; (iterate 6 exact rfl)) | (apply P_fieldpd; (iterate 7 exact rfl))
         | (apply P_extract; (iterate 4 exact rfl)) | (apply P_loadpd; (iterate 5 exact rfl)) | (apply P_pick; (iterate 4 exact rfl)) | (apply P_not; (iterate 3 exact rfl))
         | (apply P_load; exact rfl; (first | exact I0 | exact I1 | exact I2 | exact I3 | exact I4 | exact I5 | exact I6); (iterate 4 exact rfl))
         | (apply P_cmp (b := true); (iterate 2 exact rfl); (focus (first | (simp [cmpI]; done) | (simp [cmpI]; omega))); (iterate 2 exact rfl))
         | (apply P_cmp (b := false); (iterate 2 exact rfl); (focus (first | (simp [cmpI]; done) | (simp [cmpI]; omega))); (iterate 2 exact rfl)) | (apply P_cmp; (iterate 5 exact rfl))
         | (apply P_ar; (iterate 3 exact rfl); (focus omega); (focus omega); (iterate 2 exact rfl)) | (apply P_lenbs; (iterate 4 exact rfl)) | (apply P_lensl; (iterate 4 exact rfl))
         | (apply P_lenrow; exact rfl; (first | exact I0 | exact I1 | exact I2 | exact I3 | exact I4 | exact I5 | exact I6); (iterate 3 exact rfl)) | (apply P_lenv; (iterate 4 exact rfl))
         | (apply P_index; (iterate 4 exact rfl); (focus (first | exact ⟨by decide, rfl⟩ | (refine ⟨by omega, ?_⟩; rw [Int.toNat_natCast]; assumption))); (iterate 2 exact rfl))
         | (apply P_indexbs; (iterate 3 exact rfl); (focus (first | exact ⟨by decide, rfl⟩ | (refine ⟨by omega, ?_⟩; rw [Int.toNat_natCast]; assumption))); (iterate 2 exact rfl))
         | (apply P_str; (iterate 3 exact rfl)) | (apply P_build; (iterate 7 exact rfl)) | (apply P_build0; (iterate 5 exact rfl)) | (apply P_lit; (iterate 9 exact rfl))
         | (apply P_s2a; (iterate 2 exact rfl); (focus (first | assumption | omega)); (iterate 3 exact rfl)) | (apply P_alloc; exact rfl; exact rfl; exact rfl; intro _)
         | (apply P_box; exact rfl; exact rfl; exact rfl; intro _) | (apply P_store; exact rfl; (focus (repeat first | exact .z | apply SetAt.s | apply SetAtF.s)); (iterate 4 exact rfl))
         | ((apply P_append; exact rfl; (focus (repeat first | exact .z | apply SetAt.s | apply SetAtF.s)); (iterate 5 exact rfl); (focus (constructor <;> (first | (simp; done) | (simp; omega))))); intro _)
         | apply EL.nil | ((with_reducible apply EK.then_normal); apply EK.code) | with_reducible apply EC.seq | with_reducible apply EC.region | (apply EC.cond_true; exact rfl)
         | (apply EC.cond_false; exact rfl) | with_reducible apply EC.skip | with_reducible apply EC.label | with_reducible apply EC.block | with_reducible apply EC.exit | with_reducible apply EC.ret
         | with_reducible apply EK.in_normal | with_reducible apply EK.in_same | ((with_reducible apply EK.in_other); exact rfl) | with_reducible apply EK.in_ret | with_reducible apply EK.then_ret
         | with_reducible apply EK.then_exit)
      exact EK.ret1 rfl rfl rfl
theorem pack_zero : ∃ b, Jn.packD zeroDf = .ok b ∧ b.length = 69 := by
  refine ⟨E (dfI zeroDf), ?_, ?_⟩
  · kernel_rfl
  · kernel_rfl
theorem read_nil : dfOf [] = zeroDf ∧ erOf [] = 4 := ⟨by kernel_rfl, by kernel_rfl⟩
theorem zeroDf_ok : zeroDf.ok := ⟨by decide, by decide, fun c hc => by cases hc⟩
set_option maxRecDepth 20000 in
set_option maxHeartbeats 4000000 in
theorem f_alive : FnA 7 [] (· = .val (.v (.bool true))) := by
  obtain ⟨b, hb, hl⟩ := pack_zero
  have h1 := f_JPack zeroDf (fun c hc => by cases hc) ⟨by simp [zeroDf], fun c hc => by cases hc⟩
  unfold packO at h1
  rw [hb] at h1
  dsimp only at h1
  have hr := readD_of_packD pad_strip zeroDf_ok hb
  have h2 := f_JRead b
  have h3 := f_JRead []
  unfold dfD at h2 h3
  rw [read_nil.1, read_nil.2] at h3
  unfold dfOf erOf at h2
  rw [hr] at h2
  dsimp only at h2
  have hn0 := f_num 0
  have hn4 := f_num 4
  refine FnA.walk 37 Try.func7 rfl Try.ntmps7 (by simp) fun X hX => ?_
  repeat
    (first
     | (apply P_skip; exact rfl)
     | ((apply P_callA hX (h1); exact rfl; (focus (repeat first | exact RefineL.refl _ _ | exact RL.nil | exact Rf.same | exact Rf.bs0 | exact Rf.sl0 | (apply Rf.fact; (focus (simp; done)); exact rfl) | apply Rf.tup | apply RL.cons)); (focus (intro _ _; simp [go_sem]; done)); (iterate 3 exact rfl)); rintro _ rfl)
     | (apply P_call (h2); exact rfl; (focus (repeat first | exact RefineL.refl _ _ | exact RL.nil | exact Rf.same | exact Rf.bs0 | exact Rf.sl0 | (apply Rf.fact; (focus (simp; done)); exact rfl) | apply Rf.tup | apply RL.cons)); (focus (intro _ _; simp [go_sem]; done)); (iterate 2 exact rfl))
     | (apply P_call (h3); exact rfl; (focus (repeat first | exact RefineL.refl _ _ | exact RL.nil | exact Rf.same | exact Rf.bs0 | exact Rf.sl0 | (apply Rf.fact; (focus (simp; done)); exact rfl) | apply Rf.tup | apply RL.cons)); (focus (intro _ _; simp [go_sem]; done)); (iterate 2 exact rfl))
     | (apply P_call (hn0); exact rfl; (focus (repeat first | exact RefineL.refl _ _ | exact RL.nil | exact Rf.same | exact Rf.bs0 | exact Rf.sl0 | (apply Rf.fact; (focus (simp; done)); exact rfl) | apply Rf.tup | apply RL.cons)); (focus (intro _ _; simp [go_sem]; done)); (iterate 2 exact rfl))
     | (apply P_call (hn4); exact rfl; (focus (repeat first | exact RefineL.refl _ _ | exact RL.nil | exact Rf.same | exact Rf.bs0 | exact Rf.sl0 | (apply Rf.fact; (focus (simp; done)); exact rfl) | apply Rf.tup | apply RL.cons)); (focus (intro _ _; simp [go_sem]; done)); (iterate 2 exact rfl))
     | (apply P_move; (iterate 3 exact rfl)) | (apply P_assign; (iterate 3 exact rfl)) | (apply P_field; (iterate 6 exact rfl)) | (apply P_fieldpd; (iterate 7 exact rfl))
     | (apply P_extract; (iterate 4 exact rfl)) | (apply P_loadpd; (iterate 5 exact rfl)) | (apply P_pick; (iterate 4 exact rfl)) | (apply P_not; (iterate 3 exact rfl))
     | (apply P_load; exact rfl; (first | exact I0 | exact I1 | exact I2 | exact I3 | exact I4 | exact I5 | exact I6); (iterate 4 exact rfl))
     | (apply P_loadF; exact rfl; (first | exact I0 | exact I1 | exact I2 | exact I3 | exact I4 | exact I5 | exact I6); (iterate 4 exact rfl))
     | (apply P_cmp (b := true); (iterate 2 exact rfl); (focus (first | (simp [cmpI]; done) | (simp [cmpI]; omega))); (iterate 2 exact rfl))
     | (apply P_cmp (b := false); (iterate 2 exact rfl); (focus (first | (simp [cmpI]; done) | (simp [cmpI]; omega))); (iterate 2 exact rfl)) | (apply P_cmp; (iterate 5 exact rfl))
     | (apply P_ar; (iterate 3 exact rfl); (focus omega); (focus omega); (iterate 2 exact rfl)) | (apply P_lenbs; (iterate 4 exact rfl)) | (apply P_lensl; (iterate 4 exact rfl))
     | (apply P_lenrow; exact rfl; (first | exact I0 | exact I1 | exact I2 | exact I3 | exact I4 | exact I5 | exact I6); (iterate 3 exact rfl)) | (apply P_lenv; (iterate 4 exact rfl))
     | (apply P_index; (iterate 4 exact rfl); (focus (first | exact ⟨by decide, rfl⟩ | (refine ⟨by omega, ?_⟩; rw [Int.toNat_natCast]; assumption))); (iterate 2 exact rfl))
     | (apply P_indexbs; (iterate 3 exact rfl); (focus (first | exact ⟨by decide, rfl⟩ | (refine ⟨by omega, ?_⟩; rw [Int.toNat_natCast]; assumption))); (iterate 2 exact rfl))
     | (apply P_str; (iterate 3 exact rfl)) | (apply P_build; (iterate 7 exact rfl)) | (apply P_build0; (iterate 5 exact rfl)) | (apply P_lit; (iterate 9 exact rfl))
     | (apply P_s2a; (iterate 2 exact rfl); (focus (first | assumption | omega)); (iterate 3 exact rfl)) | (apply P_alloc; exact rfl; exact rfl; exact rfl; intro _)
     | (apply P_box; exact rfl; exact rfl; exact rfl; intro _) | (apply P_store; exact rfl; (focus (repeat first | exact .z | apply SetAt.s | apply SetAtF.s)); (iterate 4 exact rfl))
     | ((apply P_append; exact rfl; (focus (repeat first | exact .z | apply SetAt.s | apply SetAtF.s)); (iterate 5 exact rfl); (focus (constructor <;> (first | (simp; done) | (simp; omega))))); intro _)
     | apply EL.nil | ((with_reducible apply EK.then_normal); apply EK.code) | with_reducible apply EC.seq | with_reducible apply EC.region | (apply EC.cond_true; exact rfl)
     | (apply EC.cond_false; exact rfl) | with_reducible apply EC.skip | with_reducible apply EC.label | with_reducible apply EC.block | with_reducible apply EC.exit | with_reducible apply EC.ret
     | with_reducible apply EK.in_normal | with_reducible apply EK.in_same | ((with_reducible apply EK.in_other); exact rfl) | with_reducible apply EK.in_ret | with_reducible apply EK.then_ret
     | with_reducible apply EK.then_exit)
  exact EK.ret1 rfl rfl rfl
end E
end Go.Proofs.Ytekacgocjplfjaa
/-
  The abstract machine: tests of arrays, of structs of arrays, of strings, of bools.
  Conditions: none.
-/
namespace Go.Proofs.Ytekacgocjplfjaa
set_option linter.unusedVariables false
open Go.RowKit Mono Rlp
namespace E
section
variable {T e n : Nat}
theorem eq_arr (hT : Try.prog.underlying T = some (.array n e)) (he : Try.prog.underlying e = some (.int .u8)) (hs : ∀ w, (sizeOf e).run Try.prog w = .ok 1 w) (w : World) (l m : List UInt8) (hl : l.length = n) (hm : m.length = n) : (Op.equalIn 10000 T (arrV l) (arrV m)).run Try.prog w = .ok (l == m) w := by
  have h2 := run_equalIn_bytes w 9998 T e n hT he hs l m hl hm
  rw [show (Op.equalIn 10000 T (arrV l) (arrV m)) = (Op.equalIn (9998 + 2) T (.agg (l.map Extern.Stop.cell).toArray) (.agg (m.map Extern.Stop.cell).toArray)) from rfl, h2]
theorem eq_arr' (d : Nat) (hT : Try.prog.underlying T = some (.array n e)) (he : Try.prog.underlying e = some (.int .u8)) (hs : ∀ w, (sizeOf e).run Try.prog w = .ok 1 w) (w : World) (l m : List UInt8) (hl : l.length = n) (hm : m.length = n) : (Op.equalIn (d + 2) T (arrV l) (arrV m)).run Try.prog w = .ok (l == m) w :=
  run_equalIn_bytes w d T e n hT he hs l m hl hm
theorem bin_arr (hT : Try.prog.underlying T = some (.array n e)) (he : Try.prog.underlying e = some (.int .u8)) (hs : ∀ w, (sizeOf e).run Try.prog w = .ok 1 w) (hg : Try.prog.eqGuardType Try.prog.depth T = false) (l m : List UInt8) : Bin .eql T (.arr n l) (.arr n m) (.bool (l == m)) ∧ Bin .neq T (.arr n l) (.arr n m) (.bool (l != m)) := by
  refine ⟨⟨rfl, fun ok w p q hp hq => ?_⟩, ⟨rfl, fun ok w p q hp hq => ?_⟩⟩ <;> (obtain ⟨e1, rfl⟩ := arrV_of hp; obtain ⟨e2, rfl⟩ := arrV_of hq; refine ⟨fun x y => run_eqGuard_agg w _ _ _ _ _ _ hg, ?_⟩)
  · exact run_eql_bytes w T e n hT he hs l m e1 e2
  · have h1 : (binOp .neq T (arrV l) (arrV m)).run Try.prog w = ((Op.equalIn 10000 T (arrV l) (arrV m)).run Try.prog w).andThen fun b w' => .ok (.bool (!b)) w' := by
      simp only [arrV, binOp, Op.equal, Op.maxDepth, Sem.run_bind, Sem.run_pure]
    rw [h1, eq_arr hT he hs w l m e1 e2]
    rfl
end
theorem bin_word (l m : List UInt8) : Bin .eql 23 (.arr 32 l) (.arr 32 m) (.bool (l == m)) ∧ Bin .neq 23 (.arr 32 l) (.arr 32 m) (.bool (l != m)) :=
  bin_arr Try.underlying23 Try.underlying5 (fun w => by kernel_rfl) (by kernel_rfl) l m
theorem bin_bool (a b : Bool) : Bin .eql 4 (.v (.bool a)) (.v (.bool b)) (.bool (a == b)) ∧ Bin .neq 4 (.v (.bool a)) (.v (.bool b)) (.bool (a != b)) := by
  refine ⟨⟨rfl, fun ok w p q hp hq => ?_⟩, ⟨rfl, fun ok w p q hp hq => ?_⟩⟩ <;> (obtain rfl := (readV_v.1 hp).2; obtain rfl := (readV_v.1 hq).2; refine ⟨fun x y => by simp [eqGuard], ?_⟩)
  · simp [binOp, run_equal_bool w _ a b Try.underlying4]
  · simp [binOp, run_equal_bool w _ a b Try.underlying4, bne]
theorem bin_string (l m : List UInt8) : Bin .eql 9 (.v (.string (Go.Proofs.Ytekacgocjplfjaa.bs l))) (.v (.string (Go.Proofs.Ytekacgocjplfjaa.bs m))) (.bool (l == m)) ∧ Bin .neq 9 (.v (.string (Go.Proofs.Ytekacgocjplfjaa.bs l))) (.v (.string (Go.Proofs.Ytekacgocjplfjaa.bs m))) (.bool (l != m)) := by
  refine ⟨⟨rfl, fun ok w p q hp hq => ?_⟩, ⟨rfl, fun ok w p q hp hq => ?_⟩⟩ <;> (obtain rfl := (readV_v.1 hp).2; obtain rfl := (readV_v.1 hq).2; refine ⟨fun x y => by simp [eqGuard], ?_⟩)
  · simp [binOp, Op.stringOp, bs_toList]
  · simp [binOp, Op.stringOp, bs_toList, bne]
/-- A slice is no longer than memory goes. -/
theorem EC.lenOf {N : Nat} {X : Cx N} {S : St} {Q : Exit → Act → World → Prop} {c : Code} {t : Tmp} {z : Nat} {ds : List D} (hl : look S.regs t = some (.val (.sl z ds))) (k : ds.length ≤ maxLen → EC X Q c S) : EC X Q c S := ⟨fun a w ha => by
  obtain ⟨A, c', rows, h1, h2, h3, _⟩ := sl_ex (ha.regs t _ hl)
  exact (k (by omega)).go a w ha⟩
theorem EC.lenOfB {N : Nat} {X : Cx N} {S : St} {Q : Exit → Act → World → Prop} {c : Code} {t : Tmp} {b : List UInt8} (hl : look S.regs t = some (.val (.bs b))) (k : b.length ≤ maxLen → EC X Q c S) : EC X Q c S := ⟨fun a w ha => by
  obtain ⟨A, c', h1, h2, h3, _⟩ := bs_ex (ha.regs t _ hl)
  exact (k (by omega)).go a w ha⟩
end E
end Go.Proofs.Ytekacgocjplfjaa
/-
  journal's laws: small facts that they share.
  Conditions: none.
-/
namespace Go.Proofs.Ytekacgocjplfjaa
set_option linter.unusedVariables false
open Go.RowKit Mono Rlp Jn
namespace E
theorem f_num' (n : Nat) : Fn 11 [.v (.int .i64 (n : Int))] (· = .val (.v (.int .i64 (n : Int)))) := f_num n
theorem eq_word (l : List UInt8) : Bin .eql 23 (.arr 32 l) (.arr 32 l) (.bool true) := by
  have := (bin_word l l).1
  rwa [show (l == l) = true by simp] at this
theorem bs_read {w : World} {l : List UInt8} {v : Value} (h : IsB w v l) : ReadV (fun b => b < w.heap.size) w (.bs l) v := (readV_one rfl).2 (reads_bs.2 ⟨v, rfl, h⟩)
/-- A law's function that answers true. -/
theorem law_bool {f : FuncId} {ds : List D} {xs : List Value} {w : World} (h : FnA f ds (· = .val (.v (.bool true)))) (hr : ReadVs (fun b => b < w.heap.size) w ds xs) : Calls Try.prog f xs.toArray w fun e w' => e = .returned (.bool true) ∧ Below w.heap.size w w' :=
  (h.go w xs hr).mono fun e w' ⟨hg, v, r, he, hr', hv⟩ => by
    subst he hr'
    exact ⟨by rw [(readV_v.1 hv).2], hg⟩
theorem ok_rng {d : Df} (h : d.ok) : ∀ c ∈ d.chs, rngC c := fun c hc => ⟨(h.2.2 c hc).2.2.1, (h.2.2 c hc).2.2.2.1⟩
theorem packD_err {d : Df} {e : Nat} (h : Jn.packD d = .error e) : e = 1 ∨ e = 3 := by
  unfold Jn.packD at h
  split at h
  · split at h
    · cases h
    · cases h
      exact .inr rfl
  · cases h
    exact .inl rfl
theorem ne_string (l : List UInt8) : Bin .neq 9 (.v (.string (Go.Proofs.Ytekacgocjplfjaa.bs l))) (.v (.string (Go.Proofs.Ytekacgocjplfjaa.bs l))) (.bool false) := by
  have := (bin_string l l).2
  rwa [show (l != l) = false by simp] at this
end E
end Go.Proofs.Ytekacgocjplfjaa
/-
  The abstract machine: an array seen as a slice, copy into a variable's array, a copy of bytes in new memory.
  Conditions: none.
-/
namespace Go.Proofs.Ytekacgocjplfjaa
set_option linter.unusedVariables false
open Go.RowKit Mono Rlp
namespace E
/-- Arrays of n bytes. -/
structure SliceA (T n : Nat) : Prop where
  ok : ∀ w g o, (Instr.sliceAt T (.pointer (some ⟨g, o, none⟩)) none none none).run Try.prog w = .ok (.slice (some ⟨g, o, none⟩) n n) w
section
variable {N : Nat} {X : Cx N} {S : St} {ops : Array Oper} {o : Oper} {Q : Exit → Act → World → Prop} {l : List Oper} {TT : St → List Fr → Prop} {EE : List Fr} {rs : List (Tmp × R)} {os : List Obj} {fs : List (Value × D)}
theorem g_slarr {x : Operand} {T n g k : Nat} (hA : SliceA T n) (ho : o.op = .slice T x none none none) (hx : ev S x = some (.val (.v (.pointer (some ⟨g, k, none⟩))))) : Still ops S o (.val (.v (.slice (some ⟨g, k, none⟩) n n))) := fun base ok a w ha => by
  have hx' := ev_v ha hx fun t e => looks_of e (by rw [ho]; simp [Op.operands])
  refine ⟨_, ?_, v_mk rfl⟩
  unfold execOp
  simp only [ho, hx', Option.map_none, Sem.run_bind, hA.ok w g k, Result.andThen_ok, Sem.run_pure]
theorem P_slarr {t ty : Nat} {pos : String} {af : Array Edge} {gd : Option (Nat × Bool)} {x : Operand} {T n g k : Nat} (hA : SliceA T n) (hx : ev (⟨rs, os, fs⟩ : St) x = some (.val (.v (.pointer (some ⟨g, k, none⟩))))) (hg : guardOf ops ⟨rs, os, fs⟩ ⟨some t, .slice T x none none none, ty, pos, af, gd⟩ = some true) (hN : Nat.blt t N = true) (kk : EL X ops Q l ⟨(t, .val (.v (.slice (some ⟨g, k, none⟩) n n))) :: rs, os, fs⟩) : EL X ops Q (⟨some t, .slice T x none none none, ty, pos, af, gd⟩ :: l) ⟨rs, os, fs⟩ := ES.still (g_slarr hA rfl hx) hg rfl hN kk
theorem H_slarr {t ty : Nat} {pos : String} {af : Array Edge} {gd : Option (Nat × Bool)} {x : Operand} {T n g k : Nat} (hA : SliceA T n) (hx : ev (⟨rs, os, fs⟩ : St) x = some (.val (.v (.pointer (some ⟨g, k, none⟩))))) (hg : guardOf ops ⟨rs, os, fs⟩ ⟨some t, .slice T x none none none, ty, pos, af, gd⟩ = some true) (hoff : offB N (some t) EE = true) (kk : EM N ops TT l ⟨(t, .val (.v (.slice (some ⟨g, k, none⟩) n n))) :: rs, os, fs⟩ EE) : EM N ops TT (⟨some t, .slice T x none none none, ty, pos, af, gd⟩ :: l) ⟨rs, os, fs⟩ EE := EH.still (g_slarr hA rfl hx) hg rfl hoff kk
/-- 'copy' of as many bytes as the array has, into a variable's array. -/
theorem EL.copy {T U e b g n k c : Nat} {x y : Operand} {t : TypeId} {d d'' : D} {m : List UInt8} (i : Nat) (ho : o.op = .call { callee := .builtin .copy, args := #[x, y], argTypes := #[T, U] }) (hg : guardOf ops S o = some true) (hd : ∀ t, o.dst = some t → t < N) (hT : assoc slL T = some (e, 1, b))
    (hx : ev S x = some (.val (.v (.slice (some ⟨g, n, none⟩) k c)))) (hi : S.objs[i]? = some (.var g t d)) (hy : ev S y = some (.val (.bs m))) (hm : m.length = k) (h0 : Nat.blt 0 k = true) (hu : d.upd n (.arr k m) = some d'')
    (kk : EL X ops Q l (St.put ⟨S.regs, S.objs.set i (.var g t d''), S.facts⟩ o.dst (.val (.v (.int .i64 (k : Int)))))) : EL X ops Q (o :: l) S := by
  constructor
  intro a w ha
  have hk := ha.kn fun t => t ∈ o.looksAt ops
  have hx' := ev_v hk hx fun t e => looks_of e (by rw [ho]; simp [Op.operands, Call.operands])
  obtain ⟨A, c', h1, h2, h3, h4⟩ := bs_ex (hk.ev hy fun t e => looks_of e (by rw [ho]; simp [Op.operands, Call.operands]))
  have h0' : 0 < k := by simpa using h0
  obtain ⟨bl, o', rfl, hb, hc⟩ := h4 (fun e => by have := congrArg List.length e; rw [bvs_length] at this; simp at this; rw [this] at hm; simp at hm; omega)
  obtain ⟨hge, cs, h5, h6⟩ := ha.mem.var hi
  have hnew : Reads (X.ok S.objs w) w (.arr k m) (bvs m) := by rw [Reads]; exact ⟨hm, rfl⟩
  obtain ⟨e1, e2, pre, mid, post, rfl, h7, h8, h9⟩ := upd_spec d n (.arr k m) d'' cs (bvs m) hu h6 hnew
  have hcell : ∀ j, j < (bvs m).length → (w.cell? ⟨g, n + j, none⟩).isSome = true := fun j hj => by
    rw [cell_of_row w g (n + j) _ t (0, 0) h5]
    simp only [List.getElem?_toArray, List.append_assoc]
    rw [List.getElem?_append_right (by omega), List.getElem?_append_left (by omega)]
    simp
    omega
  have hf : ∀ j, j < (bvs m).length → w.frozen? ⟨g, n + j, none⟩ = false := fun j _ => by simp [World.frozen?, h5]
  have hsl := slI hT
  have hrun := run_copy_cells (P := Try.prog) w T U o.type e g n k c ⟨bl, o', none⟩ m.length c' (bvs m) hsl.und hsl.size (by rw [bvs_length, hm]; simp) (fun j v hv => by rw [add_none]; exact hc j v hv) hcell hf (bvs_one m)
  unfold wpList
  rw [if_pos (wanted_of ha hg)]
  refine .inl ?_
  unfold Oper.wp execOp
  simp only [ho, resolve, invoke, builtin, Sem.run_bind, Sem.run_pure, Result.andThen_ok, List.map_toArray, List.map_cons, List.map_nil, hx', h1, hrun]
  have ht := ha.turn (q := .var g t d'') (w' := w.setCells g n (bvs m)) hi (grownBy_setCells g (bvs m) n w) (.inl rfl) fun hok hcell => ⟨hge, pre ++ bvs m ++ post, by
    have := setCells_row (bvs m) pre mid post w h8 h5
    rwa [h7] at this, Reads.mono hok hcell _ _ h9⟩
  rw [bvs_length, hm]
  exact kk.go _ _ (ht.put hd (v_mk rfl))
/-- A copy of bytes. -/
theorem g_apnew {x : Operand} {m : List UInt8} (ho : o.op = .call { callee := .builtin .append, args := #[.const (.slice none 0 0), x], argTypes := #[29, 29] }) (hx : ev S x = some (.val (.bs m))) (hl : m.length ≤ 140737488355328) : Grows ops S o (· = .val (.bs m)) := fun base ok a w ha => by
  have hr := ha.ev hx fun t e => looks_of e (by rw [ho]; simp [Op.operands, Call.operands])
  refine growsTo_mono (fun v w' hg hv => ⟨_, rfl, (readV_one rfl).2 (by rw [Reads]; exact ⟨v, rfl, IsBP.mono hv (fun b hb => ⟨.inr hb.1, hb.2⟩) fun _ _ => rfl⟩)⟩) (growsTo_append_new (B := w.heap.size) (Nat.le_refl _) ho rfl (isB_of ha.lt hr) hl)
theorem P_apnew {t ty : Nat} {pos : String} {af : Array Edge} {gd : Option (Nat × Bool)} {x : Operand} {m : List UInt8} (hl : m.length ≤ 140737488355328) (hx : ev (⟨rs, os, fs⟩ : St) x = some (.val (.bs m))) (hg : guardOf ops ⟨rs, os, fs⟩ ⟨some t, .call { callee := .builtin .append, args := #[.const (.slice none 0 0), x], argTypes := #[29, 29] }, ty, pos, af, gd⟩ = some true) (hN : Nat.blt t N = true) (kk : EL X ops Q l ⟨(t, .val (.bs m)) :: rs, os, fs⟩) : EL X ops Q (⟨some t, .call { callee := .builtin .append, args := #[.const (.slice none 0 0), x], argTypes := #[29, 29] }, ty, pos, af, gd⟩ :: l) ⟨rs, os, fs⟩ := ES.grow (g_apnew rfl hx hl) hg rfl hN kk
theorem P_copy {t ty : Nat} {pos : String} {af : Array Edge} {gd : Option (Nat × Bool)} {T U e b g n k c : Nat} {x y : Operand} {tv : TypeId} {d d'' : D} {m : List UInt8} (i : Nat) (hm : m.length = k) (hx : ev (⟨rs, os, fs⟩ : St) x = some (.val (.v (.slice (some ⟨g, n, none⟩) k c)))) (hy : ev (⟨rs, os, fs⟩ : St) y = some (.val (.bs m))) (hi : os[i]? = some (.var g tv d)) (hT : assoc slL T = some (e, 1, b)) (h0 : Nat.blt 0 k = true) (hu : d.upd n (.arr k m) = some d'') (hg : guardOf ops ⟨rs, os, fs⟩ ⟨some t, .call { callee := .builtin .copy, args := #[x, y], argTypes := #[T, U] }, ty, pos, af, gd⟩ = some true) (hN : Nat.blt t N = true) (kk : EL X ops Q l ⟨(t, .val (.v (.int .i64 (k : Int)))) :: rs, os.set i (.var g tv d''), fs⟩) : EL X ops Q (⟨some t, .call { callee := .builtin .copy, args := #[x, y], argTypes := #[T, U] }, ty, pos, af, gd⟩ :: l) ⟨rs, os, fs⟩ :=
  EL.copy i rfl hg (dst_lt rfl hN) hT hx hi hy hm h0 hu kk
end
theorem sl_word : SliceA 23 32 := ⟨fun w g o => slice_word_off w g o⟩
end E
end Go.Proofs.Ytekacgocjplfjaa
/-
  The abstract machine: for a while, all that is may be read (and nothing of the call's own is written).
  Conditions: none.
-/
namespace Go.Proofs.Ytekacgocjplfjaa
set_option linter.unusedVariables false
open Go.RowKit Mono Rlp
namespace E
def pinF : List Obj → List (Value × D)
  | [] => []
  | .var g t d :: os => (.pointer (some ⟨g, 0, none⟩), .pd d) :: pinF os
  | .row v e z ds :: os => (v, .sl z ds) :: pinF os
def VSub (l : List (Tmp × R)) : List (Tmp × R) → Prop
  | [] => True
  | (t, .val (.v x)) :: m => look l t = some (.val (.v x)) ∧ VSub l m
  | _ :: _ => False
section
variable {N : Nat} {X X' : Cx N} {S S1 : St} {ops : Array Oper} {o : Oper} {Q : Exit → Act → World → Prop} {K : Act → World → Prop} {l : List Oper} {c : Code} {TT : St → List Fr → Prop} {EE : List Fr} {rs : List (Tmp × R)} {os : List Obj} {fs : List (Value × D)} {a : Act} {w : World}
/-- The other context began where this state held. -/
def Back (X : Cx N) (S : St) (X' : Cx N) : Prop := ∃ a, At X S a X'.w0
theorem pinF_reads {base : Nat} {ok ok' : Nat → Prop} {w : World} : ∀ (os : List Obj), (∀ o ∈ os, o.At base ok w) → (∀ b, ok b → ok' b) → (∀ b, b < w.heap.size → ok' b) → ∀ f ∈ pinF os, Reads ok' w f.2 [f.1]
  | [], _, _, _, f, hf => by simp [pinF] at hf
  | .var g t d :: os, h, h1, h2, f, hf => by
    rw [pinF] at hf
    rcases List.mem_cons.1 hf with rfl | hf
    · obtain ⟨_, cs, g1, g2⟩ := h (.var g t d) (by simp)
      rw [Reads]
      exact ⟨g, 0, cs, rfl, h2 g (lt_of_some g1), range_of_row g1, Reads.mono h1 (fun _ _ => rfl) _ _ g2⟩
    · exact pinF_reads os (fun o ho => h o (by simp [ho])) h1 h2 f hf
  | .row v e z ds :: os, h, h1, h2, f, hf => by
    rw [pinF] at hf
    rcases List.mem_cons.1 hf with rfl | hf
    · obtain ⟨rows, g1, g2⟩ := h (.row v e z ds) (by simp)
      obtain ⟨A, c, rfl, hc1, hc2⟩ := own_form g1
      show Reads _ _ (D.sl z ds) [.slice A ds.length c]
      rw [Reads]
      refine ⟨A, c, rows, rfl, hc1, hc2, fun e => by subst e; exact own_none g1, ?_, ReadsRows.mono h1 (fun _ _ => rfl) z ds rows g2⟩
      intro hn
      obtain ⟨b, o, rfl, hb, hc⟩ := own_RdP g1 hn
      exact ⟨b, o, rfl, h2 b hb.2, hc⟩
    · exact pinF_reads os (fun o ho => h o (by simp [ho])) h1 h2 f hf
theorem At.aside (h : At X S a w) : At (N := N) ⟨w, fun b => b < w.heap.size, fun _ hb => hb⟩ ⟨S.regs, [], pinF S.objs ++ S.facts⟩ a w := by
  have hok : ∀ b, X.ok S.objs w b → Cx.ok (N := N) ⟨w, fun b => b < w.heap.size, fun _ hb => hb⟩ [] w b := fun b hb => ⟨.inl hb.2.1, hb.2.1, fun o ho => by cases ho⟩
  refine ⟨⟨Gr.refl w, List.Pairwise.nil, (fun o ho => by cases ho), fun f hf => ?_⟩, fun t r hr => (h.regs t r hr).mono hok fun _ _ => rfl, h.size, h.defers⟩
  rcases List.mem_append.1 hf with hf | hf
  · exact pinF_reads S.objs h.mem.at_ hok (fun b hb => ⟨.inl hb, hb, fun o ho => by cases ho⟩) f hf
  · exact Reads.mono hok (fun _ _ => rfl) _ _ (h.mem.fact f hf)
theorem EC.aside (h : ∀ X' : Cx N, All X' → Back X S X' → EC X' Q c ⟨S.regs, [], pinF S.objs ++ S.facts⟩) : EC X Q c S := ⟨fun a w ha => (h ⟨w, fun b => b < w.heap.size, fun _ hb => hb⟩ (fun _ hb => hb) ⟨a, ha⟩).go a w ha.aside⟩
theorem EL.aside (h : ∀ X' : Cx N, All X' → Back X S X' → EL X' ops Q l ⟨S.regs, [], pinF S.objs ++ S.facts⟩) : EL X ops Q l S := ⟨fun a w ha => (h ⟨w, fun b => b < w.heap.size, fun _ hb => hb⟩ (fun _ hb => hb) ⟨a, ha⟩).go a w ha.aside⟩
theorem VSub.get {l : List (Tmp × R)} : ∀ (m : List (Tmp × R)), VSub l m → ∀ t r, look m t = some r → ∃ x, r = .val (.v x) ∧ look l t = some (.val (.v x))
  | [], _, t, r, h => by simp [look] at h
  | (u, .val (.v x)) :: m, hs, t, r, h => by
    rw [look] at h
    split at h
    · rename_i e
      cases h
      subst e
      exact ⟨x, rfl, hs.1⟩
    · exact VSub.get m hs.2 t r h
  | (u, .any) :: m, hs, t, r, h => hs.elim
  | (u, .tpl _) :: m, hs, t, r, h => hs.elim
  | (u, .val (.arr _ _)) :: m, hs, t, r, h => hs.elim
  | (u, .val (.bs _)) :: m, hs, t, r, h => hs.elim
  | (u, .val (.sl _ _)) :: m, hs, t, r, h => hs.elim
  | (u, .val (.tup _)) :: m, hs, t, r, h => hs.elim
  | (u, .val (.pd _)) :: m, hs, t, r, h => hs.elim
  | (u, .val (.ifc _ _)) :: m, hs, t, r, h => hs.elim
theorem At.back (hb : Back X S X') (hr : VSub S1.regs rs) (ha : At X' S1 a w) : At X ⟨rs, S.objs, S.facts⟩ a w := by
  obtain ⟨a0, h0⟩ := hb
  refine ⟨(h0.gr ha.mem.gr).mem, fun t r ht => ?_, ha.size, ha.defers⟩
  obtain ⟨x, rfl, h1⟩ := VSub.get rs hr t r ht
  exact readV_v.2 (readV_v.1 (ha.regs t _ h1))
theorem EC.back (hb : Back X S X') (rs : List (Tmp × R)) (hr : VSub S1.regs rs) (k : EC X Q c ⟨rs, S.objs, S.facts⟩) : EC X' Q c S1 := ⟨fun a w ha => k.go a w (At.back hb hr ha)⟩
theorem EL.back (hb : Back X S X') (rs : List (Tmp × R)) (hr : VSub S1.regs rs) (k : EL X ops Q l ⟨rs, S.objs, S.facts⟩) : EL X' ops Q l S1 := ⟨fun a w ha => k.go a w (At.back hb hr ha)⟩
theorem EK.back (hb : Back X S X') (rs : List (Tmp × R)) (hr : VSub S1.regs rs) (k : EK X K ⟨rs, S.objs, S.facts⟩) : EK X' K S1 := ⟨fun a w ha => k.go a w (At.back hb hr ha)⟩
/-- A load through a pointer of which a fact tells. -/
theorem g_loadF {x : Operand} {T sz g n : Nat} {ag : Bool} {d d' : D} (i : Nat) (ho : o.op = .load T x) (hx : ev S x = some (.val (.v (.pointer (some ⟨g, n, none⟩))))) (hi : S.facts[i]? = some (.pointer (some ⟨g, 0, none⟩), .pd d)) (hT : assoc tyL T = some (sz, ag)) (hs : d.sub n sz ag = some d') : Still ops S o (.val d') := fun base ok a w ha => by
  have h1 := (readV_v.1 (ha.ev hx fun t e => looks_of e (by rw [ho]; simp [Op.operands]))).2
  have h2 := ha.facts _ (List.mem_of_getElem? hi)
  rw [Reads] at h2
  obtain ⟨b, n', cs, h3, h4, h5, h6⟩ := h2
  cases h3
  obtain ⟨e1, e2, pre, mid, post, rfl, e3, e4⟩ := sub_spec d n sz ag d' cs hs h6
  have hr := range_part h5
  rw [Nat.zero_add, e3] at hr
  refine ⟨form d' mid, ?_, mid, e4, rfl⟩
  unfold execOp
  simp only [ho, h1, Sem.run_bind, run_loadAt (d := d') (by rw [e1, e2]; exact tyI hT) e4 hr, Result.andThen_ok, Sem.run_pure]
theorem P_loadF {t ty : Nat} {pos : String} {af : Array Edge} {gd : Option (Nat × Bool)} {x : Operand} {T sz g n i : Nat} {ag : Bool} {d d' : D} (hx : ev (⟨rs, os, fs⟩ : St) x = some (.val (.v (.pointer (some ⟨g, n, none⟩))))) (hi : fs[i]? = some (.pointer (some ⟨g, 0, none⟩), .pd d)) (hT : assoc tyL T = some (sz, ag)) (hs : d.sub n sz ag = some d') (hg : guardOf ops ⟨rs, os, fs⟩ ⟨some t, .load T x, ty, pos, af, gd⟩ = some true) (hN : Nat.blt t N = true) (kk : EL X ops Q l ⟨(t, .val d') :: rs, os, fs⟩) : EL X ops Q (⟨some t, .load T x, ty, pos, af, gd⟩ :: l) ⟨rs, os, fs⟩ := ES.still (g_loadF i rfl hx hi hT hs) hg rfl hN kk
theorem H_loadF {t ty : Nat} {pos : String} {af : Array Edge} {gd : Option (Nat × Bool)} {x : Operand} {T sz g n i : Nat} {ag : Bool} {d d' : D} (hx : ev (⟨rs, os, fs⟩ : St) x = some (.val (.v (.pointer (some ⟨g, n, none⟩))))) (hi : fs[i]? = some (.pointer (some ⟨g, 0, none⟩), .pd d)) (hT : assoc tyL T = some (sz, ag)) (hs : d.sub n sz ag = some d') (hg : guardOf ops ⟨rs, os, fs⟩ ⟨some t, .load T x, ty, pos, af, gd⟩ = some true) (hoff : offB N (some t) EE = true) (kk : EM N ops TT l ⟨(t, .val d') :: rs, os, fs⟩ EE) : EM N ops TT (⟨some t, .load T x, ty, pos, af, gd⟩ :: l) ⟨rs, os, fs⟩ EE := EH.still (g_loadF i rfl hx hi hT hs) hg rfl hoff kk
end
end E
end Go.Proofs.Ytekacgocjplfjaa
/-
  What a slice of bytes that comes in reads as.
  Conditions: none.
-/
namespace Go.Proofs.Ytekacgocjplfjaa
open Go.RowKit Mono

theorem isB_of_cells {w : World} {a : Option Addr} {len cap : Nat} {zs : List Int}
    (h : (a = none ∧ len = 0 ∧ cap = 0 ∧ zs = []) ∨ ∃ x, a = some x ∧ len ≤ cap ∧ cap ≤ maxLen ∧ zs.length = cap ∧ (∀ i, i < zs.length → w.cell? (x.add i) = some (.int .u8 (zs.getD i 0))) ∧ ∀ n ∈ zs, (Lit.int .u8 n).wf = true) :
    ∃ l, IsB w (.slice a len cap) l := by
  rcases h with ⟨rfl, rfl, rfl, rfl⟩ | ⟨x, rfl, hl, hm, hz, hc, hw⟩
  · exact ⟨[], IsB.nil w⟩
  · refine ⟨(zs.take len).map fun z => UInt8.ofNat z.toNat, some x, cap, ?_, ?_, hm, ?_⟩
    · simp; omega
    · simp; omega
    · intro hne
      have hlen : 0 < len := by
        rcases Nat.eq_zero_or_pos len with h0 | h0
        · subst h0; simp [bvs] at hne
        · exact h0
      obtain ⟨blk, off, spot⟩ := x
      have h0 := hc 0 (by omega)
      have hspot : spot = none := by
        simp only [Addr.add, if_true, World.cell?] at h0
        cases spot with
        | none => rfl
        | some s =>
          simp at h0
          split at h0 <;> simp at h0
      subst hspot
      refine ⟨blk, off, rfl, ?_, fun j u hu => ?_⟩
      · rcases Nat.lt_or_ge blk w.heap.size with hlt | hge
        · exact hlt
        · simp [Addr.add, World.cell?, Array.getElem?_eq_none hge] at h0
      · have hj : j < len := by
          have := (List.getElem?_eq_some_iff.1 hu).1
          simp [bvs] at this
          omega
        have hjz : j < zs.length := by omega
        have h1 := hc j hjz
        rw [add_none] at h1
        rw [h1]
        have hz0 : zs.getD j 0 = zs[j] := by simp [hjz]
        have hb := bounds_u8 (hw zs[j] (List.getElem_mem hjz))
        simp [bvs, hj, hjz] at hu
        rw [← hu, hz0]
        unfold bv
        have h2 : (UInt8.ofNat zs[j].toNat).toNat = zs[j].toNat := by simp; omega
        rw [h2]
        congr 2
        omega
end Go.Proofs.Ytekacgocjplfjaa
/-
  What data that come in read as: bytes, lists of bytes, arrays of bytes.
  Conditions: none.
-/
namespace Go.Proofs.Ytekacgocjplfjaa
open Go.RowKit Mono Go.ChangeShapes Go.WideShapes Go.Deep

theorem cell_spot {w : World} {p : Addr} {v : Value} (h : w.cell? p = some v) : p.block < w.heap.size ∧ ∃ b o, p = ⟨b, o, none⟩ := by
  obtain ⟨blk, off, spot⟩ := p
  have hspot : spot = none := by
    simp only [World.cell?] at h
    cases spot with
    | none => rfl
    | some s =>
      simp at h
      split at h <;> simp at h
  subst hspot
  refine ⟨?_, blk, off, rfl⟩
  rcases Nat.lt_or_ge blk w.heap.size with hlt | hge
  · exact hlt
  · simp [World.cell?, Array.getElem?_eq_none hge] at h
theorem flat_get {n : Nat} {u : Value} : ∀ (rows : List (List Value)) (j : Nat), (∀ r ∈ rows, r.length = n) → rows.flatten[j]? = some u → ∃ i r row, j = i * n + r ∧ r < n ∧ rows[i]? = some row ∧ row[r]? = some u
  | [], j, _, h => by simp at h
  | row :: rows, j, hn, h => by
    have hr : row.length = n := hn row (by simp)
    rw [List.flatten_cons] at h
    by_cases hj : j < n
    · rw [List.getElem?_append_left (by omega)] at h
      exact ⟨0, j, row, by simp, hj, rfl, h⟩
    · rw [List.getElem?_append_right (by omega), hr] at h
      obtain ⟨i, r, row', h1, h2, h3, h4⟩ := flat_get rows (j - n) (fun r hr => hn r (by simp [hr])) h
      exact ⟨i + 1, r, row', by rw [Nat.add_mul]; omega, h2, by simpa using h3, h4⟩
section
variable {H : Type} {enc : TypeId × Value → H} {w : World} {spare : Nat → Bool} {held : Bool}
/-- A slice reads as rows of cells, each of which reads as an element. -/
theorem slice_rows {t e n : TypeId} {fuel : Nat} {v : Value} {x : DataW H × List MemPlace} (ht : Try.prog.underlying t = some (.slice e)) (hn : Try.prog.cellsOf e = n) (h : DataW.trod enc Try.prog w 0 spare held fuel t [v] = some x) :
    ∃ (A : Option Addr) (c f : Nat) (rows : List (List Value)), v = .slice A rows.length c ∧ rows.length ≤ c ∧ c ≤ maxLen ∧ Rd w w.heap.size A rows.flatten ∧ (∀ r ∈ rows, r.length = n) ∧ (A = none → rows = [] ∧ c = 0) ∧ ∀ r ∈ rows, ∃ y, DataW.trod enc Try.prog w 0 spare held f e r = some y := by
  rcases open_slice ht h with ⟨hcs, _⟩ | ⟨a, len, cap, m, f, D, Pl, hcs, _, hl, hm, hmm, _, hi⟩
  · simp at hcs
    subst hcs
    exact ⟨none, 0, 0, [], rfl, Nat.le_refl _, by simp [maxLen], Rd.nil, by simp, fun _ => ⟨rfl, rfl⟩, by simp⟩
  · simp at hcs
    subst hcs
    have hlm : len ≤ m := by rw [hmm]; split <;> omega
    rw [hn] at hi
    let row : Nat → List Value := fun i => (w.cells? 0 (a.add (i * n)) n).getD []
    have hrow : ∀ i, i < len → w.cells? 0 (a.add (i * n)) n = some (row i) ∧ ∃ y, DataW.trod enc Try.prog w 0 spare held f e (row i) = some y := fun i hil => by
      obtain ⟨cs', h1, h2⟩ := hi i (by omega)
      have : row i = cs' := by simp only [row]; rw [h1]; rfl
      rw [this]
      exact ⟨h1, _, h2⟩
    have hmem : ∀ r ∈ (List.range len).map row, ∃ i, i < len ∧ r = row i := fun r hr => by
      obtain ⟨i, h1, h2⟩ := List.mem_map.1 hr
      exact ⟨i, List.mem_range.1 h1, h2.symm⟩
    have hlen : ∀ r ∈ (List.range len).map row, r.length = n := fun r hr => by
      obtain ⟨i, h1, rfl⟩ := hmem r hr
      exact (World.cells?_some (hrow i h1).1).2.1
    refine ⟨some a, cap, f, (List.range len).map row, by simp, by simpa using hl, hm, ?_, hlen, (fun e => by cases e), fun r hr => ?_⟩
    · have hcell : ∀ j u, ((List.range len).map row).flatten[j]? = some u → w.cell? (a.add j) = some u := fun j u hu => by
        obtain ⟨i, r, row', rfl, h2, h3, h4⟩ := flat_get _ j hlen hu
        have hil : i < len := by
          have := (List.getElem?_eq_some_iff.1 h3).1
          simpa using this
        have h5 : row' = row i := by
          rw [List.getElem?_map, List.getElem?_range hil] at h3
          exact (Option.some.inj h3).symm
        subst h5
        have h6 := (World.cells?_some (hrow i hil).1).2.2 r h2
        rw [h4, Go.Deep.add_add] at h6
        exact h6
      intro hne
      obtain ⟨u0, rest, he⟩ := List.exists_cons_of_ne_nil hne
      have h0 := hcell 0 u0 (by rw [he]; rfl)
      rw [show a.add 0 = a from if_pos rfl] at h0
      obtain ⟨h1, b, o, rfl⟩ := cell_spot h0
      refine ⟨b, o, rfl, h1, fun j u hu => ?_⟩
      have := hcell j u hu
      rw [add_none] at this
      exact this
    · obtain ⟨i, h1, rfl⟩ := hmem r hr
      exact (hrow i h1).2
theorem int_of_trod {t : TypeId} {k : IntKind} {fuel : Nat} {cs : List Value} {x : DataW H × List MemPlace} (ht : Try.prog.underlying t = some (.int k)) (h : DataW.trod enc Try.prog w 0 spare held fuel t cs = some x) : ∃ n, cs = [.int k n] ∧ (Lit.int k n).wf = true := by
  obtain ⟨n, h1, _, h2⟩ := DataW.trod_int ht h
  exact ⟨n, h1, h2⟩
theorem u8_of_trod {fuel : Nat} {cs : List Value} {x : DataW H × List MemPlace} (h : DataW.trod enc Try.prog w 0 spare held fuel 5 cs = some x) : ∃ b : UInt8, cs = [bv b] := by
  obtain ⟨n, rfl, hw⟩ := int_of_trod Try.underlying5 h
  have hb := bounds_u8 hw
  refine ⟨UInt8.ofNat n.toNat, ?_⟩
  unfold bv
  rw [UInt8.toNat_ofNat']
  have : ((n.toNat % 2 ^ 8 : Nat) : Int) = n := by omega
  rw [this]
theorem bytes_of_rows {rows : List (List Value)} (h : ∀ r ∈ rows, ∃ b : UInt8, r = [bv b]) : ∃ l : List UInt8, l.length = rows.length ∧ rows.flatten = bvs l := by
  induction rows with
  | nil => exact ⟨[], rfl, rfl⟩
  | cons r rows ih =>
    obtain ⟨l, h1, h2⟩ := ih fun r hr => h r (by simp [hr])
    obtain ⟨b, rfl⟩ := h r (by simp)
    exact ⟨b :: l, by simp [h1], by simp [h2, bvs]⟩
theorem bytes_of_trod {fuel : Nat} {v : Value} {x : DataW H × List MemPlace} (h : DataW.trod enc Try.prog w 0 spare held fuel 29 [v] = some x) : ∃ l, IsB w v l := by
  obtain ⟨A, c, f, rows, rfl, h1, h2, h3, _, _, h5⟩ := slice_rows Try.underlying29 (by kernel_rfl : Try.prog.cellsOf 5 = 1) h
  obtain ⟨l, h6, h7⟩ := bytes_of_rows fun r hr => by
    obtain ⟨y, hy⟩ := h5 r hr
    exact u8_of_trod hy
  rw [h7] at h3
  exact ⟨l, A, c, by rw [h6], by rw [h6]; exact h1, h2, h3⟩
/-! ### A parameter, by its type -/
set_option maxRecDepth 100000
variable {r : Reach} {b0 : Nat} {v : Value} {d : DataW H} {ps : List MemPlace}
theorem o_int (hv : Value.okWide Try.prog w r b0 3 v) (h : DataW.Trod enc Try.prog w 0 spare held 3 v d ps) : ∃ n : Int, v = .int .i64 n ∧ -9223372036854775808 ≤ n ∧ n ≤ 9223372036854775807 := by
  obtain ⟨n, rfl, _, _, hw⟩ := open_int Try.underlying3 hv h
  exact ⟨n, rfl, bounds_i64 hw⟩
theorem o_u8 (hv : Value.okWide Try.prog w r b0 5 v) (h : DataW.Trod enc Try.prog w 0 spare held 5 v d ps) : ∃ n : Int, v = .int .u8 n ∧ 0 ≤ n ∧ n ≤ 255 := by
  obtain ⟨n, rfl, _, _, hw⟩ := open_int Try.underlying5 hv h
  exact ⟨n, rfl, bounds_u8 hw⟩
theorem o_bool (hv : Value.okWide Try.prog w r b0 4 v) (h : DataW.Trod enc Try.prog w 0 spare held 4 v d ps) : ∃ b : Bool, v = .bool b := by
  obtain ⟨b, rfl, _, _⟩ := open_bool Try.underlying4 hv h
  exact ⟨b, rfl⟩
theorem o_bytes (hv : Value.okWide Try.prog w r b0 29 v) (h : DataW.Trod enc Try.prog w 0 spare held 29 v d ps) : ∃ l, IsB w v l := by
  obtain ⟨a, n, c, rfl⟩ := okWide_slice Try.underlying29 hv
  obtain ⟨fuel, hf⟩ := h
  exact bytes_of_trod hf
end
end Go.Proofs.Ytekacgocjplfjaa
/-
  What data that come in read as: words and addresses.
  Conditions: none.
-/
namespace Go.Proofs.Ytekacgocjplfjaa
set_option linter.unusedVariables false
set_option maxRecDepth 100000
open Go.RowKit Mono Go.ChangeShapes Go.WideShapes Go.Deep
section
variable {H : Type} {enc : TypeId × Value → H} {w : World} {spare : Nat → Bool} {held : Bool}
theorem bvs_of (cs : List Value) (h : ∀ u ∈ cs, ∃ b : UInt8, u = bv b) : ∃ l : List UInt8, cs = bvs l := by
  induction cs with
  | nil => exact ⟨[], rfl⟩
  | cons u cs ih =>
    obtain ⟨l, hl⟩ := ih fun u hu => h u (by simp [hu])
    obtain ⟨b, rfl⟩ := h u (by simp)
    exact ⟨b :: l, by rw [hl]; rfl⟩
theorem arr_of_trod {t : TypeId} {n fuel : Nat} {cs : List Value} {x : DataW H × List MemPlace} (ht : Try.prog.underlying t = some (.array n 5)) (hc : Try.prog.cellsOf t = n) (h : DataW.trod enc Try.prog w 0 spare held fuel t cs = some x) :
    ∃ l : List UInt8, l.length = n ∧ cs = bvs l := by
  obtain ⟨xs, m, _, _, hl, hxl, hg⟩ := DataW.trod_array ht h
  rw [hc] at hl
  obtain ⟨l, rfl⟩ := bvs_of cs fun u hu => by
    obtain ⟨i, hi, rfl⟩ := List.getElem_of_mem hu
    have h1 := hg i (by omega)
    rw [(by kernel_rfl : Try.prog.cellsOf 5 = 1), Nat.mul_one, List.drop_eq_getElem_cons hi, List.take_succ_cons, List.take_zero, List.getElem?_eq_getElem (by omega)] at h1
    obtain ⟨b, hb⟩ := u8_of_trod h1
    exact ⟨b, by simpa using hb⟩
  exact ⟨l, by rw [← hl, bvs_length], rfl⟩
variable {r : Reach} {b0 : Nat} {v : Value} {d : DataW H} {ps : List MemPlace}
theorem arr_opens {t : TypeId} {n : Nat} (ht : Try.prog.underlying t = some (.array n 5)) (hc : Try.prog.cellsOf t = n) (hv : Value.okWide Try.prog w r b0 t v) (h : DataW.Trod enc Try.prog w 0 spare held t v d ps) : ∃ l : List UInt8, l.length = n ∧ v = arrV l := by
  simp only [Value.okWide, ht] at hv
  obtain ⟨cs, rfl, _⟩ := hv
  obtain ⟨fuel, hf⟩ := h
  obtain ⟨l, h1, h2⟩ := arr_of_trod ht hc hf
  refine ⟨l, h1, ?_⟩
  unfold arrV
  rw [← h2]
  simp [Value.cells]

theorem o_word (hv : Value.okWide Try.prog w r b0 23 v) (h : DataW.Trod enc Try.prog w 0 spare held 23 v d ps) : ∃ l : List UInt8, l.length = 32 ∧ v = arrV l :=
  arr_opens Try.underlying23 (by kernel_rfl) hv h
end
end Go.Proofs.Ytekacgocjplfjaa
/-
  What data that come in read as: slices, with a bound on what they weigh.
  Conditions: none.
-/
namespace Go.Proofs.Ytekacgocjplfjaa
set_option linter.unusedVariables false
open Go.RowKit Mono Go.ChangeShapes Go.WideShapes Go.Deep
section
variable {H : Type} {enc : TypeId × Value → H} {w : World} {spare : Nat → Bool} {held : Bool}
theorem weights_all {P : Program} {e : TypeId} {d : DataW H} {k : Nat} : ∀ {ds : List (DataW H)}, d ∈ ds → k ∈ d.weights P e → k ∈ DataW.weightsAll P e ds
  | [], h, _ => by cases h
  | x :: xs, h, hk => by
    rw [DataW.weightsAll]
    rcases List.mem_cons.1 h with rfl | h
    · exact List.mem_append_left _ hk
    · exact List.mem_append_right _ (weights_all h hk)
theorem slice_rowsW {t e n : TypeId} {fuel : Nat} {v : Value} {x : DataW H × List MemPlace} (ht : Try.prog.underlying t = some (.slice e)) (hn : Try.prog.cellsOf e = n) (h : DataW.trod enc Try.prog w 0 spare held fuel t [v] = some x) :
    ∃ (A : Option Addr) (c f : Nat) (rows : List (List Value)), v = .slice A rows.length c ∧ rows.length ≤ c ∧ c ≤ maxLen ∧ Rd w w.heap.size A rows.flatten ∧ (∀ r ∈ rows, r.length = n) ∧ (A = none → rows = [] ∧ c = 0) ∧ (rows ≠ [] → f < fuel) ∧ (∀ r ∈ rows, ∃ y, DataW.trod enc Try.prog w 0 spare held f e r = some y ∧ ∀ k ∈ y.1.weights Try.prog e, k ∈ x.1.weights Try.prog t) ∧ (rows ≠ [] → ∃ k ∈ x.1.weights Try.prog t, rows.length * Try.prog.bytesOf e ≤ k) := by
  rcases DataW.trod_slice ht h with ⟨hcs, hx⟩ | ⟨a, len, cap, elems, rest, f, hfu, hcs, hx, _, hl, hm, hel, hi, _⟩
  · simp at hcs
    subst hcs
    exact ⟨none, 0, 0, [], rfl, Nat.le_refl _, by simp [maxLen], Rd.nil, by simp, fun _ => ⟨rfl, rfl⟩, fun hne => absurd rfl hne, by simp, fun hne => absurd rfl hne⟩
  · simp at hcs
    subst hcs
    rw [hn] at hi
    let row : Nat → List Value := fun i => (w.cells? 0 (a.add (i * n)) n).getD []
    have hrow : ∀ i, i < len → w.cells? 0 (a.add (i * n)) n = some (row i) ∧ ∃ y, DataW.trod enc Try.prog w 0 spare held f e (row i) = some y ∧ ∀ k ∈ y.1.weights Try.prog e, k ∈ x.1.weights Try.prog t := fun i hil => by
      have h1 := hi i hil
      rw [List.getElem?_eq_getElem (by omega)] at h1
      cases hc : w.cells? 0 (a.add (i * n)) n with
      | none => rw [hc] at h1; cases h1
      | some cs' =>
        rw [hc] at h1
        have : row i = cs' := by simp only [row]; rw [hc]; rfl
        rw [this]
        refine ⟨rfl, _, h1, fun k hk => ?_⟩
        rw [hx, DataW.weights, ht]
        exact List.mem_cons_of_mem _ (List.mem_append_left _ (weights_all (List.mem_map_of_mem (List.getElem_mem (by omega))) hk))
    have hmem : ∀ r ∈ (List.range len).map row, ∃ i, i < len ∧ r = row i := fun r hr => by
      obtain ⟨i, h1, h2⟩ := List.mem_map.1 hr
      exact ⟨i, List.mem_range.1 h1, h2.symm⟩
    have hlen : ∀ r ∈ (List.range len).map row, r.length = n := fun r hr => by
      obtain ⟨i, h1, rfl⟩ := hmem r hr
      exact (World.cells?_some (hrow i h1).1).2.1
    refine ⟨some a, cap, f, (List.range len).map row, by simp, by simpa using hl, hm, ?_, hlen, (fun e => by cases e), fun _ => by omega, fun r hr => ?_, fun _ => ⟨(elems.length + rest.length) * Try.prog.bytesOf e, ?_, ?_⟩⟩
    · have hcell : ∀ j u, ((List.range len).map row).flatten[j]? = some u → w.cell? (a.add j) = some u := fun j u hu => by
        obtain ⟨i, r, row', rfl, h2, h3, h4⟩ := flat_get _ j hlen hu
        have hil : i < len := by
          have := (List.getElem?_eq_some_iff.1 h3).1
          simpa using this
        have h5 : row' = row i := by
          rw [List.getElem?_map, List.getElem?_range hil] at h3
          exact (Option.some.inj h3).symm
        subst h5
        have h6 := (World.cells?_some (hrow i hil).1).2.2 r h2
        rw [h4, Go.Deep.add_add] at h6
        exact h6
      intro hne
      obtain ⟨u0, rest, he⟩ := List.exists_cons_of_ne_nil hne
      have h0 := hcell 0 u0 (by rw [he]; rfl)
      rw [show a.add 0 = a from if_pos rfl] at h0
      obtain ⟨h1, b, o, rfl⟩ := cell_spot h0
      refine ⟨b, o, rfl, h1, fun j u hu => ?_⟩
      have := hcell j u hu
      rw [add_none] at this
      exact this
    · obtain ⟨i, h1, rfl⟩ := hmem r hr
      exact (hrow i h1).2
    · rw [hx, DataW.weights, ht]
      simp
    · rw [List.length_map, List.length_range]
      exact Nat.mul_le_mul_right _ (by omega)

end
end Go.Proofs.Ytekacgocjplfjaa
