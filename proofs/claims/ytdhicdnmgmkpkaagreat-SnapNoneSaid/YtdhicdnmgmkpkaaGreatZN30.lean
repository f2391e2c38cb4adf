/-
  Merged (wip/tools/merge.py): OpenAcc, LawM.
  Conditions: none.
-/
import Derived.Test.YtdhicdnmgmkpkaaGreatZN29
import Derived.Test.YtdhicdnmgmkpkaaGreatZN18
import Derived.Test.YtdhicdnmgmkpkaaGreatZN13
import Derived.Below
/-
  What data that come in read as: lists of accounts, lists of changes.
  Conditions: none.
-/
namespace Go.Proofs.YtdhicdnmgmkpkaaGreat
set_option linter.unusedVariables false
set_option maxRecDepth 100000
open Go.RowKit Mono Go.ChangeShapes Go.WideShapes Go.Deep
namespace E
def shSl : Sh := .struct [.arr 32, .arr 32]
def shAc : Sh := .struct [.arr 20, .int .i64, .arr 32, .bytes, .slice 64 shSl]
theorem is_slot : shSl.Is 103 := by
  unfold shSl
  rw [Sh.Is]
  refine ⟨_, Tryz.underlying103, by kernel_rfl, ?_⟩
  simp only [Sh.IsF, Sh.Is]
  exact ⟨_, _, rfl, rfl, ⟨Tryz.underlying34, by kernel_rfl⟩, _, _, rfl, rfl, ⟨Tryz.underlying34, by kernel_rfl⟩, rfl⟩
theorem is_account : shAc.Is 74 := by
  unfold shAc
  rw [Sh.Is]
  refine ⟨_, Tryz.underlying74, by kernel_rfl, ?_⟩
  simp only [Sh.IsF, Sh.Is]
  exact ⟨_, _, rfl, rfl, ⟨Tryz.underlying32, by kernel_rfl⟩, _, _, rfl, rfl, ⟨Tryz.underlying2, by kernel_rfl⟩, _, _, rfl, rfl, ⟨Tryz.underlying34, by kernel_rfl⟩, _, _, rfl, rfl, ⟨Tryz.underlying35, by kernel_rfl⟩, _, _, rfl, rfl, ⟨by kernel_rfl, _, Tryz.underlying72, by kernel_rfl, is_slot⟩, rfl⟩
theorem is_accounts : (Sh.slice 112 shAc).Is 22 := by
  rw [Sh.Is]
  exact ⟨by kernel_rfl, _, Tryz.underlying22, by kernel_rfl, is_account⟩
theorem maps_of {α : Type} {Q : D → Prop} {f : α → D} (h : ∀ d, Q d → ∃ a, d = f a) : ∀ {ds : List D}, (∀ x ∈ ds, Q x) → ∃ rs : List α, ds = rs.map f
  | [], _ => ⟨[], rfl⟩
  | d :: ds, hd => by
    obtain ⟨a, rfl⟩ := h d (hd d (by simp))
    obtain ⟨rs, rfl⟩ := maps_of h fun x hx => hd x (List.mem_cons_of_mem _ hx)
    exact ⟨a :: rs, rfl⟩
variable {N : Nat}
theorem of_slot {d : D} (h : shSl.Of N d) : ∃ s, d = dSlL s := by
  unfold shSl at h
  simp only [Sh.Of, Sh.OfL] at h
  obtain ⟨_, rfl, _, _, rfl, ⟨k, h1, rfl⟩, _, _, rfl, ⟨v, h2, rfl⟩, rfl⟩ := h
  exact ⟨(k, v), rfl⟩
theorem of_account {d : D} (h : shAc.Of N d) : ∃ c : AcL, d = dAcL c := by
  unfold shAc at h
  simp only [Sh.Of, Sh.OfL] at h
  obtain ⟨_, rfl, _, _, rfl, ⟨a, h1, rfl⟩, _, _, rfl, ⟨n, rfl, hn⟩, _, _, rfl, ⟨b, h2, rfl⟩, _, _, rfl, ⟨c, hc, rfl⟩, _, _, rfl, ⟨ss, hl, rfl, hs⟩, rfl⟩ := h
  obtain ⟨ss, rfl⟩ := maps_of (fun _ => of_slot) hs
  exact ⟨⟨a, n, b, c, ss⟩, rfl⟩
theorem le_sum (l : List Nat) : ∀ k ∈ l, k ≤ l.sum := by
  induction l with
  | nil => intro k hk; cases hk
  | cons a l ih =>
    intro k hk
    rw [List.sum_cons]
    rcases List.mem_cons.1 hk with rfl | hk
    · omega
    · have := ih k hk
      omega
end E
def o_accs_says (w : World) (v : Value) : Prop := ∃ l : List E.AcL, E.ReadV (fun b => b < w.heap.size) w (.sl 55 (l.map E.dAcL)) v
section
variable {H : Type} {enc : TypeId × Value → H} {w : World} {spare : Nat → Bool} {held : Bool} {r : Reach} {b0 : Nat} {v : Value} {d : DataW H} {ps : List MemPlace}
theorem o_accs (hv : Value.okWide Tryz.prog w r b0 22 v) (h : DataW.Trod enc Tryz.prog w 0 spare held 22 v d ps) : o_accs_says w v := by
  obtain ⟨D, h1, h2⟩ := E.o_sh E.is_accounts hv h (E.le_sum _)
  rw [E.Sh.Of] at h1
  obtain ⟨ds, _, rfl, h3⟩ := h1
  obtain ⟨l, rfl⟩ := E.maps_of (fun _ => E.of_account) h3
  exact ⟨l, h2⟩
end
end Go.Proofs.YtdhicdnmgmkpkaaGreat
/-
  A law's function that answers true and whose pieces are none.
  Conditions: none.
-/
namespace Go.Proofs.YtdhicdnmgmkpkaaGreat
set_option linter.unusedVariables false
open Go.RowKit Mono
namespace E
theorem law_boolM {f : FuncId} {ds : List D} {xs : List Value} {w : World} (h : FnM f ds [] (fun r os' => r = .val (.v (.bool true)) ∧ os' = [])) (hr : ReadVs (fun b => b < w.heap.size) w ds xs) : Calls Tryz.prog f xs.toArray w fun e w' => e = .returned (.bool true) ∧ Below w.heap.size w w' :=
  (h.go _ w xs (fun b hb => hb) ⟨fun o ho => by simp at ho, .nil, fun b ⟨o, ho, _⟩ => by simp at ho⟩ hr).mono fun e w' ⟨v, r, os', he, ⟨h1, h2⟩, ht, hv⟩ => by
    subst he h1
    have hg := ht.gr.gr fun b ⟨o, ho, _⟩ => by simp at ho
    exact ⟨by rw [(readV_v.1 hv).2], hg⟩
end E
end Go.Proofs.YtdhicdnmgmkpkaaGreat
