/-
  Merged (wip/tools/merge.py): OpenAcR, LawM.
  Conditions: none.
-/
import Derived.Test.YtmlajcbabimkjaaGreatZA28
import Derived.Test.YtmlajcbabimkjaaGreatZA24
import Derived.Test.YtmlajcbabimkjaaGreatZA10
import Derived.Below
/-
  What data that come in read as: lists of accounts, of slots.
  Conditions: none.
-/
namespace Go.Proofs.YtmlajcbabimkjaaGreat
set_option linter.unusedVariables false
set_option maxRecDepth 100000
open Go.RowKit Mono Go.ChangeShapes Go.WideShapes Go.Deep
namespace E
def shSlR : Sh := .struct [.arr 32, .arr 32]
def shAcR : Sh := .struct [.arr 20, .int .i64, .arr 32, .bytes, .slice 64 shSlR]
theorem is_slotR : shSlR.Is 36 := by
  unfold shSlR
  rw [Sh.Is]
  refine ⟨_, Tryz.underlying36, by kernel_rfl, ?_⟩
  simp only [Sh.IsF, Sh.Is]
  exact ⟨_, _, rfl, rfl, ⟨Tryz.underlying29, by kernel_rfl⟩, _, _, rfl, rfl, ⟨Tryz.underlying29, by kernel_rfl⟩, rfl⟩
theorem is_accountR : shAcR.Is 32 := by
  unfold shAcR
  rw [Sh.Is]
  refine ⟨_, Tryz.underlying32, by kernel_rfl, ?_⟩
  simp only [Sh.IsF, Sh.Is]
  exact ⟨_, _, rfl, rfl, ⟨Tryz.underlying27, by kernel_rfl⟩, _, _, rfl, rfl, ⟨Tryz.underlying2, by kernel_rfl⟩, _, _, rfl, rfl, ⟨Tryz.underlying29, by kernel_rfl⟩, _, _, rfl, rfl, ⟨Tryz.underlying30, by kernel_rfl⟩, _, _, rfl, rfl, ⟨by kernel_rfl, _, Tryz.underlying25, by kernel_rfl, is_slotR⟩, rfl⟩
theorem is_accountsR : (Sh.slice 112 shAcR).Is 22 := by
  rw [Sh.Is]
  exact ⟨by kernel_rfl, _, Tryz.underlying22, by kernel_rfl, is_accountR⟩
theorem is_slotsR : (Sh.slice 64 shSlR).Is 25 := by
  rw [Sh.Is]
  exact ⟨by kernel_rfl, _, Tryz.underlying25, by kernel_rfl, is_slotR⟩
theorem maps_ofR {α : Type} {Q : D → Prop} {P : α → Prop} {f : α → D} (h : ∀ d, Q d → ∃ a, P a ∧ d = f a) : ∀ {ds : List D}, (∀ x ∈ ds, Q x) → ∃ rs : List α, (∀ a ∈ rs, P a) ∧ ds = rs.map f
  | [], _ => ⟨[], by simp, rfl⟩
  | d :: ds, hd => by
    obtain ⟨a, h1, rfl⟩ := h d (hd d (by simp))
    obtain ⟨rs, h2, rfl⟩ := maps_ofR h fun x hx => hd x (List.mem_cons_of_mem _ hx)
    refine ⟨a :: rs, fun b hb => ?_, rfl⟩
    rcases List.mem_cons.1 hb with rfl | hb
    · exact h1
    · exact h2 b hb
variable {N : Nat}
def slotOk (s : Pr) : Prop := s.1.length = 32 ∧ s.2.length = 32
def accOk (x : Acc) : Prop := x.a.length = 20 ∧ (-9223372036854775808 ≤ x.n ∧ x.n ≤ 9223372036854775807) ∧ x.w.length = 32 ∧ ∀ y ∈ x.sl, y.1.length = 32 ∧ y.2.length = 32
theorem of_slotR {d : D} (h : shSlR.Of N d) : ∃ s, slotOk s ∧ d = dSlP s := by
  unfold shSlR at h
  simp only [Sh.Of, Sh.OfL] at h
  obtain ⟨_, rfl, _, _, rfl, ⟨k, h1, rfl⟩, _, _, rfl, ⟨v, h2, rfl⟩, rfl⟩ := h
  exact ⟨(k, v), ⟨h1, h2⟩, rfl⟩
theorem of_accountR {d : D} (h : shAcR.Of N d) : ∃ c : Acc, accOk c ∧ d = dAcc c := by
  unfold shAcR at h
  simp only [Sh.Of, Sh.OfL] at h
  obtain ⟨_, rfl, _, _, rfl, ⟨a, h1, rfl⟩, _, _, rfl, ⟨n, rfl, hn⟩, _, _, rfl, ⟨b, h2, rfl⟩, _, _, rfl, ⟨c, hc, rfl⟩, _, _, rfl, ⟨ss, hl, rfl, hs⟩, rfl⟩ := h
  obtain ⟨ss, h3, rfl⟩ := maps_ofR (fun _ => of_slotR) hs
  have hb := bounds_i64 hn
  exact ⟨⟨a, n, b, c, ss⟩, ⟨h1, ⟨hb.1, hb.2⟩, h2, h3⟩, rfl⟩
theorem le_sumR (l : List Nat) : ∀ k ∈ l, k ≤ l.sum := by
  induction l with
  | nil => intro k hk; cases hk
  | cons a l ih =>
    intro k hk
    rw [List.sum_cons]
    rcases List.mem_cons.1 hk with rfl | hk
    · omega
    · have := ih k hk
      omega
end E
def o_accsR_says (w : World) (v : Value) : Prop := ∃ l : List E.Acc, (∀ x ∈ l, E.accOk x) ∧ E.ReadV (fun b => b < w.heap.size) w (.sl 55 (l.map E.dAcc)) v
def o_slotsR_says (w : World) (v : Value) : Prop := ∃ l : List E.Pr, (∀ x ∈ l, E.slotOk x) ∧ E.ReadV (fun b => b < w.heap.size) w (.sl 64 (l.map E.dSlP)) v
section
variable {H : Type} {enc : TypeId × Value → H} {w : World} {spare : Nat → Bool} {held : Bool} {r : Reach} {b0 : Nat} {v : Value} {d : DataW H} {ps : List MemPlace}
theorem o_accsR (hv : Value.okWide Tryz.prog w r b0 22 v) (h : DataW.Trod enc Tryz.prog w 0 spare held 22 v d ps) : o_accsR_says w v := by
  obtain ⟨D, h1, h2⟩ := E.o_sh E.is_accountsR hv h (E.le_sumR _)
  rw [E.Sh.Of] at h1
  obtain ⟨ds, _, rfl, h3⟩ := h1
  obtain ⟨l, h4, rfl⟩ := E.maps_ofR (fun _ => E.of_accountR) h3
  exact ⟨l, h4, h2⟩
theorem o_slotsR (hv : Value.okWide Tryz.prog w r b0 25 v) (h : DataW.Trod enc Tryz.prog w 0 spare held 25 v d ps) : o_slotsR_says w v := by
  obtain ⟨D, h1, h2⟩ := E.o_sh E.is_slotsR hv h (E.le_sumR _)
  rw [E.Sh.Of] at h1
  obtain ⟨ds, _, rfl, h3⟩ := h1
  obtain ⟨l, h4, rfl⟩ := E.maps_ofR (fun _ => E.of_slotR) h3
  exact ⟨l, h4, h2⟩
end
end Go.Proofs.YtmlajcbabimkjaaGreat
/-
  A law's function that answers true and whose pieces are none.
  Conditions: none.
-/
namespace Go.Proofs.YtmlajcbabimkjaaGreat
set_option linter.unusedVariables false
open Go.RowKit Mono
namespace E
theorem law_boolM {f : FuncId} {ds : List D} {xs : List Value} {w : World} (h : FnM f ds [] (fun r os' => r = .val (.v (.bool true)) ∧ os' = [])) (hr : ReadVs (fun b => b < w.heap.size) w ds xs) : Calls Tryz.prog f xs.toArray w fun e w' => e = .returned (.bool true) ∧ Below w.heap.size w w' :=
  (h.go _ w xs (fun b hb => hb) ⟨fun o ho => by simp at ho, .nil, fun b ⟨o, ho, _⟩ => by simp at ho⟩ hr).mono fun e w' ⟨v, r, os', he, ⟨h1, h2⟩, ht, hv⟩ => by
    subst he h1
    have hg := ht.gr.gr fun b ⟨o, ho, _⟩ => by simp at ho
    exact ⟨by rw [(readV_v.1 hv).2], hg⟩
end E
end Go.Proofs.YtmlajcbabimkjaaGreat
