/-
  Merged (wip/tools/merge.py): E15.
  Conditions: none.
-/
import Derived.Test.YtnaaonogihaahaaZJ20
/-
  The abstract machine: for a while, all that is may be read (and nothing of the call's own is written).
  Conditions: none.
-/
namespace Go.Proofs.Ytnaaonogihaahaa
set_option linter.unusedVariables false
open Go.RowKit Mono Rlp
namespace E
def pinF : List Obj → List (Value × D)
  | [] => []
  | .var g t d :: os => (.pointer (some ⟨g, 0, none⟩), .pd d) :: pinF os
  | .row v e z ds :: os => (v, .sl z ds) :: pinF os
def VSub (l : List (Tmp × R)) : List (Tmp × R) → Prop
  | [] => True
  | (t, .val (.v x)) :: m => look l t = some (.val (.v x)) ∧ VSub l m
  | _ :: _ => False
section
variable {N : Nat} {X X' : Cx N} {S S1 : St} {ops : Array Oper} {o : Oper} {Q : Exit → Act → World → Prop} {K : Act → World → Prop} {l : List Oper} {c : Code} {TT : St → List Fr → Prop} {EE : List Fr} {rs : List (Tmp × R)} {os : List Obj} {fs : List (Value × D)} {a : Act} {w : World}
/-- The other context began where this state held. -/
def Back (X : Cx N) (S : St) (X' : Cx N) : Prop := ∃ a, At X S a X'.w0
theorem pinF_reads {base : Nat} {ok ok' : Nat → Prop} {w : World} : ∀ (os : List Obj), (∀ o ∈ os, o.At base ok w) → (∀ b, ok b → ok' b) → (∀ b, b < w.heap.size → ok' b) → ∀ f ∈ pinF os, Reads ok' w f.2 [f.1]
  | [], _, _, _, f, hf => by simp [pinF] at hf
  | .var g t d :: os, h, h1, h2, f, hf => by
    rw [pinF] at hf
    rcases List.mem_cons.1 hf with rfl | hf
    · obtain ⟨_, cs, g1, g2⟩ := h (.var g t d) (by simp)
      rw [Reads]
      exact ⟨g, 0, cs, rfl, h2 g (lt_of_some g1), range_of_row g1, Reads.mono h1 (fun _ _ => rfl) _ _ g2⟩
    · exact pinF_reads os (fun o ho => h o (by simp [ho])) h1 h2 f hf
  | .row v e z ds :: os, h, h1, h2, f, hf => by
    rw [pinF] at hf
    rcases List.mem_cons.1 hf with rfl | hf
    · obtain ⟨rows, g1, g2⟩ := h (.row v e z ds) (by simp)
      obtain ⟨A, c, rfl, hc1, hc2⟩ := own_form g1
      show Reads _ _ (D.sl z ds) [.slice A ds.length c]
      rw [Reads]
      refine ⟨A, c, rows, rfl, hc1, hc2, fun e => by subst e; exact own_none g1, ?_, ReadsRows.mono h1 (fun _ _ => rfl) z ds rows g2⟩
      intro hn
      obtain ⟨b, o, rfl, hb, hc⟩ := own_RdP g1 hn
      exact ⟨b, o, rfl, h2 b hb.2, hc⟩
    · exact pinF_reads os (fun o ho => h o (by simp [ho])) h1 h2 f hf
theorem At.aside (h : At X S a w) : At (N := N) ⟨w, fun b => b < w.heap.size, fun _ hb => hb⟩ ⟨S.regs, [], pinF S.objs ++ S.facts⟩ a w := by
  have hok : ∀ b, X.ok S.objs w b → Cx.ok (N := N) ⟨w, fun b => b < w.heap.size, fun _ hb => hb⟩ [] w b := fun b hb => ⟨.inl hb.2.1, hb.2.1, fun o ho => by cases ho⟩
  refine ⟨⟨Gr.refl w, List.Pairwise.nil, (fun o ho => by cases ho), fun f hf => ?_⟩, fun t r hr => (h.regs t r hr).mono hok fun _ _ => rfl, h.size, h.defers⟩
  rcases List.mem_append.1 hf with hf | hf
  · exact pinF_reads S.objs h.mem.at_ hok (fun b hb => ⟨.inl hb, hb, fun o ho => by cases ho⟩) f hf
  · exact Reads.mono hok (fun _ _ => rfl) _ _ (h.mem.fact f hf)
theorem EC.aside (h : ∀ X' : Cx N, All X' → Back X S X' → EC X' Q c ⟨S.regs, [], pinF S.objs ++ S.facts⟩) : EC X Q c S := ⟨fun a w ha => (h ⟨w, fun b => b < w.heap.size, fun _ hb => hb⟩ (fun _ hb => hb) ⟨a, ha⟩).go a w ha.aside⟩
theorem EL.aside (h : ∀ X' : Cx N, All X' → Back X S X' → EL X' ops Q l ⟨S.regs, [], pinF S.objs ++ S.facts⟩) : EL X ops Q l S := ⟨fun a w ha => (h ⟨w, fun b => b < w.heap.size, fun _ hb => hb⟩ (fun _ hb => hb) ⟨a, ha⟩).go a w ha.aside⟩
theorem VSub.get {l : List (Tmp × R)} : ∀ (m : List (Tmp × R)), VSub l m → ∀ t r, look m t = some r → ∃ x, r = .val (.v x) ∧ look l t = some (.val (.v x))
  | [], _, t, r, h => by simp [look] at h
  | (u, .val (.v x)) :: m, hs, t, r, h => by
    rw [look] at h
    split at h
    · rename_i e
      cases h
      subst e
      exact ⟨x, rfl, hs.1⟩
    · exact VSub.get m hs.2 t r h
  | (u, .any) :: m, hs, t, r, h => hs.elim
  | (u, .tpl _) :: m, hs, t, r, h => hs.elim
  | (u, .val (.arr _ _)) :: m, hs, t, r, h => hs.elim
  | (u, .val (.bs _)) :: m, hs, t, r, h => hs.elim
  | (u, .val (.sl _ _)) :: m, hs, t, r, h => hs.elim
  | (u, .val (.tup _)) :: m, hs, t, r, h => hs.elim
  | (u, .val (.pd _)) :: m, hs, t, r, h => hs.elim
  | (u, .val (.ifc _ _)) :: m, hs, t, r, h => hs.elim
theorem At.back (hb : Back X S X') (hr : VSub S1.regs rs) (ha : At X' S1 a w) : At X ⟨rs, S.objs, S.facts⟩ a w := by
  obtain ⟨a0, h0⟩ := hb
  refine ⟨(h0.gr ha.mem.gr).mem, fun t r ht => ?_, ha.size, ha.defers⟩
  obtain ⟨x, rfl, h1⟩ := VSub.get rs hr t r ht
  exact readV_v.2 (readV_v.1 (ha.regs t _ h1))
theorem EC.back (hb : Back X S X') (rs : List (Tmp × R)) (hr : VSub S1.regs rs) (k : EC X Q c ⟨rs, S.objs, S.facts⟩) : EC X' Q c S1 := ⟨fun a w ha => k.go a w (At.back hb hr ha)⟩
theorem EL.back (hb : Back X S X') (rs : List (Tmp × R)) (hr : VSub S1.regs rs) (k : EL X ops Q l ⟨rs, S.objs, S.facts⟩) : EL X' ops Q l S1 := ⟨fun a w ha => k.go a w (At.back hb hr ha)⟩
theorem EK.back (hb : Back X S X') (rs : List (Tmp × R)) (hr : VSub S1.regs rs) (k : EK X K ⟨rs, S.objs, S.facts⟩) : EK X' K S1 := ⟨fun a w ha => k.go a w (At.back hb hr ha)⟩
/-- A load through a pointer of which a fact tells. -/
theorem g_loadF {x : Operand} {T sz g n : Nat} {ag : Bool} {d d' : D} (i : Nat) (ho : o.op = .load T x) (hx : ev S x = some (.val (.v (.pointer (some ⟨g, n, none⟩))))) (hi : S.facts[i]? = some (.pointer (some ⟨g, 0, none⟩), .pd d)) (hT : assoc tyL T = some (sz, ag)) (hs : d.sub n sz ag = some d') : Still ops S o (.val d') := fun base ok a w ha => by
  have h1 := (readV_v.1 (ha.ev hx fun t e => looks_of e (by rw [ho]; simp [Op.operands]))).2
  have h2 := ha.facts _ (List.mem_of_getElem? hi)
  rw [Reads] at h2
  obtain ⟨b, n', cs, h3, h4, h5, h6⟩ := h2
  cases h3
  obtain ⟨e1, e2, pre, mid, post, rfl, e3, e4⟩ := sub_spec d n sz ag d' cs hs h6
  have hr := range_part h5
  rw [Nat.zero_add, e3] at hr
  refine ⟨form d' mid, ?_, mid, e4, rfl⟩
  unfold execOp
  simp only [ho, h1, Sem.run_bind, run_loadAt (d := d') (by rw [e1, e2]; exact tyI hT) e4 hr, Result.andThen_ok, Sem.run_pure]
theorem P_loadF {t ty : Nat} {pos : String} {af : Array Edge} {gd : Option (Nat × Bool)} {x : Operand} {T sz g n i : Nat} {ag : Bool} {d d' : D} (hx : ev (⟨rs, os, fs⟩ : St) x = some (.val (.v (.pointer (some ⟨g, n, none⟩))))) (hi : fs[i]? = some (.pointer (some ⟨g, 0, none⟩), .pd d)) (hT : assoc tyL T = some (sz, ag)) (hs : d.sub n sz ag = some d') (hg : guardOf ops ⟨rs, os, fs⟩ ⟨some t, .load T x, ty, pos, af, gd⟩ = some true) (hN : Nat.blt t N = true) (kk : EL X ops Q l ⟨(t, .val d') :: rs, os, fs⟩) : EL X ops Q (⟨some t, .load T x, ty, pos, af, gd⟩ :: l) ⟨rs, os, fs⟩ := ES.still (g_loadF i rfl hx hi hT hs) hg rfl hN kk
theorem H_loadF {t ty : Nat} {pos : String} {af : Array Edge} {gd : Option (Nat × Bool)} {x : Operand} {T sz g n i : Nat} {ag : Bool} {d d' : D} (hx : ev (⟨rs, os, fs⟩ : St) x = some (.val (.v (.pointer (some ⟨g, n, none⟩))))) (hi : fs[i]? = some (.pointer (some ⟨g, 0, none⟩), .pd d)) (hT : assoc tyL T = some (sz, ag)) (hs : d.sub n sz ag = some d') (hg : guardOf ops ⟨rs, os, fs⟩ ⟨some t, .load T x, ty, pos, af, gd⟩ = some true) (hoff : offB N (some t) EE = true) (kk : EM N ops TT l ⟨(t, .val d') :: rs, os, fs⟩ EE) : EM N ops TT (⟨some t, .load T x, ty, pos, af, gd⟩ :: l) ⟨rs, os, fs⟩ EE := EH.still (g_loadF i rfl hx hi hT hs) hg rfl hoff kk
end
end E
end Go.Proofs.Ytnaaonogihaahaa
