/-
  Merged (wip/tools/merge.py): SU4, SU5, SK1, SK2.
  Conditions: none.
-/
import Derived.Test.YtdhicdnmgmkpkaaGreatZC14
import Derived.Test.YtdhicdnmgmkpkaaGreatZC13
import Derived.RangeFuncNested
import Derived.RangeFuncLeaves
import Derived.RangeFuncBound
import Derived.Maps.RangeRun
import Derived.Maps.AppendAt
import Derived.Sort.MapsRangeIn
import Derived.Shelf.Abstract
import Derived.OwnWalkIn
import Derived.TacticsInMore
import Derived.RegionIn
import Derived.LoopNIn
import Derived.LoopIn
import Derived.WalkKit
/-
  The program's state without marks: what its functions make of what it tells.
  Conditions: none.
-/
namespace Go.Proofs.YtdhicdnmgmkpkaaGreat
set_option linter.unusedVariables false
open Go.RowKit Mono Rlp Wd
namespace E
theorem mem_setE : ∀ (es : List Ent) (l : List UInt8) (d : D) (e : Ent), e ∈ setE es l d → e ∈ es ∨ e.2.2 = d
  | [], l, d, e, h => by simp [setE] at h
  | x :: es, l, d, e, h => by
    rw [setE] at h
    split at h
    · rcases List.mem_cons.1 h with rfl | h
      · exact .inr rfl
      · exact .inl (List.mem_cons_of_mem _ h)
    · rcases List.mem_cons.1 h with rfl | h
      · exact .inl (List.mem_cons_self ..)
      · exact (mem_setE es l d e h).imp (List.mem_cons_of_mem _) id
theorem mem_putE (c : Nat) (es : List Ent) (l : List UInt8) (d : D) (e : Ent) (h : e ∈ putE c es l d) : e ∈ es ∨ e.2.2 = d := by
  unfold putE at h
  split at h
  · exact mem_setE es l d e h
  · rcases List.mem_append.1 h with h | h
    · exact .inl h
    · obtain rfl : e = _ := by simpa using h
      exact .inr rfl
theorem slE_put (c : Nat) (ss : List Ent) (q v k : List UInt8) : slE (putE c ss q (.arr 32 v)) k = if q = k then .arr 32 v else slE ss k := by
  unfold slE
  rw [getE_putE]
  split <;> rfl
theorem slE_del (ss : List Ent) (q k : List UInt8) (h : (ss.map (·.2.1)).Nodup) : slE (delE ss q) k = if q = k then .arr 32 zero32 else slE ss k := by
  unfold slE
  rw [getE_delE _ _ _ h]
  split <;> rfl
theorem delE_length (es : List Ent) (l : List UInt8) : (delE es l).length ≤ es.length := (delE_sub es l).length_le
variable {g N : Nat} {A : As} {os : List Obj} {a : List UInt8}
theorem PA.Is.up {p : PA} {x : Ac} (h : p.Is x N) : p.Is x (N + 1) := ⟨h.n, h.w, h.cd, h.sl, h.ent, h.nod, Nat.le_succ_of_le h.len, h.cl⟩
theorem ps_do {f : FuncId} {ds : List D} {x : Ac} (h : PSt g A N os)
    (hin : ∀ m c es u k n us (p : PA), getE es a = some (.v (ptr p.g)) → us.length < 1099511627776 → p.Is (A a) N → FnM f ds ([stO g m u k n, smO m c es, unO u us, mkO k []] ++ p.os) (fun r os' => ∃ (hdr' : List Obj) (p' : PA), (r = .tpl [] ∧ (∃ u', hdr' = [stO g m u' k n, smO m c es, unO u' us, mkO k []]) ∧ p'.g = p.g ∧ p'.Is x (N + 1)) ∧ os' = hdr' ++ p'.os))
    (hout : ∀ m c es u k n us, getE es a = none → us.length < 1099511627776 → A a = Ac.zero → FnM f ds [stO g m u k n, smO m c es, unO u us, mkO k []] (fun r os' => r = .tpl [] ∧ ∃ (u' : Value) (p' : PA), os' = [stO g m u' k n, smO m (tickE c es a) (putE c es a (.v (ptr p'.g))), unO u' us, mkO k []] ++ p'.os ∧ p'.Is x (N + 1))) :
    FnM f ds os (fun r os' => r = .tpl [] ∧ PSt g (A.upd a x) (N + 1) os') := by
  obtain ⟨m, c, es, u, k, n, us, ps, rfl, hi, hu⟩ := h
  cases hE : getE es a with
  | some d =>
    obtain ⟨p, hp, rfl, his⟩ := hi.inn a d hE
    obtain ⟨ps1, ps2, rfl⟩ := List.append_of_mem hp
    refine FnM.mono (FnM.lift ps1 ps2 (hin m c es u k n us p hE hu his)) ?_
    rintro r _ ⟨hdr', p', ⟨rfl, ⟨u', rfl⟩, hg, hx⟩, rfl⟩
    exact ⟨rfl, m, c, es, u', k, n, us, _, rfl, hi.turned hE hg hx, hu⟩
  | none =>
    refine FnM.mono ((hout m c es u k n us hE hu (hi.out a hE)).frame (ps.flatMap PA.os)).apart ?_
    rintro r _ ⟨⟨_, ⟨rfl, u', p', rfl, hx⟩, rfl⟩, hap⟩
    refine ⟨rfl, m, tickE c es a, putE c es a (.v (ptr p'.g)), u', k, n, us, p' :: ps, ?_, hi.fresh (fun b => getE_putE c es a b _) (putE_nodup c es a _ hi.nod) (Nat.le_trans (putE_length c es a _) (Nat.succ_le_succ hi.len)) hx (apart_new hap), hu⟩
    unfold psO
    rw [List.append_assoc, List.flatMap_cons]
theorem ps_setNonce (h : PSt g A N os) (v : Int) : FnM 50 [.v (ptr g), .arr 20 a, .v (.int .i64 v)] os (fun r os' => r = .tpl [] ∧ PSt g (A.upd a {A a with n := if v > 0 then v else 0}) (N + 1) os') := by
  refine ps_do h (fun m c es u k n us p hE hu his => ?_) (fun m c es u k n us hE hu hz => ?_)
  · refine FnM.mono (FnM.frame (setNonce_in (g := g) (m := m) (c := c) (u := u) (k := k) (n := n) (ks := []) (b := p.n) (w := p.w) (cd := p.cd) (sv := .map (some p.gs)) (n' := v) hE hu) [.map p.gs 32 p.sc p.ss]) ?_
    rintro r _ ⟨_, ⟨rfl, u', rfl⟩, rfl⟩
    exact ⟨[stO g m u' k n, smO m c es, unO u' us, mkO k []], {p with n := if v > 0 then v else 0}, ⟨rfl, ⟨u', rfl⟩, rfl, ⟨rfl, his.w, his.cd, his.sl, his.ent, his.nod, his.up.len, his.cl⟩⟩, rfl⟩
  · refine FnM.mono (setNonce_out (g := g) (m := m) (c := c) (u := u) (k := k) (n := n) (ks := []) (n' := v) hE hu) ?_
    rintro r _ ⟨rfl, u', ga, gs, rfl⟩
    refine ⟨rfl, u', ⟨ga, if v > 0 then v else 0, zero32, [], gs, 0, []⟩, rfl, ?_⟩
    rw [hz]
    exact ⟨rfl, rfl, rfl, fun k => rfl, fun e he => by simp at he, List.nodup_nil, Nat.zero_le _, Nat.zero_le _⟩
theorem ps_setBalance (h : PSt g A N os) (v : List UInt8) : FnM 51 [.v (ptr g), .arr 20 a, .arr 32 v] os (fun r os' => r = .tpl [] ∧ PSt g (A.upd a {A a with w := v}) (N + 1) os') := by
  refine ps_do h (fun m c es u k n us p hE hu his => ?_) (fun m c es u k n us hE hu hz => ?_)
  · refine FnM.mono (FnM.frame (setBalance_in (g := g) (m := m) (c := c) (u := u) (k := k) (n := n) (ks := []) (b := p.n) (w := p.w) (cd := p.cd) (sv := .map (some p.gs)) (w' := v) hE hu) [.map p.gs 32 p.sc p.ss]) ?_
    rintro r _ ⟨_, ⟨rfl, u', rfl⟩, rfl⟩
    exact ⟨[stO g m u' k n, smO m c es, unO u' us, mkO k []], {p with w := v}, ⟨rfl, ⟨u', rfl⟩, rfl, ⟨his.n, rfl, his.cd, his.sl, his.ent, his.nod, his.up.len, his.cl⟩⟩, rfl⟩
  · refine FnM.mono (setBalance_out (g := g) (m := m) (c := c) (u := u) (k := k) (n := n) (ks := []) (w' := v) hE hu) ?_
    rintro r _ ⟨rfl, u', ga, gs, rfl⟩
    refine ⟨rfl, u', ⟨ga, 0, v, [], gs, 0, []⟩, rfl, ?_⟩
    rw [hz]
    exact ⟨rfl, rfl, rfl, fun k => rfl, fun e he => by simp at he, List.nodup_nil, Nat.zero_le _, Nat.zero_le _⟩
theorem ps_setCode (h : PSt g A N os) (v : List UInt8) (hl : v.length ≤ 140737488355328) : FnM 53 [.v (ptr g), .arr 20 a, .bs v] os (fun r os' => r = .tpl [] ∧ PSt g (A.upd a {A a with cd := v}) (N + 1) os') := by
  refine ps_do h (fun m c es u k n us p hE hu his => ?_) (fun m c es u k n us hE hu hz => ?_)
  · refine FnM.mono (FnM.frame (setCode_in (g := g) (m := m) (c := c) (u := u) (k := k) (n := n) (ks := []) (b := p.n) (w := p.w) (cd := p.cd) (sv := .map (some p.gs)) (e := v) hE hu hl) [.map p.gs 32 p.sc p.ss]) ?_
    rintro r _ ⟨_, ⟨rfl, u', rfl⟩, rfl⟩
    exact ⟨[stO g m u' k n, smO m c es, unO u' us, mkO k []], {p with cd := v}, ⟨rfl, ⟨u', rfl⟩, rfl, ⟨his.n, his.w, rfl, his.sl, his.ent, his.nod, his.up.len, hl⟩⟩, rfl⟩
  · refine FnM.mono (setCode_out (g := g) (m := m) (c := c) (u := u) (k := k) (n := n) (ks := []) (e := v) hE hu hl) ?_
    rintro r _ ⟨rfl, u', ga, gs, rfl⟩
    refine ⟨rfl, u', ⟨ga, 0, zero32, v, gs, 0, []⟩, rfl, ?_⟩
    rw [hz]
    exact ⟨rfl, rfl, rfl, fun k => rfl, fun e he => by simp at he, List.nodup_nil, Nat.zero_le _, hl⟩
def Ac.slot (x : Ac) (q v : List UInt8) : Ac := {x with sl := fun k => if q = k then v else x.sl k}
theorem ps_setSlot (h : PSt g A N os) (q v : List UInt8) : FnM 52 [.v (ptr g), .arr 20 a, .arr 32 q, .arr 32 v] os (fun r os' => r = .tpl [] ∧ PSt g (A.upd a ((A a).slot q v)) (N + 1) os') := by
  refine ps_do h (fun m c es u k n us p hE hu his => ?_) (fun m c es u k n us hE hu hz => ?_)
  · by_cases hv : v = zero32
    · subst hv
      refine FnM.mono (setSlot_in (g := g) (m := m) (c := c) (u := u) (k := k) (n := n) (ks := []) (b := p.n) (w := p.w) (cd := p.cd) (gs := p.gs) (sc := p.sc) hE (his.sl q) hu set_del) ?_
      rintro r _ ⟨rfl, u', rfl⟩
      refine ⟨[stO g m u' k n, smO m c es, unO u' us, mkO k []], {p with ss := delE p.ss q}, ⟨rfl, ⟨u', rfl⟩, rfl, his.n, his.w, his.cd, fun k => ?_, fun e he => his.ent e ((delE_sub _ _).subset he), his.nod.sublist ((delE_sub _ _).map _), Nat.le_trans (delE_length _ _) his.up.len, his.cl⟩, rfl⟩
      show slE (delE p.ss q) k = _
      rw [slE_del _ _ _ his.nod, his.sl k]
      unfold Ac.slot
      dsimp only
      split <;> rfl
    · refine FnM.mono (setSlot_in (g := g) (m := m) (c := c) (u := u) (k := k) (n := n) (ks := []) (b := p.n) (w := p.w) (cd := p.cd) (gs := p.gs) (sc := p.sc) hE (his.sl q) hu (set_put (by simpa using hv))) ?_
      rintro r _ ⟨rfl, u', rfl⟩
      refine ⟨[stO g m u' k n, smO m c es, unO u' us, mkO k []], {p with sc := tickE p.sc p.ss q, ss := putE p.sc p.ss q (.arr 32 v)}, ⟨rfl, ⟨u', rfl⟩, rfl, his.n, his.w, his.cd, fun k => ?_, fun e he => ?_, putE_nodup _ _ _ _ his.nod, Nat.le_trans (putE_length _ _ _ _) (Nat.succ_le_succ his.len), his.cl⟩, rfl⟩
      · show slE (putE p.sc p.ss q (.arr 32 v)) k = _
        rw [slE_put, his.sl k]
        unfold Ac.slot
        dsimp only
        split <;> rfl
      · rcases mem_putE _ _ _ _ _ he with he | he
        · exact his.ent e he
        · exact ⟨v, he, hv⟩
  · by_cases hv : v = zero32
    · subst hv
      refine FnM.mono (setSlot_out (g := g) (m := m) (c := c) (u := u) (k := k) (n := n) (ks := []) (q := q) (ss' := fun _ => delE [] q) (sc' := 0) hE hu (fun ga gs => set_del)) ?_
      rintro r _ ⟨rfl, u', ga, gs, rfl⟩
      refine ⟨rfl, u', ⟨ga, 0, zero32, [], gs, 0, []⟩, rfl, ?_⟩
      rw [hz]
      refine ⟨rfl, rfl, rfl, fun k => ?_, fun e he => by simp at he, List.nodup_nil, Nat.zero_le _, Nat.zero_le _⟩
      unfold Ac.slot Ac.zero
      dsimp only
      split <;> rfl
    · refine FnM.mono (setSlot_out (g := g) (m := m) (c := c) (u := u) (k := k) (n := n) (ks := []) (q := q) (ss' := fun _ => putE 0 [] q (.arr 32 v)) (sc' := tickE 0 [] q) hE hu (fun ga gs => set_put (by simpa using hv))) ?_
      rintro r _ ⟨rfl, u', ga, gs, rfl⟩
      refine ⟨rfl, u', ⟨ga, 0, zero32, [], gs, tickE 0 [] q, putE 0 [] q (.arr 32 v)⟩, rfl, ?_⟩
      rw [hz]
      refine ⟨rfl, rfl, rfl, fun k => ?_, fun e he => ?_, putE_nodup 0 [] q (.arr 32 v) List.nodup_nil, Nat.le_trans (putE_length 0 [] q (.arr 32 v)) (by simp), Nat.zero_le _⟩
      · show slE (putE 0 [] q (.arr 32 v)) k = _
        rw [slE_put]
        unfold Ac.slot Ac.zero
        dsimp only
        split <;> rfl
      · rcases mem_putE 0 [] q (.arr 32 v) e he with he | he
        · simp at he
        · exact ⟨v, he, hv⟩
theorem ps_kill (h : PSt g A N os) : FnM 54 [.v (ptr g), .arr 20 a] os (fun r os' => r = .tpl [] ∧ PSt g (A.upd a Ac.zero) (N + 1) os') := by
  obtain ⟨m, c, es, u, k, n, us, ps, rfl, hi, hu⟩ := h
  cases hE : getE es a with
  | some d =>
    obtain ⟨p, hp, rfl, his⟩ := hi.inn a d hE
    refine FnM.mono ((kill_in (g := g) (m := m) (c := c) (u := u) (k := k) (n := n) (ks := []) hE hu).frame (ps.flatMap PA.os)).apart ?_
    rintro r _ ⟨⟨_, ⟨rfl, u', ga', gs', rfl⟩, rfl⟩, hap⟩
    exact ⟨rfl, m, _, _, u', k, n, us, ⟨ga', 0, zero32, [], gs', 0, []⟩ :: ps, rfl, hi.fresh (p' := ⟨ga', 0, zero32, [], gs', 0, []⟩) (fun b => getE_putE c es a b _) (putE_nodup c es a _ hi.nod) (Nat.le_trans (putE_length c es a _) (Nat.succ_le_succ hi.len)) ⟨rfl, rfl, rfl, fun k => rfl, fun e he => by simp at he, List.nodup_nil, Nat.zero_le _, Nat.zero_le _⟩ (apart_new (hdr := [stO g m u' k n, smO m (tickE c es a) (putE c es a (.v (ptr ga'))), unO u' us, mkO k []]) (p' := ⟨ga', 0, zero32, [], gs', 0, []⟩) hap), hu⟩
  | none =>
    refine FnM.mono ((kill_out (g := g) (m := m) (c := c) (u := u) (k := k) (n := n) (ks := []) hE hu).frame (ps.flatMap PA.os)).apart ?_
    rintro r _ ⟨⟨_, ⟨rfl, u', ga, ga', gs', rfl⟩, rfl⟩, hap⟩
    refine ⟨rfl, m, _, _, u', k, n, us, ⟨ga', 0, zero32, [], gs', 0, []⟩ :: ps, rfl, hi.fresh (p' := ⟨ga', 0, zero32, [], gs', 0, []⟩) (fun b => ?_) (putE_nodup _ _ a _ (putE_nodup c es a _ hi.nod)) ?_ ⟨rfl, rfl, rfl, fun k => rfl, fun e he => by simp at he, List.nodup_nil, Nat.zero_le _, Nat.zero_le _⟩ (apart_new (hdr := [stO g m u' k n, smO m (tickE (tickE c es a) (putE c es a (.v (ptr ga))) a) (putE (tickE c es a) (putE c es a (.v (ptr ga))) a (.v (ptr ga'))), unO u' us, mkO k []]) (p' := ⟨ga', 0, zero32, [], gs', 0, []⟩) hap), hu⟩
    · rw [getE_putE, getE_putE]
      split <;> rfl
    · unfold putE
      rw [if_pos]
      · have h1 := congrArg List.length (setE_keys (if hasE es a = true then setE es a (.v (ptr ga)) else es ++ [(c, a, .v (ptr ga))]) a (.v (ptr ga')))
        have h2 := putE_length c es a (.v (ptr ga))
        unfold putE at h2
        simp only [List.length_map] at h1
        have := hi.len
        omega
      · have := getE_putE c es a a (.v (ptr ga))
        unfold putE at this
        rw [hasE_iff, this, if_pos rfl]
        rfl
end E
end Go.Proofs.YtdhicdnmgmkpkaaGreat
/-
  Calls at pieces that stand among others; whether an account is empty.
  Conditions: none.
-/
namespace Go.Proofs.YtdhicdnmgmkpkaaGreat
set_option linter.unusedVariables false
open Go.RowKit Mono Rlp Wd
namespace E
section
variable {N : Nat} {X : Cx N} {ops : Array Oper} {Q : Exit → Act → World → Prop}
theorem P_callAt {l' : List Oper} {t ty f : Nat} {pos : String} {af : Array Edge} {gd : Option (Nat × Bool)} {args : Array Operand} {tys : Array TypeId} {ds ds' : List D} {Φ : R → List Obj → Prop} {rs : List (Tmp × R)} {os os0 : List Obj} {fs : List (Value × D)} (hF : FnM f ds' os Φ) (l1 l2 : List Obj) (hos : os0 = l1 ++ (os ++ l2))
    (hx : evs (⟨rs, l1 ++ l2, fs⟩ : St) args.toList = some ds) (hR : RefineL fs ds ds') (hf : Enters f) (hg : guardOf ops ⟨rs, os ++ (l1 ++ l2), fs⟩ ⟨some t, .call { callee := .value (.func f), args := args, argTypes := tys }, ty, pos, af, gd⟩ = some true) (hN : Nat.blt t N = true) (k : ∀ r os', Φ r os' → EL X ops Q l' ⟨(t, r) :: rs, l1 ++ (os' ++ l2), fs⟩) : EL X ops Q (⟨some t, .call { callee := .value (.func f), args := args, argTypes := tys }, ty, pos, af, gd⟩ :: l') ⟨rs, os0, fs⟩ := by
  subst hos
  have hp : ∀ os : List Obj, (l1 ++ (os ++ l2)).Perm (os ++ (l1 ++ l2)) := fun os => by
    rw [← List.append_assoc, ← List.append_assoc]
    exact List.Perm.append_right _ List.perm_append_comm
  exact EL.le (Le.perm (hp os)) (P_callM hF rfl hx hR hf hg hN fun r os' h => EL.le (Le.perm (hp os').symm) (k r os' h))
theorem EK.retM1k {fn : Func} {Φ : R → List Obj → Prop} {S : St} {t : Tmp} {d d' : D} (os' : List Obj) (hres : fn.results = #[.tmp t]) (hl : look S.regs t = some (.val d)) (hR : RefineL S.facts [d] [d']) (ho : os'.Sublist S.objs) (hΦ : Φ (.val d') os') : EK X (bodyPost Tryz.prog fn (OutM X Φ) .ret) S := by
  refine EK.le (S' := ⟨S.regs, os', S.facts⟩) ?_ (EK.retM1r hres hl hR hΦ)
  exact fun a w h => ⟨h.mem.less ho (fun f hf => hf), fun t r ht => ReadR.mono (fun b hb => ok_less ho hb) (fun _ _ => rfl) (h.regs t r ht), h.size, h.defers⟩
end
def PA.empty (p : PA) : Bool := decide (p.n = 0) && (p.w == zero32) && p.cd.isEmpty && p.ss.isEmpty
theorem PA.Is.empty_iff {p : PA} {x : Ac} {N : Nat} (h : p.Is x N) : p.empty = true ↔ x = Ac.zero := by
  unfold PA.empty
  rw [h.n, h.w, h.cd]
  simp only [Bool.and_eq_true, decide_eq_true_eq, beq_iff_eq, List.isEmpty_iff]
  constructor
  · rintro ⟨⟨⟨h1, h2⟩, h3⟩, h4⟩
    have h5 : x.sl = fun _ => zero32 := funext fun k => by
      have := h.sl k
      rw [h4] at this
      have h6 : slE [] k = .arr 32 zero32 := rfl
      rw [h6] at this
      simpa using this.symm
    cases x
    simp only [Ac.zero, Ac.mk.injEq]
    exact ⟨h1, h2, h3, h5⟩
  · rintro rfl
    refine ⟨⟨⟨rfl, rfl⟩, rfl⟩, ?_⟩
    cases hs : p.ss with
    | nil => rfl
    | cons e ss =>
      exfalso
      obtain ⟨v, hv, hne⟩ := h.ent e (by rw [hs]; exact List.mem_cons_self ..)
      have := h.sl e.2.1
      rw [hs] at this
      have h6 : slE (e :: ss) e.2.1 = .arr 32 v := by
        unfold slE
        rw [getE, if_pos (by simp), hv]
        rfl
      rw [h6] at this
      apply hne
      simpa [Ac.zero] using this
set_option maxRecDepth 20000 in
set_option maxHeartbeats 8000000 in
theorem empty_ (p : PA) : FnM 78 [.v (ptr p.g)] p.os (fun r os' => r = .val (.v (.bool p.empty)) ∧ os' = p.os) := by
  obtain ⟨g, n, w, cd, gs, sc, ss⟩ := p
  have hz := (bin_word w zero32).1
  unfold PA.empty PA.os
  dsimp only
  refine FnM.walk 32 Tryz.func78 rfl Tryz.ntmps78 (by simp) fun X => ?_
  by_cases h1 : n = 0
  · by_cases h2 : (w == zero32) = true
    · rw [h2] at hz
      by_cases h3 : cd = []
      · by_cases h4 : ss = []
        · subst h3
          subst h4
          rw [h2]
          subst h1
          repeat
            (first
             | (apply P_bin; (iterate 2 exact rfl); exact hz; (iterate 2 exact rfl)) | (apply P_move; (iterate 3 exact rfl)) | (apply P_assign; (iterate 3 exact rfl)) | (apply P_field; (iterate 6 exact rfl))
             | (apply P_pick; (iterate 4 exact rfl)) | (apply P_load; exact rfl; (first | exact I0 | exact I1 | exact I2 | exact I3 | exact I4 | exact I5 | exact I6); (iterate 4 exact rfl))
             | (apply P_cmp (b := true); (iterate 2 exact rfl); (focus (first | (simp [cmpI]; done) | (simp [cmpI]; omega))); (iterate 2 exact rfl)) | (apply P_lenbs; (iterate 4 exact rfl))
             | (apply P_build0; (iterate 5 exact rfl)) | (apply P_nilck; (iterate 3 exact rfl))
             | (apply P_lenmap; exact rfl; (first | exact I0 | exact I1 | exact I2 | exact I3 | exact I4 | exact I5 | exact I6); (iterate 3 exact rfl)) | apply EL.nil
             | ((with_reducible apply EK.then_normal); apply EK.code)
             | (with_reducible first | apply EC.seq | apply EC.region | apply EC.skip | apply EC.label | apply EC.block | apply EC.exit | apply EC.ret | apply EK.in_normal | apply EK.in_same | apply EK.in_ret | apply EK.then_ret | apply EK.then_exit))
          exact EK.retM1s [acO g 0 w [] (.map (some gs)), .map gs 32 sc []] rfl rfl (by (repeat first | exact List.nil_sublist _ | apply List.Sublist.cons_cons | apply List.Sublist.cons)) ⟨rfl, rfl⟩
        · subst h3
          have h5 : ss.isEmpty = false := by cases ss with | nil => exact absurd rfl h4 | cons _ _ => rfl
          rw [h2, h5]
          subst h1
          repeat
            (first
             | (apply P_bin; (iterate 2 exact rfl); exact hz; (iterate 2 exact rfl)) | (apply P_move; (iterate 3 exact rfl)) | (apply P_assign; (iterate 3 exact rfl)) | (apply P_field; (iterate 6 exact rfl))
             | (apply P_pick; (iterate 4 exact rfl)) | (apply P_load; exact rfl; (first | exact I0 | exact I1 | exact I2 | exact I3 | exact I4 | exact I5 | exact I6); (iterate 4 exact rfl))
             | (apply P_cmp (b := true); (iterate 2 exact rfl); (focus (first | (simp [cmpI]; done) | (simp [cmpI]; omega))); (iterate 2 exact rfl))
             | (apply P_cmp (b := false); (iterate 2 exact rfl); (focus (first | (simp [cmpI]; done) | (simp [cmpI]; omega))); (iterate 2 exact rfl)) | (apply P_lenbs; (iterate 4 exact rfl))
             | (apply P_build0; (iterate 5 exact rfl)) | (apply P_nilck; (iterate 3 exact rfl))
             | (apply P_lenmap; exact rfl; (first | exact I0 | exact I1 | exact I2 | exact I3 | exact I4 | exact I5 | exact I6); (iterate 3 exact rfl)) | apply EL.nil
             | ((with_reducible apply EK.then_normal); apply EK.code)
             | (with_reducible first | apply EC.seq | apply EC.region | apply EC.skip | apply EC.label | apply EC.block | apply EC.exit | apply EC.ret | apply EK.in_normal | apply EK.in_same | apply EK.in_ret | apply EK.then_ret | apply EK.then_exit))
          exact EK.retM1s [acO g 0 w [] (.map (some gs)), .map gs 32 sc ss] rfl rfl (by (repeat first | exact List.nil_sublist _ | apply List.Sublist.cons_cons | apply List.Sublist.cons)) ⟨rfl, rfl⟩
      · have h5 : cd.isEmpty = false := by cases cd with | nil => exact absurd rfl h3 | cons _ _ => rfl
        rw [h2, h5]
        subst h1
        repeat
          (first
           | (apply P_skip; (iterate 2 exact rfl)) | (apply P_bin; (iterate 2 exact rfl); exact hz; (iterate 2 exact rfl)) | (apply P_move; (iterate 3 exact rfl)) | (apply P_assign; (iterate 3 exact rfl))
           | (apply P_field; (iterate 6 exact rfl)) | (apply P_pick; (iterate 4 exact rfl))
           | (apply P_load; exact rfl; (first | exact I0 | exact I1 | exact I2 | exact I3 | exact I4 | exact I5 | exact I6); (iterate 4 exact rfl))
           | (apply P_cmp (b := true); (iterate 2 exact rfl); (focus (first | (simp [cmpI]; done) | (simp [cmpI]; omega))); (iterate 2 exact rfl))
           | (apply P_cmp (b := false); (iterate 2 exact rfl); (focus (first | (simp [cmpI]; done) | (simp [cmpI]; omega))); (iterate 2 exact rfl)) | (apply P_lenbs; (iterate 4 exact rfl))
           | (apply P_build0; (iterate 5 exact rfl)) | (apply P_nilck; (iterate 3 exact rfl)) | apply EL.nil | ((with_reducible apply EK.then_normal); apply EK.code)
           | (with_reducible first | apply EC.seq | apply EC.region | apply EC.skip | apply EC.label | apply EC.block | apply EC.exit | apply EC.ret | apply EK.in_normal | apply EK.in_same | apply EK.in_ret | apply EK.then_ret | apply EK.then_exit))
        exact EK.retM1s [acO g 0 w cd (.map (some gs)), .map gs 32 sc ss] rfl rfl (by (repeat first | exact List.nil_sublist _ | apply List.Sublist.cons_cons | apply List.Sublist.cons)) ⟨rfl, rfl⟩
    · have h2 : (w == zero32) = false := by simpa using h2
      rw [h2] at hz ⊢
      subst h1
      repeat
        (first
         | (apply P_skip; (iterate 2 exact rfl)) | (apply P_bin; (iterate 2 exact rfl); exact hz; (iterate 2 exact rfl)) | (apply P_move; (iterate 3 exact rfl)) | (apply P_assign; (iterate 3 exact rfl))
         | (apply P_field; (iterate 6 exact rfl)) | (apply P_pick; (iterate 4 exact rfl))
         | (apply P_load; exact rfl; (first | exact I0 | exact I1 | exact I2 | exact I3 | exact I4 | exact I5 | exact I6); (iterate 4 exact rfl))
         | (apply P_cmp (b := true); (iterate 2 exact rfl); (focus (first | (simp [cmpI]; done) | (simp [cmpI]; omega))); (iterate 2 exact rfl)) | (apply P_build0; (iterate 5 exact rfl))
         | (apply P_nilck; (iterate 3 exact rfl)) | apply EL.nil | ((with_reducible apply EK.then_normal); apply EK.code)
         | (with_reducible first | apply EC.seq | apply EC.region | apply EC.skip | apply EC.label | apply EC.block | apply EC.exit | apply EC.ret | apply EK.in_normal | apply EK.in_same | apply EK.in_ret | apply EK.then_ret | apply EK.then_exit))
      exact EK.retM1s [acO g 0 w cd (.map (some gs)), .map gs 32 sc ss] rfl rfl (by (repeat first | exact List.nil_sublist _ | apply List.Sublist.cons_cons | apply List.Sublist.cons)) ⟨rfl, rfl⟩
  · have h5 : decide (n = 0) = false := by simp [h1]
    rw [h5]
    repeat
      (first
       | (apply P_skip; (iterate 2 exact rfl)) | (apply P_move; (iterate 3 exact rfl)) | (apply P_assign; (iterate 3 exact rfl)) | (apply P_field; (iterate 6 exact rfl)) | (apply P_pick; (iterate 4 exact rfl))
       | (apply P_load; exact rfl; (first | exact I0 | exact I1 | exact I2 | exact I3 | exact I4 | exact I5 | exact I6); (iterate 4 exact rfl))
       | (apply P_cmp (b := false); (iterate 2 exact rfl); (focus (first | (simp [cmpI]; done) | (simp [cmpI]; omega))); (iterate 2 exact rfl)) | (apply P_nilck; (iterate 3 exact rfl)) | apply EL.nil
       | ((with_reducible apply EK.then_normal); apply EK.code)
       | (with_reducible first | apply EC.seq | apply EC.region | apply EC.skip | apply EC.label | apply EC.block | apply EC.exit | apply EC.ret | apply EK.in_normal | apply EK.in_same | apply EK.in_ret | apply EK.then_ret | apply EK.then_exit))
    exact EK.retM1s [acO g n w cd (.map (some gs)), .map gs 32 sc ss] rfl rfl (by (repeat first | exact List.nil_sublist _ | apply List.Sublist.cons_cons | apply List.Sublist.cons)) ⟨rfl, rfl⟩
end E
end Go.Proofs.YtdhicdnmgmkpkaaGreat
/-
  Ranges over maps whose keys are arrays of bytes, inside a fence: laws for the walk.
  Conditions: none.
-/
namespace Go.Proofs.YtdhicdnmgmkpkaaGreat
set_option linter.unusedVariables false
open Go.RowKit Mono Rlp
open Go.ChangeMaps (setBlock)
namespace E
abbrev Ky (n : Nat) := {l : List UInt8 // l.length = n}
def kv {n : Nat} (k : Ky n) : Value := arrV k.1
theorem perm_out {es : List MapEntry} (hn : (es.map (·.born)).Nodup) {e : MapEntry} (he : e ∈ es) : es.Perm (e :: es.filter fun x => x.born != e.born) := by
  induction es with
  | nil => cases he
  | cons y es ih =>
    simp only [List.map_cons, List.nodup_cons] at hn
    rcases List.mem_cons.1 he with rfl | he
    · have : es.filter (fun x => x.born != e.born) = es := List.filter_eq_self.2 fun x hx => by
        have : x.born ≠ e.born := fun h => hn.1 (h ▸ List.mem_map.2 ⟨x, hx, rfl⟩)
        simpa using this
      simp [this]
    · have hne : y.born ≠ e.born := fun h => hn.1 (h ▸ List.mem_map.2 ⟨e, he, rfl⟩)
      have : (y :: es).filter (fun x => x.born != e.born) = y :: es.filter (fun x => x.born != e.born) := by simp [hne]
      rw [this]
      exact ((ih hn.2 he).cons y).trans (List.Perm.swap e y _)
theorem leftOf_push (es : Array MapEntry) (seen : Array Nat) (b : Nat) : (leftOf es (seen.push b)).toList = (leftOf es seen).toList.filter fun x => x.born != b := by
  unfold leftOf
  rw [Array.toList_filter, Array.toList_filter, List.filter_filter]
  refine List.filter_congr fun x _ => ?_
  rw [contains_push]
  cases seen.contains x.born <;> cases h : x.born == b <;> simp [bne, h]
def Rng (w : World) (b r : Nat) (es : Array MapEntry) (clock : Nat) (ss : List Value) (cnt : Nat) : Prop :=
  ∃ since seen c0, w.heap[b]? = some (.map es clock) ∧ w.heap[r]? = some (.mapIter (some b) since seen c0) ∧ (∀ x ∈ es.toList, x.born < since) ∧ since ≤ c0 ∧ since ≤ clock ∧ (leftOf es seen).size = cnt ∧ (ss ++ (leftOf es seen).toList.map (·.key)).Perm (es.toList.map (·.key))
variable {w : World} {b r cnt clock : Nat} {es : Array MapEntry} {ss : List Value}
theorem Rng.left_eq (h : Rng w b r es clock ss cnt) : w.rangeLeft b r = cnt := by
  obtain ⟨since, seen, c0, hb, hr, _, _, _, hc, _⟩ := h
  simp only [World.rangeLeft, hb, hr]
  exact hc
theorem Rng.le (h : Rng w b r es clock ss cnt) : ss.length + cnt = es.size := by
  obtain ⟨since, seen, c0, _, _, _, _, _, hc, hp⟩ := h
  have := hp.length_eq
  simp at this
  omega
theorem Rng.iter (h : Rng w b r es clock ss cnt) : ∃ o : Go.Obj, w.heap[r]? = some o ∧ o.isWalk = true := by
  obtain ⟨since, seen, c0, _, hr, _⟩ := h
  exact ⟨_, hr, rfl⟩
theorem Rng.lt (h : Rng w b r es clock ss cnt) : b < w.heap.size ∧ r < w.heap.size := by
  obtain ⟨since, seen, c0, hb, hr, _⟩ := h
  exact ⟨(Array.getElem?_eq_some_iff.1 hb).1, (Array.getElem?_eq_some_iff.1 hr).1⟩
theorem Rng.kept {w' : World} (h : Rng w b r es clock ss cnt) (hb : w'.heap[b]? = w.heap[b]?) (hr : w'.heap[r]? = w.heap[r]?) : Rng w' b r es clock ss cnt := by
  obtain ⟨since, seen, c0, h1, h2, rest⟩ := h
  exact ⟨since, seen, c0, hb.trans h1, hr.trans h2, rest⟩
theorem Rng.walks {w' : World} (h : Rng w b r es clock ss cnt) (hk : KeepsWalks w w') : Rng w' b r es clock ss cnt := by
  obtain ⟨since, seen, c0, h1, h2, rest⟩ := h
  exact ⟨since, seen, c0, hk.same _ _ h1 rfl, hk.same _ _ h2 rfl, rest⟩
theorem Rng.start (hb : w.heap[b]? = some (.map es clock)) (hl : ∀ x ∈ es.toList, x.born < clock) : Rng (w.alloc (.mapIter (some b) clock #[] clock)) b w.heap.size es clock [] es.size := by
  have hlt := (Array.getElem?_eq_some_iff.1 hb).1
  refine ⟨clock, #[], clock, ((MapKept.heap_alloc w _).2 b hlt).trans hb, (MapKept.heap_alloc w _).1, hl, Nat.le_refl _, Nat.le_refl _, ?_, ?_⟩
  · simp [leftOf]
  · simp [leftOf]
    rw [List.filter_eq_self.2 fun _ _ => rfl]
theorem Rng.next (h : Rng w b r es clock ss cnt) (hn : (es.toList.map (·.born)).Nodup) (ty : TypeId) :
    (cnt = 0 ∧ ss.Perm (es.toList.map (·.key)) ∧ (Instr.next (.pointer (some ⟨r, 0, none⟩)) false ty).run Tryz.prog w = .ok (.tuple #[.bool false]) w) ∨
    ∃ e ∈ es.toList, ∃ w' cnt', (Instr.next (.pointer (some ⟨r, 0, none⟩)) false ty).run Tryz.prog w = .ok (.tuple #[.bool true, e.key, e.val]) w' ∧ Rng w' b r es clock (ss ++ [e.key]) cnt' ∧ cnt' < cnt ∧ w.grownBy w' (some r) ∧ w'.heap.size = w.heap.size ∧ (Instr.entry (.pointer (some ⟨r, 0, none⟩))).run Tryz.prog w' = .ok (.tuple #[e.key, e.val]) w' := by
  obtain ⟨since, seen, c0, hb, hr, hold, hsc, hsk, rfl, hp⟩ := h
  have hne : r ≠ b := fun e => by rw [e, hb] at hr; cases hr
  rcases run_next_at (P := Tryz.prog) w ty r b since c0 seen es clock hr hb hold hsc with ⟨h0, hrun⟩ | ⟨e, he, w1, hal, hrun⟩
  · refine .inl ⟨h0, ?_, hrun⟩
    have : leftOf es seen = #[] := Array.eq_empty_of_size_eq_zero h0
    rw [this] at hp
    simpa using hp
  · obtain ⟨hem, hes⟩ := mem_left he
    have hr1 : w1.heap[r]? = some (.mapIter (some b) since seen c0) := by rcases hal with rfl | rfl <;> exact hr
    have hb1 : w1.heap[b]? = some (.map es clock) := by rcases hal with rfl | rfl <;> exact hb
    have hset := MapKept.heap_set (o' := .mapIter (some b) since (seen.push e.born) clock) hr1
    have hb' : (setBlock w1 r (.mapIter (some b) since (seen.push e.born) clock)).heap[b]? = some (.map es clock) := (hset.2 b (fun e1 => hne e1.symm)).trans hb1
    refine .inr ⟨e, hem, _, _, hrun, ⟨since, seen.push e.born, clock, hb', hset.1, hold, hsk, hsk, rfl, ?_⟩, left_shrinks es seen e he, ?_, ?_, run_entry_at _ r b since seen es clock e hset.1 hb' hem hn⟩
    · have hnl : ((leftOf es seen).toList.map (·.born)).Nodup := by
        unfold leftOf
        rw [Array.toList_filter]
        exact hn.sublist (List.filter_sublist.map _)
      have h1 := (perm_out hnl he).map (·.key)
      rw [← leftOf_push] at h1
      refine List.Perm.trans ?_ hp
      rw [List.append_assoc]
      exact (List.Perm.append_left ss h1).symm
    · rcases hal with rfl | rfl <;> exact ⟨rfl, rfl, rfl, by simp [setBlock], fun i _ hi => hset.2 i (fun e1 => hi (by rw [e1]))⟩
    · rcases hal with rfl | rfl <;> simp [setBlock]
section
variable {n : Nat} {ops : Array Oper} {rest : List Oper} {o : Oper} {a : Act} {Q : Exit → Act → World → Prop} {F : Fence}
theorem in_val (hg : o.guard = none) (ha : ∀ f, o.about Tryz.prog w a.eval = some f → F.fn f) (hd : ∀ c, o.op ≠ .defer c) {v : Value} {w' : World} (hr : (execOp a.eval o).run Tryz.prog w = .ok (.value v) w') (k : wpListIn F n Tryz.prog ops Q rest (a.put o.dst v) w') : wpListIn F n Tryz.prog ops Q (o :: rest) a w := by
  refine wpListIn_plain hg fun K hK => ⟨ha, ?_⟩
  rw [Oper.semAt_plain F _ _ hd, hr]
  exact hK _ _ k
theorem in_range (hg : o.guard = none) (m : Operand) (t k e : TypeId) (hop : o.op = Op.range t m) (ht : Tryz.prog.underlying t = some (.map k e)) (hm : a.eval m = .map (some b)) (hb : w.heap[b]? = some (.map es clock))
    (K : wpListIn F n Tryz.prog ops Q rest (a.put o.dst (.pointer (some ⟨w.heap.size, 0, none⟩))) (w.alloc (.mapIter (some b) clock #[] clock))) : wpListIn F n Tryz.prog ops Q (o :: rest) a w := by
  refine in_val hg (by simp [Oper.about, hop]) (by rw [hop]; intro c h; cases h) ?_ K
  simp [execOp, hop, hm, run_range_map w t k e b es clock ht hb, Result.andThen]
theorem in_next (hg : o.guard = none) (it : Operand) (hop : o.op = Op.next it false) (hit : a.eval it = .pointer (some ⟨r, 0, none⟩)) (h : Rng w b r es clock ss cnt) (hn : (es.toList.map (·.born)).Nodup)
    (hDone : cnt = 0 → ss.Perm (es.toList.map (·.key)) → wpListIn F n Tryz.prog ops Q rest (a.put o.dst (.tuple #[.bool false])) w)
    (hMore : ∀ (e : MapEntry) (w' : World) (cnt' : Nat), e ∈ es.toList → Rng w' b r es clock (ss ++ [e.key]) cnt' → cnt' < cnt → w.grownBy w' (some r) → w'.heap.size = w.heap.size → (Instr.entry (.pointer (some ⟨r, 0, none⟩))).run Tryz.prog w' = .ok (.tuple #[e.key, e.val]) w' → wpListIn F n Tryz.prog ops Q rest (a.put o.dst (.tuple #[.bool true, e.key, e.val])) w') :
    wpListIn F n Tryz.prog ops Q (o :: rest) a w := by
  rcases h.next hn o.type with ⟨h0, hp, hrun⟩ | ⟨e, he, w', cnt', hrun, hrg, hlt, hgr, hsz, hen⟩
  · refine in_val hg (by simp [Oper.about, hop]) (by rw [hop]; intro c h; cases h) ?_ (hDone h0 hp)
    simp [execOp, hop, hit, hrun, Result.andThen]
  · refine in_val hg (by simp [Oper.about, hop]) (by rw [hop]; intro c h; cases h) ?_ (hMore e w' cnt' he hrg hlt hgr hsz hen)
    simp [execOp, hop, hit, hrun, Result.andThen]
theorem in_store {g t : Nat} {l : List UInt8} {cs : List Value} (hg : o.guard = none) (T : TypeId) (x y : Operand) (hop : o.op = Op.store T x y) (hT : assoc tyL T = some (l.length, true)) (hx : a.eval x = .pointer (some ⟨g, 0, none⟩)) (hy : a.eval y = arrV l) (hb : w.heap[g]? = some (.cells cs.toArray t (0, 0))) (hs : cs.length = l.length)
    (K : ∀ w', w'.heap[g]? = some (.cells (bvs l).toArray t (0, 0)) → w.grownBy w' (some g) → w'.heap.size = w.heap.size → wpListIn F n Tryz.prog ops Q rest (a.put o.dst undef) w') : wpListIn F n Tryz.prog ops Q (o :: rest) a w := by
  have hr : Reads (fun _ => True) w (.arr l.length l) (bvs l) := by rw [Reads]; exact ⟨rfl, rfl⟩
  obtain ⟨_, _, _, hT'⟩ := tyI hT
  have hrun := run_storeAt (T := T) (n := 0) (pre := []) (mid := cs) (post := []) (by rw [hT', Reads.len _ _ hr]; rfl) hr (by simpa using hb) rfl (by rw [bvs_length, hs])
  have hset := setCells_row (bvs l) [] cs [] w (by rw [bvs_length, hs]) (by simpa using hb)
  simp only [List.length_nil, List.nil_append, List.append_nil] at hset
  have hsz : (w.setCells g 0 (bvs l)).heap.size = w.heap.size := by
    have h : ∀ (vs : List Value) (k : Nat) (w : World), (w.setCells g k vs).heap.size = w.heap.size := fun vs => by
      induction vs with
      | nil => intro k w; rfl
      | cons v vs ih =>
        intro k w
        rw [World.setCells, ih]
        show (w.heap.modify _ _).size = _
        rw [Array.size_modify]
    exact h _ _ _
  refine wpListIn_plain hg fun K' hK => ⟨by simp [Oper.about, hop], ?_⟩
  rw [Oper.semAt_plain F _ _ (by rw [hop]; intro c h; cases h)]
  have hrun' : (Instr.storeAt T (.pointer (some ⟨g, 0, none⟩)) (arrV l)).run Tryz.prog w = .ok () (w.setCells g 0 (bvs l)) := hrun
  simp only [execOp, hop, hx, hy, Sem.run_bind, hrun', Result.andThen_ok, Sem.run_pure]
  exact hK _ _ (K _ hset (grownBy_setCells g (bvs l) 0 w) hsz)
theorem in_load {g t : Nat} {l : List UInt8} (hg : o.guard = none) (T : TypeId) (x : Operand) (hop : o.op = Op.load T x) (hT : assoc tyL T = some (l.length, true)) (hx : a.eval x = .pointer (some ⟨g, 0, none⟩)) (hb : w.heap[g]? = some (.cells (bvs l).toArray t (0, 0)))
    (K : wpListIn F n Tryz.prog ops Q rest (a.put o.dst (arrV l)) w) : wpListIn F n Tryz.prog ops Q (o :: rest) a w := by
  have hr : Reads (fun _ => True) w (.arr l.length l) (bvs l) := by rw [Reads]; exact ⟨rfl, rfl⟩
  refine in_val hg (by simp [Oper.about, hop]) (by rw [hop]; intro c h; cases h) ?_ K
  have hrun : (Instr.loadAt T (.pointer (some ⟨g, 0, none⟩))).run Tryz.prog w = .ok (arrV l) w := run_loadAt (d := .arr l.length l) (tyI hT) hr (range_of_row hb)
  simp only [execOp, hop, hx, Sem.run_bind, hrun, Result.andThen_ok, Sem.run_pure]
end
end E
end Go.Proofs.YtdhicdnmgmkpkaaGreat
/-
  The iterator of maps.Keys, at keys that are arrays of bytes.
  Conditions: none.
-/
namespace Go.Proofs.YtdhicdnmgmkpkaaGreat
set_option linter.unusedVariables false
open Go.RowKit Mono Rlp
open Go.ChangeMaps (setBlock)
namespace E
set_option maxRecDepth 100000 in
set_option maxHeartbeats 2000000 in
theorem keys1_addr (n l Bm b : Nat) (hn1 : 1 ≤ n) (es : Array MapEntry) (clock : Nat) (J Jx : List (Ky 20) → World → Prop)
    (hY : ∀ pre x W, J pre W → pre.length < es.size → YieldAt Fence.wide (n - 1) Tryz.prog l #[kv x] W fun e W' => (e = .returned (.bool true) ∧ J (pre ++ [x]) W' ∧ KeepsWalks W W') ∨ (e = .returned (.bool false) ∧ Jx (pre ++ [x]) W'))
    (W : World) (hJ : AbidesFrom W.heap.size J) (hm : W.cell? ⟨Bm, 0, none⟩ = some (.map (some b))) (hb : W.heap[b]? = some (.map es clock)) (hn : (es.toList.map (·.born)).Nodup) (hl : ∀ x ∈ es.toList, x.born < clock) (hkey : ∀ x ∈ es.toList, ∃ k : Ky 20, x.key = kv k) (h0 : J [] W) :
    CallsIn Fence.wide n Tryz.prog 122 #[.func (.yield l) #[] #[], .pointer (some ⟨Bm, 0, none⟩)] W fun e W' => (∃ v, e = .returned v) ∧ ((∃ ss : List (Ky 20), (ss.map kv).Perm (es.toList.map (·.key)) ∧ J ss W') ∨ (∃ pre : List (Ky 20), True ∧ Jx pre W')) := by
  refine callsIn_of_wp Tryz.func122 rfl trivial ?_ rfl
  simp only [Tryz.ntmps122, List.size_toArray, List.length_cons, List.length_nil, Nat.reduceAdd, Nat.reduceSub, Array.replicate_succ, Array.replicate_zero, List.push_toArray, List.append_toArray, List.nil_append, List.cons_append]
  have hrg0 := Rng.start hb hl
  have hJ0 := hJ [] W _ none h0 (World.grownBy_alloc W (.mapIter (some b) clock #[] clock) none) (fun r e => by cases e)
  have hlt0 : W.heap.size < (W.alloc (.mapIter (some b) clock #[] clock)).heap.size := by simp
  gi_wp2_with (first
    | (gi_at_range; refine in_range rfl _ 106 32 111 rfl Tryz.underlying106 rfl hb ?_)
    | gi_in)
  go_frame
  generalize W.alloc (.mapIter (some b) clock #[] clock) = w0 at hrg0 hJ0 hlt0 ⊢
  gi_loopw [3] (fun _ wr => ∃ (cnt : Nat) (ss : List (Ky 20)), Rng wr b W.heap.size es clock (ss.map kv) cnt ∧ J ss wr)
    (fun _ wr => wr.rangeLeft b W.heap.size)
  case atStart =>
    exact ⟨_, [], hrg0, hJ0⟩
  case round =>
    obtain ⟨cnt, ss, hrg, hJs⟩ := hrel
    gi_wp2_with (first
      | (gi_at_next; refine in_next rfl _ rfl rfl hrg hn ?_ ?_)
      | gi_in)
    · intro hc0 hp
      gi_wp2
      go_end0
      exact ⟨⟨_, rfl⟩, .inl ⟨ss, hp, hJs⟩⟩
    · intro e w2 cnt2 he hrg2 hlt hg2 hs2 hen
      obtain ⟨x, hx⟩ := hkey e (by simpa using he)
      have hlen : ss.length < es.size := by have := hrg.le; simp at this; omega
      have hJ2 : J ss w2 := hJ ss wr w2 (some W.heap.size) hJs hg2 (fun r e => by cases e; exact ⟨Nat.le_refl _, hrg.iter⟩)
      rw [hx] at hen hrg2 ⊢
      clear hs2
      have hlt2 := hrg2.lt
      gi_wp2_with (first
        | (guard_target = wpListIn _ _ _ _ _ (Oper.mk _ (Op.store _ _ _) _ _ _ _ :: _) _ _; refine in_store (l := x.1) (cs := List.replicate 20 (.int .u8 0)) rfl _ _ _ rfl (by rw [x.2]; rfl) rfl rfl (World.alloc_heap_new w2 _) (by rw [x.2]; rfl) ?_
           intro w4 hb4 hg4 hs4
           have hg24 : w2.grownBy w4 none := ⟨hg4.os.trans rfl, hg4.tape.trans rfl, hg4.output.trans rfl, by rw [hs4]; simp, fun i hi _ => (hg4.block i (by simp; omega) (fun e => by cases e; omega)).trans ((MapKept.heap_alloc w2 _).2 i hi)⟩
           have hJ4 : J ss w4 := hJ ss w2 w4 none hJ2 hg24 (fun r e => by cases e)
           have hrg4 := hrg2.kept (hg24.block b hlt2.1 (by simp)) (hg24.block W.heap.size hlt2.2 (by simp))
           obtain ⟨fn, tmps, assign, body, hy, hR⟩ := hY ss x w4 hJ4 hlen
           rw [show kv x = arrV x.1 from rfl] at hy
           have hb4' := Lib.hid hb4
           clear hb4 hs4 hg4 hg24)
        | (guard_target = wpListIn _ _ _ _ _ (Oper.mk _ (Op.load _ _) _ _ _ _ :: _) _ _; refine in_load (l := x.1) rfl _ _ rfl (by rw [x.2]; rfl) rfl hb4'.out ?_)
        | gi_in)
      refine hR.mono ?_
      rintro e W3 (⟨rfl, hJ3, hk3⟩ | ⟨rfl, hJx3⟩)
      · gi_wp2
        have hrg3 := hrg4.walks hk3
        go_roundw
        case rel => exact ⟨cnt2, ss ++ [x], by simpa using hrg3, hJ3⟩
        case measure => rw [hrg3.left_eq, hrg.left_eq]; exact hlt
      · gi_wp2
        refine bodyPost_ret (results_none rfl _ _ _) rfl ?_
        exact ⟨⟨_, rfl⟩, .inr ⟨ss ++ [x], trivial, hJx3⟩⟩
set_option maxRecDepth 100000 in
set_option maxHeartbeats 2000000 in
theorem keys1_word (n l Bm b : Nat) (hn1 : 1 ≤ n) (es : Array MapEntry) (clock : Nat) (J Jx : List (Ky 32) → World → Prop)
    (hY : ∀ pre x W, J pre W → pre.length < es.size → YieldAt Fence.wide (n - 1) Tryz.prog l #[kv x] W fun e W' => (e = .returned (.bool true) ∧ J (pre ++ [x]) W' ∧ KeepsWalks W W') ∨ (e = .returned (.bool false) ∧ Jx (pre ++ [x]) W'))
    (W : World) (hJ : AbidesFrom W.heap.size J) (hm : W.cell? ⟨Bm, 0, none⟩ = some (.map (some b))) (hb : W.heap[b]? = some (.map es clock)) (hn : (es.toList.map (·.born)).Nodup) (hl : ∀ x ∈ es.toList, x.born < clock) (hkey : ∀ x ∈ es.toList, ∃ k : Ky 32, x.key = kv k) (h0 : J [] W) :
    CallsIn Fence.wide n Tryz.prog 125 #[.func (.yield l) #[] #[], .pointer (some ⟨Bm, 0, none⟩)] W fun e W' => (∃ v, e = .returned v) ∧ ((∃ ss : List (Ky 32), (ss.map kv).Perm (es.toList.map (·.key)) ∧ J ss W') ∨ (∃ pre : List (Ky 32), True ∧ Jx pre W')) := by
  refine callsIn_of_wp Tryz.func125 rfl trivial ?_ rfl
  simp only [Tryz.ntmps125, List.size_toArray, List.length_cons, List.length_nil, Nat.reduceAdd, Nat.reduceSub, Array.replicate_succ, Array.replicate_zero, List.push_toArray, List.append_toArray, List.nil_append, List.cons_append]
  have hrg0 := Rng.start hb hl
  have hJ0 := hJ [] W _ none h0 (World.grownBy_alloc W (.mapIter (some b) clock #[] clock) none) (fun r e => by cases e)
  have hlt0 : W.heap.size < (W.alloc (.mapIter (some b) clock #[] clock)).heap.size := by simp
  gi_wp2_with (first
    | (gi_at_range; refine in_range rfl _ 113 34 34 rfl Tryz.underlying113 rfl hb ?_)
    | gi_in)
  go_frame
  generalize W.alloc (.mapIter (some b) clock #[] clock) = w0 at hrg0 hJ0 hlt0 ⊢
  gi_loopw [3] (fun _ wr => ∃ (cnt : Nat) (ss : List (Ky 32)), Rng wr b W.heap.size es clock (ss.map kv) cnt ∧ J ss wr)
    (fun _ wr => wr.rangeLeft b W.heap.size)
  case atStart =>
    exact ⟨_, [], hrg0, hJ0⟩
  case round =>
    obtain ⟨cnt, ss, hrg, hJs⟩ := hrel
    gi_wp2_with (first
      | (gi_at_next; refine in_next rfl _ rfl rfl hrg hn ?_ ?_)
      | gi_in)
    · intro hc0 hp
      gi_wp2
      go_end0
      exact ⟨⟨_, rfl⟩, .inl ⟨ss, hp, hJs⟩⟩
    · intro e w2 cnt2 he hrg2 hlt hg2 hs2 hen
      obtain ⟨x, hx⟩ := hkey e (by simpa using he)
      have hlen : ss.length < es.size := by have := hrg.le; simp at this; omega
      have hJ2 : J ss w2 := hJ ss wr w2 (some W.heap.size) hJs hg2 (fun r e => by cases e; exact ⟨Nat.le_refl _, hrg.iter⟩)
      rw [hx] at hen hrg2 ⊢
      clear hs2
      have hlt2 := hrg2.lt
      gi_wp2_with (first
        | (guard_target = wpListIn _ _ _ _ _ (Oper.mk _ (Op.store _ _ _) _ _ _ _ :: _) _ _; refine in_store (l := x.1) (cs := List.replicate 32 (.int .u8 0)) rfl _ _ _ rfl (by rw [x.2]; rfl) rfl rfl (World.alloc_heap_new w2 _) (by rw [x.2]; rfl) ?_
           intro w4 hb4 hg4 hs4
           have hg24 : w2.grownBy w4 none := ⟨hg4.os.trans rfl, hg4.tape.trans rfl, hg4.output.trans rfl, by rw [hs4]; simp, fun i hi _ => (hg4.block i (by simp; omega) (fun e => by cases e; omega)).trans ((MapKept.heap_alloc w2 _).2 i hi)⟩
           have hJ4 : J ss w4 := hJ ss w2 w4 none hJ2 hg24 (fun r e => by cases e)
           have hrg4 := hrg2.kept (hg24.block b hlt2.1 (by simp)) (hg24.block W.heap.size hlt2.2 (by simp))
           obtain ⟨fn, tmps, assign, body, hy, hR⟩ := hY ss x w4 hJ4 hlen
           rw [show kv x = arrV x.1 from rfl] at hy
           have hb4' := Lib.hid hb4
           clear hb4 hs4 hg4 hg24)
        | (guard_target = wpListIn _ _ _ _ _ (Oper.mk _ (Op.load _ _) _ _ _ _ :: _) _ _; refine in_load (l := x.1) rfl _ _ rfl (by rw [x.2]; rfl) rfl hb4'.out ?_)
        | gi_in)
      refine hR.mono ?_
      rintro e W3 (⟨rfl, hJ3, hk3⟩ | ⟨rfl, hJx3⟩)
      · gi_wp2
        have hrg3 := hrg4.walks hk3
        go_roundw
        case rel => exact ⟨cnt2, ss ++ [x], by simpa using hrg3, hJ3⟩
        case measure => rw [hrg3.left_eq, hrg.left_eq]; exact hlt
      · gi_wp2
        refine bodyPost_ret (results_none rfl _ _ _) rfl ?_
        exact ⟨⟨_, rfl⟩, .inr ⟨ss ++ [x], trivial, hJx3⟩⟩
end E
end Go.Proofs.YtdhicdnmgmkpkaaGreat
