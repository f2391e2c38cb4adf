/-
 Merged (wip/tools/merge.py): TP8.
 Conditions: none.
-/
import Derived.Test.YtiledgojbpmoiaaGreatZQ19
namespace Go.Proofs.YtiledgojbpmoiaaGreat
set_option linter.unusedVariables false
set_option maxRecDepth 20000
set_option maxHeartbeats 8000000
open Go.RowKit Mono Rlp
namespace E
section
variable {N : Nat} {X : Cx N} {S : St} {ops : Array Oper} {o : Oper} {Q : Exit → Act → World → Prop} {l : List Oper} {TT : St → List Fr → Prop} {EE : List Fr} {rs : List (Tmp × R)} {os : List Obj} {fs : List (Value × D)}
theorem DL {x y : Operand} {T n e z g off : Nat} {k : Nat} (ho : o.op = .indexAddr T x y) (hx : ev S x = some (.val (.v (.pointer (some ⟨g, off, none⟩))))) (hy : ev S y = some (.val (.v (.int .u8 (k : Int))))) (hT : QD T n e z) (hk : k < n) : Still ops S o (.val (.v (.pointer (some ⟨g, off + k * z, none⟩)))) := fun base ok a w ha => by
 have hx' := gJ ha hx fun t e => aT e (by rw [ho]; simp [Op.operands])
 have hy' := gJ ha hy fun t e => aT e (by rw [ho]; simp [Op.operands])
 refine ⟨_, ?_, jr rfl⟩
 have h0 : (0 : Int) ≤ (k : Int) := by omega
 unfold execOp
 simp [ho, hx', hy', Instr.indexAt, run_underlying hT.und, asIntOf, h0, jR hT.size, dN, Instr.sureAddr, hk]
theorem mZ {t ty : Nat} {pos : String} {af : Array Edge} {gd : Option (Nat × Bool)} {x y : Operand} {T n e z g off k : Nat} (hx : ev (⟨rs, os, fs⟩ : St) x = some (.val (.v (.pointer (some ⟨g, off, none⟩))))) (hy : ev (⟨rs, os, fs⟩ : St) y = some (.val (.v (.int .u8 (k : Int))))) (hT : assoc arL T = some (n, e, z)) (hk : k < n) (hg : guardOf ops ⟨rs, os, fs⟩ ⟨some t, .indexAddr T x y, ty, pos, af, gd⟩ = some true) (hoff : eH N (some t) EE = true) (kk : EM N ops TT l ⟨(t, .val (.v (.pointer (some ⟨g, off + k * z, none⟩)))) :: rs, os, fs⟩ EE) : EM N ops TT (⟨some t, .indexAddr T x y, ty, pos, af, gd⟩ :: l) ⟨rs, os, fs⟩ EE := EH.still (DL rfl hx hy (Ns hT) hk) hg rfl hoff kk
theorem Le.QG {g : Nat} {t : TypeId} {d d' : D} (h : Refine fs d d') : Le X ⟨rs, .var g t d :: os, fs⟩ ⟨rs, .var g t d' :: os, fs⟩ := fun a w ha => by
 have hok : ∀ b, X.ok (.var g t d :: os) w b ↔ X.ok (.var g t d' :: os) w b := fun b => ⟨fun hb => ⟨hb.1, hb.2.1, fun o ho => by
   rcases List.mem_cons.1 ho with rfl | ho
   · exact hb.2.2 (.var g t d) List.mem_cons_self
   · exact hb.2.2 o (List.mem_cons_of_mem _ ho)⟩, fun hb => ⟨hb.1, hb.2.1, fun o ho => by
   rcases List.mem_cons.1 ho with rfl | ho
   · exact hb.2.2 (.var g t d') List.mem_cons_self
   · exact hb.2.2 o (List.mem_cons_of_mem _ ho)⟩⟩
 have hap := List.pairwise_cons.1 ha.mem.apart
 have hf : ∀ f ∈ fs, Reads (X.ok (.var g t d' :: os) w) w f.2 [f.1] := fun f hf => Reads.mono (fun b hb => (hok b).1 hb) (fun _ _ => rfl) _ _ (ha.mem.fact f hf)
 refine ⟨⟨ha.mem.gr, List.pairwise_cons.2 ⟨fun p hp b e => hap.1 p hp b e, hap.2⟩, fun o ho => ?_, hf⟩, fun t' r hr => (ha.regs t' r hr).mono (fun b hb => (hok b).1 hb) fun _ _ => rfl, ha.size, ha.defers⟩
 rcases List.mem_cons.1 ho with rfl | ho
 ·
  obtain ⟨h1, cs, h2, h3⟩ := ha.mem.at_ (.var g t d) List.mem_cons_self
  exact ⟨h1, cs, h2, (Refine.reads hf _ _ _ h (Reads.mono (fun b hb => (hok b).1 hb) (fun _ _ => rfl) _ _ h3)).1⟩
 · exact (ha.mem.at_ o (List.mem_cons_of_mem _ ho)).move (fun b hb => (hok b).1 hb) (fun _ _ => rfl) fun _ _ => rfl
end
theorem Ej : ∀ (ds : List D) (k : Nat) (d : D), (∀ e ∈ ds, e.size = 1 ∧ e.agg = false ∧ ∀ u, u.size = 1 → u.agg = false → e.upd 0 u = some u) → k < ds.length → d.size = 1 → d.agg = false → D.pG ds k d = some (ds.set k d)
 | [], k, d, _, h, _, _ => by simp at h
 | e :: ds, 0, d, he, h, h1, h2 => by
  obtain ⟨e1, e2, e3⟩ := he e (by simp)
  rw [D.pG, if_pos (by omega), e3 d h1 h2]
  rfl
 | e :: ds, k + 1, d, he, h, h1, h2 => by
  obtain ⟨e1, e2, e3⟩ := he e (by simp)
  rw [D.pG, if_neg (by omega), e1, Nat.add_sub_cancel, Ej ds k d (fun x hx => he x (by simp [hx])) (by simpa using h) h1 h2]
  rfl
theorem Vr (t : Tn) (u : D) (h1 : u.size = 1) (h2 : u.agg = false) : (dT t).upd 0 u = some u := by
 cases t <;> (rw [dT]; simp [D.upd, h1, h2])
theorem CV {ds : List D} {b : D} (k : Nat) (t : Tn) (hs : ∀ e ∈ ds, ∃ s : Tn, e = dT s) (hl : ds.length = 16) (hk : k < 16) : (D.tup [.tup ds, b]).upd k (dT t) = some (.tup [.tup (ds.set k (dT t)), b]) := by
 have hsz : D.sizes ds = 16 := by
  rw [← hl]
  clear hl hk
  induction ds with
  | nil => rfl
  | cons e ds ih =>
   obtain ⟨s, rfl⟩ := hs e (by simp)
   rw [D.sizes, (iT s).1, ih fun e he => hs e (by simp [he]), List.length_cons, Nat.add_comm]
 have h1 := (iT t).1
 have h2 := (iT t).2
 have h3 := Ej ds k (dT t) (fun e he => by
  obtain ⟨s, rfl⟩ := hs e he
  exact ⟨(iT s).1, (iT s).2, Vr s⟩) (by omega) h1 h2
 rw [D.upd, if_neg (by rw [h2]; simp), D.pG, if_pos (by rw [D.size, hsz]; exact hk), D.upd, if_neg (by rw [h2]; simp), h3]
 rfl
theorem Pn (p : List UInt8) (t : Tn) : oZ (([(0, 1, false), (1, 1, false)] : List (Nat × Nat × Bool)).map fun x => (x.1, x.2.1)) (.tup [.v (.slice none 0 0), .v .nilIface]) [(0, .bs p), (1, dT t)] = some (.tup [.bs p, dT t]) := by
 have h1 := (iT t).1
 have h2 := (iT t).2
 have h3 : (D.bs p).agg = false := rfl
 simp [oZ, D.upd, D.pG, D.size, D.sizes, h1, h2, h3]
theorem Hw {at_ : Nat} {l : List Pr} (h : kT at_ l) (h0 : 0 < l.length) (hf : at_ < (l[0]'h0).1.length) : ∀ z ∈ l, at_ < z.1.length := by
 cases l with
 | nil => simp at h0
 | cons x r =>
  intro z hz
  rcases List.mem_cons.1 hz with rfl | hz
  · exact hf
  · exact h.longer hz
theorem tX {at_ m n k : Nat} {l : List Pr} (h : kT at_ l) (hl : ∀ z ∈ l, at_ < z.1.length) (hrun : ∀ z ∈ (l.drop m).take n, (dO at_ z).toNat = k) : kT (at_ + 1) ((l.drop m).take n) := by
 have hs := h.sub ((List.take_sublist n (l.drop m)).trans (List.drop_sublist m l))
 have hlg : ∀ z ∈ (l.drop m).take n, at_ < z.1.length := fun z hz => hl z (List.mem_of_mem_drop (List.mem_of_mem_take hz))
 refine ⟨hs.ord, fun z hz => hlg z hz, fun x hx y hy => ?_, hs.nib⟩
 rw [List.take_add_one, List.take_add_one, hs.pre x hx y hy, kK (hlg x hx), kK (hlg y hy)]
 congr 1
 have : dO at_ x = dO at_ y := UInt8.toNat_inj.1 ((hrun x hx).trans (hrun y hy).symm)
 rw [this]
theorem tK {at_ m n : Nat} {L : List Pr} (h : kT at_ L) (hl : ∀ z ∈ L, at_ < z.1.length) (hm : m < L.length) (hn : n ≤ L.length - m) (hB : ∀ z ∈ L.take m, ∀ u ∈ L.drop m, (dO at_ z).toNat < (dO at_ u).toNat) (hrun : ∀ z ∈ (L.drop m).take n, (dO at_ z).toNat = (dO at_ L[m]).toNat) (hx : ∀ (hq : m + n < L.length), (dO at_ L[m + n]).toNat ≠ (dO at_ L[m]).toNat) : ∀ z ∈ L.take (m + n), ∀ u ∈ L.drop (m + n), (dO at_ z).toNat < (dO at_ u).toNat := by
 intro z hz u hu
 obtain ⟨j, hj, rfl⟩ := List.getElem_of_mem hu
 rw [List.length_drop] at hj
 rw [List.getElem_drop]
 have g1 := h.mono hl hm (show m + n < L.length by omega) (by omega)
 have g2 := h.mono hl (show m + n < L.length by omega) (show m + n + j < L.length by omega) (by omega)
 have g3 := hx (by omega)
 rw [List.take_add] at hz
 rcases List.mem_append.1 hz with hz | hz
 ·
  have := hB z hz L[m] (by rw [List.drop_eq_getElem_cons hm]; exact List.mem_cons_self)
  omega
 ·
  have := hrun z hz
  omega
theorem qg (f at_ : Nat) (L : List Pr) (m : Nat) : (∀ e ∈ jq f at_ L m, ∃ s : Tn, e = dT s) ∧ (jq f at_ L m).length = 16 := by
 unfold jq
 refine ⟨fun e he => ?_, by simp⟩
 obtain ⟨d, _, rfl⟩ := List.mem_map.1 he
 exact ⟨_, rfl⟩
theorem SA : ∀ (f : Nat) (l : List Pr) (at_ : Nat), kT at_ l → (∀ x ∈ l, x.1.length < at_ + f) → (∀ x ∈ l, x.1.length ≤ 1000000) → Fn 111 [.sl 2 (l.map dPr), .v (.int .i64 (at_ : Int))] (· = .val (dT (bdF f l at_))) := by
 intro f
 induction f with
 | zero =>
  intro l at_ h hl hm
  have hn : l = [] := List.eq_nil_iff_forall_not_mem.2 fun x hx => by
   have := hl x hx
   have := h.len x hx
   omega
  subst hn
  refine Fn.walk 114 Tryz.func111 rfl Tryz.ntmps111 (by simp) fun X => ?_
  repeat
   (first
    | (apply au; iterate 3 rfl) | (apply aj; iterate 3 rfl) | (apply aA (b := true); (iterate 2 rfl); exact aG; iterate 2 rfl)
    | (apply aB; iterate 4 rfl) | apply EL.nil | ((with_reducible apply EK.ah); apply EK.code) | (apply EC.cond_true; rfl)
    | (with_reducible first | apply EC.seq | apply EC.region | apply EC.ret | apply EK.aI))
  exact EK.fV rfl rfl rfl
 | succ f ih =>
  intro l at_ h hl hm
  match l with
  | [] =>
   refine Fn.walk 114 Tryz.func111 rfl Tryz.ntmps111 (by simp) fun X => ?_
   repeat
    (first
     | (apply au; iterate 3 rfl) | (apply aj; iterate 3 rfl) | (apply aA (b := true); (iterate 2 rfl); exact aG; iterate 2 rfl)
     | (apply aB; iterate 4 rfl) | apply EL.nil | ((with_reducible apply EK.ah); apply EK.code) | (apply EC.cond_true; rfl)
     | (with_reducible first | apply EC.seq | apply EC.region | apply EC.ret | apply EK.aI))
   exact EK.fV rfl rfl rfl
  | [x] =>
   rw [Ql, dT]
   have hx := h.len x (by simp)
   have hat : ([x].map dPr)[0]? = some (.tup [.bs x.1, .bs x.2]) := rfl
   refine Fn.walk 114 Tryz.func111 rfl Tryz.ntmps111 (by simp) fun X => ?_
   refine EC.lenOf (t := 0) rfl fun hmax => ?_
   unfold maxLen at hmax
   repeat
    (first
     | (apply au; iterate 3 rfl) | (apply aj; iterate 3 rfl) | (apply aA (b := false); (iterate 2 rfl); exact aG; iterate 2 rfl)
     | (apply aB; iterate 4 rfl) | apply EL.nil | ((with_reducible apply EK.ah); apply EK.code) | (apply EC.cond_false; rfl)
     | (with_reducible first | apply EC.seq | apply EC.region | apply EC.skip))
   refine EC.draw 16 (by kernel_rfl) ?_
   simp only [List.take_succ_cons, List.take_zero, List.drop_succ_cons, List.drop_zero]
   repeat
    (first
     | (apply qK; (iterate 3 rfl); exact ⟨by omega, by rw [Int.toNat_natCast]; exact hx⟩; iterate 2 rfl)
     | (apply bD; (iterate 4 rfl); exact ⟨by simp, hat⟩; iterate 2 rfl) | (apply aU; iterate 3 rfl) | (apply iE; iterate 3 rfl)
     | (apply aW; iterate 7 rfl) | (apply bG; iterate 5 rfl) | (apply mF; (iterate 3 rfl); (focus omega); (focus omega); iterate 2 rfl)
     | (apply jY; iterate 4 rfl) | ((with_reducible apply EH.nil); rfl))
   repeat
    (first
     | (apply jD; rfl; rfl; rfl; intro g; refine EL.le (Le.pin (p := 38) (pre := []) rfl rfl) ?_; simp only [List.nil_append]) | (apply au; iterate 3 rfl)
     | (apply aj; iterate 3 rfl) | (apply aP; iterate 7 rfl) | (apply aK; iterate 5 rfl)
     | (apply aA (b := true); (iterate 2 rfl); exact aG; iterate 2 rfl) | (apply aB; iterate 4 rfl)
     | (apply aX; (iterate 4 rfl); (focus (first | exact ⟨by decide, rfl⟩ | (refine ⟨by omega, ?_⟩; rw [Int.toNat_natCast]; assumption))); iterate 2 rfl)
     | (apply fE; iterate 7 rfl) | (apply xQ; iterate 4 rfl) | apply EL.nil | ((with_reducible apply EK.ah); apply EK.code) | (apply EC.cond_true; rfl)
     | (with_reducible first | apply EC.seq | apply EC.region | apply EC.ret | apply EK.aI))
   exact EK.fV rfl rfl rfl
  | x :: y :: r =>
   generalize hL : x :: y :: r = L at *
   have h1 : 1 < L.length := by rw [← hL]; simp
   have h0 : 0 < L.length := by omega
   have hx := h.len _ (List.getElem_mem h0)
   have hy := h.len _ (List.getElem_mem (show L.length - 1 < L.length by omega))
   have hml : (L.map dPr).length = L.length := by rw [List.length_map]
   have hat0 : (L.map dPr)[0]? = some (.tup [.bs L[0].1, .bs L[0].2]) := by rw [List.getElem?_map, List.getElem?_eq_getElem h0]; rfl
   have hatL : (L.map dPr)[L.length - 1]? = some (.tup [.bs L[L.length - 1].1, .bs L[L.length - 1].2]) := by rw [List.getElem?_map, List.getElem?_eq_getElem (by omega)]; rfl
   have hc := Nc (L[0].1.drop at_) (L[L.length - 1].1.drop at_)
   have hz0 : iG .eql ((L.map dPr).length : Int) 0 = some false := by
    have : ((L.map dPr).length : Int) ≠ 0 := by omega
    simp only [iG, Option.some.injEq, beq_eq_false_iff_ne]
    exact this
   have hz1 : iG .eql ((L.map dPr).length : Int) 1 = some false := by
    have : ((L.map dPr).length : Int) ≠ 1 := by omega
    simp only [iG, Option.some.injEq, beq_eq_false_iff_ne]
    exact this
   have hb0 := hm _ (List.getElem_mem h0)
   refine Fn.walk 114 Tryz.func111 rfl Tryz.ntmps111 (by simp) fun X => ?_
   refine EC.lenOf (t := 0) rfl fun hmax => ?_
   unfold maxLen at hmax
   by_cases hn : common (L[0].1.drop at_) (L[L.length - 1].1.drop at_) > 0
   ·
    rw [Qm f at_ L h1 hn, dT]
    have hR := h.more (n := common (L[0].1.drop at_) (L[L.length - 1].1.drop at_)) h0 rfl
    obtain ⟨_, c2, c3⟩ := gX (L[0].1.drop at_) (L[L.length - 1].1.drop at_)
    have c2' : common (L[0].1.drop at_) (L[L.length - 1].1.drop at_) ≤ L[0].1.length - at_ := by rwa [List.length_drop] at c2
    generalize hcn : common (L[0].1.drop at_) (L[L.length - 1].1.drop at_) = n at *
    have hr := ih L (at_ + n) hR (fun z hz => by have := hl z hz; omega) hm
    rw [Int.natCast_add] at hr
    repeat
     (first
      | (apply aA (b := false); (iterate 2 rfl); (first | exact hz0 | exact hz1); iterate 2 rfl) | (apply au; iterate 3 rfl) | (apply aj; iterate 3 rfl)
      | (apply aB; iterate 4 rfl) | apply EL.nil | ((with_reducible apply EK.ah); apply EK.code) | (apply EC.cond_false; rfl)
      | (with_reducible first | apply EC.seq | apply EC.region | apply EC.skip))
    refine EC.draw 16 (by kernel_rfl) ?_
    simp only [List.take_succ_cons, List.take_zero, List.drop_succ_cons, List.drop_zero]
    repeat
     (first
      | (apply qK; (iterate 3 rfl); exact ⟨by omega, by rw [Int.toNat_natCast]; first | exact hx | exact hy⟩; iterate 2 rfl)
      | (apply bD; (iterate 4 rfl); exact ⟨by decide, hat0⟩; iterate 2 rfl)
      | (apply bD; (iterate 4 rfl); exact ⟨by omega, by rw [show (((L.map dPr).length : Int) - 1).toNat = L.length - 1 by omega]; exact hatL⟩; iterate 2 rfl)
      | (apply aU; iterate 3 rfl) | (apply iE; iterate 3 rfl) | (apply aW; iterate 7 rfl) | (apply bG; iterate 5 rfl)
      | (apply mF; (iterate 3 rfl); (focus omega); (focus omega); iterate 2 rfl) | (apply jY; iterate 4 rfl) | ((with_reducible apply EH.nil); rfl))
    repeat
     (first
      | (apply aJ (hc); rfl; exact ak.refl _ _; exact enA; iterate 2 rfl) | (apply aA (b := false); (iterate 2 rfl); (first | exact hz0 | exact hz1); iterate 2 rfl)
      | (apply au; iterate 3 rfl) | (apply aj; iterate 3 rfl) | (apply aA (b := true); (iterate 2 rfl); exact aG; iterate 2 rfl)
      | (apply aB; iterate 4 rfl) | apply EL.nil | ((with_reducible apply EK.ah); apply EK.code) | (apply EC.cond_true; rfl) | (apply EC.cond_false; rfl)
      | (with_reducible first | apply EC.seq | apply EC.region | apply EC.skip))
    refine EC.draw 9 (by kernel_rfl) ?_
    simp only [List.take_succ_cons, List.take_zero, List.drop_succ_cons, List.drop_zero]
    repeat
     (first
      | (apply bP (hr); rfl; exact ak.refl _ _; exact enA; iterate 2 rfl) | (apply iL; (iterate 4 rfl); exact Pn _ _; iterate 2 rfl)
      | (apply Vl; (iterate 3 rfl); exact ⟨by omega, by rw [Int.toNat_natCast]; exact c2⟩; iterate 2 rfl) | (apply aU; iterate 3 rfl)
      | (apply mF; (iterate 3 rfl); (focus omega); (focus omega); iterate 2 rfl) | ((with_reducible apply EH.nil); rfl))
    repeat
     (first
      | (apply jD; rfl; rfl; rfl; intro g; refine EL.le (Le.pin (p := 54) (pre := []) rfl rfl) ?_; simp only [List.nil_append]) | (apply aj; iterate 3 rfl)
      | (apply xQ; iterate 4 rfl) | apply EL.nil | ((with_reducible apply EK.ah); apply EK.code) | (with_reducible first | apply EC.ret | apply EK.aI))
    exact EK.fV rfl rfl rfl
   ·
    have hn0 : common (L[0].1.drop at_) (L[L.length - 1].1.drop at_) = 0 := by omega
    rw [hn0] at hc
    by_cases hv : (L[0].1.drop at_).length = 0
    ·
     rw [Qo f at_ L h1 hn hv, dT]
     subst hL
     have hR' := h.sub (List.sublist_cons_self x (y :: r))
     have hl' : ∀ z ∈ y :: r, z.1.length < at_ + (f + 1) := fun z hz => hl z (List.mem_cons_of_mem _ hz)
     have hm' : ∀ z ∈ y :: r, z.1.length ≤ 1000000 := fun z hz => hm z (List.mem_cons_of_mem _ hz)
     have hyl : (y :: r).length + 1 = (x :: y :: r).length := rfl
     have hlong : ∀ z ∈ y :: r, at_ < z.1.length := fun z hz => h.longer hz
     have hvI : iG .eql (((x :: y :: r)[0].1.drop at_).length : Int) 0 = some true := by rw [hv]; rfl
     repeat
      (first
       | (apply aA (b := false); (iterate 2 rfl); (first | exact hz0 | exact hz1); iterate 2 rfl) | (apply au; iterate 3 rfl) | (apply aj; iterate 3 rfl)
       | (apply aB; iterate 4 rfl) | apply EL.nil | ((with_reducible apply EK.ah); apply EK.code) | (apply EC.cond_false; rfl)
       | (with_reducible first | apply EC.seq | apply EC.region | apply EC.skip))
     refine EC.draw 16 (by kernel_rfl) ?_
     simp only [List.take_succ_cons, List.take_zero, List.drop_succ_cons, List.drop_zero]
     repeat
      (first
       | (apply qK; (iterate 3 rfl); exact ⟨by omega, by rw [Int.toNat_natCast]; first | exact hx | exact hy⟩; iterate 2 rfl)
       | (apply bD; (iterate 4 rfl); exact ⟨by decide, hat0⟩; iterate 2 rfl)
       | (apply bD; (iterate 4 rfl); exact ⟨by omega, by rw [show ((((x :: y :: r).map dPr).length : Int) - 1).toNat = (x :: y :: r).length - 1 by omega]; exact hatL⟩; iterate 2 rfl)
       | (apply aU; iterate 3 rfl) | (apply iE; iterate 3 rfl) | (apply aW; iterate 7 rfl) | (apply bG; iterate 5 rfl)
       | (apply mF; (iterate 3 rfl); (focus omega); (focus omega); iterate 2 rfl) | (apply jY; iterate 4 rfl) | ((with_reducible apply EH.nil); rfl))
     repeat
      (first
       | (apply aJ (hc); rfl; exact ak.refl _ _; exact enA; iterate 2 rfl) | (apply aA (b := false); (iterate 2 rfl); (first | exact hz0 | exact hz1); iterate 2 rfl)
       | (apply aA (b := true); (iterate 2 rfl); exact hvI; iterate 2 rfl) | (apply aX; (iterate 4 rfl); exact ⟨by decide, hat0⟩; iterate 2 rfl)
       | (apply lZ; (iterate 3 rfl); exact ⟨by decide, (by rw [hml]; show 1 ≤ _; omega)⟩; iterate 2 rfl) | (apply au; iterate 3 rfl) | (apply aj; iterate 3 rfl)
       | (apply dF; iterate 6 rfl) | (apply aP; iterate 7 rfl) | (apply aK; iterate 5 rfl) | (apply dU; iterate 4 rfl)
       | (apply aB; iterate 4 rfl) | (apply fE; iterate 7 rfl) | (apply oM; iterate 3 rfl) | (apply jD; rfl; rfl; rfl; intro _)
       | (apply aO; rfl; (focus (repeat first | exact .z | apply aY.s | apply aN.s)); iterate 4 rfl) | apply EL.nil | ((with_reducible apply EK.ah); apply EK.code)
       | (apply EC.cond_true; rfl) | (apply EC.cond_false; rfl) | (with_reducible first | apply EC.seq | apply EC.region | apply EC.skip | apply EC.block))
     rename_i g
     refine EC.loop (ι := {m : Nat // m ≤ (y :: r).length ∧ ∀ z ∈ (y :: r).take m, ∀ u ∈ (y :: r).drop m, (dO at_ z).toNat < (dO at_ u).toNat})
      (fun m => ⟨[(0, .val (.sl 2 (((y :: r).drop m.1).map dPr))), (1, .val (.v (.int .i64 (at_ : Int)))), (8, .val (.v (.pointer (some ⟨g, 0, none⟩))))],
       [.var g 244 (.tup [.tup (jq f at_ (y :: r) m.1), .bs x.2])], []⟩)
      (fun m => (y :: r).length - m.1) ⟨0, by omega, by simp⟩ ?_ ?_
     ·
      dsimp only
      rw [wQ]
      exact Le.kp
     rintro ⟨m, hm0, hB⟩
     dsimp only
     have hd : (((y :: r).drop m).map dPr).length = (y :: r).length - m := by rw [List.length_map, List.length_drop]
     by_cases hlt : m < (y :: r).length
     ·
      have hatm : (((y :: r).drop m).map dPr)[0]? = some (.tup [.bs (y :: r)[m].1, .bs (y :: r)[m].2]) := by rw [List.getElem?_map, List.getElem?_drop, Nat.add_zero, List.getElem?_eq_getElem hlt]; rfl
      have hnm := kK (hlong _ (List.getElem_mem hlt))
      have hk16 : (dO at_ (y :: r)[m]).toNat < 16 := hR'.nib _ (List.getElem_mem hlt) _ (List.mem_of_getElem? hnm)
      have hgt : iG .gtr ((((y :: r).drop m).map dPr).length : Int) 0 = some true := by
       have : ((((y :: r).drop m).map dPr).length : Int) > 0 := by omega
       simp only [iG, Option.some.injEq, decide_eq_true_eq]
       exact this
      repeat
       (first
        | (apply aA (b := true); (iterate 2 rfl); exact hgt; iterate 2 rfl) | (apply aX; (iterate 4 rfl); exact ⟨by decide, hatm⟩; iterate 2 rfl)
        | (apply au; iterate 3 rfl) | (apply aj; iterate 3 rfl) | (apply aP; iterate 7 rfl) | (apply aK; iterate 5 rfl)
        | (apply aB; iterate 4 rfl)
        | (apply jP; (iterate 3 rfl); (focus (first | exact ⟨by decide, rfl⟩ | (refine ⟨by omega, ?_⟩; rw [Int.toNat_natCast]; assumption))); iterate 2 rfl) | apply EL.nil
        | ((with_reducible apply EK.ah); apply EK.code) | (apply EC.cond_true; rfl) | (with_reducible first | apply EC.seq | apply EC.region | apply EC.skip | apply EC.block))
      refine EC.loop (ι := {n : Nat // 1 ≤ n ∧ n ≤ (y :: r).length - m ∧ ∀ z ∈ ((y :: r).drop m).take n, (dO at_ z).toNat = (dO at_ (y :: r)[m]).toNat})
       (fun n => ⟨[(10, .val (.v (.int .i64 (n.1 : Int)))), (9, .val (.v (.int .u8 ((dO at_ (y :: r)[m]).toNat : Int)))), (0, .val (.sl 2 (((y :: r).drop m).map dPr))), (1, .val (.v (.int .i64 (at_ : Int)))), (8, .val (.v (.pointer (some ⟨g, 0, none⟩))))],
        [.var g 244 (.tup [.tup (jq f at_ (y :: r) m), .bs x.2])], []⟩)
       (fun n => (y :: r).length - m - n.1) ⟨1, by omega, by omega, fun z hz => by
        rw [List.drop_eq_getElem_cons hlt, List.take_succ_cons, List.take_zero] at hz
        rw [List.mem_singleton.1 hz]⟩ ?_ ?_
      · exact Le.kp
      rintro ⟨n, hn1, hn2, hrun⟩
      dsimp only
      by_cases hln : n < (y :: r).length - m
      ·
       have hatn : (((y :: r).drop m).map dPr)[n]? = some (.tup [.bs ((y :: r)[m + n]'(by omega)).1, .bs ((y :: r)[m + n]'(by omega)).2]) := by rw [List.getElem?_map, List.getElem?_drop, List.getElem?_eq_getElem (by omega)]; rfl
       have hnu := kK (hlong _ (List.getElem_mem (show m + n < (y :: r).length by omega)))
       have hls : iG .lss (n : Int) ((((y :: r).drop m).map dPr).length : Int) = some true := by
        have : (n : Int) < ((((y :: r).drop m).map dPr).length : Int) := by omega
        simp only [iG, Option.some.injEq, decide_eq_true_eq]
        exact this
       by_cases heq : (dO at_ ((y :: r)[m + n]'(by omega))).toNat = (dO at_ (y :: r)[m]).toNat
       ·
        have hce : iG .eql ((dO at_ ((y :: r)[m + n]'(by omega))).toNat : Int) ((dO at_ (y :: r)[m]).toNat : Int) = some true := by rw [heq]; simp [iG]
        repeat
         (first
          | (apply aA (b := true); (iterate 2 rfl); exact hls; iterate 2 rfl) | (apply aA (b := true); (iterate 2 rfl); exact hce; iterate 2 rfl)
          | (apply au; iterate 3 rfl) | (apply aj; iterate 3 rfl) | (apply aP; iterate 7 rfl) | (apply aK; iterate 5 rfl)
          | (apply bV; iterate 4 rfl) | (apply eU; (iterate 3 rfl); (focus omega); (focus omega); iterate 2 rfl) | (apply aB; iterate 4 rfl)
          | (apply aX; (iterate 4 rfl); (focus (first | exact ⟨by decide, rfl⟩ | (refine ⟨by omega, ?_⟩; rw [Int.toNat_natCast]; assumption))); iterate 2 rfl)
          | (apply jP; (iterate 3 rfl); (focus (first | exact ⟨by decide, rfl⟩ | (refine ⟨by omega, ?_⟩; rw [Int.toNat_natCast]; assumption))); iterate 2 rfl) | apply EL.nil
          | ((with_reducible apply EK.ah); apply EK.code) | (apply EC.cond_true; rfl) | (with_reducible first | apply EC.seq | apply EC.region | apply EC.skip | apply EC.block | apply EK.aF))
        refine EK.again ⟨n + 1, by omega, by omega, fun z hz => ?_⟩ (by dsimp only; omega) ?_
        ·
         rw [List.take_add_one, List.getElem?_drop, List.getElem?_eq_getElem (by omega)] at hz
         rcases List.mem_append.1 hz with hz | hz
         · exact hrun z hz
         ·
          have hz2 : z = (y :: r)[m + n]'(by omega) := by simpa using hz
          rw [hz2]
          exact heq
        dsimp only
        simp only [Int.natCast_add]
        exact Le.kp
       ·
        have hce : iG .eql ((dO at_ ((y :: r)[m + n]'(by omega))).toNat : Int) ((dO at_ (y :: r)[m]).toNat : Int) = some false := by
         simp only [iG, Option.some.injEq, beq_eq_false_iff_ne]
         omega
        repeat
         (first
          | (apply aA (b := true); (iterate 2 rfl); exact hls; iterate 2 rfl) | (apply aA (b := false); (iterate 2 rfl); exact hce; iterate 2 rfl)
          | (apply au; iterate 3 rfl) | (apply aP; iterate 7 rfl) | (apply aK; iterate 5 rfl) | (apply bV; iterate 4 rfl)
          | (apply aB; iterate 4 rfl)
          | (apply aX; (iterate 4 rfl); (focus (first | exact ⟨by decide, rfl⟩ | (refine ⟨by omega, ?_⟩; rw [Int.toNat_natCast]; assumption))); iterate 2 rfl)
          | (apply jP; (iterate 3 rfl); (focus (first | exact ⟨by decide, rfl⟩ | (refine ⟨by omega, ?_⟩; rw [Int.toNat_natCast]; assumption))); iterate 2 rfl) | apply EL.nil
          | ((with_reducible apply EK.ah); apply EK.code) | (apply EC.cond_false; rfl)
          | (with_reducible first | apply EC.seq | apply EC.region | apply EC.exit | apply EK.aZ | apply EK.aH))
        have hr := ih (((y :: r).drop m).take n) (at_ + 1) (tX hR' hlong hrun) (fun z hz => by have := hl' z (List.mem_of_mem_drop (List.mem_of_mem_take hz)); omega) (fun z hz => hm' z (List.mem_of_mem_drop (List.mem_of_mem_take hz)))
        rw [List.map_take, Int.natCast_add] at hr
        refine EC.draw 11 (by kernel_rfl) ?_
        simp only [List.take_succ_cons, List.take_zero, List.drop_succ_cons, List.drop_zero]
        repeat
         (first
          | (apply bP (hr); rfl; exact ak.refl _ _; exact enA; iterate 2 rfl)
          | (apply wC; (iterate 3 rfl); exact ⟨by omega, by rw [Int.toNat_natCast, hd]; exact hn2⟩; iterate 2 rfl) | (apply mZ; (iterate 3 rfl); exact hk16; iterate 2 rfl)
          | (apply aU; iterate 3 rfl) | (apply bH; iterate 6 rfl) | (apply mF; (iterate 3 rfl); (focus omega); (focus omega); iterate 2 rfl)
          | (apply eP; iterate 3 rfl) | ((with_reducible apply EH.nil); rfl))
        repeat
         (first
          | (apply aO; rfl; (focus (repeat first | exact .z | apply aY.s | apply aN.s)); rfl; exact (by rw [(iT _).1, (iT _).2]; rfl); exact (by rw [show 0 + 0 + (dO at_ (y :: r)[m]).toNat * 1 = (dO at_ (y :: r)[m]).toNat by omega]; exact CV _ _ (qg f at_ (y :: r) m).1 (qg f at_ (y :: r) m).2 hk16); rfl)
          | (apply lZ; (iterate 3 rfl); exact ⟨by omega, by rw [Int.toNat_natCast, hd]; exact hn2⟩; iterate 2 rfl) | (apply au; iterate 3 rfl)
          | (apply aj; iterate 3 rfl) | apply EL.nil | ((with_reducible apply EK.ah); apply EK.code) | (with_reducible first | apply EC.region | apply EK.aF))
        have hdd : (((y :: r).drop m).map dPr).drop n = ((y :: r).drop (m + n)).map dPr := by rw [← List.map_drop, List.drop_drop]
        refine EK.again ⟨m + n, by omega, tK hR' hlong hlt hn2 hB hrun fun _ => heq⟩ (by dsimp only; omega) ?_
        dsimp only
        rw [oz f at_ (y :: r) m n _ hk16 hrun (fun z hz => Nat.ne_of_lt (hB z hz (y :: r)[m] (by rw [List.drop_eq_getElem_cons hlt]; exact List.mem_cons_self))), ← hdd]
        exact Le.kp
      ·
       have hne : n = (y :: r).length - m := by omega
       have hls : iG .lss (n : Int) ((((y :: r).drop m).map dPr).length : Int) = some false := by
        have : ¬ (n : Int) < ((((y :: r).drop m).map dPr).length : Int) := by omega
        simp only [iG, Option.some.injEq, decide_eq_false_iff_not]
        exact this
       repeat
        (first
         | (apply fP; iterate 2 rfl) | (apply aA (b := false); (iterate 2 rfl); exact hls; iterate 2 rfl) | (apply au; iterate 3 rfl)
         | (apply bV; iterate 4 rfl) | (apply aB; iterate 4 rfl) | apply EL.nil | ((with_reducible apply EK.ah); apply EK.code) | (apply EC.cond_false; rfl)
         | (with_reducible first | apply EC.seq | apply EC.region | apply EC.exit | apply EK.aZ | apply EK.aH))
       have hr := ih (((y :: r).drop m).take n) (at_ + 1) (tX hR' hlong hrun) (fun z hz => by have := hl' z (List.mem_of_mem_drop (List.mem_of_mem_take hz)); omega) (fun z hz => hm' z (List.mem_of_mem_drop (List.mem_of_mem_take hz)))
       rw [List.map_take, Int.natCast_add] at hr
       refine EC.draw 11 (by kernel_rfl) ?_
       simp only [List.take_succ_cons, List.take_zero, List.drop_succ_cons, List.drop_zero]
       repeat
        (first
         | (apply bP (hr); rfl; exact ak.refl _ _; exact enA; iterate 2 rfl)
         | (apply wC; (iterate 3 rfl); exact ⟨by omega, by rw [Int.toNat_natCast, hd]; exact hn2⟩; iterate 2 rfl) | (apply mZ; (iterate 3 rfl); exact hk16; iterate 2 rfl)
         | (apply aU; iterate 3 rfl) | (apply bH; iterate 6 rfl) | (apply mF; (iterate 3 rfl); (focus omega); (focus omega); iterate 2 rfl)
         | (apply eP; iterate 3 rfl) | ((with_reducible apply EH.nil); rfl))
       repeat
        (first
         | (apply aO; rfl; (focus (repeat first | exact .z | apply aY.s | apply aN.s)); rfl; exact (by rw [(iT _).1, (iT _).2]; rfl); exact (by rw [show 0 + 0 + (dO at_ (y :: r)[m]).toNat * 1 = (dO at_ (y :: r)[m]).toNat by omega]; exact CV _ _ (qg f at_ (y :: r) m).1 (qg f at_ (y :: r) m).2 hk16); rfl)
         | (apply lZ; (iterate 3 rfl); exact ⟨by omega, by rw [Int.toNat_natCast, hd]; exact hn2⟩; iterate 2 rfl) | (apply au; iterate 3 rfl)
         | (apply aj; iterate 3 rfl) | apply EL.nil | ((with_reducible apply EK.ah); apply EK.code) | (with_reducible first | apply EC.region | apply EK.aF))
       have hdd : (((y :: r).drop m).map dPr).drop n = ((y :: r).drop (m + n)).map dPr := by rw [← List.map_drop, List.drop_drop]
       refine EK.again ⟨m + n, by omega, tK hR' hlong hlt hn2 hB hrun fun hq => absurd hq (by omega)⟩ (by dsimp only; omega) ?_
       dsimp only
       rw [oz f at_ (y :: r) m n _ hk16 hrun (fun z hz => Nat.ne_of_lt (hB z hz (y :: r)[m] (by rw [List.drop_eq_getElem_cons hlt]; exact List.mem_cons_self))), ← hdd]
       exact Le.kp
     ·
      obtain rfl : m = (y :: r).length := by omega
      refine EC.le (Le.QG (d' := .tup [.tup (jq f at_ (y :: r) (y :: r).length), .bs x.2]) (Rf.tup (RL.cons Rf.same (RL.cons Rf.same RL.nil)))) ?_
      refine EC.le (Le.pin (p := 8) (pre := []) rfl rfl) ?_
      simp only [List.nil_append]
      have hgt : iG .gtr ((((y :: r).drop (y :: r).length).map dPr).length : Int) 0 = some false := by
       have : ¬ ((((y :: r).drop (y :: r).length).map dPr).length : Int) > 0 := by omega
       simp only [iG, Option.some.injEq, decide_eq_false_iff_not]
       exact this
      repeat
       (first
        | (apply aA (b := false); (iterate 2 rfl); exact hgt; iterate 2 rfl) | (apply au; iterate 3 rfl) | (apply aj; iterate 3 rfl)
        | (apply aB; iterate 4 rfl) | (apply xQ; iterate 4 rfl) | apply EL.nil | ((with_reducible apply EK.ah); apply EK.code) | (apply EC.cond_false; rfl)
        | (with_reducible first | apply EC.seq | apply EC.region | apply EC.exit | apply EC.ret | apply EK.aZ | apply EK.aH))
      refine EK.fV rfl rfl ?_
      rw [y8]
      all_goals rfl
    ·
     rw [Qn f at_ L h1 hn hv, dT]
     repeat
      (first
       | (apply aA (b := false); (iterate 2 rfl); (first | exact hz0 | exact hz1); iterate 2 rfl) | (apply au; iterate 3 rfl) | (apply aj; iterate 3 rfl)
       | (apply aB; iterate 4 rfl) | apply EL.nil | ((with_reducible apply EK.ah); apply EK.code) | (apply EC.cond_false; rfl)
       | (with_reducible first | apply EC.seq | apply EC.region | apply EC.skip))
     refine EC.draw 16 (by kernel_rfl) ?_
     simp only [List.take_succ_cons, List.take_zero, List.drop_succ_cons, List.drop_zero]
     repeat
      (first
       | (apply qK; (iterate 3 rfl); exact ⟨by omega, by rw [Int.toNat_natCast]; first | exact hx | exact hy⟩; iterate 2 rfl)
       | (apply bD; (iterate 4 rfl); exact ⟨by decide, hat0⟩; iterate 2 rfl)
       | (apply bD; (iterate 4 rfl); exact ⟨by omega, by rw [show (((L.map dPr).length : Int) - 1).toNat = L.length - 1 by omega]; exact hatL⟩; iterate 2 rfl)
       | (apply aU; iterate 3 rfl) | (apply iE; iterate 3 rfl) | (apply aW; iterate 7 rfl) | (apply bG; iterate 5 rfl)
       | (apply mF; (iterate 3 rfl); (focus omega); (focus omega); iterate 2 rfl) | (apply jY; iterate 4 rfl) | ((with_reducible apply EH.nil); rfl))
     have hvI : iG .eql ((L[0].1.drop at_).length : Int) 0 = some false := by
      have : ((L[0].1.drop at_).length : Int) ≠ 0 := by omega
      simp only [iG, Option.some.injEq, beq_eq_false_iff_ne]
      exact this
     repeat
      (first
       | (apply aJ (hc); rfl; exact ak.refl _ _; exact enA; iterate 2 rfl)
       | (apply aA (b := false); (iterate 2 rfl); (first | exact hz0 | exact hz1 | exact hvI); iterate 2 rfl) | (apply au; iterate 3 rfl) | (apply aj; iterate 3 rfl)
       | (apply aA (b := false); (iterate 2 rfl); exact aG; iterate 2 rfl) | (apply dU; iterate 4 rfl) | (apply aB; iterate 4 rfl)
       | (apply fE; iterate 7 rfl) | (apply jD; rfl; rfl; rfl; intro _) | apply EL.nil | ((with_reducible apply EK.ah); apply EK.code)
       | (apply EC.cond_false; rfl) | (with_reducible first | apply EC.seq | apply EC.region | apply EC.skip | apply EC.block))
     have hR' := h
     have hl' := hl
     have hm' := hm
     have hlong : ∀ z ∈ L, at_ < z.1.length := Hw h h0 (by rw [List.length_drop] at hv; omega)
     rename_i g
     refine EC.loop (ι := {m : Nat // m ≤ L.length ∧ ∀ z ∈ L.take m, ∀ u ∈ L.drop m, (dO at_ z).toNat < (dO at_ u).toNat})
      (fun m => ⟨[(0, .val (.sl 2 ((L.drop m.1).map dPr))), (1, .val (.v (.int .i64 (at_ : Int)))), (8, .val (.v (.pointer (some ⟨g, 0, none⟩))))],
       [.var g 244 (.tup [.tup (jq f at_ L m.1), .v (.slice none 0 0)])], []⟩)
      (fun m => L.length - m.1) ⟨0, by omega, by simp⟩ ?_ ?_
     ·
      dsimp only
      rw [wQ]
      exact Le.kp
     rintro ⟨m, hm0, hB⟩
     dsimp only
     have hd : ((L.drop m).map dPr).length = L.length - m := by rw [List.length_map, List.length_drop]
     by_cases hlt : m < L.length
     ·
      have hatm : ((L.drop m).map dPr)[0]? = some (.tup [.bs L[m].1, .bs L[m].2]) := by rw [List.getElem?_map, List.getElem?_drop, Nat.add_zero, List.getElem?_eq_getElem hlt]; rfl
      have hnm := kK (hlong _ (List.getElem_mem hlt))
      have hk16 : (dO at_ L[m]).toNat < 16 := hR'.nib _ (List.getElem_mem hlt) _ (List.mem_of_getElem? hnm)
      have hgt : iG .gtr (((L.drop m).map dPr).length : Int) 0 = some true := by
       have : (((L.drop m).map dPr).length : Int) > 0 := by omega
       simp only [iG, Option.some.injEq, decide_eq_true_eq]
       exact this
      repeat
       (first
        | (apply aA (b := true); (iterate 2 rfl); exact hgt; iterate 2 rfl) | (apply aX; (iterate 4 rfl); exact ⟨by decide, hatm⟩; iterate 2 rfl)
        | (apply au; iterate 3 rfl) | (apply aj; iterate 3 rfl) | (apply aP; iterate 7 rfl) | (apply aK; iterate 5 rfl)
        | (apply aB; iterate 4 rfl)
        | (apply jP; (iterate 3 rfl); (focus (first | exact ⟨by decide, rfl⟩ | (refine ⟨by omega, ?_⟩; rw [Int.toNat_natCast]; assumption))); iterate 2 rfl) | apply EL.nil
        | ((with_reducible apply EK.ah); apply EK.code) | (apply EC.cond_true; rfl) | (with_reducible first | apply EC.seq | apply EC.region | apply EC.skip | apply EC.block))
      refine EC.loop (ι := {n : Nat // 1 ≤ n ∧ n ≤ L.length - m ∧ ∀ z ∈ (L.drop m).take n, (dO at_ z).toNat = (dO at_ L[m]).toNat})
       (fun n => ⟨[(10, .val (.v (.int .i64 (n.1 : Int)))), (9, .val (.v (.int .u8 ((dO at_ L[m]).toNat : Int)))), (0, .val (.sl 2 ((L.drop m).map dPr))), (1, .val (.v (.int .i64 (at_ : Int)))), (8, .val (.v (.pointer (some ⟨g, 0, none⟩))))],
        [.var g 244 (.tup [.tup (jq f at_ L m), .v (.slice none 0 0)])], []⟩)
       (fun n => L.length - m - n.1) ⟨1, by omega, by omega, fun z hz => by
        rw [List.drop_eq_getElem_cons hlt, List.take_succ_cons, List.take_zero] at hz
        rw [List.mem_singleton.1 hz]⟩ ?_ ?_
      · exact Le.kp
      rintro ⟨n, hn1, hn2, hrun⟩
      dsimp only
      by_cases hln : n < L.length - m
      ·
       have hatn : ((L.drop m).map dPr)[n]? = some (.tup [.bs (L[m + n]'(by omega)).1, .bs (L[m + n]'(by omega)).2]) := by rw [List.getElem?_map, List.getElem?_drop, List.getElem?_eq_getElem (by omega)]; rfl
       have hnu := kK (hlong _ (List.getElem_mem (show m + n < L.length by omega)))
       have hls : iG .lss (n : Int) (((L.drop m).map dPr).length : Int) = some true := by
        have : (n : Int) < (((L.drop m).map dPr).length : Int) := by omega
        simp only [iG, Option.some.injEq, decide_eq_true_eq]
        exact this
       by_cases heq : (dO at_ (L[m + n]'(by omega))).toNat = (dO at_ L[m]).toNat
       ·
        have hce : iG .eql ((dO at_ (L[m + n]'(by omega))).toNat : Int) ((dO at_ L[m]).toNat : Int) = some true := by rw [heq]; simp [iG]
        repeat
         (first
          | (apply aA (b := true); (iterate 2 rfl); exact hls; iterate 2 rfl) | (apply aA (b := true); (iterate 2 rfl); exact hce; iterate 2 rfl)
          | (apply au; iterate 3 rfl) | (apply aj; iterate 3 rfl) | (apply aP; iterate 7 rfl) | (apply aK; iterate 5 rfl)
          | (apply bV; iterate 4 rfl) | (apply eU; (iterate 3 rfl); (focus omega); (focus omega); iterate 2 rfl) | (apply aB; iterate 4 rfl)
          | (apply aX; (iterate 4 rfl); (focus (first | exact ⟨by decide, rfl⟩ | (refine ⟨by omega, ?_⟩; rw [Int.toNat_natCast]; assumption))); iterate 2 rfl)
          | (apply jP; (iterate 3 rfl); (focus (first | exact ⟨by decide, rfl⟩ | (refine ⟨by omega, ?_⟩; rw [Int.toNat_natCast]; assumption))); iterate 2 rfl) | apply EL.nil
          | ((with_reducible apply EK.ah); apply EK.code) | (apply EC.cond_true; rfl) | (with_reducible first | apply EC.seq | apply EC.region | apply EC.skip | apply EC.block | apply EK.aF))
        refine EK.again ⟨n + 1, by omega, by omega, fun z hz => ?_⟩ (by dsimp only; omega) ?_
        ·
         rw [List.take_add_one, List.getElem?_drop, List.getElem?_eq_getElem (by omega)] at hz
         rcases List.mem_append.1 hz with hz | hz
         · exact hrun z hz
         ·
          have hz2 : z = L[m + n]'(by omega) := by simpa using hz
          rw [hz2]
          exact heq
        dsimp only
        simp only [Int.natCast_add]
        exact Le.kp
       ·
        have hce : iG .eql ((dO at_ (L[m + n]'(by omega))).toNat : Int) ((dO at_ L[m]).toNat : Int) = some false := by
         simp only [iG, Option.some.injEq, beq_eq_false_iff_ne]
         omega
        repeat
         (first
          | (apply aA (b := true); (iterate 2 rfl); exact hls; iterate 2 rfl) | (apply aA (b := false); (iterate 2 rfl); exact hce; iterate 2 rfl)
          | (apply au; iterate 3 rfl) | (apply aP; iterate 7 rfl) | (apply aK; iterate 5 rfl) | (apply bV; iterate 4 rfl)
          | (apply aB; iterate 4 rfl)
          | (apply aX; (iterate 4 rfl); (focus (first | exact ⟨by decide, rfl⟩ | (refine ⟨by omega, ?_⟩; rw [Int.toNat_natCast]; assumption))); iterate 2 rfl)
          | (apply jP; (iterate 3 rfl); (focus (first | exact ⟨by decide, rfl⟩ | (refine ⟨by omega, ?_⟩; rw [Int.toNat_natCast]; assumption))); iterate 2 rfl) | apply EL.nil
          | ((with_reducible apply EK.ah); apply EK.code) | (apply EC.cond_false; rfl)
          | (with_reducible first | apply EC.seq | apply EC.region | apply EC.exit | apply EK.aZ | apply EK.aH))
        have hr := ih ((L.drop m).take n) (at_ + 1) (tX hR' hlong hrun) (fun z hz => by have := hl' z (List.mem_of_mem_drop (List.mem_of_mem_take hz)); omega) (fun z hz => hm' z (List.mem_of_mem_drop (List.mem_of_mem_take hz)))
        rw [List.map_take, Int.natCast_add] at hr
        refine EC.draw 11 (by kernel_rfl) ?_
        simp only [List.take_succ_cons, List.take_zero, List.drop_succ_cons, List.drop_zero]
        repeat
         (first
          | (apply bP (hr); rfl; exact ak.refl _ _; exact enA; iterate 2 rfl)
          | (apply wC; (iterate 3 rfl); exact ⟨by omega, by rw [Int.toNat_natCast, hd]; exact hn2⟩; iterate 2 rfl) | (apply mZ; (iterate 3 rfl); exact hk16; iterate 2 rfl)
          | (apply aU; iterate 3 rfl) | (apply bH; iterate 6 rfl) | (apply mF; (iterate 3 rfl); (focus omega); (focus omega); iterate 2 rfl)
          | (apply eP; iterate 3 rfl) | ((with_reducible apply EH.nil); rfl))
        repeat
         (first
          | (apply aO; rfl; (focus (repeat first | exact .z | apply aY.s | apply aN.s)); rfl; exact (by rw [(iT _).1, (iT _).2]; rfl); exact (by rw [show 0 + 0 + (dO at_ L[m]).toNat * 1 = (dO at_ L[m]).toNat by omega]; exact CV _ _ (qg f at_ L m).1 (qg f at_ L m).2 hk16); rfl)
          | (apply lZ; (iterate 3 rfl); exact ⟨by omega, by rw [Int.toNat_natCast, hd]; exact hn2⟩; iterate 2 rfl) | (apply au; iterate 3 rfl)
          | (apply aj; iterate 3 rfl) | apply EL.nil | ((with_reducible apply EK.ah); apply EK.code) | (with_reducible first | apply EC.region | apply EK.aF))
        have hdd : ((L.drop m).map dPr).drop n = (L.drop (m + n)).map dPr := by rw [← List.map_drop, List.drop_drop]
        refine EK.again ⟨m + n, by omega, tK hR' hlong hlt hn2 hB hrun fun _ => heq⟩ (by dsimp only; omega) ?_
        dsimp only
        rw [oz f at_ L m n _ hk16 hrun (fun z hz => Nat.ne_of_lt (hB z hz L[m] (by rw [List.drop_eq_getElem_cons hlt]; exact List.mem_cons_self))), ← hdd]
        exact Le.kp
      ·
       have hne : n = L.length - m := by omega
       have hls : iG .lss (n : Int) (((L.drop m).map dPr).length : Int) = some false := by
        have : ¬ (n : Int) < (((L.drop m).map dPr).length : Int) := by omega
        simp only [iG, Option.some.injEq, decide_eq_false_iff_not]
        exact this
       repeat
        (first
         | (apply fP; iterate 2 rfl) | (apply aA (b := false); (iterate 2 rfl); exact hls; iterate 2 rfl) | (apply au; iterate 3 rfl)
         | (apply bV; iterate 4 rfl) | (apply aB; iterate 4 rfl) | apply EL.nil | ((with_reducible apply EK.ah); apply EK.code) | (apply EC.cond_false; rfl)
         | (with_reducible first | apply EC.seq | apply EC.region | apply EC.exit | apply EK.aZ | apply EK.aH))
       have hr := ih ((L.drop m).take n) (at_ + 1) (tX hR' hlong hrun) (fun z hz => by have := hl' z (List.mem_of_mem_drop (List.mem_of_mem_take hz)); omega) (fun z hz => hm' z (List.mem_of_mem_drop (List.mem_of_mem_take hz)))
       rw [List.map_take, Int.natCast_add] at hr
       refine EC.draw 11 (by kernel_rfl) ?_
       simp only [List.take_succ_cons, List.take_zero, List.drop_succ_cons, List.drop_zero]
       repeat
        (first
         | (apply bP (hr); rfl; exact ak.refl _ _; exact enA; iterate 2 rfl)
         | (apply wC; (iterate 3 rfl); exact ⟨by omega, by rw [Int.toNat_natCast, hd]; exact hn2⟩; iterate 2 rfl) | (apply mZ; (iterate 3 rfl); exact hk16; iterate 2 rfl)
         | (apply aU; iterate 3 rfl) | (apply bH; iterate 6 rfl) | (apply mF; (iterate 3 rfl); (focus omega); (focus omega); iterate 2 rfl)
         | (apply eP; iterate 3 rfl) | ((with_reducible apply EH.nil); rfl))
       repeat
        (first
         | (apply aO; rfl; (focus (repeat first | exact .z | apply aY.s | apply aN.s)); rfl; exact (by rw [(iT _).1, (iT _).2]; rfl); exact (by rw [show 0 + 0 + (dO at_ L[m]).toNat * 1 = (dO at_ L[m]).toNat by omega]; exact CV _ _ (qg f at_ L m).1 (qg f at_ L m).2 hk16); rfl)
         | (apply lZ; (iterate 3 rfl); exact ⟨by omega, by rw [Int.toNat_natCast, hd]; exact hn2⟩; iterate 2 rfl) | (apply au; iterate 3 rfl)
         | (apply aj; iterate 3 rfl) | apply EL.nil | ((with_reducible apply EK.ah); apply EK.code) | (with_reducible first | apply EC.region | apply EK.aF))
       have hdd : ((L.drop m).map dPr).drop n = (L.drop (m + n)).map dPr := by rw [← List.map_drop, List.drop_drop]
       refine EK.again ⟨m + n, by omega, tK hR' hlong hlt hn2 hB hrun fun hq => absurd hq (by omega)⟩ (by dsimp only; omega) ?_
       dsimp only
       rw [oz f at_ L m n _ hk16 hrun (fun z hz => Nat.ne_of_lt (hB z hz L[m] (by rw [List.drop_eq_getElem_cons hlt]; exact List.mem_cons_self))), ← hdd]
       exact Le.kp
     ·
      obtain rfl : m = L.length := by omega
      refine EC.le (Le.QG (d' := .tup [.tup (jq f at_ L L.length), .bs []]) (Rf.tup (RL.cons Rf.same (RL.cons Rf.bs0 RL.nil)))) ?_
      refine EC.le (Le.pin (p := 8) (pre := []) rfl rfl) ?_
      simp only [List.nil_append]
      have hgt : iG .gtr (((L.drop L.length).map dPr).length : Int) 0 = some false := by
       have : ¬ (((L.drop L.length).map dPr).length : Int) > 0 := by omega
       simp only [iG, Option.some.injEq, decide_eq_false_iff_not]
       exact this
      repeat
       (first
        | (apply aA (b := false); (iterate 2 rfl); exact hgt; iterate 2 rfl) | (apply au; iterate 3 rfl) | (apply aj; iterate 3 rfl)
        | (apply aB; iterate 4 rfl) | (apply xQ; iterate 4 rfl) | apply EL.nil | ((with_reducible apply EK.ah); apply EK.code) | (apply EC.cond_false; rfl)
        | (with_reducible first | apply EC.seq | apply EC.region | apply EC.exit | apply EC.ret | apply EK.aZ | apply EK.aH))
      refine EK.fV rfl rfl ?_
      rw [y8]
      all_goals rfl
end E
end Go.Proofs.YtiledgojbpmoiaaGreat
