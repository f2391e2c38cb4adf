/-
 Merged: lemmas of this claim.
 Conditions: none.
-/
import Derived.Test.YtohlgnfachkmaaaGreatZA11
import Derived.Test.YtohlgnfachkmaaaGreatZA18
import Derived.Test.YtohlgnfachkmaaaGreatZA17
import Derived.Test.YtohlgnfachkmaaaGreatZA14
import Derived.Test.YtohlgnfachkmaaaGreatZA12
import Derived.Test.YtohlgnfachkmaaaGreatZA13
import Derived.Test.YtohlgnfachkmaaaGreatZA0
namespace Go.Proofs.YtohlgnfachkmaaaGreat
set_option linter.unusedVariables false
set_option maxRecDepth 20000
set_option maxHeartbeats 16000000
open Go.RowKit Mono Rlp Wd
namespace E
theorem As.kQ (A : As) (a : List UInt8) (x y : Ac) : (A.upd a x).upd a y = A.upd a y := by
 funext b
 unfold As.upd
 split <;> rfl
theorem As.upd_same (A : As) (a : List UInt8) (x : Ac) : (A.upd a x) a = x := if_pos rfl
theorem pU (A : As) (a : List UInt8) : ∀ (sl : List (List UInt8 × List UInt8)) (y : Ac), eY a sl (A.upd a y) = A.upd a {y with sl := sl.foldl (fun f p => fun k => if p.1 = k then p.2 else f k) y.sl}
 | [], y => rfl
 | p :: sl, y => by
  have := pU A a sl (y.slot p.1 p.2)
  unfold eY at this ⊢
  rw [N7, As.upd_same, As.kQ, this]
  rfl
theorem Gi (A : As) (x : AcL) : (⟨x.a, true, x.n, x.w, x.cd, x.sl⟩ : ChL).of A = A.upd x.a x.take := by
 unfold ChL.of ChL.base
 dsimp only
 rw [if_pos rfl]
 simp only [As.kQ, As.upd_same]
 rw [pU]
 rfl
theorem RSt.mono {g N M : Nat} {A : As} {os : List Obj} (h : RSt g A N os) (hm : N ≤ M) : RSt g A M os := by
 obtain ⟨L, k, n, l, rfl, hR, hl⟩ := h
 exact ⟨L, k, n, l, rfl, ⟨fun x hx => (hR.bd x hx).mono hm, hR.ord, hR.mem, hR.out⟩, LZ hl hm⟩
theorem RSt.nil (g : Nat) (L k : Value) (n : Int) : RSt g (dH []) 0 [rsO g L k n, .row L 57 55 []] := ⟨L, k, n, [], rfl, ⟨fun x hx => by simp at hx, .nil, fun x hx => by simp at hx, fun a _ => rfl⟩, LG _⟩
def wtL (l : List AcL) : Nat := (l.map fun x => 5 + x.sl.length).sum
theorem Cc (l : List AcL) (x : AcL) : wtL (l ++ [x]) = wtL l + (5 + x.sl.length) := by simp [wtL]
theorem pJ (l : List AcL) (x : AcL) : wtL (x :: l) = 5 + x.sl.length + wtL l := by simp [wtL]
theorem tK : ∀ l : List AcL, 5 * l.length ≤ wtL l
 | [] => LH _
 | x :: l => by
  have := tK l
  rw [pJ, Me]
  omega
theorem Cb (l : List AcL) (i : Nat) : wtL (l.take i) ≤ wtL l := by
 have h : ∀ (a b : List AcL), wtL a ≤ wtL (a ++ b) := fun a b => by simp [wtL]
 have := h (l.take i) (l.drop i)
 rwa [Nh] at this
theorem Ce (B : Nat) : ∀ l : List AcL, (∀ x ∈ l, x.sl.length ≤ B) → wtL l ≤ l.length * (5 + B)
 | [], _ => LH _
 | x :: l, h => by
  have h1 := Ce B l fun y hy => h y (Lu _ hy)
  have h2 := h x Ld
  rw [pJ, Me, Nat.succ_mul]
  omega
theorem Il (l : List AcL) (hwt : wtL l ≤ 1000000) (hB : ∀ x ∈ l, x.cd.length ≤ 140737488355328) : FnM 29 [.sl 55 (l.map ak)] [] (fun r os' => ∃ g, r = .val (.v (ptr g)) ∧ RSt g (dH l) (wtL l) os') := by
 have hll := tK l
 have hml : (l.map ak).length = l.length := Lc _
 refine FnM.walk 93 Tryz.func29 rfl Tryz.ntmps29 (by simp) fun X => ?_
 repeat (refine stp ?_; intros)
 rename_i g
 refine EC.le (Le.row 57 55) ?_
 refine EC.le (Le.pick [1, 0] [_, _] rfl (by decide) rfl) ?_
 refine EC.loop (ι := {x : Nat × List Obj // x.1 ≤ l.length ∧ RSt g (dH (l.take x.1)) (wtL (l.take x.1)) x.2})
  (fun x => ⟨[(4, .val (.v (.int .i64 (x.1.1 : Int)))), (3, .val (.v (ptr g))), (0, .val (.sl 55 (l.map ak)))], x.1.2, []⟩)
  (fun x => l.length - x.1.1) ⟨(0, _), LH _, RSt.nil g dn dn 0⟩ ?_ ?_
 · exact (Le.keep (by repeat first | exact trivial | refine ⟨rfl, ?_⟩) (by repeat first | exact LM _ | apply List.Sublist.cons_cons | apply List.Sublist.cons) (by simp))
 rintro ⟨⟨i, os1⟩, hil, h0⟩
 dsimp only at hil h0 ⊢
 by_cases hlt : i < l.length
 ·
  have hd : (l.map ak)[i]? = some (ak l[i]) := by rw [Ls, La hlt]; rfl
  have hBi := hB l[i] (MB hlt)
  have htk : dH (l.take (i + 1)) = (⟨l[i].a, true, l[i].n, l[i].w, l[i].cd, l[i].sl⟩ : ChL).of (dH (l.take i)) := by rw [Lm hlt, su, Gi]
  have htw : wtL (l.take (i + 1)) = wtL (l.take i) + (5 + l[i].sl.length) := by rw [Lm hlt, Cc]
  have hwi := Cb l (i + 1)
  generalize l[i] = x at hd hBi htk htw
  obtain ⟨xa, xn, xw, xc, xs⟩ := x
  unfold ak at hd
  dsimp only at hd hBi htk htw
  obtain ⟨W0, hw0⟩ : ∃ W0, wtL (l.take i) = W0 := ⟨_, rfl⟩
  have h00 : RSt g (dH (l.take i)) W0 os1 := hw0 ▸ h0
  rw [hw0] at htw
  have hmx : (xs.map aA).length = xs.length := Lc _
  repeat
   (first
    | (apply bG (zx h00 (a := xa) (by omega)) [] rfl rfl (ah.refl _ _) (by intro _ _; simp [go_sem]) rfl rfl; rintro _ os2 ⟨rfl, h1⟩; simp only [KO]) | (refine stp ?_; intros))
  refine EC.aZ 12 [0, 1, 2, 3, 4, 5, 6, 7, 8, 9, 10] [11] os2 _ (by kernel_rfl) (by kernel_rfl) (List.append_nil _).symm ?_
  simp only [au, KW, KY, KT, KU]
  repeat (refine sth ?_; intros)
  refine EM.nil ?_
  repeat (first | rw [KN] | rw [KO])
  refine CH.bC (rest := []) (jY h1 (a := xa) (by omega) xn) (k := ?_)
  rintro _ os3 ⟨rfl, h2⟩
  simp only [St.put, List.append_nil]
  refine CH.nil ?_
  try simp only [KP, KR]
  repeat (refine stp ?_; intros)
  refine EC.aZ 12 [0, 1, 2, 3, 4, 5, 6, 7, 8, 9, 10] [11] os3 _ (by kernel_rfl) (by kernel_rfl) (List.append_nil _).symm ?_
  simp only [au, KW, KY, KT, KU]
  repeat (refine sth ?_; intros)
  refine EM.nil ?_
  repeat (first | rw [KN] | rw [KO])
  refine CH.bC (rest := []) (iT h2 (a := xa) (by omega) xw) (k := ?_)
  rintro _ os4 ⟨rfl, h3⟩
  simp only [St.put, List.append_nil]
  refine CH.nil ?_
  try simp only [KP, KR]
  repeat (refine stp ?_; intros)
  refine EC.aZ 12 [0, 1, 2, 3, 4, 5, 6, 7, 8, 9, 10] [11] os4 _ (by kernel_rfl) (by kernel_rfl) (List.append_nil _).symm ?_
  simp only [au, KW, KY, KT, KU]
  repeat (refine sth ?_; intros)
  refine EM.nil ?_
  repeat (first | rw [KN] | rw [KO])
  refine CH.bC (rest := []) (lM h3 (a := xa) (by omega) xc hBi) (k := ?_)
  rintro _ os5 ⟨rfl, h4⟩
  simp only [St.put, List.append_nil]
  refine CH.nil ?_
  try simp only [KP, KR]
  repeat (refine stp ?_; intros)
  have h5 : RSt g (ChL.base ⟨xa, true, xn, xw, xc, xs⟩ (dH (l.take i))) (W0 + 5) os5 := RSt.mono h4 (by omega)
  clear h1 h2 h3 h4
  refine EC.loop (ι := {x : Nat × List Obj // x.1 ≤ xs.length ∧ RSt g (eY xa (xs.take x.1) (ChL.base ⟨xa, true, xn, xw, xc, xs⟩ (dH (l.take i)))) (W0 + 5 + x.1) x.2})
   (fun x => ⟨[(5, .val (.v (.int .i64 (x.1.1 : Int)))), (4, .val (.v (.int .i64 (i : Int)))), (3, .val (.v (ptr g))), (0, .val (.sl 55 (l.map ak)))], x.1.2, []⟩)
   (fun x => xs.length - x.1.1) ⟨(0, os5), LH _, h5⟩ ?_ ?_
  · exact (Le.keep (by repeat first | exact trivial | refine ⟨rfl, ?_⟩) (by repeat first | exact LM _ | apply List.Sublist.cons_cons | apply List.Sublist.cons) (by simp))
  rintro ⟨⟨j, os6⟩, hjl, h6⟩
  dsimp only at hjl h6 ⊢
  by_cases hlj : j < xs.length
  ·
   have hd2 : (xs.map aA)[j]? = some (aA xs[j]) := by rw [Ls, La hlj]; rfl
   have htk2 : xs.take (j + 1) = xs.take j ++ [xs[j]] := Lm hlj
   generalize xs[j] = y at hd2 htk2
   obtain ⟨q, v⟩ := y
   unfold aA at hd2
   dsimp only at hd2
   repeat (refine stp ?_; intros)
   refine EC.aZ 25 [0, 1, 2, 3, 4, 5, 6, 7, 8, 9, 10, 11, 12, 13, 14, 15, 16, 17, 18, 19, 20, 21, 22, 23] [24] os6 _ (by kernel_rfl) (by kernel_rfl) (List.append_nil _).symm ?_
   simp only [au, KW, KY, KT, KU]
   repeat (refine sth ?_; intros)
   refine EM.nil ?_
   repeat (first | rw [KN] | rw [KO])
   refine CH.bC (rest := []) (lK h6 (a := xa) (by omega) q v) (k := ?_)
   rintro _ os7 ⟨rfl, h7⟩
   simp only [St.put, List.append_nil]
   refine CH.nil ?_
   try simp only [KP, KR]
   repeat (refine stp ?_; intros)
   refine EK.again ⟨(j + 1, os7), hlj, by rw [htk2, gB]; exact h7⟩ (by dsimp only; omega) ?_
   simp only [LK]
   exact (Le.keep (by repeat first | exact trivial | refine ⟨rfl, ?_⟩) (by repeat first | exact LM _ | apply List.Sublist.cons_cons | apply List.Sublist.cons) (by simp))
  ·
   have hjE : j = xs.length := by omega
   subst hjE
   rw [L9] at h6
   repeat (refine stp ?_; intros)
   refine EK.again ⟨(i + 1, os6), hlt, ?_⟩ (by dsimp only; omega) ?_
   ·
    dsimp only
    rw [htk]
    exact RSt.mono h6 (by omega)
   ·
    simp only [LK]
    exact (Le.keep (by repeat first | exact trivial | refine ⟨rfl, ?_⟩) (by repeat first | exact LM _ | apply List.Sublist.cons_cons | apply List.Sublist.cons) (by simp))
 ·
  have hiE : i = l.length := by omega
  subst hiE
  rw [L9] at h0
  repeat (refine stp ?_; intros)
  exact EK.aI os1 rfl rfl (by (repeat first | exact LM _ | apply List.Sublist.cons_cons | apply List.Sublist.cons)) ⟨g, rfl, h0⟩
theorem FnM.frz {f : FuncId} {ds : List D} {os : List Obj} {Φ : R → List Obj → Prop} (e z : Nat) (h : FnM f ds os (fun r os' => ∃ v ds' rest, r = .val (.v v) ∧ os' = .row v e z ds' :: rest ∧ Φ (.val (.sl z ds')) rest)) : FnM f ds os Φ := ⟨fun ok w xs h1 h2 h3 => (h.go ok w xs h1 h2 h3).mono fun en w' ⟨u, r, os', e1, ⟨v, ds', rest, e2, e3, hΦ⟩, ht, hv⟩ => by
 subst e2 e3
 obtain rfl := (aG.1 hv).2
 have hk : ∀ b, okM ok os w (.row u e z ds' :: rest) w' b → okM ok os w rest w' b := fun b hb => ⟨hb.1, hb.2.1, fun o ho => hb.2.2 o (Lu _ ho)⟩
 obtain ⟨rows, ⟨g1, hmine⟩, g2⟩ := ht.at_ (.row u e z ds') Ld
 have hap := Mc.1 ht.apart
 refine ⟨u, .val (.sl z ds'), rest, e1, hΦ, ⟨ht.gr, hap.2, fun o ho => (ht.at_ o (Lu _ ho)).move hk (fun _ _ => rfl) fun _ _ => rfl⟩, ?_⟩
 obtain ⟨A, c, rfl, hc1, hc2⟩ := iy g1
 refine (bQ rfl).2 ?_
 rw [Reads]
 refine ⟨A, c, rows, rfl, hc1, hc2, fun e => by subst e; exact wE g1, fun hn => ?_, aj.mono hk (fun _ _ => rfl) z ds' rows g2⟩
 obtain ⟨b, o, rfl, hb, hc⟩ := zC g1 hn
 exact ⟨b, o, rfl, ⟨(hmine b rfl).elim (fun h => .inr (.inl h)) (fun h => .inr (.inr h)), hb.2, fun p hp e => hap.1 p hp b rfl e⟩, hc⟩⟩
def AcL.empty (x : AcL) : Bool := decide (x.n = 0) && (x.w == zero32) && x.cd.isEmpty && x.sl.isEmpty
theorem AcL.Is.jo {x : AcL} {y : Ac} (h : x.Is y) : x.empty = true ↔ y = Ac.zero := by
 unfold AcL.empty
 simp only [MI, decide_eq_true_eq, beq_iff_eq, List.isEmpty_iff]
 constructor
 ·
  rintro ⟨⟨⟨h1, h2⟩, h3⟩, h4⟩
  have hs : y.sl = fun _ => zero32 := by
   funext k
   refine LY fun hn => ?_
   obtain ⟨p, hp, _⟩ := h.all k hn
   rw [h4] at hp
   simp at hp
  have e1 := h.n
  have e2 := h.w
  have e3 := h.cd
  cases y
  unfold Ac.zero
  dsimp only at *
  subst hs
  rw [← e1, ← e2, ← e3, h1, h2, h3]
 ·
  rintro rfl
  refine ⟨⟨⟨h.n, h.w⟩, h.cd⟩, List.eq_nil_iff_forall_not_mem.2 fun p hp => ?_⟩
  obtain ⟨h1, h2⟩ := h.val p hp
  exact h2 h1
theorem Bl (x : AcL) : Fn 83 [ak x] (· = .val (.v (.bool x.empty))) := by
 obtain ⟨xa, n, w, cd, ss⟩ := x
 have hz := (aP w zero32).1
 unfold AcL.empty ak
 dsimp only
 refine Fn.walk 24 Tryz.func83 rfl Tryz.ntmps83 (by simp) fun X => ?_
 by_cases h1 : n = 0
 ·
  by_cases h2 : (w == zero32) = true
  ·
   rw [h2] at hz
   by_cases h3 : cd = []
   ·
    by_cases h4 : ss = []
    ·
     subst h3
     subst h4
     rw [h2]
     subst h1
     repeat
      (first
       | (refine bH (hrun := hz) (kk := ?_)) | (refine stp ?_; intros))
     exact EK.jg rfl rfl rfl
    ·
     subst h3
     have h5 : ss.isEmpty = false := by cases ss with | nil => exact absurd rfl h4 | cons _ _ => rfl
     have h6 : (ss.map aA).length ≠ 0 := by cases ss with | nil => exact absurd rfl h4 | cons _ _ => simp
     rw [h2, h5]
     subst h1
     repeat
      (first
       | (refine bH (hrun := hz) (kk := ?_)) | (refine stp ?_; intros))
     exact EK.jg rfl rfl rfl
   ·
    have h5 : cd.isEmpty = false := by cases cd with | nil => exact absurd rfl h3 | cons _ _ => rfl
    rw [h2, h5]
    subst h1
    repeat
     (first
      | (refine bH (hrun := hz) (kk := ?_)) | (refine stp ?_; intros))
    exact EK.jg rfl rfl rfl
  ·
   have h2 : (w == zero32) = false := by simpa using h2
   rw [h2] at hz ⊢
   subst h1
   repeat
    (first
     | (refine bH (hrun := hz) (kk := ?_)) | (refine stp ?_; intros))
   exact EK.jg rfl rfl rfl
 ·
  have h5 : decide (n = 0) = false := by simp [h1]
  rw [h5]
  repeat (refine stp ?_; intros)
  exact EK.jg rfl rfl rfl
theorem yX (l : List AcL) (hll : l.length ≤ 1000000) (hB : ∀ x ∈ l, x.sl.length ≤ 1000000 ∧ x.cd.length ≤ 140737488355328) : FnM 84 [.sl 55 (l.map ak)] [] (fun r os' => ∃ v, r = .val (.v v) ∧ os' = [.row v 57 55 (l.map ak)]) := by
 have hml : (l.map ak).length = l.length := Lc _
 refine FnM.walk 35 Tryz.func84 rfl Tryz.ntmps84 (by simp) fun X => ?_
 repeat (refine stp ?_; intros)
 refine EC.le (Le.row 57 55) ?_
 refine EC.loop (ι := {x : Nat × Value // x.1 ≤ l.length})
  (fun x => ⟨[(4, .val (.v (.int .i64 (x.1.1 : Int)))), (3, .val (.v x.1.2)), (0, .val (.sl 55 (l.map ak)))], [.row x.1.2 57 55 ((l.take x.1.1).map ak)], []⟩)
  (fun x => l.length - x.1.1) ⟨(0, dn), LH _⟩ ?_ ?_
 · exact Le.kp
 rintro ⟨⟨i, v⟩, hil⟩
 dsimp only at hil ⊢
 by_cases hlt : i < l.length
 ·
  have hd : (l.map ak)[i]? = some (ak l[i]) := by rw [Ls, La hlt]; rfl
  have hBi := hB l[i] (MB hlt)
  have htk : (l.take (i + 1)).map ak = (l.take i).map ak ++ [ak l[i]] := by rw [Lm hlt, MC]; rfl
  have hlen : ((l.take i).map ak).length = i := by rw [Lc, MJ]; omega
  generalize l[i] = x at hd hBi htk
  obtain ⟨xa, xn, xw, xc, xs⟩ := x
  unfold ak at hd
  dsimp only at hd hBi
  have hmx : (xs.map aA).length = xs.length := Lc _
  have hv := hBi.2
  repeat
   (first
    | (apply Af hv; iterate 3 rfl) | (refine stp ?_; intros))
  refine EL.le (Le.row 86 64) ?_
  repeat (refine stp ?_; intros)
  dsimp only
  refine EK.le (Le.freeze (pre := []) rfl) ?_
  simp only [KO]
  rename_i sv v'
  refine EK.le (Le.pick [1, 0] [_, _] rfl (by decide) rfl) ?_
  refine EK.le (Le.FY (ds' := (l.take i).map ak ++ [.tup [.arr 20 xa, .v (.int .i64 xn), .arr 32 xw, .bs xc, .sl 64 (xs.map aA)]]) (RL.append (ah.refl _ _) (RL.cons (Rf.tup (RL.cons Rf.same (RL.cons Rf.same (RL.cons Rf.same (RL.cons Rf.same (RL.cons (Rf.fact Ld rfl) RL.nil)))))) RL.nil))) ?_
  refine EK.again ⟨(i + 1, v'), hlt⟩ (by dsimp only; omega) ?_
  dsimp only
  rw [htk]
  unfold ak
  dsimp only
  simp only [LK]
  exact Le.kp
 ·
  have hiE : i = l.length := by omega
  subst hiE
  rw [L9]
  repeat (refine stp ?_; intros)
  exact EK.aI [.row v 57 55 (l.map ak)] rfl rfl (by (repeat first | exact KZ _ | apply List.Sublist.cons_cons | apply List.Sublist.cons)) ⟨v, rfl, rfl⟩
theorem Et {A : As} {N : Nat} {l : List AcL} (h : RL A N l) : Canon A (l.filter fun x => !x.empty) := by
 refine ⟨h.ord.filter _, fun x hx => ?_, fun a ha => ?_⟩
 ·
  obtain ⟨h1, h2⟩ := Np.1 hx
  refine ⟨h.mem x h1, fun e => ?_⟩
  rw [((h.mem x h1).jo).2 e] at h2
  simp at h2
 ·
  have hm : a ∈ l.map AcL.a := LY fun hn => ha (h.out a hn)
  obtain ⟨x, hx, rfl⟩ := Ll.1 hm
  refine ⟨x, Np.2 ⟨hx, ?_⟩, rfl⟩
  cases he : x.empty with
  | false => rfl
  | true => exact absurd ((h.mem x hx).jo.1 he) ha
theorem oV {g N : Nat} {A : As} {os : List Obj} (h : RSt g A N os) (hN : N ≤ 1000000) : FnM 34 [.v (ptr g)] os (fun r os' => ∃ L v, Canon A L ∧ L.length ≤ N ∧ r = .val (.v v) ∧ os' = .row v 57 55 (L.map ak) :: os) := by
 obtain ⟨L, k, n, l, rfl, hR, hlN⟩ := h
 have hC := Et hR
 have hCl : (l.filter fun x => !x.empty).length ≤ N := LZ (MN _ _) hlN
 have hcp := yX (l.filter fun x => !x.empty) (by omega) fun x hx => by have := hR.bd x (Np.1 hx).1; exact ⟨LZ this.1 hN, this.2⟩
 have hml : (l.map ak).length = l.length := Lc _
 refine FnM.walk 35 Tryz.func34 rfl Tryz.ntmps34 (by simp) fun X => ?_
 repeat (refine stp ?_; intros)
 refine EC.le (Le.row 57 55) ?_
 refine EC.loop (ι := {x : Nat × Value // x.1 ≤ l.length})
  (fun x => ⟨[(4, .val (.v (.int .i64 (x.1.1 : Int)))), (3, .val (.v x.1.2)), (0, .val (.v (ptr g)))], [.row x.1.2 57 55 (((l.take x.1.1).filter fun x => !x.empty).map ak), rsO g L k n, raA L l], []⟩)
  (fun x => l.length - x.1.1) ⟨(0, dn), LH _⟩ ?_ ?_
 · exact Le.kp
 rintro ⟨⟨i, v⟩, hil⟩
 dsimp only at hil ⊢
 by_cases hlt : i < l.length
 ·
  have hd : (l.map ak)[i]? = some (ak l[i]) := by rw [Ls, La hlt]; rfl
  have htk : ((l.take (i + 1)).filter fun x => !x.empty) = ((l.take i).filter fun x => !x.empty) ++ ([l[i]].filter fun x => !x.empty) := by rw [Lm hlt, Ny]
  have hlen : ((l.take i).filter fun x => !x.empty).length ≤ i := LZ (MN _ _) (by rw [MJ]; omega)
  have hem := Bl l[i]
  generalize l[i] = x at hd htk hem
  generalize ((l.take i).filter fun x => !x.empty) = F at hlen htk ⊢
  have hFl : (F.map ak).length = F.length := Lc _
  cases he : x.empty with
  | true =>
   rw [he] at hem
   have hfx : ([x].filter fun x => !x.empty) = [] := by simp [he]
   rw [hfx, List.append_nil] at htk
   repeat
    (first
     | (apply bn (k := i) (off := 0) (d := ak x); rfl; exact I2; exact ⟨by simp, hd⟩; iterate 4 rfl) | (refine dQ (hem) (kk := ?_))
     | (refine stp ?_; intros))
   refine EK.again ⟨(i + 1, v), hlt⟩ (by dsimp only; omega) ?_
   dsimp only
   rw [htk]
   simp only [LK]
   exact Le.kp
  | false =>
   rw [he] at hem
   have hfx : ([x].filter fun x => !x.empty) = [x] := by simp [he]
   rw [hfx] at htk
   repeat
    (first
     | (apply bn (k := i) (off := 0) (d := ak x); rfl; exact I2; exact ⟨by simp, hd⟩; iterate 4 rfl) | (refine dQ (hem) (kk := ?_))
     | (refine stp ?_; intros))
   rename_i v'
   refine EK.again ⟨(i + 1, v'), hlt⟩ (by dsimp only; omega) ?_
   dsimp only
   rw [htk, MC]
   simp only [LK]
   exact Le.kp
 ·
  have hiE : i = l.length := by omega
  subst hiE
  rw [L9]
  refine EC.le (Le.freeze (pre := []) rfl) ?_
  refine EC.le (Le.refine (t := 3) rfl (Rf.fact Ld rfl)) ?_
  repeat
   (first
    | (refine aH (os := []) hcp (kk := ?_); rintro _ _ ⟨v2, rfl, rfl⟩; simp only [KN, KO])
    | (refine stp ?_; intros))
  exact EK.aI (.row _ 57 55 ((l.filter fun x => !x.empty).map ak) :: [rsO g L k n, raA L l]) rfl rfl (by (repeat first | exact KZ _ | apply List.Sublist.cons_cons | apply List.Sublist.cons)) ⟨_, _, hC, hCl, rfl, rfl⟩
theorem oz {g N : Nat} {A : As} {os : List Obj} (h : RSt g A N os) (hN : N ≤ 1000000) : FnM 34 [.v (ptr g)] os (fun r os' => (∃ L, Canon A L ∧ L.length ≤ N ∧ r = .val (.sl 55 (L.map ak))) ∧ os' = os) :=
 FnM.frz 57 55 ((oV h hN).mono fun r os' ⟨L, v, h1, h2, h3, h4⟩ => ⟨v, _, os, h3, h4, ⟨L, h1, h2, rfl⟩, rfl⟩)
end E
end Go.Proofs.YtohlgnfachkmaaaGreat
namespace Go.Proofs.YtohlgnfachkmaaaGreat
set_option linter.unusedVariables false
set_option maxRecDepth 20000
set_option maxHeartbeats 8000000
open Go.RowKit Mono Rlp Wd Go.Sort
namespace E
theorem Bo (l : List (List UInt8 × List UInt8)) (hl : l.length ≤ 1000000) : FnM 129 [.sl 64 (l.map aA)] [] (fun r os' => r = .val (.sl 64 (l.map aA)) ∧ os' = []) := by
 have hml : (l.map aA).length = l.length := Lc _
 refine FnM.walk 8 Tryz.func129 rfl Tryz.ntmps129 (by simp) fun X => ?_
 repeat
  (first
   | (apply Hl; (iterate 6 rfl); intro v hv) | (refine stp ?_; intros))
 cases v with
 | true =>
  have h0 := hv rfl
  rw [h0]
  repeat (refine stp ?_; intros)
  exact EK.qh [] rfl rfl (RL.cons Rf.sl0 RL.nil) (KZ _) ⟨rfl, rfl⟩
 | false =>
  repeat
   (first
    | (refine EL.mut (os := []) (rest := []) rfl (fK rfl rfl) (Jc rfl rfl rfl) ?_; rintro _ _ ⟨v, rfl, rfl⟩; simp only [St.put, KN, KO]) | (refine stp ?_; intros))
  refine EK.le (Le.freeze (pre := []) rfl) ?_
  exact EK.qh [] rfl rfl (RL.cons (Rf.fact Ld rfl) RL.nil) (KZ _) ⟨rfl, rfl⟩
theorem zV (x : AcL) (hx : x.sl.length ≤ 1000000) (hc : x.cd.length ≤ 140737488355328) : FnM 91 [ak x] [] (fun r os' => r = .val (ak x) ∧ os' = []) := by
 have h1 := mJ x.cd hc
 have h2 := Bo x.sl hx
 obtain ⟨xa, n, w, cd, ss⟩ := x
 unfold ak
 dsimp only at h1 h2 ⊢
 refine FnM.walk 12 Tryz.func91 rfl Tryz.ntmps91 (by simp) fun X => ?_
 repeat (refine stp ?_; intros)
 rename_i g1 g2
 refine EC.aZ 7 [0, 1, 3, 4, 6] [2, 5] [] _ (by kernel_rfl) (by kernel_rfl) rfl ?_
 simp only [au, KW, KY, KT, KU]
 repeat (refine sth ?_; intros)
 refine EM.nil ?_
 repeat (first | rw [KN] | rw [KO])
 refine CH.cut 1 ?_
 simp only [KQ, KX, KP, KR]
 repeat
  (first
   | (refine dB (h1) (kk := ?_)) | (refine sth ?_; intros))
 refine EM.nil ?_
 repeat (first | rw [KN] | rw [KO])
 refine CH.bC (os := []) (rest := []) h2 (k := ?_)
 rintro _ _ ⟨rfl, rfl⟩
 try simp only [St.put]
 repeat (first | rw [KN] | rw [KO])
 refine CH.nil ?_
 try simp only [KP, KR]
 repeat (refine stp ?_; intros)
 refine EK.dY 0 [] rfl rfl rfl rfl ?_ (KZ _) ⟨rfl, rfl⟩
 (exact RL.a)
theorem sZ (x : AcL) (m : List UInt8) : Fn 93 ([ak x, .arr 20 m] ++ []) (· = .val (.v (.int .i64 (dA x.a m)))) := by
 obtain ⟨xa, n, w, cd, ss⟩ := x
 unfold ak
 dsimp only [List.append_nil]
 refine Fn.walk 9 Tryz.func93 rfl Tryz.ntmps93 (by simp) fun X => ?_
 repeat (refine stp ?_; intros)
 refine EC.draw 4 (by kernel_rfl) ?_
 simp only [KQ, KX, KP, KR]
 repeat
  (first
   | (apply jJ gV; iterate 3 rfl) | (apply EH.grow (xu (i1 := 1) (i2 := 0) (m1 := 20) (m2 := 20) rfl rfl rfl rfl rfl rfl rfl rfl rfl); rfl; rfl; rfl)
   | (refine sth ?_; intros))
 repeat (refine stp ?_; intros)
 exact EK.jg rfl rfl rfl
def AcL.same (x y : AcL) : Bool := decide (x.n = y.n) && (x.w == y.w) && (x.cd == y.cd)
theorem jr : ∀ a b : List UInt8, dA a b = 0 ↔ a = b
 | [], [] => by simp [dA, Lib.compareBytes]
 | _ :: _, [] => by simp [dA, Lib.compareBytes]
 | [], _ :: _ => by simp [dA, Lib.compareBytes]
 | a :: x, b :: y => by
  rw [dA, Lib.compareBytes]
  by_cases h1 : a = b
  ·
   subst h1
   have := jr x y
   unfold dA at this
   simp [this, UInt8.lt_irrefl]
  ·
   by_cases h2 : a < b
   · simp [h1, h2]
   ·
    have h3 : b < a := by
     rcases UInt8.lt_or_lt_of_ne h1 with h | h
     · exact absurd h h2
     · exact h
    simp [h1, h2, h3]
theorem xK (a b : List UInt8) : dA a b < 0 ↔ a < b := by
 have := iO a b
 simpa using this
theorem zY (n : Nat) (hn : n ≤ 9223372036854775807) (m : Int) (hm : m = (n : Int)) : ∀ w, (Go.convert 3 156 (.int .i64 m)).run Tryz.prog w = .ok (.int .u64 (n : Int)) w :=
 mO (T := 3) (U := 156) (k := .i64) (k' := .u64) Tryz.underlying3 Tryz.underlying156 m (n : Int) (by rw [IntKind.wrap_u64]; omega)
theorem zX (n : Nat) (hn : n ≤ 9223372036854775807) : ∀ w, (Go.convert 156 3 (.int .u64 (n : Int))).run Tryz.prog w = .ok (.int .i64 (n : Int)) w :=
 mO (T := 156) (U := 3) (k := .u64) (k' := .i64) Tryz.underlying156 Tryz.underlying3 (n : Int) (n : Int) (by rw [IntKind.wrap_i64]; omega)
theorem EK.fO {N : Nat} {X : Cx N} {fn : Func} {Φ : R → List Obj → Prop} {S : St} {t u : Tmp} {d e d' e' : D} (os' : List Obj) (hres : fn.results = #[.tmp t, .tmp u]) (hl : look S.regs t = some (.val d)) (hk : look S.regs u = some (.val e)) (hR : ah S.facts [d, e] [d', e']) (ho : os'.Sublist S.objs) (hΦ : Φ (.tpl [d', e']) os') : EK X (bodyPost Tryz.prog fn (qZ X Φ) .ret) S := by
 refine EK.le (S' := ⟨S.regs, os', S.facts⟩) ?_ (EK.Dk hres hl hk hR hΦ)
 exact fun a w h => ⟨h.mem.less ho (fun f hf => hf), fun t r ht => aO.mono (fun b hb => l7 ho hb) (fun _ _ => rfl) (h.regs t r ht), h.size, h.defers⟩
structure xX {α : Type} (key : α → List UInt8) (L : List α) (a : List UInt8) (k : Nat) (b : Bool) : Prop where
 le : k ≤ L.length
 yes : b = true → ∃ h : k < L.length, key L[k] = a
 no : b = false → ∀ x ∈ L, key x ≠ a
structure Srk {α : Type} (key : α → List UInt8) (L : List α) (a : List UInt8) (i j : Nat) : Prop where
 ij : i ≤ j
 le : j ≤ L.length
 lo : ∀ q (h : q < L.length), q < i → key L[q] < a
 hi : ∀ q (h : q < L.length), j ≤ q → ¬ key L[q] < a
theorem Srk.up {α : Type} {key : α → List UInt8} {L : List α} {a : List UInt8} {i j h : Nat} (hs : Srk key L a i j) (ho : L.Pairwise fun x y => key x < key y) (hl : h < L.length) (hj : h < j) (hc : key L[h] < a) : Srk key L a (h + 1) j :=
 ⟨hj, hs.le, fun q hq hqh => by
  by_cases e : q = h
  ·
   subst e
   exact hc
  · exact NK (MO.1 ho q h hq hl (by omega)) hc, hs.hi⟩
theorem Srk.down {α : Type} {key : α → List UInt8} {L : List α} {a : List UInt8} {i j h : Nat} (hs : Srk key L a i j) (ho : L.Pairwise fun x y => key x < key y) (hl : h < L.length) (hi : i ≤ h) (hc : ¬ key L[h] < a) : Srk key L a i h :=
 ⟨hi, OD hl, hs.lo, fun q hq hqh hlt => by
  by_cases e : q = h
  ·
   subst e
   exact hc hlt
  · exact hc (NK (MO.1 ho h q hl hq (by omega)) hlt)⟩
theorem Srk.none {α : Type} {key : α → List UInt8} {L : List α} {a : List UInt8} {k : Nat} (hs : Srk key L a k k) (ho : L.Pairwise fun x y => key x < key y) (h : ∀ hk : k < L.length, key L[k] ≠ a) : ∀ x ∈ L, key x ≠ a := fun x hx e => by
 obtain ⟨q, hq, rfl⟩ := Ns hx
 rcases NG q k with hqk | rfl | hqk
 ·
  have := hs.lo q hq hqk
  rw [e] at this
  exact MF _ this
 · exact h hq e
 ·
  have h1 := MO.1 ho k q (by omega) hq hqk
  rw [e] at h1
  exact hs.hi k (by omega) (LG _) h1
theorem Ew {L : List AcL} (ho : L.Pairwise fun x y => x.a < y.a) (hl : L.length ≤ 1000000) (a : List UInt8) : FnM 92 [.sl 55 (L.map ak), .arr 20 a, .v (.func (.func 93) #[] #[])] [] (fun r os' => (∃ k b, xX AcL.a L a k b ∧ r = .tpl [.v (.int .i64 (k : Nat)), .v (.bool b)]) ∧ os' = []) := by
 have hml : (L.map ak).length = L.length := Lc _
 refine FnM.walk 49 Tryz.func92 rfl Tryz.ntmps92 (by simp) fun X => ?_
 repeat (refine stp ?_; intros)
 rename_i g4
 refine EC.loop (ι := {x : Nat × Nat // Srk AcL.a L a x.1 x.2})
  (fun x => ⟨[(9, .val (.v (.int .i64 (x.1.1 : Int)))), (10, .val (.v (.int .i64 (x.1.2 : Int)))), (8, .val (.v (.int .i64 (L.map ak).length))), (4, .val (.v (ptr g4))), (2, .val (.v (.func (.func 93) #[] #[]))), (0, .val (.sl 55 (L.map ak)))], [.var g4 36 (.arr 20 a)], []⟩)
  (fun x => x.1.2 - x.1.1) ⟨(0, L.length), LH _, LG _, fun q _ h => absurd h (Nat.not_lt_zero _), fun q h h2 => absurd h (by dsimp only at h2; omega)⟩ ?_ ?_
 ·
  dsimp only
  rw [hml]
  exact Le.kp
 rintro ⟨⟨i, j⟩, hs⟩
 dsimp only at hs ⊢
 have hij := hs.ij
 have hjl := hs.le
 by_cases hlt : i < j
 ·
  have hhl : (i + j) / 2 < L.length := by omega
  have hd : (L.map ak)[(i + j) / 2]? = some (ak L[(i + j) / 2]) := by rw [Ls, La hhl]; rfl
  have hup := hs.up ho hhl (by omega)
  have hdn := hs.down ho hhl (by omega)
  have c1 := zY (i + j) (by omega) ((i : Int) + (j : Int)) (by omega)
  have c2 := zX ((i + j) / 2) (by omega)
  have hh := xP (i + j) (by omega)
  have hlo : i ≤ (i + j) / 2 := by omega
  have hhi : (i + j) / 2 < j := by omega
  generalize (i + j) / 2 = h at hhl hd hup hdn c2 hh hlo hhi
  generalize L[h] = x at hd hup hdn
  have hc := sZ x a
  rw [← xK] at hup hdn
  obtain ⟨xa, xn, xw, xc, xs⟩ := x
  unfold ak at hd hc
  dsimp only at hd hc hup hdn
  by_cases hcm : dA xa a < 0
  ·
   skip
   repeat
    (first
     | (apply iZ; rfl; exact c1; iterate 3 rfl) | (apply iZ; rfl; exact c2; iterate 3 rfl) | (refine bH (hrun := hh) (kk := ?_))
     | (refine stp ?_; intros))
   refine EC.draw 8 (by kernel_rfl) ?_
   simp only [KQ, KX, KP, KR]
   repeat
    (first
     | (apply EH.grow (iL (caps := []) (cds := []) hc (fun _ _ _ _ _ _ => rfl) rfl rfl rfl (ah.refl _ _) (by intro _ _; simp [go_sem])); rfl; rfl; rfl) | (refine sth ?_; intros))
   repeat (refine stp ?_; intros)
   refine EK.again ⟨(h + 1, j), hup hcm⟩ (by dsimp only; omega) ?_
   simp only [LK]
   exact Le.kp
  ·
   skip
   repeat
    (first
     | (apply iZ; rfl; exact c1; iterate 3 rfl) | (apply iZ; rfl; exact c2; iterate 3 rfl) | (refine bH (hrun := hh) (kk := ?_))
     | (refine stp ?_; intros))
   refine EC.draw 8 (by kernel_rfl) ?_
   simp only [KQ, KX, KP, KR]
   repeat
    (first
     | (apply EH.grow (iL (caps := []) (cds := []) hc (fun _ _ _ _ _ _ => rfl) rfl rfl rfl (ah.refl _ _) (by intro _ _; simp [go_sem])); rfl; rfl; rfl) | (refine sth ?_; intros))
   repeat (refine stp ?_; intros)
   refine EK.again ⟨(i, h), hdn hcm⟩ (by dsimp only; omega) ?_
   exact Le.kp
 ·
  obtain rfl : i = j := by omega
  by_cases hlt : i < L.length
  ·
   have hd : (L.map ak)[i]? = some (ak L[i]) := by rw [Ls, La hlt]; rfl
   have hyes : AcL.a L[i] = a → xX AcL.a L a i true := fun h => ⟨hjl, fun _ => ⟨hlt, h⟩, fun h => (by cases h)⟩
   have hno : AcL.a L[i] ≠ a → xX AcL.a L a i false := fun h => ⟨hjl, fun h => (by cases h), fun _ => hs.none ho fun _ => h⟩
   generalize L[i] = x at hd hyes hno
   have hc := sZ x a
   rw [← jr] at hyes
   rw [ne_eq, ← jr] at hno
   obtain ⟨xa, xn, xw, xc, xs⟩ := x
   unfold ak at hd hc
   dsimp only at hd hc hyes hno
   by_cases hcm : dA xa a = 0
   ·
    skip
    repeat (refine stp ?_; intros)
    refine EC.draw 15 (by kernel_rfl) ?_
    simp only [KQ, KX, KP, KR]
    repeat
     (first
      | (apply EH.grow (iL (caps := []) (cds := []) hc (fun _ _ _ _ _ _ => rfl) rfl rfl rfl (ah.refl _ _) (by intro _ _; simp [go_sem])); rfl; rfl; rfl) | (refine sth ?_; intros))
    repeat (refine stp ?_; intros)
    exact EK.fO [] rfl rfl rfl (ah.refl _ _) (KZ _) ⟨⟨i, true, hyes hcm, rfl⟩, rfl⟩
   ·
    skip
    repeat (refine stp ?_; intros)
    refine EC.draw 15 (by kernel_rfl) ?_
    simp only [KQ, KX, KP, KR]
    repeat
     (first
      | (apply EH.grow (iL (caps := []) (cds := []) hc (fun _ _ _ _ _ _ => rfl) rfl rfl rfl (ah.refl _ _) (by intro _ _; simp [go_sem])); rfl; rfl; rfl) | (refine sth ?_; intros))
    repeat (refine stp ?_; intros)
    exact EK.fO [] rfl rfl rfl (ah.refl _ _) (KZ _) ⟨⟨i, false, hno hcm, rfl⟩, rfl⟩
  ·
   have hno : xX AcL.a L a i false := ⟨hjl, fun h => (by cases h), fun _ => hs.none ho fun hk => absurd hk hlt⟩
   repeat (refine stp ?_; intros)
   refine EC.draw 15 (by kernel_rfl) ?_
   simp only [KQ, KX, KP, KR]
   repeat (refine sth ?_; intros)
   repeat (refine stp ?_; intros)
   exact EK.fO [] rfl rfl rfl (ah.refl _ _) (KZ _) ⟨⟨i, false, hno, rfl⟩, rfl⟩
theorem o7 (a : List UInt8) : (AcL.none a).Is Ac.zero := ⟨rfl, rfl, rfl, .nil, fun p hp => by simp [AcL.none] at hp, fun k hk => absurd rfl hk⟩
theorem J5 {A : As} {L : List AcL} (h : Canon A L) (hl : L.length ≤ 1000000) (hb : ∀ x ∈ L, x.sl.length ≤ 1000000 ∧ x.cd.length ≤ 140737488355328) (a : List UInt8) : FnM 46 [.sl 55 (L.map ak), .arr 20 a] [] (fun r os' => (∃ x, (x ∈ L ∨ x = AcL.none a) ∧ x.a = a ∧ x.Is (A a) ∧ r = .val (ak x)) ∧ os' = []) := by
 have hml : (L.map ak).length = L.length := Lc _
 have h1 := Ew h.ord hl a
 refine FnM.walk 22 Tryz.func46 rfl Tryz.ntmps46 (by simp) fun X => ?_
 repeat (refine stp ?_; intros)
 rename_i g3 g4
 repeat
  (first
   | (refine aH (os := []) h1 (kk := ?_); rintro _ _ ⟨⟨k, b, hs, rfl⟩, rfl⟩; simp only [KO])
   | (refine stp ?_; intros))
 cases b with
 | true =>
  obtain ⟨hk, hka⟩ := hs.yes rfl
  have hd : (L.map ak)[k]? = some (ak L[k]) := by rw [Ls, La hk]; rfl
  have hmem := MB hk
  have his := (h.mem _ hmem).1
  rw [hka] at his
  have hc := zV L[k] (hb _ hmem).1 (hb _ hmem).2
  generalize L[k] = x at hd hmem hka his hc
  have hx : ak x = .tup [.arr 20 x.a, .v (.int .i64 x.n), .arr 32 x.w, .bs x.cd, .sl 64 (x.sl.map aA)] := rfl
  rw [hx] at hd hc
  repeat
   (first
    | (refine eU (hc) (kk := ?_)) | (refine stp ?_; intros))
  exact EK.dY 0 [] rfl rfl rfl rfl (ah.refl _ _) (KZ _) ⟨⟨x, .inl hmem, hka, his, rfl⟩, rfl⟩
 | false =>
  have hz : A a = Ac.zero := LY fun hne => by
   obtain ⟨x, hx, e⟩ := h.all a hne
   exact hs.no rfl x hx e
  have his := o7 a
  rw [← hz] at his
  repeat (refine stp ?_; intros)
  refine EK.dY 0 [] rfl rfl rfl rfl ?_ (KZ _) ⟨⟨_, .inr rfl, rfl, his, rfl⟩, rfl⟩
  unfold ak AcL.none
  (exact RL.a)
end E
end Go.Proofs.YtohlgnfachkmaaaGreat
namespace Go.Proofs.YtohlgnfachkmaaaGreat
set_option linter.unusedVariables false
open Go.RowKit Mono Rlp
namespace E
theorem FnM.fn {f : FuncId} {ds : List D} {Φ : R → Prop} (h : FnM f ds [] (fun r os' => Φ r ∧ os' = [])) : Fn f ds Φ := ⟨fun ok w xs hok hr => by
 refine (h.go ok w xs hok ⟨fun o ho => by simp at ho, .nil, fun b ⟨o, ho, _⟩ => by simp at ho⟩ hr).mono ?_
 rintro e w' ⟨v, r, os', rfl, ⟨hΦ, rfl⟩, ht, hv⟩
 refine ⟨ht.gr.gr fun b ⟨o, ho, _⟩ => by simp at ho, v, r, rfl, hΦ, hv.mono (fun b hb => ⟨?_, hb.2.1⟩) fun _ _ => rfl⟩
 rcases hb.1 with h | ⟨o, ho, _⟩ | h
 · exact .inl h
 · simp at ho
 · exact .inr h⟩
end E
end Go.Proofs.YtohlgnfachkmaaaGreat
namespace Go.Proofs.YtohlgnfachkmaaaGreat
set_option linter.unusedVariables false
open Go.RowKit Mono Rlp Wd Go.Sort
namespace E
def ddF (l : List (List UInt8)) : List (List UInt8) := l.foldl (fun acc x => if acc.getLast? = some x then acc else acc ++ [x]) []
theorem tq (l : List (List UInt8)) (x : List UInt8) : ddF (l ++ [x]) = if (ddF l).getLast? = some x then ddF l else ddF l ++ [x] := by unfold ddF; rw [List.foldl_append]; rfl
theorem CP {P : List (List UInt8) → Prop} (h0 : P []) (h1 : ∀ l x, P l → P (l ++ [x])) (l : List (List UInt8)) : P l := by
 have h : ∀ n, ∀ l : List (List UInt8), l.length = n → P l := fun n => by
  induction n with
  | zero =>
   intro l hl
   rw [ML hl]
   exact h0
  | succ n ih =>
   intro l hl
   have hne : l ≠ [] := fun e => by rw [e] at hl; cases hl
   rw [← List.dropLast_concat_getLast hne]
   exact h1 _ _ (ih _ (by rw [List.length_dropLast, hl]; rfl))
 exact h _ l rfl
theorem Ep (l : List (List UInt8)) : (ddF l).getLast? = l.getLast? := by
 refine CP (P := fun l => (ddF l).getLast? = l.getLast?) rfl (fun l x ih => ?_) l
 rw [tq]
 split
 ·
  rename_i h
  rw [h, List.getLast?_append]
  rfl
 · simp
theorem Eo (l : List (List UInt8)) (x : List UInt8) : ddF (l ++ [x]) = if l.getLast? = some x then ddF l else ddF l ++ [x] := by rw [tq, Ep]
theorem Ak (K : List (List UInt8)) {k : Nat} (h0 : 0 < k) (hk : k ≤ K.length) : (K.take k).getLast? = some K[k - 1] := by
 rw [List.getLast?_eq_getElem?, MJ, OM hk, Oe (by omega), La (by omega)]
theorem En (K : List (List UInt8)) {p : Nat} (h0 : 0 < p) (hp : p < K.length) : ddF (K.take (p + 1)) = if K[p - 1] = K[p] then ddF (K.take p) else ddF (K.take p) ++ [K[p]] := by
 rw [Lm hp, Eo, Ak K h0 (by omega)]
 simp only [N9]
structure Cpt (K R : List (List UInt8)) (q kk p : Nat) : Prop where
 len : R.length = K.length
 kp : kk < p
 qk : q ≤ kk
 pn : p ≤ K.length
 hd : R.take kk = ddF (K.take p)
 tl : R.drop (p - 1) = K.drop (p - 1)
theorem Cpt.at_ {K R : List (List UInt8)} {q kk p j : Nat} (h : Cpt K R q kk p) (hj : p - 1 ≤ j) (hn : j < K.length) : R[j]? = some K[j] := by
 have h1 := congrArg (fun l => l[j - (p - 1)]?) h.tl
 simp only [OO] at h1
 rw [show p - 1 + (j - (p - 1)) = j by omega, La hn] at h1
 exact h1
theorem Cpt.new {K R : List (List UInt8)} {q kk p : Nat} (h : Cpt K R q kk p) (h0 : 0 < p) (hp : p < K.length) (he : K[p - 1] ≠ K[p]) : Cpt K (R.set kk K[p]) q (kk + 1) (p + 1) := by
 have hkp := h.kp
 have hRl := h.len
 refine ⟨by rw [Nk]; exact h.len, by omega, by have := h.qk; omega, hp, ?_, ?_⟩
 · rw [En K h0 hp, if_neg he, ← h.hd, Lm (by rw [Nk]; omega), List.getElem_set_self, List.take_set_of_le (LG _)]
 ·
  have := congrArg (List.drop 1) h.tl
  rw [List.drop_drop, List.drop_drop] at this
  rw [show p + 1 - 1 = p - 1 + 1 by omega, List.drop_set_of_lt (by omega)]
  exact this
end E
end Go.Proofs.YtohlgnfachkmaaaGreat
namespace Go.Proofs.YtohlgnfachkmaaaGreat
set_option linter.unusedVariables false
set_option maxRecDepth 20000
set_option maxHeartbeats 4000000
open Go.RowKit Mono Rlp
namespace E
def bytesOf : Nat → Nat → List UInt8 → List UInt8
 | 0, _, t => t
 | k + 1, m, t => bytesOf k (m / 256) (UInt8.ofNat m :: t)
def ofW (n : Nat) : List UInt8 := List.replicate 24 0 ++ bytesOf 8 n []
theorem J6 (n : Nat) (hn : n ≤ 9223372036854775807) : Fn 37 [.v (.int .i64 (n : Int))] (· = .val (.arr 32 (ofW n))) := by
 refine Fn.walk 27 Tryz.func37 rfl Tryz.ntmps37 (by simp) fun X => ?_
 repeat (refine stp ?_; intros)
 rename_i g2 g3
 refine EC.loop (ι := {x : Nat × Nat × List UInt8 // x.1 ≤ 8 ∧ x.2.2.length = x.1 ∧ x.2.1 ≤ n ∧ bytesOf (8 - x.1) x.2.1 x.2.2 = bytesOf 8 n [] ∧ x.2.1 < 256 ^ (8 - x.1)})
  (fun x => ⟨[(4, .val (.v (.int .i64 (31 - (x.1.1 : Int))))), (0, .val (.v (.int .i64 (x.1.2.1 : Int)))), (2, .val (.v (.pointer (some ⟨g2, 0, none⟩)))), (3, .val (.v (.pointer (some ⟨g3, 0, none⟩))))], [.var g3 23 (.arr 32 (List.replicate (32 - x.1.1) 0 ++ x.1.2.2)), .var g2 23 (.arr 32 zero32)], []⟩)
  (fun x => 8 - x.1.1) ⟨(0, n, []), by omega, rfl, LG _, rfl, by dsimp only; omega⟩ ?_ ?_
 · exact Le.kp
 rintro ⟨⟨j, m, t⟩, hj, ht, hm, hb, h8⟩
 dsimp only at hj ht hm hb h8 ⊢
 have st : ∀ (k : Nat) (b : UInt8) (u : List UInt8), (List.replicate (k + 1) 0 ++ u).set k b = List.replicate k 0 ++ b :: u := fun k b u => by
  rw [List.replicate_succ', L6, OC _ _ (by simp)]
  simp
 by_cases hlt : j < 8
 ·
  have r1 := Aa 3 m 8 (by omega) (by decide) 255 (by decide)
  have r2 := Jo 3 m 8 (by decide)
  have c1 : ∀ w, (Go.convert 3 5 (n64 (m % 2 ^ 8))).run Tryz.prog w = .ok (bv (UInt8.ofNat m)) w := by
   rw [bv8]
   exact mO (T := 3) (U := 5) (k := .i64) (k' := .u8) Tryz.underlying3 Tryz.underlying5 ((m % 2 ^ 8 : Nat) : Int) ((m % 256 : Nat) : Int) (by rw [IntKind.wrap_u8]; omega)
  have o1 : 0 + ((31 : Int) - (j : Int)).toNat * 1 = 31 - j := by omega
  have hk1 : (0 : Int) ≤ (31 : Int) - (j : Int) ∧ ((31 : Int) - (j : Int)).toNat < 32 := ⟨by omega, by omega⟩
  have hst := st (31 - j) (UInt8.ofNat m) t
  rw [show 31 - j + 1 = 32 - j by omega] at hst
  generalize List.replicate (32 - j) 0 ++ t = Z at hst
  repeat
   (first
    | (refine bH (hrun := r1) (kk := ?_)) | (refine bH (hrun := r2) (kk := ?_))
    | (apply iZ; rfl; exact c1; iterate 3 rfl) | (apply qX; (iterate 3 rfl); exact hk1; iterate 2 rfl)
    | (apply xY; rfl; exact .z; rfl; rfl; (omega); rfl) | (refine stp ?_; intros))
  refine EK.again ⟨(j + 1, m / 256, UInt8.ofNat m :: t), by omega, by simp [ht], LZ (Nat.div_le_self _ _) hm, ?_, ?_⟩ (by dsimp only; omega) ?_
  · rw [← hb, show 8 - j = 8 - (j + 1) + 1 by omega, bytesOf]
  ·
   dsimp only
   rw [show 8 - j = 8 - (j + 1) + 1 by omega, Nat.pow_succ] at h8
   exact (Nat.div_lt_iff_lt_mul (by decide)).2 h8
  dsimp only
  rw [o1, hst, show 31 - j = 32 - (j + 1) by omega]
  rw [show (31 - (j : Int) - 1) = 31 - ((j + 1 : Nat) : Int) by omega]
  exact Le.kp
 ·
  obtain rfl : j = 8 := (by omega)
  obtain rfl : m = 0 := (by simpa using h8)
  rw [show 8 - 8 = 0 from rfl, bytesOf] at hb
  have hof : ofW n = List.replicate 24 0 ++ t := by unfold ofW; rw [← hb]
  rw [hof]
  clear hof hb st
  repeat (refine stp ?_; intros)
  refine EC.loop (ι := {k : Nat // k ≤ 24})
   (fun k => ⟨[(5, .val (.v (.int .i64 (k.1 : Int)))), (0, .val (.v (.int .i64 ((0 : Nat) : Int)))), (2, .val (.v (.pointer (some ⟨g2, 0, none⟩)))), (3, .val (.v (.pointer (some ⟨g3, 0, none⟩))))], [.var g3 23 (.arr 32 (List.replicate (32 - 8) 0 ++ t)), .var g2 23 (.arr 32 zero32)], []⟩)
   (fun k => 24 - k.1) ⟨0, by omega⟩ ?_ ?_
  · exact Le.kp
  rintro ⟨k, hk⟩
  dsimp only at hk ⊢
  by_cases hkl : k < 24
  ·
   have r1 := Aa 3 0 8 (by omega) (by decide) 255 (by decide)
   have c1 : ∀ w, (Go.convert 3 5 (n64 (0 % 2 ^ 8))).run Tryz.prog w = .ok (bv (UInt8.ofNat 0)) w := by
    rw [bv8]
    exact mO (T := 3) (U := 5) (k := .i64) (k' := .u8) Tryz.underlying3 Tryz.underlying5 ((0 % 2 ^ 8 : Nat) : Int) ((0 % 256 : Nat) : Int) (by rw [IntKind.wrap_u8]; omega)
   have o1 : 0 + (k : Int).toNat * 1 = k := by omega
   have hk1 : (0 : Int) ≤ (k : Int) ∧ (k : Int).toNat < 32 := ⟨by omega, by omega⟩
   have hst : (List.replicate (32 - 8) (0 : UInt8) ++ t).set k (UInt8.ofNat 0) = List.replicate (32 - 8) 0 ++ t := by
    rw [List.set_append_left _ _ (by simp; omega)]
    congr 1
    apply List.ext_getElem (by simp)
    intro q h3 h4
    rw [List.getElem_set]
    split
    ·
     rw [List.getElem_replicate]
     rfl
    · rfl
   generalize List.replicate (32 - 8) 0 ++ t = Z at hst
   repeat
    (first
     | (refine bH (hrun := r1) (kk := ?_)) | (apply iZ; rfl; exact c1; iterate 3 rfl)
     | (apply qX; (iterate 3 rfl); exact hk1; iterate 2 rfl) | (apply xY; rfl; exact .z; rfl; rfl; (omega); rfl) | (refine stp ?_; intros))
   refine EK.again ⟨k + 1, hkl⟩ (by dsimp only; omega) ?_
   dsimp only
   rw [o1, hst]
   simp only [LK]
   exact Le.kp
  ·
   skip
   repeat (refine stp ?_; intros)
   refine EK.IL 1 rfl rfl rfl rfl ?_ rfl
   (exact RL.a)
end E
end Go.Proofs.YtohlgnfachkmaaaGreat
namespace Go.Proofs.YtohlgnfachkmaaaGreat
set_option linter.unusedVariables false
open Go.RowKit Mono Rlp Wd
namespace E
theorem oO (n : Int) : Fn 10 [.v (.int .i64 n)] (· = .val (.v (.int .i64 n))) := by
 refine Fn.walk 4 Tryz.func10 rfl Tryz.ntmps10 (by simp) fun X => ?_
 repeat (refine stp ?_; intros)
 exact EK.jg rfl rfl rfl
end E
end Go.Proofs.YtohlgnfachkmaaaGreat
