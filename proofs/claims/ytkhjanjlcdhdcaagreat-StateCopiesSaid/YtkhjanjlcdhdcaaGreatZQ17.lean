/-
 Merged: lemmas of this claim.
 Conditions: none.
-/
import Derived.Test.YtkhjanjlcdhdcaaGreatZQ11
import Derived.Test.YtkhjanjlcdhdcaaGreatZQ16
import Derived.Test.YtkhjanjlcdhdcaaGreatZQ13
import Derived.Test.YtkhjanjlcdhdcaaGreatZQ6
import Derived.Test.YtkhjanjlcdhdcaaGreatZQ7
import Derived.Test.YtkhjanjlcdhdcaaGreatZQ14
import Derived.Test.YtkhjanjlcdhdcaaGreatZQ12
import Derived.Test.YtkhjanjlcdhdcaaGreatZQ0
namespace Go.Proofs.YtkhjanjlcdhdcaaGreat
set_option linter.unusedVariables false
set_option maxRecDepth 20000
set_option maxHeartbeats 16000000
open Go.RowKit Mono Rlp Wd Go.Sort
namespace E
def slF (sl : List (List UInt8 × List UInt8)) : List UInt8 → List UInt8 := sl.foldl (fun f p => fun k => if p.1 = k then p.2 else f k) fun _ => zero32
def AcL.take (x : AcL) : Ac := ⟨if x.n > 0 then x.n else 0, x.w, x.cd, slF x.sl⟩
def iJ (l : List AcL) : As := l.foldl (fun A x => A.upd x.a x.take) fun _ => Ac.zero
theorem sD (l : List AcL) (x : AcL) : iJ (l ++ [x]) = (iJ l).upd x.a x.take := by unfold iJ; rw [List.foldl_append]; rfl
theorem CY (l : List (List UInt8 × List UInt8)) (p : List UInt8 × List UInt8) : slF (l ++ [p]) = fun k => if p.1 = k then p.2 else slF l k := by unfold slF; rw [List.foldl_append]; rfl
structure BR (ss : List Ent) (f : List UInt8 → List UInt8) (N : Nat) : Prop where
 sl : ∀ k, slE ss k = .arr 32 (f k)
 ent : ∀ e ∈ ss, ∃ v, e.2.2 = .arr 32 v ∧ v ≠ zero32
 nod : (ss.map (·.2.1)).Nodup
 len : ss.length ≤ N
theorem BR.nil : BR [] (slF []) 0 := ⟨fun k => rfl, fun e he => by simp at he, MR, Lj _⟩
theorem set_any {ga gs sc N : Nat} {b : Int} {w cd : List UInt8} {ss : List Ent} {f : List UInt8 → List UInt8} (h : BR ss f N) (q v : List UInt8) : FnM 19 [.v (ptr ga), .arr 32 q, .arr 32 v] [acO ga b w cd (.map (some gs)), .map gs 32 sc ss] (fun r os' => r = .tpl [] ∧ ∃ sc' ss', BR ss' (fun k => if q = k then v else f k) (N + 1) ∧ os' = [acO ga b w cd (.map (some gs)), .map gs 32 sc' ss']) := by
 by_cases hv : v = zero32
 ·
  subst hv
  refine FnM.mono uF ?_
  rintro r _ ⟨rfl, rfl⟩
  refine ⟨rfl, sc, _, ⟨fun k => ?_, fun e he => h.ent e ((fA _ _).subset he), h.nod.sublist ((fA _ _).map _), LG (oZ _ _) (NV h.len)⟩, rfl⟩
  rw [zN _ _ _ h.nod, h.sl k]
  split <;> rfl
 ·
  refine FnM.mono (uD (by simpa using hv)) ?_
  rintro r _ ⟨rfl, rfl⟩
  refine ⟨rfl, _, _, ⟨fun k => ?_, fun e he => ?_, dS _ _ _ _ h.nod, LG (dU _ _ _ _) (Nu h.len)⟩, rfl⟩
  ·
   rw [uw, h.sl k]
   split <;> rfl
  ·
   rcases qF _ _ _ _ _ he with he | he
   · exact h.ent e he
   · exact ⟨v, he, hv⟩
theorem EK.apart {N : Nat} {X : Cx N} {K : Act → World → Prop} {S : St} (h : Apart S.objs → EK X K S) : EK X K S := ⟨fun a w ha => (h ha.mem.apart).go a w ha⟩
theorem Ia (l : List AcL) (B : Nat) (hll : l.length ≤ 1000000) (hB : ∀ x ∈ l, x.sl.length ≤ B ∧ x.cd.length ≤ 140737488355328) (hB2 : B ≤ 1000000) : FnM 6 [.sl 55 (l.map ak)] [] (fun r os' => ∃ g m c es ps, r = .val (.v (ptr g)) ∧ os' = psO g m c es bF bF 0 [] ps ∧ iP es ps (iJ l) (B + l.length)) := by
 have hml : (l.map ak).length = l.length := KR _
 refine FnM.walk 52 Tryz.func6 rfl Tryz.ntmps6 (by simp) fun X => ?_
 repeat (refine stp ?_; intros)
 rename_i m g
 refine EC.loop (ι := {x : Nat × Nat × List Ent × List PA // x.1 ≤ l.length ∧ iP x.2.2.1 x.2.2.2 (iJ (l.take x.1)) (B + x.1)})
  (fun x => ⟨[(14, .val (.v (.int .i64 (x.1.1 : Int)))), (13, .val (.v (.int .i64 (l.map ak).length))), (12, .val (.sl 55 (l.map ak))), (3, .val (.v (ptr g)))], stO g m bF bF 0 :: smO m x.1.2.1 x.1.2.2.1 :: x.1.2.2.2.flatMap PA.os, []⟩)
  (fun x => l.length - x.1.1) ⟨(0, 0, [], []), Lr _, ⟨fun a h => rfl, fun a d h => by simp [aJ] at h, fun a b d h => by simp [aJ] at h, MR, Lr _⟩⟩ ?_ ?_
 · exact (Le.keep (by repeat first | exact trivial | refine ⟨rfl, ?_⟩) (by repeat first | exact La _ | apply List.Sublist.cons_cons | apply List.Sublist.cons) (by simp))
 rintro ⟨⟨i, c, es, ps⟩, hil, hi⟩
 dsimp only at hil hi ⊢
 by_cases hlt : i < l.length
 ·
  have hd : (l.map ak)[i]? = some (ak l[i]) := by rw [List.getElem?_map, KJ hlt]; rfl
  have hBi := hB l[i] (LW hlt)
  have htk : l.take (i + 1) = l.take i ++ [l[i]] := LU hlt
  generalize l[i] = x at hd hBi htk
  obtain ⟨xa, xn, xw, xc, xs⟩ := x
  unfold ak at hd
  dsimp only at hd hBi
  have hcl := Az xc hBi.2
  repeat (refine stp ?_; intros)
  rename_i g5
  refine EC.bI 11 [0, 1, 2, 3, 4, 5, 6, 7] [8, 9, 10] [] _ (by kernel_rfl) (by kernel_rfl) rfl ?_
  simp only [aA, KU, KY, KN, KP]
  repeat
   (first
    | (refine aW (hcl) (kk := ?_)) | (refine sth ?_; intros))
  refine EM.nil ?_
  repeat (first | rw [KD] | rw [KE])
  refine CH.mut (os := []) (rest := []) rfl rfl (gU rfl rfl) ?_
  rintro _ _ ⟨gs, rfl, rfl⟩
  try simp only [St.put]
  repeat (first | rw [KD] | rw [KE])
  refine CH.cut 1 ?_
  simp only [KG, KI, KF, KH]
  repeat (refine sth ?_; intros)
  refine EM.nil ?_
  repeat (first | rw [KD] | rw [KE])
  refine CH.mut (os := []) (rest := [_]) rfl rfl (xk rfl rfl) ?_
  rintro _ _ ⟨gx, rfl, rfl⟩
  try simp only [St.put]
  repeat (first | rw [KD] | rw [KE])
  refine CH.nil ?_
  try simp only [KF, KH]
  repeat (refine stp ?_; intros)
  have hmx : (xs.map aG).length = xs.length := KR _
  refine EC.loop (ι := {x : Nat × Nat × List Ent // x.1 ≤ xs.length ∧ BR x.2.2 (slF (xs.take x.1)) x.1})
   (fun x => ⟨[(32, .val (.v (.int .i64 (x.1.1 : Int)))), (31, .val (.v (.int .i64 (xs.map aG).length))), (30, .val (.sl 64 (xs.map aG))), (14, .val (.v (.int .i64 (i : Int)))), (13, .val (.v (.int .i64 (l.map ak).length))), (12, .val (.sl 55 (l.map ak))), (6, .val (.v (ptr gx))), (5, .val (.v (ptr g5))), (3, .val (.v (ptr g)))], acO gx (if xn > 0 then xn else 0) xw xc (.map (some gs)) :: .map gs 32 x.1.2.1 x.1.2.2 :: .var g5 51 (.tup [.arr 20 xa, .v (.int .i64 xn), .arr 32 xw, .bs xc, .sl 64 (xs.map aG)]) :: stO g m bF bF 0 :: smO m c es :: ps.flatMap PA.os, []⟩)
   (fun x => xs.length - x.1.1) ⟨(0, 0, []), Lr _, BR.nil⟩ ?_ ?_
  · exact (Le.keep (by repeat first | exact trivial | refine ⟨rfl, ?_⟩) (by repeat first | exact La _ | apply List.Sublist.cons_cons | apply List.Sublist.cons) (by simp))
  rintro ⟨⟨j, sc, ss⟩, hjl, hss⟩
  dsimp only at hjl hss ⊢
  by_cases hlj : j < xs.length
  ·
   have hd2 : (xs.map aG)[j]? = some (aG xs[j]) := by rw [List.getElem?_map, KJ hlj]; rfl
   have htk2 : xs.take (j + 1) = xs.take j ++ [xs[j]] := LU hlj
   generalize xs[j] = y at hd2 htk2
   obtain ⟨q, v⟩ := y
   unfold aG at hd2
   dsimp only at hd2
   have hset := set_any (ga := gx) (gs := gs) (sc := sc) (b := if xn > 0 then xn else 0) (w := xw) (cd := xc) hss q v
   repeat
    (first
     | (apply aK hset [_] _ rfl rfl (aj.refl _ _) (by intro _ _; simp [go_sem]) rfl rfl; rintro _ _ ⟨rfl, sc', ss', hss', rfl⟩; simp only [KD, KE])
     | (refine stp ?_; intros))
   refine EK.again ⟨(j + 1, sc', ss'), hlj, by rw [htk2, CY]; exact hss'⟩ (by dsimp only; omega) ?_
   simp only [LM]
   exact (Le.keep (by repeat first | exact trivial | refine ⟨rfl, ?_⟩) (by repeat first | exact La _ | apply List.Sublist.cons_cons | apply List.Sublist.cons) (by simp))
  ·
   have hjE : j = xs.length := by omega
   subst hjE
   rw [Nh] at hss
   repeat (refine stp ?_; intros)
   refine EC.draw 7 (by kernel_rfl) ?_
   simp only [KG, KI, KF, KH]
   repeat (refine sth ?_; intros)
   repeat (refine stp ?_; intros)
   refine EK.le (Le.oO [3, 4, 0, 1, 2] [_, _, _, _, _] [_, _, _, _, _] (_) rfl rfl (by decide) rfl) ?_
   try simp only [KD, KE]
   refine EK.apart fun hap => ?_
   have hnew : ∀ q ∈ ps, q.g ≠ gx := fun q hq e => by
    have hap' : Apart (stO g m bF bF 0 :: smO m (bG c es xa) (bK c es xa (.v (ptr gx))) :: acO gx (if xn > 0 then xn else 0) xw xc (.map (some gs)) :: .map gs 32 sc ss :: .var g5 51 (.tup [.arr 20 xa, .v (.int .i64 xn), .arr 32 xw, .bs xc, .sl 64 (xs.map aG)]) :: ps.flatMap PA.os) := hap
    have h1 := (LY.1 (LY.1 (LY.1 hap').2).2).1 (acO q.g q.n q.w q.cd (.map (some q.gs))) (Ld _ (Ld _ (List.mem_flatMap.2 ⟨q, hq, by simp [PA.os]⟩))) gx rfl
    exact h1 (by simp [Obj.blk, e])
   refine EK.again ⟨(i + 1, bG c es xa, bK c es xa (.v (ptr gx)), ⟨gx, if xn > 0 then xn else 0, xw, xc, gs, sc, ss⟩ :: ps), hlt, ?_⟩ (by dsimp only; omega) ?_
   ·
    rw [htk, sD]
    exact hi.fresh (a := xa) (p' := ⟨gx, if xn > 0 then xn else 0, xw, xc, gs, sc, ss⟩) (x := AcL.take ⟨xa, xn, xw, xc, xs⟩) (fun b => dX c es xa b _) (dS _ _ _ _ hi.nod) (LG (dU _ _ _ _) (Nu hi.len)) ⟨rfl, rfl, rfl, hss.sl, hss.ent, hss.nod, by have := hss.len; dsimp only; omega, hBi.2⟩ hnew
   ·
    simp only [LM, Nv, PA.os, KD, KE]
    exact (Le.keep (by repeat first | exact trivial | refine ⟨rfl, ?_⟩) (by repeat first | exact La _ | apply List.Sublist.cons_cons | apply List.Sublist.cons) (by simp))
 ·
  have hiE : i = l.length := by omega
  subst hiE
  rw [Nh] at hi
  repeat (refine stp ?_; intros)
  refine EK.le (Le.row 80 1) ?_
  refine EK.le (Le.row 73 2) ?_
  refine EK.le (Le.oO [2, 3, 1, 0] [_, _, _, _] [_, _, _, _] (_) rfl rfl (by decide) rfl) ?_
  try simp only [KD, KE]
  exact EK.aI (psO g m c es bF bF 0 [] ps) rfl rfl (La _) ⟨g, m, c, es, ps, rfl, rfl, hi⟩
end E
end Go.Proofs.YtkhjanjlcdhdcaaGreat
namespace Go.Proofs.YtkhjanjlcdhdcaaGreat
set_option linter.unusedVariables false
open Go.RowKit Mono Rlp
namespace E
theorem qw {ok : Nat → Prop} {w : World} : ∀ (l : List UInt8) (rows : List (List Value)), ah ok w 1 (l.map fun b => D.v (bv b)) rows → rows.flatten = bvs l
 | [], rows, h => by
  rw [ML, ah] at h
  subst h
  rfl
 | b :: l, rows, h => by
  rw [Lu, ah] at h
  obtain ⟨r, rest, rfl, _, h2, h3⟩ := h
  rw [Reads] at h2
  rw [Md, qw l rest h3, h2.2]
  rfl
def bvD (l : List UInt8) : List D := l.map fun b => .v (bv b)
theorem wQ {ok : Nat → Prop} {w : World} : ∀ (l : List UInt8), ∃ rows : List (List Value), rows.flatten = bvs l ∧ ah ok w 1 (bvD l) rows
 | [] => ⟨[], rfl, by show ah ok w 1 [] []; rw [ah]⟩
 | b :: l => by
  obtain ⟨rows, h1, h2⟩ := wQ (ok := ok) (w := w) l
  refine ⟨[bv b] :: rows, by rw [Md, h1]; rfl, ?_⟩
  show ah ok w 1 (.v (bv b) :: bvD l) _
  rw [ah]
  exact ⟨_, _, rfl, rfl, by rw [Reads]; exact ⟨rfl, rfl⟩, h2⟩
theorem Jq {ok : Nat → Prop} {w : World} {l : List UInt8} {x : Value} (h : bf ok w (.bs l) x) : ∃ A c rows, x = .slice A (bvD l).length c ∧ (bvD l).length ≤ c ∧ c ≤ maxLen ∧ True ∧ RdP ok w A rows.flatten ∧ ah ok w 1 (bvD l) rows := by
 have h1 := (bH (d := .bs l) rfl).1 h
 rw [Reads] at h1
 obtain ⟨u, e, A, c, rfl, g1, g2, g4⟩ := h1
 obtain ⟨rows, h3, h4⟩ := wQ (ok := ok) (w := w) l
 have hl2 : (bvD l).length = l.length := KR _
 exact ⟨A, c, rows, by rw [hl2]; exact List.singleton_inj.1 e, by rw [hl2]; exact g1, g2, trivial, by rw [h3]; exact g4, h4⟩
section
variable {N : Nat} {X : Cx N} {S : St} {ops : Array Oper} {o : Oper} {Q : Exit → Act → World → Prop} {l : List Oper} {rs : List (Tmp × R)} {os : List Obj} {fs : List (Value × D)}
theorem EL.GV {T e y' : Nat} {s x : Operand} {v : Value} {ds : List D} {m : List UInt8} (i : Nat) (ho : o.op = .call { callee := .builtin .append, args := #[s, x], argTypes := #[T, T] }) (hg : guardOf ops S o = some true) (hd : ∀ t, o.dst = some t → t < N) (hT : SlT Tryz.prog T e 1 y')
  (hs : ev S s = some (.val (.v v))) (hi : S.objs[i]? = some (.row v e 1 ds)) (hx : ev S x = some (.val (.bs m))) (hlen : (ds.length + (bvD m).length) * y' ≤ 140737488355328 ∧ ds.length + (bvD m).length ≤ 9223372036854775807)
  (k : ∀ v', EL X ops Q l (St.put ⟨S.regs, S.objs.set i (.row v' e 1 (ds ++ bvD m)), S.facts⟩ o.dst (.val (.v v')))) : EL X ops Q (o :: l) S := by
 constructor
 intro a w ha
 have hk := ha.kn fun t => t ∈ o.looksAt ops
 have hs' := dh hk hs fun t e => au e (by rw [ho]; simp [Op.operands, Call.operands])
 obtain ⟨A, c, rows', h1, h2, h3, h4, h5, h6⟩ := Jq (hk.ev hx fun t e => au e (by rw [ho]; simp [Op.operands, Call.operands]))
 obtain ⟨rows, h7, h8⟩ := ha.mem.at_ _ (Ls hi)
 obtain ⟨hl1, hl2⟩ := ah.lens (bvD m) rows' h6
 have hlen' : rows'.flatten.length = (bvD m).length * 1 := by
  have : ∀ rows : List (List Value), (∀ r ∈ rows, r.length = 1) → rows.flatten.length = rows.length * 1 := by
   intro rows
   induction rows with
   | nil => simp
   | cons r rows ih =>
    intro h
    rw [Md, LP, h r (by simp), ih fun r hr => h r (by simp [hr]), LX, Nb, NC, Ot]
  rw [this rows' hl2, hl1]
 have hrd : Rd w w.heap.size A rows'.flatten := fun hn => by
  obtain ⟨b, n, e, hb, hc⟩ := h5 hn
  exact ⟨b, n, e, hb.2.1, hc⟩
 have hge := ha.mem.gr.size
 obtain ⟨A', c', w', hrun, hown, hgr, hblk⟩ := eu (P := Tryz.prog) (ty := o.type) (c := c) hT h7.1 hlen' hrd (ah.one (bvD m) rows' h6) (by simp only [maxLen]; exact hlen.2) hlen.1 (Lr _)
 unfold wpList
 rw [if_pos (cu ha hg)]
 refine .inl ?_
 unfold Oper.wp execOp
 simp only [ho, resolve, invoke, builtin, KW, KX, KL, Np, Lu, ML, hs', h1, hrun]
 refine (k _).go _ _ ((ha.turn (q := .row (.slice A' (ds.length + (bvD m).length) c') e 1 (ds ++ bvD m)) hi hgr ?_ fun hok hcell => ⟨rows ++ rows', ?_, ah.append ds (bvD m) rows rows' (ah.mono hok hcell 1 ds rows h8) (ah.mono hok hcell 1 (bvD m) rows' h6)⟩).put hd (dM rfl))
 ·
  rcases hblk with hb | hb
  · exact .inl hb
  · exact .inr ⟨_, hb, Lj _⟩
 ·
  rw [List.flatten_append, LP]
  refine ⟨hown, fun b hb => ?_⟩
  rcases hblk with e | e
  · exact h7.2 b (e ▸ hb)
  ·
   rw [e] at hb
   cases hb
   exact .inr hge
theorem Cc {t T e y ty : Nat} {pos : String} {af : Array Edge} {gd : Option (Nat × Bool)} {s x : Operand} {v : Value} {ds : List D} {m : List UInt8} {os' : Value → List Obj} (hs : ev (⟨rs, os, fs⟩ : St) s = some (.val (.v v))) (hset : kL os (.row v e 1 ds) (fun v' => .row v' e 1 (ds ++ bvD m)) os') (hx : ev (⟨rs, os, fs⟩ : St) x = some (.val (.bs m))) (hT : assoc slL T = some (e, 1, y)) (hg : guardOf ops ⟨rs, os, fs⟩ ⟨some t, .call { callee := .builtin .append, args := #[s, x], argTypes := #[T, T] }, ty, pos, af, gd⟩ = some true) (hN : Nat.blt t N = true) (hlen : (ds.length + m.length) * y ≤ 140737488355328 ∧ ds.length + m.length ≤ 9223372036854775807) (kk : ∀ v', EL X ops Q l ⟨(t, .val (.v v')) :: rs, os' v', fs⟩) : EL X ops Q (⟨some t, .call { callee := .builtin .append, args := #[s, x], argTypes := #[T, T] }, ty, pos, af, gd⟩ :: l) ⟨rs, os, fs⟩ := by
 obtain ⟨i, hi, hl'⟩ := hset.ix
 have hl2 : (bvD m).length = m.length := KR _
 rw [← hl2] at hlen
 exact EL.GV (v := v) (ds := ds) i rfl hg (gu rfl hN) (FN hT rfl) hs hi hx hlen fun v' => by
  have := kk v'
  rw [hl' v'] at this
  exact this
end
theorem tC (v : Value) (l : List UInt8) (hl : l.length ≤ 140737488355328) : FnM 18 [.v v] [.row v 5 1 (bvD l)] (fun r os' => r = .val (.bs l) ∧ os' = [.row v 5 1 (bvD l)]) := ⟨fun ok w xs hok hown hr => by
 obtain ⟨x, _, rfl, hx, rfl⟩ := hr
 obtain rfl := (ay.1 hx).2
 have hat := hown.at_ _ KQ
 obtain ⟨rows, ⟨h1, hmine⟩, h2⟩ := hat
 have hf := qw l rows h2
 have hln : (bvD l).length = l.length := KR _
 obtain ⟨A, c, rfl, hc1, hc2⟩ := fQ h1
 have hB : IsB w (.slice A (bvD l).length c) l := ⟨A, c, by rw [hln], by omega, hc2, fun hn => by
  rw [← hf] at hn ⊢
  obtain ⟨b, o, rfl, hb, hc⟩ := uM h1 hn
  exact ⟨b, o, rfl, hb.2, hc⟩⟩
 refine (Eu _ l w hB hl).mono ?_
 rintro e w' ⟨u, rfl, hg, ho⟩
 have hk : ∀ b, ok b → okM ok [.row (.slice A (bvD l).length c) 5 1 (bvD l)] w [.row (.slice A (bvD l).length c) 5 1 (bvD l)] w' b := fun b hb => ⟨.inl hb, LC (hok b hb) hg.size, fun o' ho' e => hown.off b ⟨o', ho', e⟩ hb⟩
 refine ⟨u, .val (.bs l), _, rfl, ⟨rfl, rfl⟩, ⟨.of hg, hown.apart, fun o' ho' => ?_⟩, ?_⟩
 · refine ((hown.at_ o' ho').move hk (fun p hp => World.cell?_of_block (hg.block _ (hok _ hp))) fun g e => hg.block g (Obj.aZ (hown.at_ o' ho') e).2).iI fun b e => .inl ⟨o', ho', e⟩
 ·
  refine (bH rfl).2 ?_
  rw [Reads]
  refine ⟨u, rfl, ru.mono (yX ho) (fun b hb => ⟨.inr (.inr hb.1), hb.2, fun o' ho' e => ?_⟩) fun _ _ => rfl⟩
  have := (Obj.aZ (hown.at_ o' ho') e).2
  omega⟩
end E
end Go.Proofs.YtkhjanjlcdhdcaaGreat
namespace Go.Proofs.YtkhjanjlcdhdcaaGreat
set_option linter.unusedVariables false
set_option maxRecDepth 20000
set_option maxHeartbeats 4000000
open Go.RowKit Mono Rlp Wd
namespace E
def GSt (g : Nat) (A : As) (N : Nat) (os : List Obj) : Prop := ∃ m c es u k n us ks ps js, os = [stO g m u k n, smO m c es, unO u us, mkO k ks] ++ (ps.flatMap PA.os ++ js) ∧ iP es ps A N ∧ us.length ≤ N
theorem Kv {α : Type} (a b : α) (x y : List α) : (a :: b :: (x ++ y)).Perm (x ++ a :: b :: y) := by
 have h : ([a, b] ++ x ++ y).Perm (x ++ [a, b] ++ y) := Lm.append_right y
 simpa only [KD, KE, Lc] using h
theorem kS (ks us : List D) (d : D) : (bC ks us d).length ≤ us.length + 1 := by
 unfold bC
 split
 · exact Nat.le_succ _
 · simp
section
variable {g N : Nat} {A : As} {os : List Obj} {a : List UInt8}
theorem Gw {f : FuncId} {ds : List D} {x : Ac} (xo : List Obj) (h : GSt g A N os) (hN : N < 1099511627776)
  (hin : ∀ m c es u k n us ks (p : PA), aJ es a = some (.v (ptr p.g)) → us.length < 1099511627776 → p.Is (A a) N → FnM f ds (([stO g m u k n, smO m c es, unO u us, mkO k ks] ++ xo) ++ p.os) (fun r os' => ∃ (hdr' : List Obj) (p' : PA), (r = .tpl [] ∧ (∃ u' d, hdr' = [stO g m u' k n, smO m c es, unO u' (bC ks us d), mkO k ks] ++ xo) ∧ p'.g = p.g ∧ p'.Is x (N + 1)) ∧ os' = hdr' ++ p'.os))
  (hout : ∀ m c es u k n us ks, aJ es a = none → us.length < 1099511627776 → A a = Ac.zero → FnM f ds ([stO g m u k n, smO m c es, unO u us, mkO k ks] ++ xo) (fun r os' => r = .tpl [] ∧ ∃ (u' : Value) (d : D) (p' : PA), os' = ([stO g m u' k n, smO m (bG c es a) (bK c es a (.v (ptr p'.g))), unO u' (bC ks us d), mkO k ks] ++ xo) ++ p'.os ∧ p'.Is x (N + 1))) :
  FnM f ds (xo ++ os) (fun r os' => r = .tpl [] ∧ ∃ os2, GSt g (A.upd a x) (N + 1) os2 ∧ os' = xo ++ os2) := by
 obtain ⟨m, c, es, u, k, n, us, ks, ps, js, rfl, hi, hl⟩ := h
 have hul : us.length < 1099511627776 := by omega
 have pm : ∀ (l : List Obj) (q : List PA), (xo ++ (l ++ (q.flatMap PA.os ++ js))).Perm (((l ++ xo) ++ q.flatMap PA.os) ++ js) := fun l q => by
  rw [← Lc, ← Lc]
  exact (Lm.append_right _).append_right _
 refine FnM.perm ?_ (pm _ ps).symm
 cases hE : aJ es a with
 | some d =>
  obtain ⟨p, hp, rfl, his⟩ := hi.inn a d hE
  obtain ⟨ps1, ps2, rfl⟩ := List.append_of_mem hp
  refine FnM.out ((FnM.lift ps1 ps2 (hin m c es u k n us ks p hE hul his)).frame js) ?_
  rintro r _ ⟨_, ⟨hdr', p', ⟨rfl, ⟨u', d, rfl⟩, hg, hx⟩, rfl⟩, rfl⟩
  exact ⟨_, (pm _ _).symm, rfl, _, ⟨m, c, es, u', k, n, _, ks, _, js, rfl, hi.turned hE hg hx, LG (kS ks us d) (Nu hl)⟩, rfl⟩
 | none =>
  refine FnM.out (((hout m c es u k n us ks hE hul (hi.out a hE)).frame (ps.flatMap PA.os)).apart.frame js) ?_
  rintro r _ ⟨_, ⟨⟨_, ⟨rfl, u', d, p', rfl, hx⟩, rfl⟩, hap⟩, rfl⟩
  rw [show ∀ l : List Obj, ((l ++ p'.os) ++ ps.flatMap PA.os) ++ js = (l ++ (p' :: ps).flatMap PA.os) ++ js from fun l => by rw [Nv, ← Lc]]
  refine ⟨_, (pm _ (p' :: ps)).symm, rfl, _, ⟨m, bG c es a, bK c es a (.v (ptr p'.g)), u', k, n, _, ks, p' :: ps, js, rfl, hi.fresh (fun b => dX c es a b _) (dS c es a _ hi.nod) (LG (dU c es a _) (Nu hi.len)) hx (oh hap), LG (kS ks us d) (Nu hl)⟩, rfl⟩
theorem D6 {f : FuncId} {ds : List D} {B : As} (h : FnM f ds ([] ++ os) (fun r os' => r = .tpl [] ∧ ∃ os2, GSt g B (N + 1) os2 ∧ os' = [] ++ os2)) : FnM f ds os (fun r os' => r = .tpl [] ∧ GSt g B (N + 1) os') :=
 FnM.mono h fun r os' ⟨h1, os2, h2, h3⟩ => ⟨h1, by rw [h3]; exact h2⟩
theorem zh (h : GSt g A N os) (hN : N < 1099511627776) (v : Int) : FnM 16 [.v (ptr g), .arr 20 a, .v (.int .i64 v)] os (fun r os' => r = .tpl [] ∧ GSt g (A.upd a {A a with n := if v > 0 then v else 0}) (N + 1) os') := by
 refine D6 (Gw [] h hN (fun m c es u k n us ks p hE hu his => ?_) (fun m c es u k n us ks hE hu hz => ?_))
 ·
  refine FnM.mono (FnM.frame (wH (g := g) (m := m) (c := c) (u := u) (k := k) (n := n) (ks := ks) (b := p.n) (w := p.w) (cd := p.cd) (sv := .map (some p.gs)) (n' := v) hE hu) [.map p.gs 32 p.sc p.ss]) ?_
  rintro r _ ⟨_, ⟨rfl, u', rfl⟩, rfl⟩
  exact ⟨[stO g m u' k n, smO m c es, unO u' (bC ks us (nN a p.n)), mkO k ks], {p with n := if v > 0 then v else 0}, ⟨rfl, ⟨u', nN a p.n, rfl⟩, rfl, ⟨rfl, his.w, his.cd, his.sl, his.ent, his.nod, his.up.len, his.cl⟩⟩, rfl⟩
 ·
  refine FnM.mono (mP (g := g) (m := m) (c := c) (u := u) (k := k) (n := n) (ks := ks) (n' := v) hE hu) ?_
  rintro r _ ⟨rfl, u', ga, gs, rfl⟩
  refine ⟨rfl, u', nN a 0, ⟨ga, if v > 0 then v else 0, zero32, [], gs, 0, []⟩, rfl, ?_⟩
  rw [hz]
  exact ⟨rfl, rfl, rfl, fun k => rfl, fun e he => by simp at he, MR, Lr _, Lr _⟩
theorem jl (h : GSt g A N os) (hN : N < 1099511627776) (v : List UInt8) : FnM 25 [.v (ptr g), .arr 20 a, .arr 32 v] os (fun r os' => r = .tpl [] ∧ GSt g (A.upd a {A a with w := v}) (N + 1) os') := by
 refine D6 (Gw [] h hN (fun m c es u k n us ks p hE hu his => ?_) (fun m c es u k n us ks hE hu hz => ?_))
 ·
  refine FnM.mono (FnM.frame (rH (g := g) (m := m) (c := c) (u := u) (k := k) (n := n) (ks := ks) (b := p.n) (w := p.w) (cd := p.cd) (sv := .map (some p.gs)) (w' := v) hE hu) [.map p.gs 32 p.sc p.ss]) ?_
  rintro r _ ⟨_, ⟨rfl, u', rfl⟩, rfl⟩
  exact ⟨[stO g m u' k n, smO m c es, unO u' (bC ks us (yK a p.w)), mkO k ks], {p with w := v}, ⟨rfl, ⟨u', yK a p.w, rfl⟩, rfl, ⟨his.n, rfl, his.cd, his.sl, his.ent, his.nod, his.up.len, his.cl⟩⟩, rfl⟩
 ·
  refine FnM.mono (qj (g := g) (m := m) (c := c) (u := u) (k := k) (n := n) (ks := ks) (w' := v) hE hu) ?_
  rintro r _ ⟨rfl, u', ga, gs, rfl⟩
  refine ⟨rfl, u', yK a zero32, ⟨ga, 0, v, [], gs, 0, []⟩, rfl, ?_⟩
  rw [hz]
  exact ⟨rfl, rfl, rfl, fun k => rfl, fun e he => by simp at he, MR, Lr _, Lr _⟩
theorem Bq (h : GSt g A N os) (hN : N < 1099511627776) (q v : List UInt8) : FnM 27 [.v (ptr g), .arr 20 a, .arr 32 q, .arr 32 v] os (fun r os' => r = .tpl [] ∧ GSt g (A.upd a ((A a).slot q v)) (N + 1) os') := by
 refine D6 (Gw [] h hN (fun m c es u k n us ks p hE hu his => ?_) (fun m c es u k n us ks hE hu hz => ?_))
 ·
  by_cases hv : v = zero32
  ·
   subst hv
   refine FnM.mono (qh (g := g) (m := m) (c := c) (u := u) (k := k) (n := n) (ks := ks) (b := p.n) (w := p.w) (cd := p.cd) (gs := p.gs) (sc := p.sc) hE (his.sl q) hu uF) ?_
   rintro r _ ⟨rfl, u', rfl⟩
   refine ⟨[stO g m u' k n, smO m c es, unO u' (bC ks us (pV a q ((A a).sl q))), mkO k ks], {p with ss := ig p.ss q}, ⟨rfl, ⟨u', pV a q ((A a).sl q), rfl⟩, rfl, his.n, his.w, his.cd, fun k => ?_, fun e he => his.ent e ((fA _ _).subset he), his.nod.sublist ((fA _ _).map _), LG (oZ _ _) his.up.len, his.cl⟩, rfl⟩
   show slE (ig p.ss q) k = _
   rw [zN _ _ _ his.nod, his.sl k]
   unfold Ac.slot
   dsimp only
   split <;> rfl
  ·
   refine FnM.mono (qh (g := g) (m := m) (c := c) (u := u) (k := k) (n := n) (ks := ks) (b := p.n) (w := p.w) (cd := p.cd) (gs := p.gs) (sc := p.sc) hE (his.sl q) hu (uD (by simpa using hv))) ?_
   rintro r _ ⟨rfl, u', rfl⟩
   refine ⟨[stO g m u' k n, smO m c es, unO u' (bC ks us (pV a q ((A a).sl q))), mkO k ks], {p with sc := bG p.sc p.ss q, ss := bK p.sc p.ss q (.arr 32 v)}, ⟨rfl, ⟨u', pV a q ((A a).sl q), rfl⟩, rfl, his.n, his.w, his.cd, fun k => ?_, fun e he => ?_, dS _ _ _ _ his.nod, LG (dU _ _ _ _) (Nu his.len), his.cl⟩, rfl⟩
   ·
    show slE (bK p.sc p.ss q (.arr 32 v)) k = _
    rw [uw, his.sl k]
    unfold Ac.slot
    dsimp only
    split <;> rfl
   ·
    rcases qF _ _ _ _ _ he with he | he
    · exact his.ent e he
    · exact ⟨v, he, hv⟩
 ·
  by_cases hv : v = zero32
  ·
   subst hv
   refine FnM.mono (oJ (g := g) (m := m) (c := c) (u := u) (k := k) (n := n) (ks := ks) (q := q) (ss' := fun _ => ig [] q) (sc' := 0) hE hu (fun ga gs => uF)) ?_
   rintro r _ ⟨rfl, u', ga, gs, rfl⟩
   refine ⟨rfl, u', pV a q zero32, ⟨ga, 0, zero32, [], gs, 0, []⟩, rfl, ?_⟩
   rw [hz]
   refine ⟨rfl, rfl, rfl, fun k => ?_, fun e he => by simp at he, MR, Lr _, Lr _⟩
   unfold Ac.slot Ac.zero
   dsimp only
   split <;> rfl
  ·
   refine FnM.mono (oJ (g := g) (m := m) (c := c) (u := u) (k := k) (n := n) (ks := ks) (q := q) (ss' := fun _ => bK 0 [] q (.arr 32 v)) (sc' := bG 0 [] q) hE hu (fun ga gs => uD (by simpa using hv))) ?_
   rintro r _ ⟨rfl, u', ga, gs, rfl⟩
   refine ⟨rfl, u', pV a q zero32, ⟨ga, 0, zero32, [], gs, bG 0 [] q, bK 0 [] q (.arr 32 v)⟩, rfl, ?_⟩
   rw [hz]
   refine ⟨rfl, rfl, rfl, fun k => ?_, fun e he => ?_, dS 0 [] q (.arr 32 v) MR, LG (dU 0 [] q (.arr 32 v)) (by simp), Lr _⟩
   ·
    show slE (bK 0 [] q (.arr 32 v)) k = _
    rw [uw]
    unfold Ac.slot Ac.zero
    dsimp only
    split <;> rfl
   ·
    rcases qF 0 [] q (.arr 32 v) e he with he | he
    · simp at he
    · exact ⟨v, he, hv⟩
theorem Jc (h : GSt g A N os) (hN : N < 1099511627776) : FnM 30 [.v (ptr g), .arr 20 a] os (fun r os' => r = .tpl [] ∧ GSt g (A.upd a Ac.zero) (N + 1) os') := by
 obtain ⟨m, c, es, u, k, n, us, ks, ps, js, rfl, hi, hl⟩ := h
 have hu : us.length < 1099511627776 := by omega
 rw [← Lc]
 cases hE : aJ es a with
 | some d =>
  obtain ⟨p, hp, rfl, his⟩ := hi.inn a d hE
  refine FnM.mono (((Gl (g := g) (m := m) (c := c) (u := u) (k := k) (n := n) (ks := ks) hE hu).frame (ps.flatMap PA.os)).apart.frame js) ?_
  rintro r _ ⟨_, ⟨⟨_, ⟨rfl, u', ga', gs', rfl⟩, rfl⟩, hap⟩, rfl⟩
  exact ⟨rfl, m, _, _, u', k, n, _, ks, ⟨ga', 0, zero32, [], gs', 0, []⟩ :: ps, js, by rw [Nv, Lc, Lc]; rfl, hi.fresh (p' := ⟨ga', 0, zero32, [], gs', 0, []⟩) (fun b => dX c es a b _) (dS c es a _ hi.nod) (LG (dU c es a _) (Nu hi.len)) ⟨rfl, rfl, rfl, fun k => rfl, fun e he => by simp at he, MR, Lr _, Lr _⟩ (oh (hdr := [stO g m u' k n, smO m (bG c es a) (bK c es a (.v (ptr ga'))), unO u' (bC ks us (vT a (ptr p.g))), mkO k ks]) (p' := ⟨ga', 0, zero32, [], gs', 0, []⟩) hap), LG (kS ks us _) (Nu hl)⟩
 | none =>
  refine FnM.mono (((DL (g := g) (m := m) (c := c) (u := u) (k := k) (n := n) (ks := ks) hE hu).frame (ps.flatMap PA.os)).apart.frame js) ?_
  rintro r _ ⟨_, ⟨⟨_, ⟨rfl, u', ga, ga', gs', rfl⟩, rfl⟩, hap⟩, rfl⟩
  refine ⟨rfl, m, _, _, u', k, n, _, ks, ⟨ga', 0, zero32, [], gs', 0, []⟩ :: ps, js, by rw [Nv, Lc, Lc]; rfl, hi.fresh (p' := ⟨ga', 0, zero32, [], gs', 0, []⟩) (fun b => ?_) (dS _ _ a _ (dS c es a _ hi.nod)) ?_ ⟨rfl, rfl, rfl, fun k => rfl, fun e he => by simp at he, MR, Lr _, Lr _⟩ (oh (hdr := [stO g m u' k n, smO m (bG (bG c es a) (bK c es a (.v (ptr ga))) a) (bK (bG c es a) (bK c es a (.v (ptr ga))) a (.v (ptr ga'))), unO u' (bC ks us (vT a (.pointer none))), mkO k ks]) (p' := ⟨ga', 0, zero32, [], gs', 0, []⟩) hap), LG (kS ks us _) (Nu hl)⟩
  ·
   rw [dX, dX]
   split <;> rfl
  ·
   unfold bK
   rw [if_pos]
   ·
    have h1 := congrArg List.length (iT (if jk es a = true then jE es a (.v (ptr ga)) else es ++ [(c, a, .v (ptr ga))]) a (.v (ptr ga')))
    have h2 := dU c es a (.v (ptr ga))
    unfold bK at h2
    simp only [KR] at h1
    have := hi.len
    omega
   ·
    have := dX c es a a (.v (ptr ga))
    unfold bK at this
    rw [jW, this, if_pos rfl]
    rfl
end
abbrev u64 (n : Nat) : Value := .int .u64 (n : Int)
def dLs (ls : List Nat) : D := .tup ((ls.map u64).map .v)
theorem kT (x y c : Nat) (hc : c ≤ 1) : ∀ w, (callFunc 82 [u64 x, u64 y, u64 c].toArray).run Tryz.prog w = .ok (.value (.tuple [u64 ((x + y + c) % 18446744073709551616), u64 ((x + y + c) / 18446744073709551616)].toArray)) w := fun w => by
 rw [run_callFunc_extern Tryz.func82 (by kernel_rfl) (by kernel_rfl) (by kernel_rfl) (e := add64Entry) (by kernel_rfl)]
 have := run_add64 (P := Tryz.prog) (x : Int) (y : Int) (c : Int) (by omega) (by omega) (by omega) (by omega) w
 rw [show ([u64 x, u64 y, u64 c].toArray : Array Value) = #[.int .u64 (x : Int), .int .u64 (y : Int), .int .u64 (c : Int)] from rfl, this]
 simp only [Result.andThen, u64]
 congr 5 <;> simp
def sub64Entry : Array Value → Sem Value := fun args => do
 let (x, y, b) ← Extern.MathBitsCarry.three "Sub64" args
 pure (Extern.MathBitsCarry.pair ((x + Extern.MathBitsCarry.m64 - y - b) % Extern.MathBitsCarry.m64) (if x < y + b then 1 else 0))
theorem Bd (x y c : Nat) (hc : c ≤ 1) : ∀ w, (callFunc 83 [u64 x, u64 y, u64 c].toArray).run Tryz.prog w = .ok (.value (.tuple [u64 ((x + 18446744073709551616 - y - c) % 18446744073709551616), u64 (if x < y + c then 1 else 0)].toArray)) w := fun w => by
 rw [run_callFunc_extern Tryz.func83 (by kernel_rfl) (by kernel_rfl) (by kernel_rfl) (e := sub64Entry) (by kernel_rfl)]
 have key : c = 0 ∨ c = 1 := by omega
 rcases key with rfl | rfl <;> rfl
theorem vg (ls ms : List Nat) (hl : ls.length = 4) (hm : ms.length = 4) (h1 : ∀ x ∈ ls, x < 18446744073709551616) (h2 : ∀ x ∈ ms, x < 18446744073709551616) :
  ∃ os c, Fn 69 [dLs ls, dLs ms] (· = .tpl [dLs os, .v (u64 c)]) ∧ os.length = 4 ∧ (∀ x ∈ os, x < 18446744073709551616) ∧ Wd.le 18446744073709551616 os + 18446744073709551616 ^ 4 * c = Wd.le 18446744073709551616 ls + Wd.le 18446744073709551616 ms := by
 obtain ⟨a0, a1, a2, a3, rfl⟩ : ∃ a0 a1 a2 a3, ls = [a0, a1, a2, a3] := by
  match ls, hl with
  | [a, b, c, d], _ => exact ⟨a, b, c, d, rfl⟩
 obtain ⟨b0, b1, b2, b3, rfl⟩ : ∃ a0 a1 a2 a3, ms = [a0, a1, a2, a3] := by
  match ms, hm with
  | [a, b, c, d], _ => exact ⟨a, b, c, d, rfl⟩
 simp only [KT, Nq, or_false, forall_eq_or_imp, forall_eq] at h1 h2
 have e0 := kT a0 b0 0 (by omega)
 have e1 := kT a1 b1 ((a0 + b0 + 0) / 18446744073709551616) (by omega)
 generalize hc1 : (a0 + b0 + 0) / 18446744073709551616 = c1 at e0 e1
 generalize hs0 : (a0 + b0 + 0) % 18446744073709551616 = s0 at e0
 have e2 := kT a2 b2 ((a1 + b1 + c1) / 18446744073709551616) (by omega)
 generalize hc2 : (a1 + b1 + c1) / 18446744073709551616 = c2 at e1 e2
 generalize hs1 : (a1 + b1 + c1) % 18446744073709551616 = s1 at e1
 have e3 := kT a3 b3 ((a2 + b2 + c2) / 18446744073709551616) (by omega)
 generalize hc3 : (a2 + b2 + c2) / 18446744073709551616 = c3 at e2 e3
 generalize hs2 : (a2 + b2 + c2) % 18446744073709551616 = s2 at e2
 generalize hc4 : (a3 + b3 + c3) / 18446744073709551616 = c4 at e3
 generalize hs3 : (a3 + b3 + c3) % 18446744073709551616 = s3 at e3
 have hv : ∀ x y : Nat, ∀ z ∈ [u64 x, u64 y], z.oneCell' = true := fun x y z hz => by
  simp only [KT, Nq, or_false] at hz
  rcases hz with rfl | rfl <;> rfl
 refine ⟨[s0, s1, s2, s3], c4, ?_, rfl, ?_, ?_⟩
 ·
  refine Fn.walk 28 Tryz.func69 rfl Tryz.ntmps69 (by simp) fun X => ?_
  simp only [dLs, Lu, ML]
  repeat (refine stp ?_; intros)
  refine EC.xq 5 ?_
  apply EK.round
  repeat (refine stp ?_; intros)
  refine EC.bI 14 [0, 1, 2, 3, 4, 5, 6, 7, 8, 9, 10, 11] [12, 13] [_] _ (by kernel_rfl) (by kernel_rfl) rfl ?_
  simp only [aA, KU, KY, KN, KP]
  repeat
   (first
    | (apply o8 e0 (hv _ _); iterate 3 rfl) | (apply aO; (iterate 3 rfl); exact ⟨by decide, by decide⟩; iterate 2 rfl) | (refine sth ?_; intros))
  refine EM.nil ?_
  repeat (first | rw [KD] | rw [KE])
  refine CH.cut 1 ?_
  simp only [KG, KI, KF, KH]
  repeat
   (first
    | (apply aO; (iterate 3 rfl); exact ⟨by decide, by decide⟩; iterate 2 rfl))
  refine EM.nil ?_
  repeat (first | rw [KD] | rw [KE])
  refine CH.mut (os := [_]) (rest := []) rfl rfl (ng (dW rfl rfl rfl rfl rfl)) ?_
  rintro _ _ ⟨rfl, rfl⟩
  try simp only [St.put]
  repeat (first | rw [KD] | rw [KE])
  refine CH.nil ?_
  try simp only [KF, KH]
  repeat (refine stp ?_; intros)
  refine EC.bI 14 [0, 1, 2, 3, 4, 5, 6, 7, 8, 9, 10, 11] [12, 13] [_] _ (by kernel_rfl) (by kernel_rfl) rfl ?_
  simp only [aA, KU, KY, KN, KP]
  repeat
   (first
    | (apply o8 e1 (hv _ _); iterate 3 rfl) | (apply aO; (iterate 3 rfl); exact ⟨by decide, by decide⟩; iterate 2 rfl) | (refine sth ?_; intros))
  refine EM.nil ?_
  repeat (first | rw [KD] | rw [KE])
  refine CH.cut 1 ?_
  simp only [KG, KI, KF, KH]
  repeat
   (first
    | (apply aO; (iterate 3 rfl); exact ⟨by decide, by decide⟩; iterate 2 rfl))
  refine EM.nil ?_
  repeat (first | rw [KD] | rw [KE])
  refine CH.mut (os := [_]) (rest := []) rfl rfl (ng (dW rfl rfl rfl rfl rfl)) ?_
  rintro _ _ ⟨rfl, rfl⟩
  try simp only [St.put]
  repeat (first | rw [KD] | rw [KE])
  refine CH.nil ?_
  try simp only [KF, KH]
  repeat (refine stp ?_; intros)
  refine EC.bI 14 [0, 1, 2, 3, 4, 5, 6, 7, 8, 9, 10, 11] [12, 13] [_] _ (by kernel_rfl) (by kernel_rfl) rfl ?_
  simp only [aA, KU, KY, KN, KP]
  repeat
   (first
    | (apply o8 e2 (hv _ _); iterate 3 rfl) | (apply aO; (iterate 3 rfl); exact ⟨by decide, by decide⟩; iterate 2 rfl) | (refine sth ?_; intros))
  refine EM.nil ?_
  repeat (first | rw [KD] | rw [KE])
  refine CH.cut 1 ?_
  simp only [KG, KI, KF, KH]
  repeat
   (first
    | (apply aO; (iterate 3 rfl); exact ⟨by decide, by decide⟩; iterate 2 rfl))
  refine EM.nil ?_
  repeat (first | rw [KD] | rw [KE])
  refine CH.mut (os := [_]) (rest := []) rfl rfl (ng (dW rfl rfl rfl rfl rfl)) ?_
  rintro _ _ ⟨rfl, rfl⟩
  try simp only [St.put]
  repeat (first | rw [KD] | rw [KE])
  refine CH.nil ?_
  try simp only [KF, KH]
  repeat (refine stp ?_; intros)
  refine EC.bI 14 [0, 1, 2, 3, 4, 5, 6, 7, 8, 9, 10, 11] [12, 13] [_] _ (by kernel_rfl) (by kernel_rfl) rfl ?_
  simp only [aA, KU, KY, KN, KP]
  repeat
   (first
    | (apply o8 e3 (hv _ _); iterate 3 rfl) | (apply aO; (iterate 3 rfl); exact ⟨by decide, by decide⟩; iterate 2 rfl) | (refine sth ?_; intros))
  refine EM.nil ?_
  repeat (first | rw [KD] | rw [KE])
  refine CH.cut 1 ?_
  simp only [KG, KI, KF, KH]
  repeat
   (first
    | (apply aO; (iterate 3 rfl); exact ⟨by decide, by decide⟩; iterate 2 rfl))
  refine EM.nil ?_
  repeat (first | rw [KD] | rw [KE])
  refine CH.mut (os := [_]) (rest := []) rfl rfl (ng (dW rfl rfl rfl rfl rfl)) ?_
  rintro _ _ ⟨rfl, rfl⟩
  try simp only [St.put]
  repeat (first | rw [KD] | rw [KE])
  refine CH.nil ?_
  try simp only [KF, KH]
  repeat (refine stp ?_; intros)
  refine EK.IC 1 rfl rfl rfl rfl rfl ?_ rfl
  (exact RL.a)
 ·
  intro x hx
  simp only [KT, Nq, or_false] at hx
  omega
 ·
  simp only [Wd.le]
  omega
theorem uY (ls ms : List Nat) (hl : ls.length = 4) (hm : ms.length = 4) (h1 : ∀ x ∈ ls, x < 18446744073709551616) (h2 : ∀ x ∈ ms, x < 18446744073709551616) :
  ∃ os c, Fn 71 [dLs ls, dLs ms] (· = .val (dLs os)) ∧ os.length = 4 ∧ (∀ x ∈ os, x < 18446744073709551616) ∧ c ≤ 1 ∧ Wd.le 18446744073709551616 os + Wd.le 18446744073709551616 ms = Wd.le 18446744073709551616 ls + 18446744073709551616 ^ 4 * c := by
 obtain ⟨a0, a1, a2, a3, rfl⟩ : ∃ a0 a1 a2 a3, ls = [a0, a1, a2, a3] := by
  match ls, hl with
  | [a, b, c, d], _ => exact ⟨a, b, c, d, rfl⟩
 obtain ⟨b0, b1, b2, b3, rfl⟩ : ∃ a0 a1 a2 a3, ms = [a0, a1, a2, a3] := by
  match ms, hm with
  | [a, b, c, d], _ => exact ⟨a, b, c, d, rfl⟩
 simp only [KT, Nq, or_false, forall_eq_or_imp, forall_eq] at h1 h2
 have one : ∀ a b c : Nat, a < 18446744073709551616 → b < 18446744073709551616 → c ≤ 1 → ∃ s d, s < 18446744073709551616 ∧ d ≤ 1 ∧ s + b + c = a + 18446744073709551616 * d ∧ ∀ w, (callFunc 83 [u64 a, u64 b, u64 c].toArray).run Tryz.prog w = .ok (.value (.tuple [u64 s, u64 d].toArray)) w := fun a b c ha hb hc => by
  refine ⟨(a + 18446744073709551616 - b - c) % 18446744073709551616, if a < b + c then 1 else 0, by omega, by split <;> omega, by split <;> omega, fun w => ?_⟩
  rw [Bd a b c hc w]
 obtain ⟨s0, c1, hs0, hc1, q0, e0⟩ := one a0 b0 0 h1.1 h2.1 (by omega)
 obtain ⟨s1, c2, hs1, hc2, q1, e1⟩ := one a1 b1 c1 h1.2.1 h2.2.1 hc1
 obtain ⟨s2, c3, hs2, hc3, q2, e2⟩ := one a2 b2 c2 h1.2.2.1 h2.2.2.1 hc2
 obtain ⟨s3, c4, hs3, hc4, q3, e3⟩ := one a3 b3 c3 h1.2.2.2 h2.2.2.2 hc3
 have hv : ∀ x y : Nat, ∀ z ∈ [u64 x, u64 y], z.oneCell' = true := fun x y z hz => by
  simp only [KT, Nq, or_false] at hz
  rcases hz with rfl | rfl <;> rfl
 refine ⟨[s0, s1, s2, s3], c4, ?_, rfl, ?_, hc4, ?_⟩
 ·
  refine Fn.walk 26 Tryz.func71 rfl Tryz.ntmps71 (by simp) fun X => ?_
  simp only [dLs, Lu, ML]
  repeat (refine stp ?_; intros)
  refine EC.xq 5 ?_
  apply EK.round
  repeat (refine stp ?_; intros)
  refine EC.bI 14 [0, 1, 2, 3, 4, 5, 6, 7, 8, 9, 10, 11] [12, 13] [_] _ (by kernel_rfl) (by kernel_rfl) rfl ?_
  simp only [aA, KU, KY, KN, KP]
  repeat
   (first
    | (apply o8 e0 (hv _ _); iterate 3 rfl) | (apply aO; (iterate 3 rfl); exact ⟨by decide, by decide⟩; iterate 2 rfl) | (refine sth ?_; intros))
  refine EM.nil ?_
  repeat (first | rw [KD] | rw [KE])
  refine CH.cut 1 ?_
  simp only [KG, KI, KF, KH]
  repeat
   (first
    | (apply aO; (iterate 3 rfl); exact ⟨by decide, by decide⟩; iterate 2 rfl))
  refine EM.nil ?_
  repeat (first | rw [KD] | rw [KE])
  refine CH.mut (os := [_]) (rest := []) rfl rfl (ng (dW rfl rfl rfl rfl rfl)) ?_
  rintro _ _ ⟨rfl, rfl⟩
  try simp only [St.put]
  repeat (first | rw [KD] | rw [KE])
  refine CH.nil ?_
  try simp only [KF, KH]
  repeat (refine stp ?_; intros)
  refine EC.bI 14 [0, 1, 2, 3, 4, 5, 6, 7, 8, 9, 10, 11] [12, 13] [_] _ (by kernel_rfl) (by kernel_rfl) rfl ?_
  simp only [aA, KU, KY, KN, KP]
  repeat
   (first
    | (apply o8 e1 (hv _ _); iterate 3 rfl) | (apply aO; (iterate 3 rfl); exact ⟨by decide, by decide⟩; iterate 2 rfl) | (refine sth ?_; intros))
  refine EM.nil ?_
  repeat (first | rw [KD] | rw [KE])
  refine CH.cut 1 ?_
  simp only [KG, KI, KF, KH]
  repeat
   (first
    | (apply aO; (iterate 3 rfl); exact ⟨by decide, by decide⟩; iterate 2 rfl))
  refine EM.nil ?_
  repeat (first | rw [KD] | rw [KE])
  refine CH.mut (os := [_]) (rest := []) rfl rfl (ng (dW rfl rfl rfl rfl rfl)) ?_
  rintro _ _ ⟨rfl, rfl⟩
  try simp only [St.put]
  repeat (first | rw [KD] | rw [KE])
  refine CH.nil ?_
  try simp only [KF, KH]
  repeat (refine stp ?_; intros)
  refine EC.bI 14 [0, 1, 2, 3, 4, 5, 6, 7, 8, 9, 10, 11] [12, 13] [_] _ (by kernel_rfl) (by kernel_rfl) rfl ?_
  simp only [aA, KU, KY, KN, KP]
  repeat
   (first
    | (apply o8 e2 (hv _ _); iterate 3 rfl) | (apply aO; (iterate 3 rfl); exact ⟨by decide, by decide⟩; iterate 2 rfl) | (refine sth ?_; intros))
  refine EM.nil ?_
  repeat (first | rw [KD] | rw [KE])
  refine CH.cut 1 ?_
  simp only [KG, KI, KF, KH]
  repeat
   (first
    | (apply aO; (iterate 3 rfl); exact ⟨by decide, by decide⟩; iterate 2 rfl))
  refine EM.nil ?_
  repeat (first | rw [KD] | rw [KE])
  refine CH.mut (os := [_]) (rest := []) rfl rfl (ng (dW rfl rfl rfl rfl rfl)) ?_
  rintro _ _ ⟨rfl, rfl⟩
  try simp only [St.put]
  repeat (first | rw [KD] | rw [KE])
  refine CH.nil ?_
  try simp only [KF, KH]
  repeat (refine stp ?_; intros)
  refine EC.bI 14 [0, 1, 2, 3, 4, 5, 6, 7, 8, 9, 10, 11] [12, 13] [_] _ (by kernel_rfl) (by kernel_rfl) rfl ?_
  simp only [aA, KU, KY, KN, KP]
  repeat
   (first
    | (apply o8 e3 (hv _ _); iterate 3 rfl) | (apply aO; (iterate 3 rfl); exact ⟨by decide, by decide⟩; iterate 2 rfl) | (refine sth ?_; intros))
  refine EM.nil ?_
  repeat (first | rw [KD] | rw [KE])
  refine CH.cut 1 ?_
  simp only [KG, KI, KF, KH]
  repeat
   (first
    | (apply aO; (iterate 3 rfl); exact ⟨by decide, by decide⟩; iterate 2 rfl))
  refine EM.nil ?_
  repeat (first | rw [KD] | rw [KE])
  refine CH.mut (os := [_]) (rest := []) rfl rfl (ng (dW rfl rfl rfl rfl rfl)) ?_
  rintro _ _ ⟨rfl, rfl⟩
  try simp only [St.put]
  repeat (first | rw [KD] | rw [KE])
  refine CH.nil ?_
  try simp only [KF, KH]
  repeat (refine stp ?_; intros)
  refine EK.jT 1 rfl rfl rfl rfl ?_ rfl
  (exact RL.a)
 ·
  intro x hx
  simp only [KT, Nq, or_false] at hx
  omega
 ·
  simp only [Wd.le]
  omega
theorem pz {ls : List Nat} {k : Nat} (hk : k < ls.length) : (ls.map u64)[k]? = some (u64 ls[k]) := by rw [List.getElem?_map, KJ hk]; rfl
theorem uZ (ls ms : List Nat) (hl : ls.length = 4) (hm : ms.length = 4) (h1 : ∀ x ∈ ls, x < 18446744073709551616) (h2 : ∀ x ∈ ms, x < 18446744073709551616) :
  Fn 68 [dLs ls, dLs ms] (· = .val (.v (.int .i64 (kG (Wd.le 18446744073709551616 ls) (Wd.le 18446744073709551616 ms))))) := by
 refine Fn.walk 26 Tryz.func68 rfl Tryz.ntmps68 (by simp) fun X => ?_
 repeat (refine stp ?_; intros)
 rename_i g2 g3
 refine EC.loop (ι := {p : Nat // p ≤ 4 ∧ ls.drop p = ms.drop p})
  (fun p => ⟨[(5, .val (.v (.int .i64 ((p.1 : Int) - 1)))), (2, .val (.v (.pointer (some ⟨g2, 0, none⟩)))), (3, .val (.v (.pointer (some ⟨g3, 0, none⟩))))], [.var g3 125 (dLs ms), .var g2 125 (dLs ls)], []⟩)
  (fun p => p.1) ⟨4, by omega, by rw [MC (by omega), MC (by omega)]⟩ ?_ ?_
 · exact Le.kp
 rintro ⟨p, hp, hd⟩
 dsimp only at hp hd ⊢
 cases p with
 | zero =>
  have e : ls = ms := by simpa using hd
  subst e
  repeat (refine stp ?_; intros)
  refine EK.iU rfl rfl ?_
  unfold kG
  simp
 | succ p =>
  have hpl : p < ls.length := by omega
  have hpm : p < ms.length := by omega
  have g1 := uh (pz hpl)
  have g4 := uh (pz hpm)
  have ek : (((p + 1 : Nat) : Int) - 1) = (p : Int) := by omega
  rw [ek]
  have hk : (0 : Int) ≤ (p : Int) ∧ ((p : Int)).toNat < 4 := ⟨by omega, by omega⟩
  have hoff : 0 + ((p : Int)).toNat * 1 = p := by omega
  rcases Nk ls[p] ms[p] with hc | hc | hc
  ·
   have hlt := nC ls ms (by omega) h1 h2 p hpl (by simpa using hd) hc
   have hcmp : jF .lss (ls[p] : Int) (ms[p] : Int) = some true := by simp [jF]; omega
   repeat (refine stp ?_; intros)
   refine EC.draw 8 (by kernel_rfl) ?_
   simp only [KG, KI, KF, KH]
   repeat
    (first
     | (apply aO; (iterate 3 rfl); exact hk; iterate 2 rfl)
     | (apply mJ; rfl; (first | exact I0 | exact I1); rfl; (rw [hoff]; first | exact g1 | exact g4); iterate 2 rfl)
     | (apply rC; (iterate 2 rfl); exact hcmp; iterate 2 rfl) | (refine sth ?_; intros))
   repeat (refine stp ?_; intros)
   refine EK.iU rfl rfl ?_
   unfold kG
   simp [hlt]
  ·
   have hcmp : jF .lss (ls[p] : Int) (ms[p] : Int) = some false := by simp [jF]; omega
   have hcmp2 : jF .gtr (ls[p] : Int) (ms[p] : Int) = some false := by simp [jF]; omega
   repeat (refine stp ?_; intros)
   refine EC.draw 8 (by kernel_rfl) ?_
   simp only [KG, KI, KF, KH]
   repeat
    (first
     | (apply aO; (iterate 3 rfl); exact hk; iterate 2 rfl)
     | (apply mJ; rfl; (first | exact I0 | exact I1); rfl; (rw [hoff]; first | exact g1 | exact g4); iterate 2 rfl)
     | (apply rC; (iterate 2 rfl); exact hcmp; iterate 2 rfl) | (refine sth ?_; intros))
   repeat (refine stp ?_; intros)
   refine EC.draw 8 (by kernel_rfl) ?_
   simp only [KG, KI, KF, KH]
   repeat
    (first
     | (apply aO; (iterate 3 rfl); exact hk; iterate 2 rfl)
     | (apply mJ; rfl; (first | exact I0 | exact I1); rfl; (rw [hoff]; first | exact g1 | exact g4); iterate 2 rfl)
     | (apply rC; (iterate 2 rfl); exact hcmp2; iterate 2 rfl) | (refine sth ?_; intros))
   repeat (refine stp ?_; intros)
   refine EK.again ⟨p, by omega, ?_⟩ (by dsimp only; omega) ?_
   · rw [Mc hpl, Mc hpm, hc, hd]
   exact Le.kp
  ·
   have hlt := nC ms ls (by omega) h2 h1 p hpm (by simpa using hd.symm) hc
   have hcmp : jF .lss (ls[p] : Int) (ms[p] : Int) = some false := by simp [jF]; omega
   have hcmp2 : jF .gtr (ls[p] : Int) (ms[p] : Int) = some true := by simp [jF]; omega
   repeat (refine stp ?_; intros)
   refine EC.draw 8 (by kernel_rfl) ?_
   simp only [KG, KI, KF, KH]
   repeat
    (first
     | (apply aO; (iterate 3 rfl); exact hk; iterate 2 rfl)
     | (apply mJ; rfl; (first | exact I0 | exact I1); rfl; (rw [hoff]; first | exact g1 | exact g4); iterate 2 rfl)
     | (apply rC; (iterate 2 rfl); exact hcmp; iterate 2 rfl) | (refine sth ?_; intros))
   repeat (refine stp ?_; intros)
   refine EC.draw 8 (by kernel_rfl) ?_
   simp only [KG, KI, KF, KH]
   repeat
    (first
     | (apply aO; (iterate 3 rfl); exact hk; iterate 2 rfl)
     | (apply mJ; rfl; (first | exact I0 | exact I1); rfl; (rw [hoff]; first | exact g1 | exact g4); iterate 2 rfl)
     | (apply rC; (iterate 2 rfl); exact hcmp2; iterate 2 rfl) | (refine sth ?_; intros))
   repeat (refine stp ?_; intros)
   refine EK.iU rfl rfl ?_
   unfold kG
   rw [if_neg (by omega), if_pos hlt]
end E
end Go.Proofs.YtkhjanjlcdhdcaaGreat
