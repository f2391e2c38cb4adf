/-
 Merged: lemmas of this claim.
 Conditions: none.
-/
import Derived.Test.YtelbhdobjdnglaaGreatZC28
import Derived.Test.YtelbhdobjdnglaaGreatZC13
import Derived.Test.YtelbhdobjdnglaaGreatZC12
import Derived.Test.YtelbhdobjdnglaaGreatZC27
import Derived.Test.YtelbhdobjdnglaaGreatZC26
import Derived.Test.YtelbhdobjdnglaaGreatZC0
namespace Go.Proofs.YtelbhdobjdnglaaGreat
set_option linter.unusedVariables false
set_option maxRecDepth 20000
set_option maxHeartbeats 2000000
open Go.RowKit Mono Rlp Go.Sort
namespace E
def unV : Value → List UInt8
 | .agg cs => cs.toList.map fun v => match v with
  | .int _ n => UInt8.ofNat n.toNat
  | _ => 0
 | _ => []
theorem ru (l : List UInt8) : unV (dG l) = l := by
 unfold dG unV bvs
 simp only [XU]
 refine (XL fun b _ => ?_).trans (List.map_id l)
 simp [bv]
theorem mF {α β γ : Type} {R : α → β → Prop} {f : α → γ} {g : β → γ} (h : ∀ a b, R a b → f a = g b) : ∀ {l : List α} {m : List β}, jY R l m → l.map f = m.map g
 | _, _, .nil => rfl
 | _, _, .cons h1 h2 => by rw [Xm, Xm, h _ _ h1, mF h h2]
theorem oI {α β : Type} {R : α → β → Prop} {l : List α} {m : List β} (h : jY R l m) {a : α} (ha : a ∈ l) : ∃ b ∈ m, R a b := by
 induction h with
 | nil => cases ha
 | cons h1 h2 ih =>
  rcases Xb.1 ha with rfl | ha
  · exact ⟨_, WT .., h1⟩
  ·
   obtain ⟨b, hb, hr⟩ := ih ha
   exact ⟨b, WZ _ hb, hr⟩
theorem ng {α β : Type} {R : α → β → Prop} : ∀ {l : List α} {m : List β}, jY R l m → l.length = m.length
 | _, _, .nil => rfl
 | _, _, .cons _ h2 => by rw [WS, WS, ng h2]
theorem Hg {n : Nat} (ks : List (Ky n)) : ks.map dK = (ks.map (·.1)).map (D.arr n) := by
 rw [XU]
 rfl
theorem Gw : ∀ args w, (callFunc 156 args).run Tryz.prog w = .ok (.enter 156 args) w := enters_of Tryz.func156 (by kernel_rfl) rfl
theorem GR (g m c : Nat) (es : List Ent) (hl : es.length * 32 ≤ 140737488355328) : FnM 166 [.v (.slice none 0 0), .v (.func (.func 156) #[] #[.pointer (some ⟨g, 0, none⟩)])] [.var g 114 (.v (.map (some m))), .map m 32 c es] (fun r os' => ∃ v, ∃ ks : List (Ky 32), r = .val (.v v) ∧ (ks.map (·.1)).Perm (es.map (·.2.1)) ∧ os' = [.row v 29 32 (ks.map dK), .var g 114 (.v (.map (some m))), .map m 32 c es]) := by
 constructor
 intro ok w xs hok hown hr
 obtain ⟨x1, _, rfl, hx1, x2, _, rfl, hx2, rfl⟩ := hr
 obtain rfl := (aY.1 hx1).2
 obtain rfl := (aY.1 hx2).2
 obtain ⟨_, cs, hg, hrd⟩ := hown.at_ _ (WT ..)
 obtain ⟨_, hent, arr, hm, hall⟩ := hown.at_ _ (WZ _ (WT ..))
 rw [Reads] at hrd
 rw [hrd.2] at hg
 have hglt := (Xu.1 hg).1
 have hmlt := (Xu.1 hm).1
 have hbs : arr.toList.map (·.born) = es.map (·.1) := mF (fun a b h => h.born) hall
 have hks : arr.toList.map (·.key) = es.map fun x => dG x.2.1 := mF (fun a b h => h.key) hall
 have hsz : arr.size = es.length := by rw [← Yy, ng hall]
 have hseq : SeqStopsK Fence.wide 3 Tryz.prog 156 #[.pointer (some ⟨g, 0, none⟩)] (fun x : Ky 32 => #[kv x]) KeepsWalks (fun ss => (ss.map kv).Perm (arr.toList.map (·.key))) (fun _ => True) arr.size w := fun l J Jx W hW hJ _ hY h0 =>
  IQ 3 l g m (by omega) arr c J Jx hY W hJ ((hW.cell (p := ⟨g, 0, none⟩) hglt).trans (by rw [cell_of_row w g 0 _ _ _ hg]; rfl)) ((hW.block m hmlt).trans hm) (by rw [hbs]; exact hent.borns)
   (fun x hx => by obtain ⟨y, hy, he⟩ := oI hall hx; rw [he.born]; exact hent.lt y hy)
   (fun x hx => by obtain ⟨y, hy, he⟩ := oI hall hx; exact ⟨⟨y.2.1, he.len⟩, he.key⟩) h0
 refine (callsIn_wide.1 (mD 4 (by omega) 156 #[.pointer (some ⟨g, 0, none⟩)] Gw _ _ arr.size (by rw [hsz]; exact hl) w hseq)).mono ?_
 rintro e w' ⟨v, ks, rfl, hp, hrow, hnil, hB⟩
 have hp' : (ks.map (·.1)).Perm (es.map (·.2.1)) := by
  rw [hks] at hp
  have := hp.map unV
  rw [XU, XU] at this
  have e1 : ks.map (unV ∘ kv) = ks.map (·.1) := XL fun k _ => ru k.1
  have e2 : es.map (unV ∘ fun x => dG x.2.1) = es.map (·.2.1) := XL fun k _ => ru k.2.1
  rwa [e1, e2] at this
 have hnew : ∀ b, v.ownBlock = some b → w.heap.size ≤ b := fun b hb => (hrow.lt b hb).1
 refine ⟨v, .val (.v v), _, rfl, ⟨v, ks, rfl, hp', rfl⟩, ⟨.of hB, .cons (fun p hp b hb e => ?_) hown.apart, fun o ho => ?_⟩, aY.2 ⟨uo hrow, rfl⟩⟩
 ·
  have h1 := hnew b hb
  have h2 := (Obj.eP (hown.at_ p hp) e).2
  omega
 ·
  rcases Xb.1 ho with rfl | ho
  ·
   refine ⟨ks.map kc, ⟨?_, fun b hb => .inr (hnew b hb)⟩, jZ ks⟩
   rw [WY]
   exact uq hrow
  ·
   refine ((hown.at_ o ho).move (fun b hb => ⟨.inl hb, Xd (hok b hb) hB.size, fun o' ho' e => ?_⟩) (fun p hp => hB.cell (hok _ hp)) fun b hb => hB.block b (Obj.eP (hown.at_ o ho) hb).2).ku fun b hb => .inl ⟨o, ho, hb⟩
   rcases Xb.1 ho' with rfl | ho'
   ·
    have := hnew b e
    have := hok b hb
    omega
   · exact hown.off b ⟨o', ho', e⟩ hb
theorem MH (m : Nat) : FnM 102 [.v (.map (some m))] [] (fun r os' => ∃ g, r = .val (.v (.func (.func 156) #[] #[.pointer (some ⟨g, 0, none⟩)])) ∧ os' = [.var g 114 (.v (.map (some m)))]) := by
 refine FnM.walk 4 Tryz.func102 rfl Tryz.ntmps102 (by simp) fun X => ?_
 repeat
  (first
   | (apply ah; iterate 3 rfl) | (apply uU; iterate 3 rfl) | (apply cZ; rfl; rfl; rfl; intro _) | apply EL.nil
   | (with_reducible first | apply EK.nc | apply EC.seq | apply EC.r0 | apply EC.ret))
 rename_i g
 exact EK.aW [.var g 114 (.v (.map (some m)))] rfl rfl (by (repeat first | exact WI _ | apply List.Sublist.cons_cons | apply List.Sublist.cons)) ⟨g, rfl, rfl⟩
theorem Eb (g m c : Nat) (es : List Ent) (hl : es.length * 32 ≤ 140737488355328) : FnM 128 [.v (.func (.func 156) #[] #[.pointer (some ⟨g, 0, none⟩)])] [.var g 114 (.v (.map (some m))), .map m 32 c es] (fun r os' => ∃ v, ∃ ks : List (Ky 32), r = .val (.v v) ∧ (ks.map (·.1)).Perm (es.map (·.2.1)) ∧ os' = [.row v 29 32 (ks.map dK), .var g 114 (.v (.map (some m))), .map m 32 c es]) := by
 have h1 := GR g m c es hl
 refine FnM.walk 5 Tryz.func128 rfl Tryz.ntmps128 (by simp) fun X => ?_
 repeat
  (first
   | (apply dD (os := [.var g 114 (.v (.map (some m))), .map m 32 c es]) h1; (iterate 2 rfl); exact aj.refl _ _; (focus (intro _ _; simp [go_sem]; done)); (iterate 2 rfl); rintro _ _ ⟨v, ks, rfl, hp, rfl⟩)
   | (apply ak; iterate 3 rfl) | (apply ah; iterate 3 rfl) | apply EL.nil
   | (with_reducible first | apply EK.nc | apply EC.seq | apply EC.r0 | apply EC.ret))
 exact EK.aW [.row v 29 32 (ks.map dK), .var g 114 (.v (.map (some m))), .map m 32 c es] rfl rfl (by (repeat first | exact WI _ | apply List.Sublist.cons_cons | apply List.Sublist.cons)) ⟨v, ks, rfl, hp, rfl⟩
theorem EF (cf : FuncId) (hc : ∀ l m : List UInt8, l.length = 32 → m.length = 32 → ∀ w, Calls Tryz.prog cf #[dG l, dG m] w fun e w' => e = .returned (.int .i64 (pF l m)) ∧ ∃ q os', w' = grow (w.drewN q) os') (ec : ∀ args w, (callFunc cf args).run Tryz.prog w = .ok (.enter cf args) w)
  (g m c : Nat) (es : List Ent) (hl : es.length * 32 ≤ 140737488355328) : FnM 101 [.v (.func (.func 156) #[] #[.pointer (some ⟨g, 0, none⟩)]), .v (.func (.func cf) #[] #[])] [.var g 114 (.v (.map (some m))), .map m 32 c es] (fun r os' => ∃ v, r = .val (.v v) ∧ os' = [.row v 29 32 ((sortL (es.map (·.2.1))).map (D.arr 32)), .var g 114 (.v (.map (some m))), .map m 32 c es]) := by
 have h1 := Eb g m c es hl
 refine FnM.walk 12 Tryz.func101 rfl Tryz.ntmps101 (by simp) fun X => ?_
 repeat
  (first
   | (apply dD (os := [.var g 114 (.v (.map (some m))), .map m 32 c es]) h1; (iterate 2 rfl); exact aj.refl _ _; (focus (intro _ _; simp [go_sem]; done)); (iterate 2 rfl); rintro _ _ ⟨v, ks, rfl, hp, rfl⟩)
   | (apply ak; iterate 3 rfl) | (apply ah; iterate 3 rfl) | apply EL.nil
   | (with_reducible first | apply EK.nc | apply EC.seq | apply EC.r0))
 have hkl : ks.length = es.length := by simpa using hp.length_eq
 have h2 := AZ cf hc ec v ks (by omega)
 repeat
  (first
   | (apply dD (os := [.row v 29 32 (ks.map dK)]) h2; (iterate 2 rfl); exact aj.refl _ _; (focus (intro _ _; simp [go_sem]; done)); (iterate 2 rfl); rintro _ _ ⟨rfl, rfl⟩)
   | (apply ak; iterate 3 rfl) | (apply ah; iterate 3 rfl) | apply EL.nil
   | (with_reducible first | apply EK.nc | apply EC.seq | apply EC.r0 | apply EC.ret))
 have hs : (ks.mergeSort fun x y => decide (x.1 ≤ y.1)).map (·.1) = sortL (es.map (·.2.1)) := by
  refine EI (((Zj ks _).map (·.1)).trans hp) ?_
  have h := YZ (le := fun x y : Ky 32 => decide (x.1 ≤ y.1)) (fun a b c h1 h2 => by simp only [decide_eq_true_eq] at h1 h2 ⊢; exact List.le_trans h1 h2) (fun a b => by simp only [Y1, decide_eq_true_eq]; exact List.le_total a.1 b.1) ks
  rw [YR]
  exact h.imp fun h => by simpa using h
 exact EK.aW [.row v 29 32 ((ks.mergeSort fun x y => decide (x.1 ≤ y.1)).map dK), .var g 114 (.v (.map (some m))), .map m 32 c es] rfl rfl (by (repeat first | exact WI _ | apply List.Sublist.cons_cons | apply List.Sublist.cons)) ⟨v, rfl, by rw [Hg, hs]⟩
end E
end Go.Proofs.YtelbhdobjdnglaaGreat
namespace Go.Proofs.YtelbhdobjdnglaaGreat
set_option linter.unusedVariables false
set_option maxRecDepth 20000
set_option maxHeartbeats 8000000
open Go.RowKit Mono Rlp
namespace E
theorem EC.mapOf {N : Nat} {X : Cx N} {S : St} {Q : Exit → Act → World → Prop} {cd : Code} {g n c : Nat} {es : List Ent} (i : Nat) (hi : S.objs[i]? = some (.map g n c es)) (k : qZ c es → (∀ e ∈ es, e.2.1.length = n) → EC X Q cd S) : EC X Q cd S := ⟨fun a w ha => by
 obtain ⟨_, hE, arr, _, h4⟩ := ha.mem.at_ _ (Xh hi)
 exact (k hE fun e he => by obtain ⟨y, _, h5⟩ := h4.right e he; exact h5.len).go a w ha⟩
theorem key_inj {α β : Type} {f : α → β} : ∀ {l : List α}, (l.map f).Nodup → ∀ a ∈ l, ∀ b ∈ l, f a = f b → a = b
 | [], _, a, ha, _, _, _ => by cases ha
 | x :: l, h, a, ha, b, hb, e => by
  rw [Xm, XV] at h
  rcases Xb.1 ha with ha1 | ha1
  ·
   rcases Xb.1 hb with hb1 | hb1
   · rw [ha1, hb1]
   · exact absurd (Xg.2 ⟨b, hb1, by rw [← e, ha1]⟩) h.1
  ·
   rcases Xb.1 hb with hb1 | hb1
   · exact absurd (Xg.2 ⟨a, ha1, by rw [e, hb1]⟩) h.1
   · exact key_inj h.2 a ha1 b hb1 e
theorem o8 {α β : Type} {f : α → β} {l : List α} (h : (l.map f).Nodup) : l.Nodup := by
 unfold List.Nodup at h ⊢
 rw [YR] at h
 exact h.imp fun h e => h (by rw [e])
theorem Oj {es xs : List Ent} (hE : (es.map (·.1)).Nodup) (h1 : ∀ e ∈ xs, e ∈ es) (h2 : (xs.map (·.1)).Nodup) (h3 : ∀ e ∈ es, e.1 ∈ (xs.map (·.1)).toArray) : xs.Perm es :=
 (List.perm_ext_iff_of_nodup (o8 h2) (o8 hE)).2 fun e => ⟨h1 e, fun he => by
  have := h3 e he
  simp only [List.mem_toArray, Xg] at this
  obtain ⟨y, hy, h4⟩ := this
  rw [← key_inj hE y (h1 y hy) e he h4]
  exact hy⟩
theorem Oi {es xs : List Ent} (h1 : ∀ e ∈ xs, e ∈ es) (h2 : (xs.map (·.1)).Nodup) : xs.length ≤ es.length := (o8 h2).length_le_of_subset h1
theorem qQ : ∀ (es : List Ent) (l : List UInt8), (es.map (·.2.1)).Nodup → kG es l = es.filter fun e => !(e.2.1 == l)
 | [], _, _ => rfl
 | x :: es, l, h => by
  rw [Xm, XV] at h
  rw [kG]
  cases hx : x.2.1 == l with
  | true =>
   have : es.filter (fun e => !(e.2.1 == l)) = es := List.filter_eq_self.2 fun e he => by
    have hne : ¬ e.2.1 = l := fun e' => h.1 (by rw [eq_of_beq hx, ← e']; exact Xg.2 ⟨e, he, rfl⟩)
    simpa using hne
   simp [hx, this]
  | false => simp [hx, qQ es l h.2]
theorem Bz (xs : List Ent) (e : Ent) : ((xs.map (·.1)).toArray).push e.1 = ((xs ++ [e]).map (·.1)).toArray := by simp
theorem Bc {es xs : List Ent} {e : Ent} (hsub : ∀ y ∈ xs, y ∈ es) (hnod : (xs.map (·.1)).Nodup) (he : e ∈ es) (hne : e.1 ∉ (xs.map (·.1)).toArray) : (∀ y ∈ xs ++ [e], y ∈ es) ∧ ((xs ++ [e]).map (·.1)).Nodup ∧ xs.length + 1 ≤ es.length := by
 have h1 : ∀ y ∈ xs ++ [e], y ∈ es := fun y hy => by
  rcases Xq.1 hy with hy | hy
  · exact hsub y hy
  ·
   obtain rfl : y = e := by simpa using hy
   exact he
 have h2 : ((xs ++ [e]).map (·.1)).Nodup := by
  rw [XK, Xm, X3]
  refine YQ.2 ⟨hnod, by simp, fun a ha b hb hab => hne ?_⟩
  obtain rfl : b = e.1 := by simpa using hb
  rw [← hab]
  simpa using ha
 have h3 := Oi h1 h2
 rw [List.length_append, List.length_singleton] at h3
 exact ⟨h1, h2, h3⟩
section
variable {g5 wm cw : Nat} {W : List Ent}
abbrev wvO (g5 wm : Nat) : Obj := .var g5 163 (.v (.map (some wm)))
abbrev TK (g5 : Nat) : Value := .func (.func 131) #[] #[ptr g5]
theorem SH (hW : tX W) (x : List UInt8) (b : Bool) : FnM 131 ([.arr 32 x, .v (.bool b)] ++ [.v (ptr g5)]) [wvO g5 wm, .map wm 32 cw W] (fun r os' => r = .val (.v (.bool (eG W x))) ∧ os' = [wvO g5 wm, .map wm 32 cw W]) := by
 have hg := hW.get x
 refine FnM.walk 9 Tryz.func131 rfl Tryz.ntmps131 (by simp) fun X => ?_
 repeat
  (first
   | (apply zZ; exact hg; rfl; (first | exact I0 | exact I1 | exact I2); iterate 5 rfl) | (apply ah; iterate 3 rfl)
   | (apply aI; rfl; exact I.a; iterate 4 rfl) | (apply cZ; rfl; rfl; rfl; intro _) | apply EL.nil
   | (with_reducible first | apply EK.nc | apply EC.seq | apply EC.r0 | apply EC.ret))
 refine EK.le (Le.pick [1, 2, 0] [_, _, _] rfl (by decide) rfl) ?_
 exact EK.aW [wvO g5 wm, .map wm 32 cw W] rfl rfl (by (repeat first | exact WI _ | apply List.Sublist.cons_cons | apply List.Sublist.cons)) ⟨rfl, rfl⟩
structure Dif (S W S' : List Ent) : Prop where
 sub : S'.Sublist S
 all : ∀ y, y ∈ S'.map (·.2.1) ↔ y ∈ S.map (·.2.1) ∧ eG W y = false
theorem Dif.set {S S' : List Ent} (h : Dif S W S') (hS : tX S) : tX S' := ⟨hS.nd.sublist (h.sub.map _), fun e he => hS.tt e (h.sub.subset he)⟩
theorem Nv (s cs : Nat) (S : List Ent) (hS : tX S) (hW : tX W) : FnM 130 [.v (.map (some s)), .v (TK g5)] [.map s 32 cs S, wvO g5 wm, .map wm 32 cw W] (fun r os' => ∃ S', Dif S W S' ∧ r = .tpl [] ∧ os' = [.map s 32 cs S', wvO g5 wm, .map wm 32 cw W]) := by
 refine FnM.walk 19 Tryz.func130 rfl Tryz.ntmps130 (by simp) fun X => ?_
 refine EC.mapOf 0 rfl fun hE hlen => ?_
 repeat
  (first
   | (apply KE; rfl; (first | exact I0 | exact I1 | exact I2 | exact I3); (iterate 3 rfl); intro gi) | (apply ak; iterate 3 rfl) | apply EL.nil
   | (with_reducible first | apply EK.nc | apply EC.seq | apply EC.r0 | apply EC.b0))
 refine EC.loop (ι := {x : List Ent × List Ent // (∀ e ∈ x.1, e ∈ S) ∧ (x.1.map (·.1)).Nodup ∧ x.2.Sublist S ∧ (∀ e ∈ S, e ∈ x.2 ∨ eG W e.2.1 = true) ∧ ∀ e ∈ x.1, e ∈ x.2 → eG W e.2.1 = false})
  (fun x => ⟨[(7, .val (.v (ptr gi))), (1, .val (.v (TK g5))), (0, .val (.v (.map (some s))))], [itO gi s cs (x.1.1.map (·.1)).toArray, .map s 32 cs x.1.2, wvO g5 wm, .map wm 32 cw W], []⟩)
  (fun x => S.length - x.1.1.length) ⟨([], S), fun e he => by simp at he, .nil, Yn _, fun e he => .inl he, fun e he => by simp at he⟩ ?_ ?_
 · exact Le.kp
 rintro ⟨⟨xs, cur⟩, hsub, hnod, hcs, hall, hxs⟩
 dsimp only at hsub hnod hcs hall hxs ⊢
 repeat
  (first
   | (with_reducible first | apply EC.seq | apply EC.r0))
 refine QE rfl rfl rfl (fun hfin => ?_) (fun e he hne => ?_)
 ·
  have hdif : Dif S W cur := ⟨hcs, fun y => ⟨fun hy => by
   obtain ⟨e, he, rfl⟩ := Xg.1 hy
   have h3 := hfin e he
   simp only [List.mem_toArray, Xg] at h3
   obtain ⟨e', he', h4⟩ := h3
   have h5 : e' = e := key_inj hE.borns e' (hsub e' he') e (hcs.subset he) h4
   subst h5
   exact ⟨Xg.2 ⟨e', hsub _ he', rfl⟩, hxs _ he' he⟩, fun hy => by
   obtain ⟨h1, h2⟩ := hy
   obtain ⟨e, he, rfl⟩ := Xg.1 h1
   rcases hall e he with h3 | h3
   · exact Xg.2 ⟨e, h3, rfl⟩
   ·
    rw [h2] at h3
    cases h3⟩⟩
  repeat
   (first
    | (apply aA; iterate 4 rfl) | apply EL.nil | (apply EC.f0; rfl)
    | (with_reducible first | apply EK.nc | apply EC.seq | apply EC.x0 | apply EK.s0 | apply EK.aJ))
  refine EK.le (Le.pick [1, 2, 3, 0] [_, _, _, _] rfl (by decide) rfl) ?_
  exact EK.Ug [.map s 32 cs cur, wvO g5 wm, .map wm 32 cw W] rfl (by (repeat first | exact WI _ | apply List.Sublist.cons_cons | apply List.Sublist.cons)) ⟨cur, hdif, rfl, rfl⟩
 ·
  have heS := hcs.subset he
  obtain ⟨hsub2, hnod2, hlen2⟩ := Bc hsub hnod heS hne
  have hte := hS.tt e heS
  have hpb := Bz xs e
  have hd1 := SH (g5 := g5) (wm := wm) (cw := cw) hW e.2.1 true
  obtain ⟨be, ke, de⟩ := e
  dsimp only at hte
  subst hte
  cases hw : eG W ke with
  | false =>
   rw [hw] at hd1
   repeat
    (first
     | (apply Ej (e := (be, ke, .v (.bool true))) he; rfl; (first | exact I0 | exact I1); (first | exact I1 | exact I2); iterate 2 rfl) | (apply ak; iterate 3 rfl)
     | (apply ah; iterate 3 rfl) | (apply aA; iterate 4 rfl) | (apply aI; rfl; exact I.a; iterate 4 rfl)
     | (apply aT; rfl; rfl; rfl; intro _) | (apply aO; rfl; exact saA; iterate 4 rfl) | apply EL.nil
     | (apply EC.t0; rfl) | (with_reducible first | apply EK.nc | apply EC.seq | apply EC.r0 | apply EC.k0 | apply EC.b0))
   refine EL.le (Le.pick [3, 4, 0, 1, 2] [_, _, _, _, _] rfl (by decide) rfl) ?_
   refine oL (caps := [ptr g5]) (os := [wvO g5 wm, .map wm 32 cw W]) (ds' := [.arr 32 ke, .v (.bool true)]) (cds := [.v (ptr g5)]) hd1 (fun base ok L a w _ => Jk (caps := [ptr g5]) (by simp [Value.oneCell'])) rfl rfl rfl (aj.refl _ _) (by intro _ _; simp [go_sem]) rfl rfl ?_
   rintro _ _ ⟨rfl, rfl⟩
   simp only [WL, WJ]
   repeat
    (first
     | apply EL.nil | (apply EC.f0; rfl) | (with_reducible first | apply EK.nc | apply EC.k0 | apply EK.n0))
   refine EK.le (Le.pick [3, 4, 0, 1, 2] [_, _, _, _, _] rfl (by decide) rfl) ?_
   refine EK.again ⟨(xs ++ [(be, ke, .v (.bool true))], cur), hsub2, hnod2, hcs, hall, fun e he1 he2 => ?_⟩ (by dsimp only; rw [List.length_append, List.length_singleton]; omega) ?_
   ·
    rcases Xq.1 he1 with h1 | h1
    · exact hxs e h1 he2
    ·
     rw [XQ.1 h1]
     exact hw
   ·
    dsimp only
    rw [← hpb]
    exact Le.kp
  | true =>
   rw [hw] at hd1
   repeat
    (first
     | (apply Ej (e := (be, ke, .v (.bool true))) he; rfl; (first | exact I0 | exact I1); (first | exact I1 | exact I2); iterate 2 rfl) | (apply ak; iterate 3 rfl)
     | (apply ah; iterate 3 rfl) | (apply aA; iterate 4 rfl) | (apply aI; rfl; exact I.a; iterate 4 rfl)
     | (apply aT; rfl; rfl; rfl; intro _) | (apply aO; rfl; exact saA; iterate 4 rfl) | apply EL.nil
     | (apply EC.t0; rfl) | (with_reducible first | apply EK.nc | apply EC.seq | apply EC.r0 | apply EC.k0 | apply EC.b0))
   refine EL.le (Le.pick [3, 4, 0, 1, 2] [_, _, _, _, _] rfl (by decide) rfl) ?_
   refine oL (caps := [ptr g5]) (os := [wvO g5 wm, .map wm 32 cw W]) (ds' := [.arr 32 ke, .v (.bool true)]) (cds := [.v (ptr g5)]) hd1 (fun base ok L a w _ => Jk (caps := [ptr g5]) (by simp [Value.oneCell'])) rfl rfl rfl (aj.refl _ _) (by intro _ _; simp [go_sem]) rfl rfl ?_
   rintro _ _ ⟨rfl, rfl⟩
   simp only [WL, WJ]
   repeat
    (first
     | (apply ak; iterate 3 rfl) | (apply aI; rfl; exact I.a; iterate 4 rfl)
     | (apply Ac; rfl; exact saA; iterate 3 rfl) | apply EL.nil
     | (apply EC.t0; rfl) | (with_reducible first | apply EK.nc | apply EC.r0 | apply EK.n0))
   have hdf := qQ cur ke (hS.nd.sublist (hcs.map _))
   have hdm : ∀ e, e ∈ kG cur ke ↔ e ∈ cur ∧ e.2.1 ≠ ke := fun e => by
    rw [hdf, Yp]
    simp
   refine EK.le (Le.pick [3, 4, 0, 1, 2] [_, _, _, _, _] rfl (by decide) rfl) ?_
   refine EK.again ⟨(xs ++ [(be, ke, .v (.bool true))], kG cur ke), hsub2, hnod2, (l9 cur ke).trans hcs, fun e he1 => ?_, fun e he1 he2 => ?_⟩ (by dsimp only; rw [List.length_append, List.length_singleton]; omega) ?_
   ·
    by_cases hk : e.2.1 = ke
    · exact .inr (by rw [hk]; exact hw)
    · exact (hall e he1).imp (fun h => (hdm e).2 ⟨h, hk⟩) id
   ·
    obtain ⟨h2, h3⟩ := (hdm e).1 he2
    rcases Xq.1 he1 with h1 | h1
    · exact hxs e h1 h2
    ·
     rw [XQ.1 h1] at h3
     exact absurd rfl h3
   ·
    dsimp only
    rw [← hpb]
    exact Le.kp
end
theorem PO (l : List UInt8) (hl : l.length ≤ 140737488355328) : Fn 104 [.bs l] (· = .val (.bs l)) := ⟨fun ok w xs hok hr => by
 obtain ⟨v, rfl, h⟩ := jQ hr
 refine (mY v l w (nJ hok h) hl).mono ?_
 rintro e w' ⟨v', rfl, hg, ho⟩
 exact ⟨hg, _, _, rfl, rfl, uw ho⟩⟩
theorem zI : ∀ args w, (callFunc 103 args).run Tryz.prog w = .ok (.enter 103 args) w := enters_of Tryz.func103 (by kernel_rfl) rfl
theorem UQ (m c : Nat) (es : List Ent) (bf : List UInt8 → List UInt8) (hb : ∀ k ∈ es.map (·.2.1), dW es k = some (.bs (bf k))) (hbl : ∀ k, (bf k).length ≤ 140737488355328) (hl : es.length ≤ 1000000000) :
  FnM 59 [.v (.map (some m))] [.map m 32 c es] (fun r os' => r = .val (.sl 33 ((sortL (es.map (·.2.1))).map fun k => dNd (k, bf k))) ∧ os' = [.map m 32 c es]) := by
 have h1 := MH m
 have h2 := fun gk => EF 103 GH zI gk m c es (by omega)
 have hKm : ∀ k ∈ sortL (es.map (·.2.1)), dW es k = some (.bs (bf k)) := fun k hk => hb k ((lQ _).mem_iff.1 hk)
 have hKl : (sortL (es.map (·.2.1))).length ≤ 1000000000 := by rw [(lQ _).length_eq, WY]; exact hl
 generalize sortL (es.map (·.2.1)) = K at h2 hKm hKl ⊢
 have hml : (K.map (D.arr 32)).length = K.length := WY _
 refine FnM.walk 25 Tryz.func59 rfl Tryz.ntmps59 (by simp) fun X => ?_
 repeat
  (first
   | (apply dD (os := []) h1; (iterate 2 rfl); exact aj.refl _ _; (focus (intro _ _; simp [go_sem]; done)); (iterate 2 rfl); rintro _ _ ⟨gk, rfl, rfl⟩; simp only [WL, WJ])
   | (apply ak; iterate 3 rfl) | (apply ah; iterate 3 rfl) | apply EL.nil
   | (with_reducible first | apply EK.nc | apply EC.seq | apply EC.r0))
 refine dD (os := [.var gk 114 (.v (.map (some m))), .map m 32 c es]) (h2 gk) rfl rfl (aj.refl _ _) (by intro _ _; simp [go_sem]) rfl rfl ?_
 rintro _ _ ⟨v, rfl, rfl⟩
 simp only [WL, WJ]
 refine EL.le (Le.freeze (pre := []) rfl) ?_
 refine EL.le (Le.refine (t := 8) (d' := .sl 32 (K.map (D.arr 32))) rfl (Rf.fact WT rfl)) ?_
 simp only [WJ]
 repeat
  (first
   | (apply ak; iterate 3 rfl) | (apply bC; iterate 4 rfl) | apply EL.nil | ((with_reducible apply EK.h0); apply EK.code) | (with_reducible apply EC.b0))
 refine EC.le (Le.row 40 33) ?_
 refine EC.loop (ι := {x : Nat × Value // x.1 ≤ K.length})
  (fun x => ⟨[(10, .val (.v (.int .i64 (x.1.1 : Int)))), (9, .val (.v (.int .i64 ((K.map (D.arr 32)).length : Int)))), (8, .val (.sl 32 (K.map (D.arr 32)))), (3, .val (.v x.1.2)), (0, .val (.v (.map (some m))))], [.row x.1.2 40 33 ((K.take x.1.1).map fun k => dNd (k, bf k)), .map m 32 c es], []⟩)
  (fun x => K.length - x.1.1) ⟨(0, .slice none 0 0), Xo _⟩ ?_ ?_
 · exact Le.kp
 rintro ⟨⟨i, rv⟩, hi⟩
 dsimp only at hi ⊢
 by_cases hlt : i < K.length
 ·
  have hd : (K.map (D.arr 32))[i]? = some (D.arr 32 K[i]) := by rw [Xl, List.getElem?_eq_getElem hlt]; rfl
  have hget : (dW es K[i]).getD (.v (.slice none 0 0)) = .bs (bf K[i]) := by rw [hKm _ (XH hlt)]; rfl
  have hcl := PO (bf K[i]) (hbl _)
  have hl3 : ((K.take i).map fun k => dNd (k, bf k)).length = i := by rw [WY, Xi]; omega
  have htk : (K.take (i + 1)).map (fun k => dNd (k, bf k)) = (K.take i).map (fun k => dNd (k, bf k)) ++ [dNd (K[i], bf K[i])] := by rw [Xa hlt, XK]; rfl
  unfold dNd at htk
  dsimp only at htk
  repeat
   (first
    | (apply aG; iterate 5 rfl) | (apply aF (b := true); (iterate 2 rfl); exact aQ; iterate 2 rfl)
    | (apply bH; (iterate 4 rfl); exact ixA; iterate 2 rfl)
    | (apply aT; rfl; rfl; rfl; intro _) | (apply aO; rfl; exact saA; iterate 4 rfl) | apply EL.nil
    | (apply EC.t0; rfl) | (with_reducible first | apply EK.nc | apply EC.seq | apply EC.r0 | apply EC.k0 | apply EC.b0))
  refine EC.le (Le.pick [1, 0, 2] [_, _, _] rfl (by decide) rfl) ?_
  refine EC.uO 9 [0, 1, 2, 3, 4, 5, 6] [7, 8] [_] _ (by kernel_rfl) (by kernel_rfl) rfl ?_
  simp only [aZ, WU, WW, WQ, WR]
  repeat
   (first
    | (apply jX; exact hget; rfl; (first | exact I0 | exact I1 | exact I2 | exact I3); iterate 5 rfl)
    | (apply jv (hcl); rfl; exact aj.refl _ _; exact enA; iterate 2 rfl) | (apply bV; iterate 3 rfl) | (apply dP; rfl; exact I.a; iterate 4 rfl)
    | (apply rU; iterate 7 rfl))
  refine EM.nil ?_
  repeat (first | rw [WL] | rw [WJ])
  refine CH.cut 1 ?_
  simp only [WH, WO, WG, WM]
  repeat
   (first
    | (apply G6; iterate 9 rfl))
  refine EM.nil ?_
  repeat (first | rw [WL] | rw [WJ])
  refine CH.mut (os := [_]) (rest := []) rfl rfl (kS rfl rfl rfl rfl rfl ?_) ?_
  ·
   rw [hl3]
   constructor <;> (simp; omega)
  rintro _ _ ⟨sv', rfl, rfl⟩
  try simp only [St.put]
  repeat (first | rw [WL] | rw [WJ])
  refine CH.nil ?_
  try simp only [WG, WM]
  repeat
   (first
    | (apply ak; iterate 3 rfl) | (apply ah; iterate 3 rfl) | (apply jM; (iterate 3 rfl); (focus omega); (focus omega); iterate 2 rfl) | apply EL.nil
    | (with_reducible first | apply EK.nc | apply EC.r0 | apply EK.n0))
  refine EK.again ⟨(i + 1, sv'), hlt⟩ (by dsimp only; omega) ?_
  dsimp only
  unfold dNd
  rw [htk]
  simp only [XA]
  exact Le.kp
 ·
  obtain rfl : i = K.length := by omega
  rw [Yb]
  refine EC.le (Le.freeze (pre := []) rfl) ?_
  simp only [WJ]
  repeat
   (first
    | (apply ak; iterate 3 rfl) | (apply ah; iterate 3 rfl) | (apply aF (b := false); (iterate 2 rfl); exact aQ; iterate 2 rfl) | apply EL.nil
    | (apply EC.f0; rfl)
    | (with_reducible first | apply EK.nc | apply EC.seq | apply EC.r0 | apply EC.x0 | apply EC.ret | apply EK.s0 | apply EK.aJ))
  exact EK.iZ [.map m 32 c es] rfl rfl (RL.cons (Rf.fact WT rfl) RL.nil) (by (repeat first | exact WI _ | apply List.Sublist.cons_cons | apply List.Sublist.cons)) ⟨rfl, rfl⟩
end E
end Go.Proofs.YtelbhdobjdnglaaGreat
namespace Go.Proofs.YtelbhdobjdnglaaGreat
set_option linter.unusedVariables false
set_option maxHeartbeats 2000000
open Go.RowKit Mono Rlp
open Go.ChangeMaps (setBlock)
namespace E
set_option maxRecDepth 100000 in
theorem O5 (n l Bm b : Nat) (hn1 : 1 ≤ n) (es : Array MapEntry) (clock : Nat) (J Jx : List (Ky 32) → World → Prop)
  (hY : ∀ pre x W, J pre W → pre.length < es.size → YieldAt Fence.wide (n - 1) Tryz.prog l #[kv x] W fun e W' => (e = .returned (.bool true) ∧ J (pre ++ [x]) W' ∧ KeepsWalks W W') ∨ (e = .returned (.bool false) ∧ Jx (pre ++ [x]) W'))
  (W : World) (hJ : AbidesFrom W.heap.size J) (hm : W.cell? ⟨Bm, 0, none⟩ = some (.map (some b))) (hb : W.heap[b]? = some (.map es clock)) (hn : (es.toList.map (·.born)).Nodup) (hl : ∀ x ∈ es.toList, x.born < clock) (hkey : ∀ x ∈ es.toList, ∃ k : Ky 32, x.key = kv k) (h0 : J [] W) :
  CallsIn Fence.wide n Tryz.prog 168 #[.func (.yield l) #[] #[], .pointer (some ⟨Bm, 0, none⟩)] W fun e W' => (∃ v, e = .returned v) ∧ ((∃ ss : List (Ky 32), (ss.map kv).Perm (es.toList.map (·.key)) ∧ J ss W') ∨ (∃ pre : List (Ky 32), True ∧ Jx pre W')) := by
 refine callsIn_of_wp Tryz.func168 rfl trivial ?_ rfl
 simp only [Tryz.ntmps168, Yx, WS, XP, Nat.reduceAdd, Nat.reduceSub, Zd, Ze, List.push_toArray, Zi, WJ, WL]
 have hrg0 := Rng.start hb hl
 have hJ0 := hJ [] W _ none h0 (World.grownBy_alloc W (.mapIter (some b) clock #[] clock) none) (fun r e => by cases e)
 have hlt0 : W.heap.size < (W.alloc (.mapIter (some b) clock #[] clock)).heap.size := by simp
 gi_wp2_with (first
  | (gi_at_range; refine zq rfl _ 163 29 4 rfl Tryz.underlying163 rfl hb ?_)
  | gi_in)
 go_frame
 generalize W.alloc (.mapIter (some b) clock #[] clock) = w0 at hrg0 hJ0 hlt0 ⊢
 gi_loopw [3] (fun _ wr => ∃ (cnt : Nat) (ss : List (Ky 32)), Rng wr b W.heap.size es clock (ss.map kv) cnt ∧ J ss wr)
  (fun _ wr => wr.rangeLeft b W.heap.size)
 case atStart =>
  exact ⟨_, [], hrg0, hJ0⟩
 case round =>
  obtain ⟨cnt, ss, hrg, hJs⟩ := hrel
  gi_wp2_with (first
   | (gi_at_next; refine DV rfl _ rfl rfl hrg hn ?_ ?_)
   | gi_in)
  ·
   intro hc0 hp
   gi_wp2
   go_end0
   exact ⟨⟨_, rfl⟩, .inl ⟨ss, hp, hJs⟩⟩
  ·
   intro e w2 cnt2 he hrg2 hlt hg2 hs2 hen
   obtain ⟨x, hx⟩ := hkey e (by simpa using he)
   have hlen : ss.length < es.size := by have := hrg.le; simp at this; omega
   have hJ2 : J ss w2 := hJ ss wr w2 (some W.heap.size) hJs hg2 (fun r e => by cases e; exact ⟨Nat.le_refl _, hrg.iter⟩)
   rw [hx] at hen hrg2 ⊢
   clear hs2
   have hlt2 := hrg2.lt
   gi_wp2_with (first
    | (
      guard_target = wpListIn _ _ _ _ _ (Oper.mk _ (Op.store _ _ _) _ _ _ _ :: _) _ _; refine zo (l := x.1) (cs := List.replicate 32 (.int .u8 0)) rfl _ _ _ rfl (by rw [x.2]; rfl) rfl rfl (World.alloc_heap_new w2 _) (by rw [x.2]; rfl) ?_
      intro w4 hb4 hg4 hs4
      have hg24 : w2.grownBy w4 none := ⟨hg4.os.trans rfl, hg4.tape.trans rfl, hg4.output.trans rfl, by rw [hs4]; simp, fun i hi _ => (hg4.block i (by simp; omega) (fun e => by cases e; omega)).trans ((X8 w2 _).2 i hi)⟩
      have hJ4 : J ss w4 := hJ ss w2 w4 none hJ2 hg24 (fun r e => by cases e)
      have hrg4 := hrg2.kept (hg24.block b hlt2.1 (by simp)) (hg24.block W.heap.size hlt2.2 (by simp))
      obtain ⟨fn, tmps, assign, body, hy, hR⟩ := hY ss x w4 hJ4 hlen
      rw [show kv x = dG x.1 from rfl] at hy
      have hb4' := Lib.hid hb4
      clear hb4 hs4 hg4 hg24)
    | (guard_target = wpListIn _ _ _ _ _ (Oper.mk _ (Op.load _ _) _ _ _ _ :: _) _ _; refine DW (l := x.1) rfl _ _ rfl (by rw [x.2]; rfl) rfl hb4'.out ?_)
    | gi_in)
   refine hR.mono ?_
   rintro e W3 (⟨rfl, hJ3, hk3⟩ | ⟨rfl, hJx3⟩)
   ·
    gi_wp2
    have hrg3 := hrg4.walks hk3
    go_roundw
    case rel => exact ⟨cnt2, ss ++ [x], by simpa using hrg3, hJ3⟩
    case measure => rw [hrg3.left_eq, hrg.left_eq]; exact hlt
   ·
    gi_wp2
    refine bodyPost_ret (results_none rfl _ _ _) rfl ?_
    exact ⟨⟨_, rfl⟩, .inr ⟨ss ++ [x], trivial, hJx3⟩⟩
set_option maxRecDepth 100000 in
theorem O4 (n l Bm b : Nat) (hn1 : 1 ≤ n) (es : Array MapEntry) (clock : Nat) (J Jx : List (Ky 32) → World → Prop)
  (hY : ∀ pre x W, J pre W → pre.length < es.size → YieldAt Fence.wide (n - 1) Tryz.prog l #[kv x] W fun e W' => (e = .returned (.bool true) ∧ J (pre ++ [x]) W' ∧ KeepsWalks W W') ∨ (e = .returned (.bool false) ∧ Jx (pre ++ [x]) W'))
  (W : World) (hJ : AbidesFrom W.heap.size J) (hm : W.cell? ⟨Bm, 0, none⟩ = some (.map (some b))) (hb : W.heap[b]? = some (.map es clock)) (hn : (es.toList.map (·.born)).Nodup) (hl : ∀ x ∈ es.toList, x.born < clock) (hkey : ∀ x ∈ es.toList, ∃ k : Ky 32, x.key = kv k) (h0 : J [] W) :
  CallsIn Fence.wide n Tryz.prog 167 #[.func (.yield l) #[] #[], .pointer (some ⟨Bm, 0, none⟩)] W fun e W' => (∃ v, e = .returned v) ∧ ((∃ ss : List (Ky 32), (ss.map kv).Perm (es.toList.map (·.key)) ∧ J ss W') ∨ (∃ pre : List (Ky 32), True ∧ Jx pre W')) := by
 refine callsIn_of_wp Tryz.func167 rfl trivial ?_ rfl
 simp only [Tryz.ntmps167, Yx, WS, XP, Nat.reduceAdd, Nat.reduceSub, Zd, Ze, List.push_toArray, Zi, WJ, WL]
 have hrg0 := Rng.start hb hl
 have hJ0 := hJ [] W _ none h0 (World.grownBy_alloc W (.mapIter (some b) clock #[] clock) none) (fun r e => by cases e)
 have hlt0 : W.heap.size < (W.alloc (.mapIter (some b) clock #[] clock)).heap.size := by simp
 gi_wp2_with (first
  | (gi_at_range; refine zq rfl _ 153 29 3 rfl Tryz.underlying153 rfl hb ?_)
  | gi_in)
 go_frame
 generalize W.alloc (.mapIter (some b) clock #[] clock) = w0 at hrg0 hJ0 hlt0 ⊢
 gi_loopw [3] (fun _ wr => ∃ (cnt : Nat) (ss : List (Ky 32)), Rng wr b W.heap.size es clock (ss.map kv) cnt ∧ J ss wr)
  (fun _ wr => wr.rangeLeft b W.heap.size)
 case atStart =>
  exact ⟨_, [], hrg0, hJ0⟩
 case round =>
  obtain ⟨cnt, ss, hrg, hJs⟩ := hrel
  gi_wp2_with (first
   | (gi_at_next; refine DV rfl _ rfl rfl hrg hn ?_ ?_)
   | gi_in)
  ·
   intro hc0 hp
   gi_wp2
   go_end0
   exact ⟨⟨_, rfl⟩, .inl ⟨ss, hp, hJs⟩⟩
  ·
   intro e w2 cnt2 he hrg2 hlt hg2 hs2 hen
   obtain ⟨x, hx⟩ := hkey e (by simpa using he)
   have hlen : ss.length < es.size := by have := hrg.le; simp at this; omega
   have hJ2 : J ss w2 := hJ ss wr w2 (some W.heap.size) hJs hg2 (fun r e => by cases e; exact ⟨Nat.le_refl _, hrg.iter⟩)
   rw [hx] at hen hrg2 ⊢
   clear hs2
   have hlt2 := hrg2.lt
   gi_wp2_with (first
    | (
      guard_target = wpListIn _ _ _ _ _ (Oper.mk _ (Op.store _ _ _) _ _ _ _ :: _) _ _; refine zo (l := x.1) (cs := List.replicate 32 (.int .u8 0)) rfl _ _ _ rfl (by rw [x.2]; rfl) rfl rfl (World.alloc_heap_new w2 _) (by rw [x.2]; rfl) ?_
      intro w4 hb4 hg4 hs4
      have hg24 : w2.grownBy w4 none := ⟨hg4.os.trans rfl, hg4.tape.trans rfl, hg4.output.trans rfl, by rw [hs4]; simp, fun i hi _ => (hg4.block i (by simp; omega) (fun e => by cases e; omega)).trans ((X8 w2 _).2 i hi)⟩
      have hJ4 : J ss w4 := hJ ss w2 w4 none hJ2 hg24 (fun r e => by cases e)
      have hrg4 := hrg2.kept (hg24.block b hlt2.1 (by simp)) (hg24.block W.heap.size hlt2.2 (by simp))
      obtain ⟨fn, tmps, assign, body, hy, hR⟩ := hY ss x w4 hJ4 hlen
      rw [show kv x = dG x.1 from rfl] at hy
      have hb4' := Lib.hid hb4
      clear hb4 hs4 hg4 hg24)
    | (guard_target = wpListIn _ _ _ _ _ (Oper.mk _ (Op.load _ _) _ _ _ _ :: _) _ _; refine DW (l := x.1) rfl _ _ rfl (by rw [x.2]; rfl) rfl hb4'.out ?_)
    | gi_in)
   refine hR.mono ?_
   rintro e W3 (⟨rfl, hJ3, hk3⟩ | ⟨rfl, hJx3⟩)
   ·
    gi_wp2
    have hrg3 := hrg4.walks hk3
    go_roundw
    case rel => exact ⟨cnt2, ss ++ [x], by simpa using hrg3, hJ3⟩
    case measure => rw [hrg3.left_eq, hrg.left_eq]; exact hlt
   ·
    gi_wp2
    refine bodyPost_ret (results_none rfl _ _ _) rfl ?_
    exact ⟨⟨_, rfl⟩, .inr ⟨ss ++ [x], trivial, hJx3⟩⟩
end E
end Go.Proofs.YtelbhdobjdnglaaGreat
namespace Go.Proofs.YtelbhdobjdnglaaGreat
set_option linter.unusedVariables false
set_option maxRecDepth 20000
set_option maxHeartbeats 2000000
open Go.RowKit Mono Rlp Go.Sort
namespace E
theorem ND : ∀ args w, (callFunc 168 args).run Tryz.prog w = .ok (.enter 168 args) w := enters_of Tryz.func168 (by kernel_rfl) rfl
theorem NM (g m c : Nat) (es : List Ent) (hl : es.length * 32 ≤ 140737488355328) : FnM 166 [.v (.slice none 0 0), .v (.func (.func 168) #[] #[.pointer (some ⟨g, 0, none⟩)])] [.var g 163 (.v (.map (some m))), .map m 32 c es] (fun r os' => ∃ v, ∃ ks : List (Ky 32), r = .val (.v v) ∧ (ks.map (·.1)).Perm (es.map (·.2.1)) ∧ os' = [.row v 29 32 (ks.map dK), .var g 163 (.v (.map (some m))), .map m 32 c es]) := by
 constructor
 intro ok w xs hok hown hr
 obtain ⟨x1, _, rfl, hx1, x2, _, rfl, hx2, rfl⟩ := hr
 obtain rfl := (aY.1 hx1).2
 obtain rfl := (aY.1 hx2).2
 obtain ⟨_, cs, hg, hrd⟩ := hown.at_ _ (WT ..)
 obtain ⟨_, hent, arr, hm, hall⟩ := hown.at_ _ (WZ _ (WT ..))
 rw [Reads] at hrd
 rw [hrd.2] at hg
 have hglt := (Xu.1 hg).1
 have hmlt := (Xu.1 hm).1
 have hbs : arr.toList.map (·.born) = es.map (·.1) := mF (fun a b h => h.born) hall
 have hks : arr.toList.map (·.key) = es.map fun x => dG x.2.1 := mF (fun a b h => h.key) hall
 have hsz : arr.size = es.length := by rw [← Yy, ng hall]
 have hseq : SeqStopsK Fence.wide 3 Tryz.prog 168 #[.pointer (some ⟨g, 0, none⟩)] (fun x : Ky 32 => #[kv x]) KeepsWalks (fun ss => (ss.map kv).Perm (arr.toList.map (·.key))) (fun _ => True) arr.size w := fun l J Jx W hW hJ _ hY h0 =>
  O5 3 l g m (by omega) arr c J Jx hY W hJ ((hW.cell (p := ⟨g, 0, none⟩) hglt).trans (by rw [cell_of_row w g 0 _ _ _ hg]; rfl)) ((hW.block m hmlt).trans hm) (by rw [hbs]; exact hent.borns)
   (fun x hx => by obtain ⟨y, hy, he⟩ := oI hall hx; rw [he.born]; exact hent.lt y hy)
   (fun x hx => by obtain ⟨y, hy, he⟩ := oI hall hx; exact ⟨⟨y.2.1, he.len⟩, he.key⟩) h0
 refine (callsIn_wide.1 (mD 4 (by omega) 168 #[.pointer (some ⟨g, 0, none⟩)] ND _ _ arr.size (by rw [hsz]; exact hl) w hseq)).mono ?_
 rintro e w' ⟨v, ks, rfl, hp, hrow, hnil, hB⟩
 have hp' : (ks.map (·.1)).Perm (es.map (·.2.1)) := by
  rw [hks] at hp
  have := hp.map unV
  rw [XU, XU] at this
  have e1 : ks.map (unV ∘ kv) = ks.map (·.1) := XL fun k _ => ru k.1
  have e2 : es.map (unV ∘ fun x => dG x.2.1) = es.map (·.2.1) := XL fun k _ => ru k.2.1
  rwa [e1, e2] at this
 have hnew : ∀ b, v.ownBlock = some b → w.heap.size ≤ b := fun b hb => (hrow.lt b hb).1
 refine ⟨v, .val (.v v), _, rfl, ⟨v, ks, rfl, hp', rfl⟩, ⟨.of hB, .cons (fun p hp b hb e => ?_) hown.apart, fun o ho => ?_⟩, aY.2 ⟨uo hrow, rfl⟩⟩
 ·
  have h1 := hnew b hb
  have h2 := (Obj.eP (hown.at_ p hp) e).2
  omega
 ·
  rcases Xb.1 ho with rfl | ho
  ·
   refine ⟨ks.map kc, ⟨?_, fun b hb => .inr (hnew b hb)⟩, jZ ks⟩
   rw [WY]
   exact uq hrow
  ·
   refine ((hown.at_ o ho).move (fun b hb => ⟨.inl hb, Xd (hok b hb) hB.size, fun o' ho' e => ?_⟩) (fun p hp => hB.cell (hok _ hp)) fun b hb => hB.block b (Obj.eP (hown.at_ o ho) hb).2).ku fun b hb => .inl ⟨o, ho, hb⟩
   rcases Xb.1 ho' with rfl | ho'
   ·
    have := hnew b e
    have := hok b hb
    omega
   · exact hown.off b ⟨o', ho', e⟩ hb
theorem RD (m : Nat) : FnM 132 [.v (.map (some m))] [] (fun r os' => ∃ g, r = .val (.v (.func (.func 168) #[] #[.pointer (some ⟨g, 0, none⟩)])) ∧ os' = [.var g 163 (.v (.map (some m)))]) := by
 refine FnM.walk 4 Tryz.func132 rfl Tryz.ntmps132 (by simp) fun X => ?_
 repeat
  (first
   | (apply ah; iterate 3 rfl) | (apply uU; iterate 3 rfl) | (apply cZ; rfl; rfl; rfl; intro _) | apply EL.nil
   | (with_reducible first | apply EK.nc | apply EC.seq | apply EC.r0 | apply EC.ret))
 rename_i g
 exact EK.aW [.var g 163 (.v (.map (some m)))] rfl rfl (by (repeat first | exact WI _ | apply List.Sublist.cons_cons | apply List.Sublist.cons)) ⟨g, rfl, rfl⟩
theorem Jh (g m c : Nat) (es : List Ent) (hl : es.length * 32 ≤ 140737488355328) : FnM 128 [.v (.func (.func 168) #[] #[.pointer (some ⟨g, 0, none⟩)])] [.var g 163 (.v (.map (some m))), .map m 32 c es] (fun r os' => ∃ v, ∃ ks : List (Ky 32), r = .val (.v v) ∧ (ks.map (·.1)).Perm (es.map (·.2.1)) ∧ os' = [.row v 29 32 (ks.map dK), .var g 163 (.v (.map (some m))), .map m 32 c es]) := by
 have h1 := NM g m c es hl
 refine FnM.walk 5 Tryz.func128 rfl Tryz.ntmps128 (by simp) fun X => ?_
 repeat
  (first
   | (apply dD (os := [.var g 163 (.v (.map (some m))), .map m 32 c es]) h1; (iterate 2 rfl); exact aj.refl _ _; (focus (intro _ _; simp [go_sem]; done)); (iterate 2 rfl); rintro _ _ ⟨v, ks, rfl, hp, rfl⟩)
   | (apply ak; iterate 3 rfl) | (apply ah; iterate 3 rfl) | apply EL.nil
   | (with_reducible first | apply EK.nc | apply EC.seq | apply EC.r0 | apply EC.ret))
 exact EK.aW [.row v 29 32 (ks.map dK), .var g 163 (.v (.map (some m))), .map m 32 c es] rfl rfl (by (repeat first | exact WI _ | apply List.Sublist.cons_cons | apply List.Sublist.cons)) ⟨v, ks, rfl, hp, rfl⟩
theorem KT (cf : FuncId) (hc : ∀ l m : List UInt8, l.length = 32 → m.length = 32 → ∀ w, Calls Tryz.prog cf #[dG l, dG m] w fun e w' => e = .returned (.int .i64 (pF l m)) ∧ ∃ q os', w' = grow (w.drewN q) os') (ec : ∀ args w, (callFunc cf args).run Tryz.prog w = .ok (.enter cf args) w)
  (g m c : Nat) (es : List Ent) (hl : es.length * 32 ≤ 140737488355328) : FnM 101 [.v (.func (.func 168) #[] #[.pointer (some ⟨g, 0, none⟩)]), .v (.func (.func cf) #[] #[])] [.var g 163 (.v (.map (some m))), .map m 32 c es] (fun r os' => ∃ v, r = .val (.v v) ∧ os' = [.row v 29 32 ((sortL (es.map (·.2.1))).map (D.arr 32)), .var g 163 (.v (.map (some m))), .map m 32 c es]) := by
 have h1 := Jh g m c es hl
 refine FnM.walk 12 Tryz.func101 rfl Tryz.ntmps101 (by simp) fun X => ?_
 repeat
  (first
   | (apply dD (os := [.var g 163 (.v (.map (some m))), .map m 32 c es]) h1; (iterate 2 rfl); exact aj.refl _ _; (focus (intro _ _; simp [go_sem]; done)); (iterate 2 rfl); rintro _ _ ⟨v, ks, rfl, hp, rfl⟩)
   | (apply ak; iterate 3 rfl) | (apply ah; iterate 3 rfl) | apply EL.nil
   | (with_reducible first | apply EK.nc | apply EC.seq | apply EC.r0))
 have hkl : ks.length = es.length := by simpa using hp.length_eq
 have h2 := AZ cf hc ec v ks (by omega)
 repeat
  (first
   | (apply dD (os := [.row v 29 32 (ks.map dK)]) h2; (iterate 2 rfl); exact aj.refl _ _; (focus (intro _ _; simp [go_sem]; done)); (iterate 2 rfl); rintro _ _ ⟨rfl, rfl⟩)
   | (apply ak; iterate 3 rfl) | (apply ah; iterate 3 rfl) | apply EL.nil
   | (with_reducible first | apply EK.nc | apply EC.seq | apply EC.r0 | apply EC.ret))
 have hs : (ks.mergeSort fun x y => decide (x.1 ≤ y.1)).map (·.1) = sortL (es.map (·.2.1)) := by
  refine EI (((Zj ks _).map (·.1)).trans hp) ?_
  have h := YZ (le := fun x y : Ky 32 => decide (x.1 ≤ y.1)) (fun a b c h1 h2 => by simp only [decide_eq_true_eq] at h1 h2 ⊢; exact List.le_trans h1 h2) (fun a b => by simp only [Y1, decide_eq_true_eq]; exact List.le_total a.1 b.1) ks
  rw [YR]
  exact h.imp fun h => by simpa using h
 exact EK.aW [.row v 29 32 ((ks.mergeSort fun x y => decide (x.1 ≤ y.1)).map dK), .var g 163 (.v (.map (some m))), .map m 32 c es] rfl rfl (by (repeat first | exact WI _ | apply List.Sublist.cons_cons | apply List.Sublist.cons)) ⟨v, rfl, by rw [Hg, hs]⟩
theorem NC : ∀ args w, (callFunc 167 args).run Tryz.prog w = .ok (.enter 167 args) w := enters_of Tryz.func167 (by kernel_rfl) rfl
theorem NK (g m c : Nat) (es : List Ent) (hl : es.length * 32 ≤ 140737488355328) : FnM 166 [.v (.slice none 0 0), .v (.func (.func 167) #[] #[.pointer (some ⟨g, 0, none⟩)])] [.var g 153 (.v (.map (some m))), .map m 32 c es] (fun r os' => ∃ v, ∃ ks : List (Ky 32), r = .val (.v v) ∧ (ks.map (·.1)).Perm (es.map (·.2.1)) ∧ os' = [.row v 29 32 (ks.map dK), .var g 153 (.v (.map (some m))), .map m 32 c es]) := by
 constructor
 intro ok w xs hok hown hr
 obtain ⟨x1, _, rfl, hx1, x2, _, rfl, hx2, rfl⟩ := hr
 obtain rfl := (aY.1 hx1).2
 obtain rfl := (aY.1 hx2).2
 obtain ⟨_, cs, hg, hrd⟩ := hown.at_ _ (WT ..)
 obtain ⟨_, hent, arr, hm, hall⟩ := hown.at_ _ (WZ _ (WT ..))
 rw [Reads] at hrd
 rw [hrd.2] at hg
 have hglt := (Xu.1 hg).1
 have hmlt := (Xu.1 hm).1
 have hbs : arr.toList.map (·.born) = es.map (·.1) := mF (fun a b h => h.born) hall
 have hks : arr.toList.map (·.key) = es.map fun x => dG x.2.1 := mF (fun a b h => h.key) hall
 have hsz : arr.size = es.length := by rw [← Yy, ng hall]
 have hseq : SeqStopsK Fence.wide 3 Tryz.prog 167 #[.pointer (some ⟨g, 0, none⟩)] (fun x : Ky 32 => #[kv x]) KeepsWalks (fun ss => (ss.map kv).Perm (arr.toList.map (·.key))) (fun _ => True) arr.size w := fun l J Jx W hW hJ _ hY h0 =>
  O4 3 l g m (by omega) arr c J Jx hY W hJ ((hW.cell (p := ⟨g, 0, none⟩) hglt).trans (by rw [cell_of_row w g 0 _ _ _ hg]; rfl)) ((hW.block m hmlt).trans hm) (by rw [hbs]; exact hent.borns)
   (fun x hx => by obtain ⟨y, hy, he⟩ := oI hall hx; rw [he.born]; exact hent.lt y hy)
   (fun x hx => by obtain ⟨y, hy, he⟩ := oI hall hx; exact ⟨⟨y.2.1, he.len⟩, he.key⟩) h0
 refine (callsIn_wide.1 (mD 4 (by omega) 167 #[.pointer (some ⟨g, 0, none⟩)] NC _ _ arr.size (by rw [hsz]; exact hl) w hseq)).mono ?_
 rintro e w' ⟨v, ks, rfl, hp, hrow, hnil, hB⟩
 have hp' : (ks.map (·.1)).Perm (es.map (·.2.1)) := by
  rw [hks] at hp
  have := hp.map unV
  rw [XU, XU] at this
  have e1 : ks.map (unV ∘ kv) = ks.map (·.1) := XL fun k _ => ru k.1
  have e2 : es.map (unV ∘ fun x => dG x.2.1) = es.map (·.2.1) := XL fun k _ => ru k.2.1
  rwa [e1, e2] at this
 have hnew : ∀ b, v.ownBlock = some b → w.heap.size ≤ b := fun b hb => (hrow.lt b hb).1
 refine ⟨v, .val (.v v), _, rfl, ⟨v, ks, rfl, hp', rfl⟩, ⟨.of hB, .cons (fun p hp b hb e => ?_) hown.apart, fun o ho => ?_⟩, aY.2 ⟨uo hrow, rfl⟩⟩
 ·
  have h1 := hnew b hb
  have h2 := (Obj.eP (hown.at_ p hp) e).2
  omega
 ·
  rcases Xb.1 ho with rfl | ho
  ·
   refine ⟨ks.map kc, ⟨?_, fun b hb => .inr (hnew b hb)⟩, jZ ks⟩
   rw [WY]
   exact uq hrow
  ·
   refine ((hown.at_ o ho).move (fun b hb => ⟨.inl hb, Xd (hok b hb) hB.size, fun o' ho' e => ?_⟩) (fun p hp => hB.cell (hok _ hp)) fun b hb => hB.block b (Obj.eP (hown.at_ o ho) hb).2).ku fun b hb => .inl ⟨o, ho, hb⟩
   rcases Xb.1 ho' with rfl | ho'
   ·
    have := hnew b e
    have := hok b hb
    omega
   · exact hown.off b ⟨o', ho', e⟩ hb
theorem Rz (m : Nat) : FnM 129 [.v (.map (some m))] [] (fun r os' => ∃ g, r = .val (.v (.func (.func 167) #[] #[.pointer (some ⟨g, 0, none⟩)])) ∧ os' = [.var g 153 (.v (.map (some m)))]) := by
 refine FnM.walk 4 Tryz.func129 rfl Tryz.ntmps129 (by simp) fun X => ?_
 repeat
  (first
   | (apply ah; iterate 3 rfl) | (apply uU; iterate 3 rfl) | (apply cZ; rfl; rfl; rfl; intro _) | apply EL.nil
   | (with_reducible first | apply EK.nc | apply EC.seq | apply EC.r0 | apply EC.ret))
 rename_i g
 exact EK.aW [.var g 153 (.v (.map (some m)))] rfl rfl (by (repeat first | exact WI _ | apply List.Sublist.cons_cons | apply List.Sublist.cons)) ⟨g, rfl, rfl⟩
theorem Jg (g m c : Nat) (es : List Ent) (hl : es.length * 32 ≤ 140737488355328) : FnM 128 [.v (.func (.func 167) #[] #[.pointer (some ⟨g, 0, none⟩)])] [.var g 153 (.v (.map (some m))), .map m 32 c es] (fun r os' => ∃ v, ∃ ks : List (Ky 32), r = .val (.v v) ∧ (ks.map (·.1)).Perm (es.map (·.2.1)) ∧ os' = [.row v 29 32 (ks.map dK), .var g 153 (.v (.map (some m))), .map m 32 c es]) := by
 have h1 := NK g m c es hl
 refine FnM.walk 5 Tryz.func128 rfl Tryz.ntmps128 (by simp) fun X => ?_
 repeat
  (first
   | (apply dD (os := [.var g 153 (.v (.map (some m))), .map m 32 c es]) h1; (iterate 2 rfl); exact aj.refl _ _; (focus (intro _ _; simp [go_sem]; done)); (iterate 2 rfl); rintro _ _ ⟨v, ks, rfl, hp, rfl⟩)
   | (apply ak; iterate 3 rfl) | (apply ah; iterate 3 rfl) | apply EL.nil
   | (with_reducible first | apply EK.nc | apply EC.seq | apply EC.r0 | apply EC.ret))
 exact EK.aW [.row v 29 32 (ks.map dK), .var g 153 (.v (.map (some m))), .map m 32 c es] rfl rfl (by (repeat first | exact WI _ | apply List.Sublist.cons_cons | apply List.Sublist.cons)) ⟨v, ks, rfl, hp, rfl⟩
end E
end Go.Proofs.YtelbhdobjdnglaaGreat
