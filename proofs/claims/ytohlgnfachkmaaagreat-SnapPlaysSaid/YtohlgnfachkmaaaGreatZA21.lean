/-
 Merged: lemmas of this claim.
 Conditions: none.
-/
import Derived.Test.YtohlgnfachkmaaaGreatZA11
import Derived.Test.YtohlgnfachkmaaaGreatZA20
import Derived.Test.YtohlgnfachkmaaaGreatZA17
import Derived.Test.YtohlgnfachkmaaaGreatZA19
import Derived.Test.YtohlgnfachkmaaaGreatZA0
namespace Go.Proofs.YtohlgnfachkmaaaGreat
set_option linter.unusedVariables false
set_option maxRecDepth 20000
set_option maxHeartbeats 8000000
open Go.RowKit Mono Rlp Wd Go.Sort
namespace E
section
variable {g m c g1 : Nat} {base : List UInt8} {v : Value}
abbrev lyO (v : Value) (K : List (List UInt8)) : Obj := .row v 23 32 (K.map (D.arr 32))
abbrev lyF (g1 : Nat) : Value := .func (.func 51) #[] #[ptr g1]
abbrev lvO (g1 g : Nat) : Obj := .var g1 28 (.v (ptr g))
theorem yO (x : List UInt8) : FnM 51 ([.arr 32 x] ++ [.v (ptr g1)]) [lvO g1 g, tO g m base] (fun r os' => r = .val (.v (.bool (x == base))) ∧ os' = [lvO g1 g, tO g m base]) := by
 have he := (aP x base).1
 refine FnM.walk 10 Tryz.func51 rfl Tryz.ntmps51 (by simp) fun X => ?_
 repeat (refine stp ?_; intros)
 refine EC.draw 6 (by kernel_rfl) ?_
 simp only [KQ, KX, KP, KR]
 repeat
  (first
   | (refine bM (hrun := he) (kk := ?_)) | (refine sth ?_; intros))
 repeat (refine stp ?_; intros)
 exact EK.aI [lvO g1 g, tO g m base] rfl rfl (by (repeat first | exact KZ _ | apply List.Sublist.cons_cons | apply List.Sublist.cons)) ⟨rfl, rfl⟩
theorem DN (K1 K2 : List (List UInt8)) (h1 : ∀ k ∈ K1, k ≠ base) (hl : K1.length + K2.length < 1099511627776) : FnM 98 [.v v, .v (lyF g1)] [lvO g1 g, tO g m base, lyO v (K1 ++ base :: K2)] (fun r os' => r = .val (.v (.int .i64 (K1.length : Int))) ∧ os' = [lvO g1 g, tO g m base, lyO v (K1 ++ base :: K2)]) := by
 have hml : ((K1 ++ base :: K2).map (D.arr 32)).length = K1.length + 1 + K2.length := by simp; omega
 refine FnM.walk 19 Tryz.func98 rfl Tryz.ntmps98 (by simp) fun X => ?_
 repeat (refine stp ?_; intros)
 refine EC.loop (ι := {i : Nat // i ≤ K1.length})
  (fun i => ⟨[(8, .val (.v (.int .i64 (i.1 : Int)))), (7, .val (.v (.int .i64 ((K1 ++ base :: K2).map (D.arr 32)).length))), (1, .val (.v (lyF g1))), (0, .val (.v v))], [lvO g1 g, tO g m base, lyO v (K1 ++ base :: K2)], []⟩)
  (fun i => K1.length - i.1) ⟨0, LH _⟩ ?_ ?_
 · exact Le.kp
 rintro ⟨i, hi⟩
 dsimp only at hi ⊢
 by_cases hlt : i < K1.length
 ·
  have hd : ((K1 ++ base :: K2).map (D.arr 32))[i]? = some (.arr 32 K1[i]) := by rw [Ls, MZ hlt, La hlt]; rfl
  have hb := yO (g1 := g1) (g := g) (m := m) (base := base) K1[i]
  rw [show (K1[i] == base) = false by simpa using h1 _ (MB hlt)] at hb
  repeat
   (first
    | (apply bn (k := i) (off := 0) (d := .arr 32 K1[i]); rfl; exact I2; exact ⟨by simp, hd⟩; iterate 4 rfl)
    | (apply qY (caps := [ptr g1]) hb; (exact fun base ok L a w _ => uV (caps := [ptr g1]) (by simp [Value.oneCell'])); (iterate 3 rfl); exact ah.refl _ _; (focus (intro _ _; simp [go_sem]; done)); (iterate 2 rfl); rintro _ _ ⟨rfl, rfl⟩)
    | (refine stp ?_; intros))
  refine EK.again ⟨i + 1, hlt⟩ (by dsimp only; omega) ?_
  simp only [LK]
  exact Le.kp
 ·
  have hiE : i = K1.length := by omega
  subst hiE
  have hd : ((K1 ++ base :: K2).map (D.arr 32))[K1.length]? = some (.arr 32 base) := by simp
  have hb := yO (g1 := g1) (g := g) (m := m) (base := base) base
  rw [beq_self_eq_true] at hb
  repeat
   (first
    | (apply bn (k := K1.length) (off := 0) (d := .arr 32 base); rfl; exact I2; exact ⟨by simp, hd⟩; iterate 4 rfl)
    | (apply qY (caps := [ptr g1]) hb; (exact fun base ok L a w _ => uV (caps := [ptr g1]) (by simp [Value.oneCell'])); (iterate 3 rfl); exact ah.refl _ _; (focus (intro _ _; simp [go_sem]; done)); (iterate 2 rfl); rintro _ _ ⟨rfl, rfl⟩)
    | (refine stp ?_; intros))
  exact EK.aI [lvO g1 g, tO g m base, lyO v (K1 ++ base :: K2)] rfl rfl (by (repeat first | exact KZ _ | apply List.Sublist.cons_cons | apply List.Sublist.cons)) ⟨rfl, rfl⟩
theorem Bv (K1 K2 : List (List UInt8)) (h1 : ∀ k ∈ K1, k ≠ base) (h2 : ∀ k ∈ K2, k ≠ base) (hl : K1.length + K2.length < 1099511627776) : FnM 50 [.v v, .v (lyF g1)] [lvO g1 g, tO g m base, lyO v (K1 ++ base :: K2)] (fun r os' => r = .val (.v (cutV v (K1.length + K2.length))) ∧ os' = [lvO g1 g, tO g m base, lyO (cutV v (K1.length + K2.length)) (K1 ++ K2)]) := by
 have hix := DN (v := v) (g := g) (m := m) (g1 := g1) K1 K2 h1 hl
 have hml : ((K1 ++ base :: K2).map (D.arr 32)).length = K1.length + 1 + K2.length := by simp; omega
 refine FnM.walk 42 Tryz.func50 rfl Tryz.ntmps50 (by simp) fun X => ?_
 repeat
  (first
   | (refine eU (hix) (kk := ?_)) | (refine stp ?_; intros))
 have hRl : ∀ i, i ≤ K2.length → ((K1 ++ K2.take i ++ (base :: K2).drop i).map (D.arr 32)).length = K1.length + 1 + K2.length := fun i hi => by
  simp only [Lc, List.length_append, MJ, List.length_drop, Me]
  omega
 refine EC.loop (ι := {i : Nat // i ≤ K2.length})
  (fun i => ⟨[(6, .val (.v (.int .i64 ((K1.length + 1 + i.1 : Nat) : Int)))), (5, .val (.v (.int .i64 ((K1.length + i.1 : Nat) : Int)))), (1, .val (.v (lyF g1))), (0, .val (.v v))], [lvO g1 g, tO g m base, lyO v (K1 ++ K2.take i.1 ++ (base :: K2).drop i.1)], []⟩)
  (fun i => K2.length - i.1) ⟨0, LH _⟩ ?_ ?_
 ·
  simp only [Nat.add_zero, KX, List.append_nil, KR, LK]
  exact Le.kp
 rintro ⟨i, hi⟩
 dsimp only at hi ⊢
 have hRi := hRl i hi
 by_cases hlt : i < K2.length
 ·
  have hl1 : (K1 ++ K2.take i).length = K1.length + i := by rw [List.length_append, MJ]; omega
  have hdr : (base :: K2).drop i = (base :: K2)[i]'(by simp; omega) :: K2.drop i := by rw [NQ (by simp; omega), KP]
  have hdr2 : K2.drop i = K2[i] :: K2.drop (i + 1) := NQ hlt
  have hget : (K1 ++ K2.take i ++ (base :: K2).drop i)[K1.length + 1 + i]? = some K2[i] := by
   rw [MV (by omega), hl1, hdr, show K1.length + 1 + i - (K1.length + i) = 1 by omega, hdr2]
   rfl
  have hset : (K1 ++ K2.take i ++ (base :: K2).drop i).set (K1.length + i) K2[i] = K1 ++ K2.take (i + 1) ++ (base :: K2).drop (i + 1) := by
   rw [OC _ _ (by omega), hl1, Nat.sub_self, hdr, List.set_cons_zero, Lm hlt, KP]
   simp only [L6, KN, KO]
  have hold : ∃ y, (K1 ++ K2.take i ++ (base :: K2).drop i)[K1.length + i]? = some y := by
   rw [MV (by omega), hl1, Nat.sub_self, hdr]
   exact ⟨_, rfl⟩
  obtain ⟨y, hy⟩ := hold
  have hR2 : (K1 ++ K2.take i ++ (base :: K2).drop i).length = K1.length + 1 + K2.length := by rw [← hRi, Lc]
  have hb := yO (g1 := g1) (g := g) (m := m) (base := base) K2[i]
  rw [show (K2[i] == base) = false by simpa using h2 _ (MB hlt)] at hb
  clear hdr hdr2
  generalize K2[i] = x at hget hset hb
  generalize K1 ++ K2.take i ++ (base :: K2).drop i = R at hRi hR2 hget hset hy ⊢
  have hd : (R.map (D.arr 32))[K1.length + 1 + i]? = some (.arr 32 x) := by rw [Ls, hget]; rfl
  have hd2 : (R.map (D.arr 32))[K1.length + i]? = some (.arr 32 y) := by rw [Ls, hy]; rfl
  repeat
   (first
    | (apply bn (k := K1.length + 1 + i) (off := 0) (d := .arr 32 x); rfl; exact I2; exact ⟨by rw [L8]; rfl, hd⟩; iterate 4 rfl) | (refine stp ?_; intros))
  refine EL.le (Le.pick [1, 2, 0, 3] [_, _, _, _] rfl (by decide) rfl) ?_
  repeat
   (first
    | (apply qY (caps := [ptr g1]) hb; (exact fun base ok L a w _ => uV (caps := [ptr g1]) (by simp [Value.oneCell'])); (iterate 3 rfl); exact ah.refl _ _; (focus (intro _ _; simp [go_sem]; done)); (iterate 2 rfl); rintro _ _ ⟨rfl, rfl⟩; simp only [KN, KO])
    | (apply aY (k := K1.length + i) (off := 0) (d := .arr 32 y) (d'' := .arr 32 x); rfl; exact .s (.s (.s .z)); exact ⟨by rw [L8]; rfl, hd2⟩; iterate 4 rfl)
    | (refine stp ?_; intros))
  refine EK.again ⟨i + 1, hlt⟩ (by dsimp only; omega) ?_
  dsimp only
  rw [show (R.map (D.arr 32)).set (K1.length + i) (.arr 32 x) = (K1 ++ K2.take (i + 1) ++ (base :: K2).drop (i + 1)).map (D.arr 32) by rw [← hset, List.map_set]]
  rw [show ((K1.length + 1 + i : Nat) : Int) + 1 = ((K1.length + 1 + (i + 1) : Nat) : Int) by omega, show ((K1.length + i : Nat) : Int) + 1 = ((K1.length + (i + 1) : Nat) : Int) by omega]
  exact Le.kp
 ·
  have hiE : i = K2.length := by omega
  subst hiE
  rw [L9]
  rw [L9] at hRi
  have hR2 : (K1 ++ K2 ++ (base :: K2).drop K2.length).length = K1.length + 1 + K2.length := by rw [← hRi, Lc]
  have hcut : (((K1 ++ K2 ++ (base :: K2).drop K2.length).map (D.arr 32)).set (K1.length + K2.length) (.arr 32 zero32)).take (K1.length + K2.length) = (K1 ++ K2).map (D.arr 32) := by
   rw [List.take_set_of_le (LG _), ← List.map_take, List.take_left' (by rw [List.length_append])]
  generalize (K1 ++ K2 ++ (base :: K2).drop K2.length) = R at hRi hR2 hcut ⊢
  repeat
   (first
    | (apply EN; rfl; exact I2; (iterate 2 rfl); exact ⟨by omega, by rw [L8, hRi]; omega⟩; iterate 2 rfl) | (refine stp ?_; intros))
  rw [L8]
  repeat
   (first
    | (apply E5 (dz := .arr 32 zero32); rfl; exact .s (.s .z); (rw [hRi]; omega); iterate 6 rfl)
    | (apply ER; rfl; exact I2; (iterate 2 rfl); exact ⟨by omega, by rw [L8, Nk, hRi]; omega⟩; iterate 2 rfl) | (refine stp ?_; intros))
  rw [L8]
  refine EK.le (Le.Ji (k := K1.length + K2.length) (v := v) (ds := (R.map (D.arr 32)).set (K1.length + K2.length) (.arr 32 zero32)) (by rw [Nk, hRi]; omega) (.s (.s .z))) ?_
  rw [hcut]
  exact EK.aI [lvO g1 g, tO g m base, lyO (cutV v (K1.length + K2.length)) (K1 ++ K2)] rfl rfl (by (repeat first | exact KZ _ | apply List.Sublist.cons_cons | apply List.Sublist.cons)) ⟨rfl, rfl⟩
theorem zl {es : List Ent} {K1 K2 : List (List UInt8)} (hK : sortL (es.map (·.2.1)) = K1 ++ base :: K2) (hn : (es.map (·.2.1)).Nodup) (hl : es.length ≤ 1000000) : FnM 25 [.v (ptr g)] [tO g m base, .map m 32 c es] (fun r os' => r = .val (.sl 32 ((K1 ++ K2).map (D.arr 32))) ∧ os' = [tO g m base, .map m 32 c es]) := by
 have hnd : (K1 ++ base :: K2).Nodup := by rw [← hK]; exact (aW _).nodup_iff.2 hn
 have hne1 : ∀ k ∈ K1, k ≠ base := fun k hk e => by
  have := (MX.1 hnd).2.2 k hk base Ld
  exact this e
 have hne2 : ∀ k ∈ K2, k ≠ base := fun k hk e => by
  have := (MR.1 (MX.1 hnd).2.1).1
  rw [← e] at this
  exact this hk
 have hKl : K1.length + 1 + K2.length = es.length := by
  have := (aW (es.map (·.2.1))).length_eq
  rw [hK, Lc] at this
  simp at this
  omega
 have hk := DJ m
 have hs := fun gk => yw 43 qO nO gk m c es (by omega)
 refine FnM.walk 13 Tryz.func25 rfl Tryz.ntmps25 (by simp) fun X => ?_
 repeat
  (first
   | (refine aH (os := []) hk (kk := ?_); rintro _ _ ⟨gk, rfl, rfl⟩; simp only [KN, KO])
   | (refine stp ?_; intros))
 rename_i g1
 refine EL.le (Le.pick [0, 3, 1, 2] [_, _, _, _] rfl (by decide) rfl) ?_
 repeat
  (first
   | (refine aH (os := [.var gk 91 (.v (.map (some m))), .map m 32 c es]) (hs gk) (kk := ?_); rintro _ _ ⟨v, rfl, rfl⟩; rw [hK]; simp only [KN, KO])
   | (refine stp ?_; intros))
 refine EL.le (Le.pick [3, 4, 0, 1, 2] [_, _, _, _, _] rfl (by decide) rfl) ?_
 have hd := Bv (v := v) (g := g) (m := m) (g1 := g1) K1 K2 hne1 hne2 (by omega)
 repeat
  fail
 refine aH (os := [lvO g1 g, tO g m base, lyO v (K1 ++ base :: K2)]) hd (kk := ?_)
 rintro _ _ ⟨rfl, rfl⟩
 simp only [KN, KO]
 refine EL.le (Le.pick [2, 0, 1, 3, 4] [_, _, _, _, _] rfl (by decide) rfl) ?_
 refine EL.le (Le.freeze (pre := []) rfl) ?_
 refine EL.le (Le.refine (t := 12) (d' := .sl 32 ((K1 ++ K2).map (D.arr 32))) rfl (Rf.fact (by simp) rfl)) ?_
 simp only [KO]
 repeat (refine stp ?_; intros)
 exact EK.aI [tO g m base, .map m 32 c es] rfl rfl (by (repeat first | exact KZ _ | apply List.Sublist.cons_cons | apply List.Sublist.cons)) ⟨rfl, rfl⟩
end
theorem G7 (L : List AcL) (hl : L.length ≤ 1000000) (hb : ∀ x ∈ L, x.sl.length ≤ 1000000 ∧ x.cd.length ≤ 140737488355328) : FnM 45 [.sl 55 (L.map ak)] [] (fun r os' => r = .val (.sl 55 (L.map ak)) ∧ os' = []) := by
 have hml : (L.map ak).length = L.length := Lc _
 refine FnM.walk 19 Tryz.func45 rfl Tryz.ntmps45 (by simp) fun X => ?_
 repeat (refine stp ?_; intros)
 refine EC.le (Le.row 57 55) ?_
 refine EC.loop (ι := {x : Nat × Value // x.1 ≤ L.length})
  (fun x => ⟨[(8, .val (.v (.int .i64 (x.1.1 : Int)))), (7, .val (.v (.int .i64 (L.map ak).length))), (6, .val (.sl 55 (L.map ak))), (3, .val (.v x.1.2))], [.row x.1.2 57 55 ((L.take x.1.1).map ak)], []⟩)
  (fun x => L.length - x.1.1) ⟨(0, dn), LH _⟩ ?_ ?_
 · exact Le.kp
 rintro ⟨⟨i, v⟩, hi⟩
 dsimp only at hi ⊢
 by_cases hlt : i < L.length
 ·
  have hd : (L.map ak)[i]? = some (ak L[i]) := by rw [Ls, La hlt]; rfl
  have htk : (L.take (i + 1)).map ak = (L.take i).map ak ++ [ak L[i]] := by rw [Lm hlt, MC]; rfl
  have hlen : ((L.take i).map ak).length = i := by rw [Lc, MJ]; omega
  have hbi := hb _ (MB hlt)
  have hc := zV L[i] hbi.1 hbi.2
  generalize L[i] = x at hd htk hc
  have hx : ak x = .tup [.arr 20 x.a, .v (.int .i64 x.n), .arr 32 x.w, .bs x.cd, .sl 64 (x.sl.map aA)] := rfl
  rw [hx] at hd htk hc
  repeat
   (first
    | (refine eU (hc) (kk := ?_)) | (refine stp ?_; intros))
  rename_i v'
  refine EK.again ⟨(i + 1, v'), hlt⟩ (by dsimp only; omega) ?_
  dsimp only
  rw [htk]
  simp only [LK]
  exact Le.kp
 ·
  have hiE : i = L.length := by omega
  subst hiE
  rw [L9]
  repeat (refine stp ?_; intros)
  refine EK.le (Le.freeze (pre := []) rfl) ?_
  exact EK.qh [] rfl rfl (RL.cons (Rf.fact Ld rfl) RL.nil) (KZ _) ⟨rfl, rfl⟩
section
variable {g m c : Nat} {base id p : List UInt8} {es : List Ent} {L : List AcL}
theorem Am (h : aC es id = some (dJ p L)) (hl : L.length ≤ 1000000) (hb : ∀ x ∈ L, x.sl.length ≤ 1000000 ∧ x.cd.length ≤ 140737488355328) : FnM 16 [.v (ptr g), .arr 32 id] [tO g m base, .map m 32 c es] (fun r os' => r = .tpl [.sl 55 (L.map ak), .v (.int .i64 0)] ∧ os' = [tO g m base, .map m 32 c es]) := by
 have hz : (aC es id).getD (.tup [.arr 32 zero32, .v dn]) = .tup [.arr 32 p, .sl 55 (L.map ak)] ∧ (aC es id).isSome = true := by rw [h]; exact ⟨rfl, rfl⟩
 have hc := G7 L hl hb
 refine FnM.walk 22 Tryz.func16 rfl Tryz.ntmps16 (by simp) fun X => ?_
 repeat (refine stp ?_; intros)
 refine EC.aZ 11 [0, 1, 2, 3, 4, 5, 6, 7, 8] [9, 10] [] _ (by kernel_rfl) (by kernel_rfl) rfl ?_
 simp only [au, KW, KY, KT, KU]
 repeat
  (first
   | (apply bV; exact hz; rfl; (first | exact I0 | exact I1 | exact I2 | exact I3 | exact I4 | exact I5); iterate 5 rfl) | (refine sth ?_; intros))
 refine EM.nil ?_
 repeat (first | rw [KN] | rw [KO])
 refine CH.mut (os := []) (rest := []) rfl rfl (dZ rfl rfl) ?_
 rintro _ _ ⟨g6, rfl, rfl⟩
 try simp only [St.put]
 repeat (first | rw [KN] | rw [KO])
 refine CH.mut (os := [_]) (rest := []) rfl rfl (dS (bT rfl rfl rfl rfl rfl)) ?_
 rintro _ _ ⟨rfl, rfl⟩
 try simp only [St.put]
 repeat (first | rw [KN] | rw [KO])
 refine CH.nil ?_
 try simp only [KP, KR]
 repeat
  (first
   | (refine eU (hc) (kk := ?_)) | (refine stp ?_; intros))
 exact EK.fO [tO g m base, .map m 32 c es] rfl rfl rfl (ah.refl _ _) (by (repeat first | exact KZ _ | apply List.Sublist.cons_cons | apply List.Sublist.cons)) ⟨rfl, rfl⟩
theorem Ap (h : aC es id = none) : FnM 16 [.v (ptr g), .arr 32 id] [tO g m base, .map m 32 c es] (fun r os' => r = .tpl [.sl 55 [], .v (.int .i64 6)] ∧ os' = [tO g m base, .map m 32 c es]) := by
 have hz : (aC es id).getD (.tup [.arr 32 zero32, .v dn]) = .tup [.arr 32 zero32, .v dn] ∧ (aC es id).isSome = false := by rw [h]; exact ⟨rfl, rfl⟩
 refine FnM.walk 22 Tryz.func16 rfl Tryz.ntmps16 (by simp) fun X => ?_
 repeat (refine stp ?_; intros)
 refine EC.aZ 11 [0, 1, 2, 3, 4, 5, 6, 7, 8] [9, 10] [] _ (by kernel_rfl) (by kernel_rfl) rfl ?_
 simp only [au, KW, KY, KT, KU]
 repeat
  (first
   | (apply bV; exact hz; rfl; (first | exact I0 | exact I1 | exact I2 | exact I3 | exact I4 | exact I5); iterate 5 rfl) | (refine sth ?_; intros))
 refine EM.nil ?_
 repeat (first | rw [KN] | rw [KO])
 refine CH.mut (os := []) (rest := []) rfl rfl (dZ rfl rfl) ?_
 rintro _ _ ⟨g6, rfl, rfl⟩
 try simp only [St.put]
 repeat (first | rw [KN] | rw [KO])
 refine CH.mut (os := [_]) (rest := []) rfl rfl (dS (bT rfl rfl rfl rfl rfl)) ?_
 rintro _ _ ⟨rfl, rfl⟩
 try simp only [St.put]
 repeat (first | rw [KN] | rw [KO])
 refine CH.nil ?_
 try simp only [KP, KR]
 repeat (refine stp ?_; intros)
 refine EK.fO [tO g m base, .map m 32 c es] rfl rfl rfl ?_ (by (repeat first | exact KZ _ | apply List.Sublist.cons_cons | apply List.Sublist.cons)) ⟨rfl, rfl⟩
 (exact RL.a)
theorem Ef {to : List UInt8} (F : List UInt8 → Bool) (In : List UInt8 → Nat → Prop) (hto : F to = true) (hb : base ≠ to → F base = false) (hs : ∀ k r, In k r → k ≠ to → k ≠ base → ∃ p L r', aC es k = some (dJ p L) ∧ F p = F k ∧ r' < r ∧ In p r') (k : List UInt8) (r : Nat) (hk : In k r) :
  FnM 41 [.v (ptr g), .arr 32 k, .arr 32 to] [tO g m base, .map m 32 c es] (fun r os' => r = .val (.v (.bool (F k))) ∧ os' = [tO g m base, .map m 32 c es]) := by
 refine FnM.walk 23 Tryz.func41 rfl Tryz.ntmps41 (by simp) fun X => ?_
 repeat (refine stp ?_; intros)
 rename_i g4 g5
 refine EC.loop (ι := {x : List UInt8 × Nat // In x.1 x.2 ∧ F x.1 = F k})
  (fun x => ⟨[(5, .val (.v (ptr g5))), (4, .val (.v (ptr g4))), (0, .val (.v (ptr g)))], [.var g5 23 (.arr 32 to), .var g4 23 (.arr 32 x.1.1), tO g m base, .map m 32 c es], []⟩)
  (fun x => x.1.2) ⟨(k, r), hk, rfl⟩ ?_ ?_
 · exact Le.kp
 rintro ⟨⟨q, s⟩, hq, hF⟩
 dsimp only at hq hF ⊢
 have hn := (aP q to).2
 by_cases e : q = to
 ·
  rw [show (q != to) = false by simp [e]] at hn
  repeat
   (first
    | (refine bH (hrun := hn) (kk := ?_)) | (refine stp ?_; intros))
  exact EK.aI [tO g m base, .map m 32 c es] rfl rfl (by (repeat first | exact KZ _ | apply List.Sublist.cons_cons | apply List.Sublist.cons)) ⟨by rw [← hF, e, hto], rfl⟩
 ·
  rw [show (q != to) = true by simpa using e] at hn
  have he := (aP q base).1
  by_cases eb : q = base
  ·
   rw [show (q == base) = true by simp [eb]] at he
   repeat
    (first
     | (refine bH (hrun := hn) (kk := ?_)) | (refine stp ?_; intros))
   refine EC.draw 6 (by kernel_rfl) ?_
   simp only [KQ, KX, KP, KR]
   repeat
    (first
     | (refine bM (hrun := he) (kk := ?_)) | (refine sth ?_; intros))
   repeat (refine stp ?_; intros)
   exact EK.aI [tO g m base, .map m 32 c es] rfl rfl (by (repeat first | exact KZ _ | apply List.Sublist.cons_cons | apply List.Sublist.cons)) ⟨by rw [← hF, eb, hb (eb ▸ e)], rfl⟩
  ·
   rw [show (q == base) = false by simpa using eb] at he
   obtain ⟨p, L, s', h1, h2, h3, h4⟩ := hs q s hq e eb
   have hg : (aC es q).getD (.tup [.arr 32 zero32, .v dn]) = .tup [.arr 32 p, .sl 55 (L.map ak)] := by rw [h1]; rfl
   repeat
    (first
     | (refine bH (hrun := hn) (kk := ?_)) | (refine stp ?_; intros))
   refine EC.draw 6 (by kernel_rfl) ?_
   simp only [KQ, KX, KP, KR]
   repeat
    (first
     | (refine bM (hrun := he) (kk := ?_)) | (refine sth ?_; intros))
   repeat (refine stp ?_; intros)
   refine EC.draw 7 (by kernel_rfl) ?_
   simp only [KQ, KX, KP, KR]
   repeat
    (first
     | (apply cu; exact hg; rfl; (first | exact I0 | exact I1 | exact I2 | exact I3 | exact I4 | exact I5); iterate 5 rfl) | (apply Fv; iterate 8 rfl)
     | (refine sth ?_; intros))
   repeat (refine stp ?_; intros)
   refine EK.again ⟨(p, s'), h4, h2.trans hF⟩ h3 ?_
   exact Le.kp
end
end E
end Go.Proofs.YtohlgnfachkmaaaGreat
namespace Go.Proofs.YtohlgnfachkmaaaGreat
set_option linter.unusedVariables false
set_option maxRecDepth 20000
set_option maxHeartbeats 16000000
open Go.RowKit Mono Rlp Wd
namespace E
theorem F6 (l : List AcL) (ch : List ChL) (hwt : wtL l ≤ 800000) (hB : ∀ x ∈ l, x.cd.length ≤ 140737488355328) (hc : ch.length ≤ 100) (hcs : ∀ c ∈ ch, c.sl.length ≤ 1000 ∧ c.cd.length ≤ 140737488355328) : FnM 40 [.sl 55 (l.map ak), .sl 56 (ch.map fV)] [] (fun r os' => (∃ L, Canon (dw (dH l) ch) L ∧ L.length ≤ 1000000 ∧ r = .val (.sl 55 (L.map ak))) ∧ os' = []) := by
 have h1 := Il l (by omega) hB
 have hll := tK l
 have hml : (ch.map fV).length = ch.length := Lc _
 refine FnM.walk 70 Tryz.func40 rfl Tryz.ntmps40 (by simp) fun X => ?_
 repeat
  (first
   | (refine aH (os := []) h1 (kk := ?_); rintro _ os1 ⟨g, rfl, hp⟩; simp only [List.append_nil])
   | (refine stp ?_; intros))
 refine EC.loop (ι := {x : Nat × List Obj // x.1 ≤ ch.length ∧ RSt g (dw (dH l) (ch.take x.1)) (wtL l + x.1 * 1005) x.2})
  (fun x => ⟨[(6, .val (.v (.int .i64 (x.1.1 : Int)))), (5, .val (.v (ptr g))), (1, .val (.sl 56 (ch.map fV)))], x.1.2, []⟩)
  (fun x => ch.length - x.1.1) ⟨(0, os1), LH _, hp.mono (by omega)⟩ ?_ ?_
 · exact (Le.keep (by repeat first | exact trivial | refine ⟨rfl, ?_⟩) (by repeat first | exact LM _ | apply List.Sublist.cons_cons | apply List.Sublist.cons) (by simp))
 rintro ⟨⟨i, os2⟩, hil, hp2⟩
 dsimp only at hil hp2 ⊢
 by_cases hlt : i < ch.length
 ·
  have hd : (ch.map fV)[i]? = some (fV ch[i]) := by rw [Ls, La hlt]; rfl
  have hci := hcs ch[i] (MB hlt)
  have htk : ch.take (i + 1) = ch.take i ++ [ch[i]] := Lm hlt
  generalize ch[i] = x at hd hci htk
  obtain ⟨ca, cg, cn, cw, cc, cs⟩ := x
  unfold fV at hd
  dsimp only at hd hci
  have hms : (cs.map aA).length = cs.length := Lc _
  obtain ⟨AA, hAA⟩ : ∃ AA, dw (dH l) (ch.take i) = AA := ⟨_, rfl⟩
  have hp3 := hp2
  rw [hAA] at hp3
  have hcf : ∀ B, dw (dH l) (ch.take (i + 1)) = B ↔ (⟨ca, cg, cn, cw, cc, cs⟩ : ChL).of AA = B := fun B => by rw [htk, oU, hAA]
  cases cg with
  | true =>
   repeat
    (first
     | (apply bG (zx hp3 (a := ca) (by omega)) [_] rfl rfl (ah.refl _ _) (by intro _ _; simp [go_sem]) rfl rfl; rintro _ os3 ⟨rfl, h1⟩; simp only [KN, KO])
     | (apply bG (jY h1 (a := ca) (by omega) cn) [_] rfl rfl (ah.refl _ _) (by intro _ _; simp [go_sem]) rfl rfl; rintro _ os4 ⟨rfl, h2⟩; simp only [KN, KO])
     | (apply bG (iT h2 (a := ca) (by omega) cw) [_] rfl rfl (ah.refl _ _) (by intro _ _; simp [go_sem]) rfl rfl; rintro _ os5 ⟨rfl, h3⟩; simp only [KN, KO])
     | (apply bG (lM h3 (a := ca) (by omega) cc hci.2) [_] rfl rfl (ah.refl _ _) (by intro _ _; simp [go_sem]) rfl rfl; rintro _ os6 ⟨rfl, h4⟩; simp only [KN, KO])
     | (refine stp ?_; intros))
   have h5 : RSt g (ChL.base ⟨ca, true, cn, cw, cc, cs⟩ AA) (wtL l + i * 1005 + 5) os6 := RSt.mono h4 (by omega)
   rename_i g3
   clear h1 h2 h3 h4
   refine EC.loop (ι := {x : Nat × List Obj // x.1 ≤ cs.length ∧ RSt g (eY ca (cs.take x.1) (ChL.base ⟨ca, true, cn, cw, cc, cs⟩ AA)) (wtL l + i * 1005 + 5 + x.1) x.2})
    (fun x => ⟨[(8, .val (.v (.int .i64 (x.1.1 : Int)))), (7, .val (.v (ptr g3))), (6, .val (.v (.int .i64 (i : Int)))), (5, .val (.v (ptr g))), (1, .val (.sl 56 (ch.map fV)))], .var g3 97 (.tup [.arr 20 ca, .v (.bool true), .v (.int .i64 cn), .arr 32 cw, .bs cc, .sl 64 (cs.map aA)]) :: x.1.2, []⟩)
    (fun x => cs.length - x.1.1) ⟨(0, os6), LH _, h5⟩ ?_ ?_
   · exact (Le.keep (by repeat first | exact trivial | refine ⟨rfl, ?_⟩) (by repeat first | exact LM _ | apply List.Sublist.cons_cons | apply List.Sublist.cons) (by simp))
   rintro ⟨⟨j, os7⟩, hjl, h6⟩
   dsimp only at hjl h6 ⊢
   by_cases hlj : j < cs.length
   ·
    have hd2 : (cs.map aA)[j]? = some (aA cs[j]) := by rw [Ls, La hlj]; rfl
    have htk2 : cs.take (j + 1) = cs.take j ++ [cs[j]] := Lm hlj
    generalize cs[j] = y at hd2 htk2
    obtain ⟨q, v⟩ := y
    unfold aA at hd2
    dsimp only at hd2
    repeat (refine stp ?_; intros)
    refine EC.le (Le.perm (MG (l₁ := [_]))) ?_
    refine EC.aZ 16 [0, 1, 2, 3, 4, 5, 6, 7, 8, 9, 10, 11, 12, 13, 14] [15] os7 _ (by kernel_rfl) (by kernel_rfl) rfl ?_
    simp only [au, KW, KY, KT, KU]
    repeat (refine sth ?_; intros)
    refine EM.nil ?_
    repeat (first | rw [KN] | rw [KO])
    refine CH.bC (rest := []) (lK h6 (a := ca) (by omega) q v) (k := ?_)
    rintro _ os8 ⟨rfl, h7⟩
    simp only [St.put, KO]
    refine CH.nil ?_
    try simp only [KP, KR]
    refine EL.le (Le.perm (MG (l₂ := [_]))) ?_
    simp only [KN, KO]
    repeat (refine stp ?_; intros)
    refine EK.again ⟨(j + 1, os8), hlj, by rw [htk2, gB]; exact h7⟩ (by dsimp only; omega) ?_
    simp only [LK]
    exact (Le.keep (by repeat first | exact trivial | refine ⟨rfl, ?_⟩) (by repeat first | exact LM _ | apply List.Sublist.cons_cons | apply List.Sublist.cons) (by simp))
   ·
    have hjE : j = cs.length := by omega
    subst hjE
    rw [L9] at h6
    repeat (refine stp ?_; intros)
    refine EK.again ⟨(i + 1, os7), hlt, ?_⟩ (by dsimp only; omega) ?_
    ·
     dsimp only
     rw [(hcf _).2 rfl]
     exact RSt.mono h6 (by omega)
    ·
     simp only [LK]
     exact (Le.keep (by repeat first | exact trivial | refine ⟨rfl, ?_⟩) (by repeat first | exact LM _ | apply List.Sublist.cons_cons | apply List.Sublist.cons) (by simp))
  | false =>
   repeat
    (first
     | (apply bG (jY hp3 (a := ca) (by omega) cn) [_] rfl rfl (ah.refl _ _) (by intro _ _; simp [go_sem]) rfl rfl; rintro _ os4 ⟨rfl, h2⟩; simp only [KN, KO])
     | (apply bG (iT h2 (a := ca) (by omega) cw) [_] rfl rfl (ah.refl _ _) (by intro _ _; simp [go_sem]) rfl rfl; rintro _ os5 ⟨rfl, h3⟩; simp only [KN, KO])
     | (apply bG (lM h3 (a := ca) (by omega) cc hci.2) [_] rfl rfl (ah.refl _ _) (by intro _ _; simp [go_sem]) rfl rfl; rintro _ os6 ⟨rfl, h4⟩; simp only [KN, KO])
     | (refine stp ?_; intros))
   have h5 : RSt g (ChL.base ⟨ca, false, cn, cw, cc, cs⟩ AA) (wtL l + i * 1005 + 5) os6 := RSt.mono h4 (by omega)
   rename_i g3
   clear h2 h3 h4
   refine EC.loop (ι := {x : Nat × List Obj // x.1 ≤ cs.length ∧ RSt g (eY ca (cs.take x.1) (ChL.base ⟨ca, false, cn, cw, cc, cs⟩ AA)) (wtL l + i * 1005 + 5 + x.1) x.2})
    (fun x => ⟨[(8, .val (.v (.int .i64 (x.1.1 : Int)))), (7, .val (.v (ptr g3))), (6, .val (.v (.int .i64 (i : Int)))), (5, .val (.v (ptr g))), (1, .val (.sl 56 (ch.map fV)))], .var g3 97 (.tup [.arr 20 ca, .v (.bool false), .v (.int .i64 cn), .arr 32 cw, .bs cc, .sl 64 (cs.map aA)]) :: x.1.2, []⟩)
    (fun x => cs.length - x.1.1) ⟨(0, os6), LH _, h5⟩ ?_ ?_
   · exact (Le.keep (by repeat first | exact trivial | refine ⟨rfl, ?_⟩) (by repeat first | exact LM _ | apply List.Sublist.cons_cons | apply List.Sublist.cons) (by simp))
   rintro ⟨⟨j, os7⟩, hjl, h6⟩
   dsimp only at hjl h6 ⊢
   by_cases hlj : j < cs.length
   ·
    have hd2 : (cs.map aA)[j]? = some (aA cs[j]) := by rw [Ls, La hlj]; rfl
    have htk2 : cs.take (j + 1) = cs.take j ++ [cs[j]] := Lm hlj
    generalize cs[j] = y at hd2 htk2
    obtain ⟨q, v⟩ := y
    unfold aA at hd2
    dsimp only at hd2
    repeat (refine stp ?_; intros)
    refine EC.le (Le.perm (MG (l₁ := [_]))) ?_
    refine EC.aZ 16 [0, 1, 2, 3, 4, 5, 6, 7, 8, 9, 10, 11, 12, 13, 14] [15] os7 _ (by kernel_rfl) (by kernel_rfl) rfl ?_
    simp only [au, KW, KY, KT, KU]
    repeat (refine sth ?_; intros)
    refine EM.nil ?_
    repeat (first | rw [KN] | rw [KO])
    refine CH.bC (rest := []) (lK h6 (a := ca) (by omega) q v) (k := ?_)
    rintro _ os8 ⟨rfl, h7⟩
    simp only [St.put, KO]
    refine CH.nil ?_
    try simp only [KP, KR]
    refine EL.le (Le.perm (MG (l₂ := [_]))) ?_
    simp only [KN, KO]
    repeat (refine stp ?_; intros)
    refine EK.again ⟨(j + 1, os8), hlj, by rw [htk2, gB]; exact h7⟩ (by dsimp only; omega) ?_
    simp only [LK]
    exact (Le.keep (by repeat first | exact trivial | refine ⟨rfl, ?_⟩) (by repeat first | exact LM _ | apply List.Sublist.cons_cons | apply List.Sublist.cons) (by simp))
   ·
    have hjE : j = cs.length := by omega
    subst hjE
    rw [L9] at h6
    repeat (refine stp ?_; intros)
    refine EK.again ⟨(i + 1, os7), hlt, ?_⟩ (by dsimp only; omega) ?_
    ·
     dsimp only
     rw [(hcf _).2 rfl]
     exact RSt.mono h6 (by omega)
    ·
     simp only [LK]
     exact (Le.keep (by repeat first | exact trivial | refine ⟨rfl, ?_⟩) (by repeat first | exact LM _ | apply List.Sublist.cons_cons | apply List.Sublist.cons) (by simp))
 ·
  have hiE : i = ch.length := by omega
  subst hiE
  rw [L9] at hp2
  have h3 := oz hp2 (by omega)
  repeat
   (first
    | (apply bG h3 [] rfl rfl (ah.refl _ _) (by intro _ _; simp [go_sem]) rfl rfl; rintro _ _ ⟨⟨L, hL, hLl, rfl⟩, rfl⟩; simp only [KO]) | (refine stp ?_; intros))
  exact EK.aI [] rfl rfl (KZ _) ⟨⟨L, hL, by omega, rfl⟩, rfl⟩
end E
end Go.Proofs.YtohlgnfachkmaaaGreat
namespace Go.Proofs.YtohlgnfachkmaaaGreat
set_option linter.unusedVariables false
set_option maxRecDepth 20000
set_option maxHeartbeats 8000000
open Go.RowKit Mono Rlp Wd Go.Sort
namespace E
theorem tu {L : List AcL} (h : Canon (dH []) L) : L = [] := by
 refine List.eq_nil_iff_forall_not_mem.2 fun x hx => ?_
 exact (h.mem x hx).2 rfl
theorem yK : (ofW 1 == ofW 2) = false := by decide
abbrev al1 : List Ent := [(0, ofW 1, dJ zero32 [])]
abbrev al2 : List Ent := [(0, ofW 1, dJ zero32 []), (1, ofW 2, dJ (ofW 1) [])]
theorem F9 : aX 0 [] (ofW 1) (dJ zero32 []) = al1 := rfl
theorem CB : aU 0 [] (ofW 1) = 1 := rfl
theorem zN : gJ al1 (ofW 2) = false := by simp [gJ, yK]
theorem F8 : aX 1 al1 (ofW 2) (dJ (ofW 1) []) = al2 := by unfold aX; rw [zN]; rfl
theorem Cm : aU 1 al1 (ofW 2) = 2 := by unfold aU; rw [zN]; rfl
theorem vH (k : List UInt8) : sortL [k] = [k] := by simp [sortL]
theorem uX : FnM 5 [] [] (fun r os' => r = .val (.v (.bool true)) ∧ os' = []) := by
 have o1 : Fn 37 [.v (.int .i64 1)] (· = .val (.arr 32 (ofW 1))) := J6 1 (by omega)
 have o2 : Fn 37 [.v (.int .i64 2)] (· = .val (.arr 32 (ofW 2))) := J6 2 (by omega)
 have n0 := oO 0
 have hnew := JI [] (ofW 1) (by simp) (by simp)
 refine FnM.walk 38 Tryz.func5 rfl Tryz.ntmps5 (by simp) fun X => ?_
 repeat
  (first
   | (refine dQ (o1) (kk := ?_)) | (refine stp ?_; intros))
 refine aH (os := []) hnew rfl rfl RL.a (by intro _ _; simp [go_sem]) rfl rfl ?_
 rintro _ _ ⟨g, m, L, hL, _, _, rfl, rfl⟩
 obtain rfl := tu hL
 simp only [KN, KO]
 rw [F9, CB]
 have hnn := (mV (T := 28) (by kernel_rfl) (some ⟨g, 0, none⟩)).1
 have e1 : aC al1 (ofW 2) = none := by simp [aC, yK]
 have e2 : aC al1 (ofW 1) = some (dJ zero32 []) := by simp [aC]
 have hadd := KE (g := g) (m := m) (c := 1) (base := ofW 1) [] e1 e2 (by simp) (by simp) (by simp) (by simp)
 have e3 : aC al2 (ofW 2) = some (dJ (ofW 1) []) := by simp [aC, yK]
 have hfl := Ii (g := g) (m := m) (c := 2) (base := ofW 1) (id := ofW 2) (es := al2) (fun k => k == ofW 2) (fun e he => by
  simp only [Lj, Og, or_false] at he
  rcases he with rfl | rfl
  ·
   rw [yK]
   exact Bg (by simp [bne, yK])
  ·
   rw [beq_self_eq_true]
   exact Bf) e3 (by simp)
 have hf1 : (al2.filter fun e => !(e.2.1 == ofW 2)) = [(0, ofW 1, dJ zero32 [])] := by simp [yK]
 have hf2 : (al2.filter fun e => e.2.1 == ofW 2) = [(1, ofW 2, dJ (ofW 1) [])] := by simp [yK]
 rw [hf1, hf2, LV, MW, vH] at hfl
 have hly := zl (g := g) (m := m) (c := 2) (base := ofW 2) (es := [(1, ofW 2, dJ (ofW 1) [])]) (K1 := []) (K2 := []) (by rw [LV, MW, vH]; rfl) (by simp) (by simp)
 have hbs := Ij (g := g) (m := m) (c := 2) (base := ofW 2) (es := [(1, ofW 2, dJ (ofW 1) [])])
 have heq := (aP (ofW 2) (ofW 2)).1
 rw [beq_self_eq_true] at heq
 repeat
  (first
   | (refine dQ (o1) (kk := ?_)) | (refine dQ (o2) (kk := ?_))
   | (refine bH (hrun := hnn) (kk := ?_)) | (refine stp ?_; intros))
 refine aH (os := [tO g m (ofW 1), .map m 32 1 al1]) hadd rfl rfl RL.a (by intro _ _; simp [go_sem]) rfl rfl ?_
 rintro _ _ ⟨L', hL', _, _, rfl, rfl⟩
 obtain rfl := tu (show Canon (dH []) L' from hL')
 simp only [KN, KO]
 rw [F8, Cm]
 repeat
  (first
   | (refine dQ (o2) (kk := ?_)) | (refine stp ?_; intros))
 refine aH (os := [tO g m (ofW 1), .map m 32 2 al2]) hfl rfl rfl RL.a (by intro _ _; simp [go_sem]) rfl rfl ?_
 rintro _ _ ⟨rfl, rfl⟩
 simp only [KN, KO]
 repeat
  (first
   | (refine dQ (o2) (kk := ?_)) | (refine dQ (n0) (kk := ?_))
   | (refine bH (hrun := heq) (kk := ?_)) | (apply pF hbs [0, 1] [] rfl (by decide) rfl rfl (ah.refl _ _) (by intro _ _; simp [go_sem]) rfl rfl)
   | (apply pF hly [0, 1] [] rfl (by decide) rfl rfl (ah.refl _ _) (by intro _ _; simp [go_sem]) rfl rfl) | (refine stp ?_; intros))
 exact EK.aI [] rfl rfl (KZ _) ⟨rfl, rfl⟩
theorem zG : ∀ i < 10, ∀ j < 10, ofW i = ofW j → i = j := by decide
structure Chn (ll : List (List AcL)) (i : Nat) (es : List Ent) : Prop where
 at_ : ∀ j (h : j < ll.length), j < i → ∃ p L, aC es (ofW j) = some (dJ p L) ∧ Canon (dH ll[j]) L ∧ (0 < j → p = ofW (j - 1))
 keys : ∀ e ∈ es, ∃ j < i, e.2.1 = ofW j
 len : es.length ≤ i
theorem Chn.none {ll : List (List AcL)} {i j : Nat} {es : List Ent} (h : Chn ll i es) (hi : i ≤ j) (hj : j < 10) : aC es (ofW j) = none := (dX es _).2 fun hm => by
 obtain ⟨e, he, h1⟩ := Ll.1 hm
 obtain ⟨k, hk, h2⟩ := h.keys e he
 have := zG k (by omega) j hj (h2.symm.trans h1)
 omega
theorem Chn.first {ll : List (List AcL)} (h0 : 0 < ll.length) {L : List AcL} (hL : Canon (dH ll[0]) L) : Chn ll 1 (aX 0 [] (ofW 0) (dJ zero32 L)) := by
 refine ⟨fun j hj h1 => ?_, fun e he => ?_, cZ _ _ _ _⟩
 ·
  obtain rfl : j = 0 := by omega
  exact ⟨zero32, L, by rw [bU, if_pos rfl], hL, fun h => absurd h (Nat.lt_irrefl _)⟩
 ·
  have : e = (0, ofW 0, dJ zero32 L) := by simpa [aX, gJ, aC] using he
  exact ⟨0, Nat.one_pos, by rw [this]⟩
theorem Chn.next {ll : List (List AcL)} {i c : Nat} {es : List Ent} (h : Chn ll i es) (h1 : 1 ≤ i) (hi : i < ll.length) (hn : ll.length ≤ 10) {L : List AcL} (hL : Canon (dH ll[i]) L) : Chn ll (i + 1) (aX c es (ofW i) (dJ (ofW (i - 1)) L)) := by
 refine ⟨fun j hj hji => ?_, fun e he => ?_, LZ (cZ _ _ _ _) (NM h.len)⟩
 ·
  by_cases e : j = i
  ·
   subst e
   exact ⟨_, L, by rw [bU, if_pos rfl], hL, fun _ => rfl⟩
  ·
   obtain ⟨p, M, g1, g2, g3⟩ := h.at_ j hj (by omega)
   exact ⟨p, M, by rw [bU, if_neg fun e' => e (zG i (by omega) j (by omega) e').symm, g1], g2, g3⟩
 ·
  have hn := h.none (LG i) (by omega)
  have hh : gJ es (ofW i) = false := by
   cases hx : gJ es (ofW i) with
   | false => rfl
   | true =>
    rw [iD] at hx
    rw [hn] at hx
    cases hx
  unfold aX at he
  rw [hh] at he
  simp only [Nr, if_false, LP, List.mem_singleton] at he
  rcases he with he | rfl
  ·
   obtain ⟨j, hj, e⟩ := h.keys e he
   exact ⟨j, Nat.lt_succ_of_lt hj, e⟩
  · exact ⟨i, Nat.lt_succ_self i, rfl⟩
theorem oI (F : List UInt8 → Bool) (k : List UInt8) : ∀ es : List Ent, aC (es.filter fun e => F e.2.1) k = if F k = true then aC es k else none
 | [] => by simp [aC]
 | x :: es => by
  have ih := oI F k es
  by_cases hx : (x.2.1 == k) = true
  ·
   have hk : x.2.1 = k := by simpa using hx
   have e1 : aC (x :: es) k = some x.2.2 := by rw [aC, if_pos hx]
   rw [e1, List.filter_cons]
   by_cases hF : F k = true
   · rw [if_pos (by rw [hk]; exact hF), if_pos hF, aC, if_pos hx]
   · rw [if_neg (by rw [hk]; exact hF), if_neg hF, ih, if_neg hF]
  ·
   have e1 : aC (x :: es) k = aC es k := by rw [aC, if_neg hx]
   rw [e1, ← ih, List.filter_cons]
   split
   · rw [aC, if_neg hx]
   · rfl
structure Sz (A : As) (n s : Nat) : Prop where
 nn : ∀ a, 0 ≤ (A a).n
 ad : ∃ K : List (List UInt8), K.length ≤ n ∧ ∀ a, A a ≠ Ac.zero → a ∈ K
 sl : ∃ T : List (List UInt8 × List UInt8), T.length ≤ s ∧ ∀ a k, (A a).sl k ≠ zero32 → (a, k) ∈ T
 cd : ∀ a, (A a).cd.length ≤ 140737488355328
theorem Sz.mono {A : As} {n s m t : Nat} (h : Sz A n s) (h1 : n ≤ m) (h2 : s ≤ t) : Sz A m t :=
 ⟨h.nn, by obtain ⟨K, k1, k2⟩ := h.ad; exact ⟨K, LZ k1 h1, k2⟩, by obtain ⟨K, k1, k2⟩ := h.sl; exact ⟨K, LZ k1 h2, k2⟩, h.cd⟩
theorem zo (sl : List (List UInt8 × List UInt8)) (f : List UInt8 → List UInt8) (k : List UInt8) (h : k ∉ sl.map Prod.fst) : slG sl f k = f k := by
 rw [ug zero32 sl f k fun p hp e => absurd (Ll.2 ⟨p, hp, e⟩) h, if_neg h]
theorem wH : ∀ (l : List AcL) (A : As) (a : List UInt8), l.foldl (fun A x => A.upd x.a x.take) A a = A a ∨ ∃ y ∈ l, y.a = a ∧ l.foldl (fun A x => A.upd x.a x.take) A a = y.take
 | [], A, a => .inl rfl
 | x :: l, A, a => by
  rw [N7]
  rcases wH l (A.upd x.a x.take) a with h | ⟨y, hy, e, h⟩
  ·
   rw [h]
   unfold As.upd
   by_cases e : x.a = a
   ·
    rw [if_pos e]
    exact .inr ⟨x, Ld, e, rfl⟩
   ·
    rw [if_neg e]
    exact .inl rfl
  · exact .inr ⟨y, Lu _ hy, e, h⟩
def slA (l : List AcL) : List (List UInt8 × List UInt8) := l.flatMap fun x => x.sl.map fun p => (x.a, p.1)
theorem lZ (x : AcL) (l : List AcL) : slA (x :: l) = (x.sl.map fun p => (x.a, p.1)) ++ slA l := by simp [slA]
theorem zu (t : Nat) : ∀ (l : List AcL), (∀ x ∈ l, x.sl.length ≤ t) → (slA l).length ≤ l.length * t
 | [], _ => LH _
 | x :: l, h => by
  have h1 := zu t l fun y hy => h y (Lu _ hy)
  have h2 := h x Ld
  rw [lZ, List.length_append, Lc, Me, Nq]
  omega
theorem BZ : ∀ (l : List AcL), wtL l = 5 * l.length + (slA l).length
 | [] => rfl
 | x :: l => by
  rw [pJ, BZ l, lZ, List.length_append, Lc, Me]
  omega
theorem o9 {l : List AcL} {a k : List UInt8} : (a, k) ∈ slA l ↔ ∃ x ∈ l, x.a = a ∧ k ∈ x.sl.map Prod.fst := by
 unfold slA
 rw [List.mem_flatMap]
 constructor
 ·
  rintro ⟨x, hx, h⟩
  obtain ⟨p, hp, e⟩ := Ll.1 h
  rw [Prod.mk.injEq] at e
  exact ⟨x, hx, e.1, Ll.2 ⟨p, hp, e.2⟩⟩
 ·
  rintro ⟨x, hx, rfl, h⟩
  obtain ⟨p, hp, rfl⟩ := Ll.1 h
  exact ⟨x, hx, Ll.2 ⟨p, hp, rfl⟩⟩
theorem Sz.new (l : List AcL) (t : Nat) (hl : ∀ x ∈ l, x.sl.length ≤ t ∧ x.cd.length ≤ 140737488355328) : Sz (dH l) l.length (l.length * t) := by
 refine ⟨Gn l, ⟨l.map AcL.a, by simp, fun a ha => ?_⟩, ⟨slA l, zu t l fun x hx => (hl x hx).1, fun a k hk => ?_⟩, Gp l fun x hx => (hl x hx).2⟩
 ·
  refine LY fun hn => ha ?_
  unfold dH
  rw [kF l _ _ hn]
 ·
  unfold dH at hk
  rcases wH l (fun _ => Ac.zero) a with e | ⟨y, hy, ea, e⟩
  · exact absurd (by rw [e]; rfl) hk
  ·
   refine o9.2 ⟨y, hy, ea, LY fun hn => hk ?_⟩
   rw [e]
   exact zo y.sl (fun _ => zero32) k hn
theorem Sz.of {A : As} {n s : Nat} (h : Sz A n s) (c : ChL) (m : Nat) (hc : c.sl.length ≤ m ∧ c.cd.length ≤ 140737488355328) : Sz (c.of A) (n + 1) (s + m) := by
 rw [ChL.of_eq]
 have at_ : ∀ a, (A.upd c.a (c.one (A c.a)) a = c.one (A c.a) ∧ c.a = a) ∨ (A.upd c.a (c.one (A c.a)) a = A a ∧ c.a ≠ a) := fun a => by
  unfold As.upd
  by_cases e : c.a = a
  ·
   rw [if_pos e]
   exact .inl ⟨rfl, e⟩
  ·
   rw [if_neg e]
   exact .inr ⟨rfl, e⟩
 obtain ⟨K, k1, k2⟩ := h.ad
 obtain ⟨T, j1, j2⟩ := h.sl
 refine ⟨fun a => ?_, ⟨c.a :: K, NM k1, fun a ha => ?_⟩, ⟨T ++ c.sl.map fun p => (c.a, p.1), by rw [List.length_append, Lc]; exact Nat.add_le_add j1 hc.1, fun a k hk => ?_⟩, fun a => ?_⟩
 ·
  rcases at_ a with ⟨e, _⟩ | ⟨e, _⟩
  ·
   rw [e]
   exact IY _ _
  ·
   rw [e]
   exact h.nn a
 ·
  rcases at_ a with ⟨_, e⟩ | ⟨e, _⟩
  · exact e ▸ Ld
  · exact Lu _ (k2 a (e ▸ ha))
 ·
  rcases at_ a with ⟨e, rfl⟩ | ⟨e, _⟩
  ·
   rw [e] at hk
   refine LY fun hn => hk ?_
   simp only [LP, not_or] at hn
   show slG c.sl (if c.gone = true then fun _ => zero32 else (A c.a).sl) k = zero32
   rw [zo _ _ _ fun hm => hn.2 (by
    obtain ⟨p, hp, rfl⟩ := Ll.1 hm
    exact Ll.2 ⟨p, hp, rfl⟩)]
   split
   · rfl
   · exact LY fun hne => hn.1 (j2 _ _ hne)
  · exact LJ _ (j2 a k (by rw [e] at hk; exact hk))
 ·
  rcases at_ a with ⟨e, _⟩ | ⟨e, _⟩
  ·
   rw [e]
   exact hc.2
  ·
   rw [e]
   exact h.cd a
theorem Sz.apply {m : Nat} : ∀ (ch : List ChL) {A : As} {n s : Nat}, Sz A n s → (∀ c ∈ ch, c.sl.length ≤ m ∧ c.cd.length ≤ 140737488355328) → Sz (dw A ch) (n + ch.length) (s + ch.length * m)
 | [], A, n, s, h, _ => by simpa [dw] using h
 | c :: ch, A, n, s, h, hc => by
  have := Sz.apply ch (h.of c m (hc c Ld)) fun x hx => hc x (Lu _ hx)
  rw [show dw A (c :: ch) = dw (c.of A) ch from rfl]
  refine this.mono (by rw [Me]; omega) ?_
  rw [Me, Nq]
  omega
theorem yF {α : Type} {key : α → List UInt8} {l : List α} (h : l.Pairwise fun x y => key x < key y) : (l.map key).Nodup := by
 unfold List.Nodup
 rw [MQ]
 exact h.imp fun h e => by rw [e] at h; exact MF _ h
theorem Sz.len {A : As} {n s : Nat} (h : Sz A n s) {L : List AcL} (hL : Canon A L) : L.length ≤ n := by
 obtain ⟨K, k1, k2⟩ := h.ad
 have := (yF hL.ord).length_le_of_subset (l₂ := K) fun a ha => by
  obtain ⟨x, hx, rfl⟩ := Ll.1 ha
  exact k2 _ (hL.mem x hx).2
 rw [Lc] at this
 omega
theorem rU {L : List AcL} (h1 : L.Pairwise fun x y => x.a < y.a) (h2 : ∀ x ∈ L, x.sl.Pairwise fun p q => p.1 < q.1) : (slA L).Nodup := by
 induction L with
 | nil => exact .nil
 | cons x L ih =>
  obtain ⟨g1, g2⟩ := Mc.1 h1
  rw [lZ]
  refine MX.2 ⟨?_, ih g2 fun y hy => h2 y (Lu _ hy), fun a ha b hb e => ?_⟩
  ·
   unfold List.Nodup
   rw [MQ]
   exact (h2 x Ld).imp fun h e => by
    rw [Prod.mk.injEq] at e
    rw [e.2] at h
    exact MF _ h
  ·
   obtain ⟨p, _, rfl⟩ := Ll.1 ha
   subst e
   obtain ⟨y, hy, ey, _⟩ := o9.1 hb
   have := g1 y hy
   rw [ey] at this
   exact MF _ this
theorem Sz.wt {A : As} {n s : Nat} (h : Sz A n s) {L : List AcL} (hL : Canon A L) : wtL L ≤ 5 * n + s := by
 obtain ⟨T, j1, j2⟩ := h.sl
 have h1 := (rU hL.ord fun x hx => (hL.mem x hx).1.ord).length_le_of_subset (l₂ := T) fun ⟨a, k⟩ ha => by
  obtain ⟨x, hx, rfl, hk⟩ := o9.1 ha
  exact j2 _ _ (((hL.mem x hx).1.keys k).1 hk)
 have h2 := h.len hL
 rw [BZ]
 omega
theorem Sz.each {A : As} {n s : Nat} (h : Sz A n s) {L : List AcL} (hL : Canon A L) : ∀ x ∈ L, x.sl.length ≤ s ∧ x.cd.length ≤ 140737488355328 := fun x hx => by
 obtain ⟨h1, _⟩ := hL.mem x hx
 obtain ⟨T, j1, j2⟩ := h.sl
 refine ⟨?_, by rw [h1.cd]; exact h.cd _⟩
 have := (rU (L := [x]) (Ol _ _) fun y hy => by
  obtain rfl : y = x := by simpa using hy
  exact h1.ord).length_le_of_subset (l₂ := T) fun ⟨a, k⟩ ha => by
  obtain ⟨y, hy, rfl, hk⟩ := o9.1 ha
  obtain rfl : y = x := by simpa using hy
  exact j2 _ _ ((h1.keys k).1 hk)
 rw [lZ, List.length_append, Lc] at this
 omega
theorem Canon.back {A : As} {L : List AcL} (h : Canon A L) (hn : ∀ a, 0 ≤ (A a).n) : dH L = A := h.new hn
structure Ly where
 id : List UInt8
 par : List UInt8
 L : List AcL
def dLy (x : Ly) : D := .tup [.arr 32 x.id, .arr 32 x.par, .sl 55 (x.L.map ak)]
structure Trs (base : List UInt8) (ls : List Ly) (n s : Nat) : Prop where
 nod : (ls.map Ly.id).Nodup
 has : base ∈ ls.map Ly.id
 par : ∀ l1 x l2, ls = l1 ++ x :: l2 → x.id = base ∨ ∃ y ∈ l1, y.id = x.par
 acc : ∀ x ∈ ls, ∃ A, Canon A x.L ∧ Sz A n s
structure Mpd (es : List Ent) (ls : List Ly) : Prop where
 get : ∀ x ∈ ls, aC es x.id = some (dJ x.par x.L)
 keys : (es.map (·.2.1)).Perm (ls.map Ly.id)
theorem Mpd.none {es : List Ent} {ls : List Ly} (h : Mpd es ls) {k : List UInt8} (hk : k ∉ ls.map Ly.id) : aC es k = none := (dX es k).2 fun hm => hk (h.keys.mem_iff.1 hm)
theorem Mpd.len {es : List Ent} {ls : List Ly} (h : Mpd es ls) : es.length = ls.length := by
 have := h.keys.length_eq
 simpa using this
theorem Trs.first {A : As} {id p : List UInt8} {L : List AcL} {n s : Nat} (h : Canon A L) (hz : Sz A n s) : Trs id [⟨id, p, L⟩] n s :=
 ⟨by simp, by simp, fun l1 x l2 e => by
  cases l1 with
  | nil => rw [KO, List.cons.injEq] at e; exact .inl (by rw [← e.1])
  | cons y l1 => simp at e, fun x hx => by
  obtain rfl : x = ⟨id, p, L⟩ := by simpa using hx
  exact ⟨A, h, hz⟩⟩
theorem Mpd.first (id p : List UInt8) (L : List AcL) : Mpd (aX 0 [] id (dJ p L)) [⟨id, p, L⟩] :=
 ⟨fun x hx => by
  obtain rfl : x = ⟨id, p, L⟩ := by simpa using hx
  rw [bU, if_pos rfl], by simp [aX, gJ]⟩
theorem yt {α : Type} {ls l1 l2 : List α} {a x : α} (e : ls ++ [a] = l1 ++ x :: l2) : (l1 = ls ∧ x = a) ∨ ∃ l3, ls = l1 ++ x :: l3 := by
 rcases List.eq_nil_or_concat l2 with rfl | ⟨l3, b, rfl⟩
 ·
  have := List.append_inj' e (by simp)
  exact .inl ⟨this.1.symm, by simpa using this.2.symm⟩
 ·
  refine .inr ⟨l3, ?_⟩
  rw [List.concat_eq_append, ← KN, ← L6] at e
  exact (List.append_inj' e (by simp)).1
theorem Trs.add {base id par : List UInt8} {ls : List Ly} {n s m t : Nat} (h : Trs base ls n s) (hid : id ∉ ls.map Ly.id) (hp : par ∈ ls.map Ly.id) {A : As} {L : List AcL} (hL : Canon A L) (hz : Sz A m t) (h1 : n ≤ m) (h2 : s ≤ t) : Trs base (ls ++ [⟨id, par, L⟩]) m t := by
 refine ⟨?_, ?_, fun l1 x l2 e => ?_, fun x hx => ?_⟩
 ·
  rw [MC, List.map_singleton]
  exact MX.2 ⟨h.nod, by simp, fun a ha b hb e => by
   obtain rfl : b = id := by simpa using hb
   exact hid (e ▸ ha)⟩
 ·
  rw [MC]
  exact LJ _ h.has
 ·
  rcases yt e with ⟨rfl, rfl⟩ | ⟨l3, e⟩
  ·
   obtain ⟨y, hy, e⟩ := Ll.1 hp
   exact .inr ⟨y, hy, e⟩
  · exact h.par l1 x l3 e
 ·
  rcases LP.1 hx with hx | hx
  ·
   obtain ⟨B, b1, b2⟩ := h.acc x hx
   exact ⟨B, b1, b2.mono h1 h2⟩
  ·
   obtain rfl : x = ⟨id, par, L⟩ := by simpa using hx
   exact ⟨A, hL, hz⟩
theorem Trs.mono {base : List UInt8} {ls : List Ly} {n s m t : Nat} (h : Trs base ls n s) (h1 : n ≤ m) (h2 : s ≤ t) : Trs base ls m t :=
 ⟨h.nod, h.has, h.par, fun x hx => by obtain ⟨A, b1, b2⟩ := h.acc x hx; exact ⟨A, b1, b2.mono h1 h2⟩⟩
theorem Mpd.add {es : List Ent} {ls : List Ly} (h : Mpd es ls) (c : Nat) {id par : List UInt8} {L : List AcL} (hid : id ∉ ls.map Ly.id) : Mpd (aX c es id (dJ par L)) (ls ++ [⟨id, par, L⟩]) := by
 have hh : gJ es id = false := by rw [iD, h.none hid]; rfl
 refine ⟨fun x hx => ?_, ?_⟩
 ·
  rw [bU]
  rcases LP.1 hx with hx | hx
  ·
   rw [if_neg fun e => hid (by rw [e]; exact Ll.2 ⟨x, hx, rfl⟩)]
   exact h.get x hx
  ·
   obtain rfl : x = ⟨id, par, L⟩ := by simpa using hx
   rw [if_pos rfl]
 ·
  unfold aX
  rw [hh]
  simp only [Nr, if_false, MC, List.map_singleton]
  exact h.keys.append_right _
inductive BR (base to : List UInt8) (ls : List Ly) : List UInt8 → Prop
 | here : BR base to ls to
 | up (x : Ly) (hx : x ∈ ls) (h1 : x.id ≠ to) (h2 : x.id ≠ base) (h : BR base to ls x.par) : BR base to ls x.id
noncomputable def eH (base to : List UInt8) (ls : List Ly) (k : List UInt8) : Bool := @decide (BR base to ls k) (Classical.propDecidable _)
theorem jq {base to : List UInt8} {ls : List Ly} {k : List UInt8} : eH base to ls k = true ↔ BR base to ls k := by
 unfold eH
 exact @decide_eq_true_iff _ (Classical.propDecidable _)
theorem qM (base to : List UInt8) (ls : List Ly) : eH base to ls to = true := jq.2 .here
theorem lU {base to : List UInt8} {ls : List Ly} (h : base ≠ to) : eH base to ls base = false := by
 cases hd : eH base to ls base with
 | false => rfl
 | true =>
  have key : ∀ k, BR base to ls k → k = base → False := fun k hd hk => by
   cases hd with
   | here => exact h hk.symm
   | up x _ _ h2 _ => exact h2 hk
  exact (key base (jq.1 hd) rfl).elim
theorem yQ {ls : List Ly} (h : (ls.map Ly.id).Nodup) {x y : Ly} (hx : x ∈ ls) (hy : y ∈ ls) (e : x.id = y.id) : x = y := by
 induction ls with
 | nil => cases hx
 | cons z ls ih =>
  rw [LV, MR] at h
  rcases Lj.1 hx with rfl | hx' <;> rcases Lj.1 hy with rfl | hy'
  · rfl
  · exact absurd (Ll.2 ⟨y, hy', e.symm⟩) h.1
  · exact absurd (Ll.2 ⟨x, hx', e⟩) h.1
  · exact ih h.2 hx' hy'
theorem nP {base to : List UInt8} {ls : List Ly} (hn : (ls.map Ly.id).Nodup) {x : Ly} (hx : x ∈ ls) (h1 : x.id ≠ to) (h2 : x.id ≠ base) : eH base to ls x.par = eH base to ls x.id := by
 rw [Bool.eq_iff_iff, jq, jq]
 constructor
 · exact fun h => .up x hx h1 h2 h
 ·
  intro h
  generalize hk : x.id = k at h
  cases h with
  | here => exact absurd hk h1
  | up y hy _ _ h =>
   rw [yQ hn hx hy hk]
   exact h
theorem Trs.flat {base to : List UInt8} {ls : List Ly} {n s : Nat} (h : Trs base ls n s) (hto : to ∈ ls.map Ly.id) : Trs to (ls.filter fun x => eH base to ls x.id) n s := by
 refine ⟨h.nod.sublist (OL.map _), ?_, fun l1 x l2 e => ?_, fun x hx => h.acc x (Np.1 hx).1⟩
 ·
  obtain ⟨x, hx, rfl⟩ := Ll.1 hto
  exact Ll.2 ⟨x, Np.2 ⟨hx, qM _ _ _⟩, rfl⟩
 ·
  obtain ⟨m1, m2, rfl, rfl, e2⟩ := List.filter_eq_append_iff.1 e
  obtain ⟨m3, m4, rfl, h3, h4, h5⟩ := List.filter_eq_cons_iff.1 e2
  by_cases hx : x.id = to
  · exact .inl hx
  have hxm : x ∈ m1 ++ (m3 ++ x :: m4) := by simp
  have hd := jq.1 h4
  have hb : x.id ≠ base := fun e => by
   rw [e, lU (fun e' => hx (e.trans e'))] at h4
   cases h4
  rcases h.par (m1 ++ m3) x m4 (by simp) with e | ⟨y, hy, e⟩
  · exact absurd e hb
  ·
   refine .inr ⟨y, ?_, e⟩
   have hyd : eH base to (m1 ++ (m3 ++ x :: m4)) y.id = true := by
    rw [e, nP h.nod hxm hx hb]
    exact h4
   rcases LP.1 hy with hy | hy
   · exact Np.2 ⟨hy, hyd⟩
   · exact absurd hyd (h3 y hy)
theorem Mpd.flat {es : List Ent} {ls : List Ly} (h : Mpd es ls) (F : List UInt8 → Bool) : Mpd (es.filter fun e => F e.2.1) (ls.filter fun x => F x.id) := by
 refine ⟨fun x hx => ?_, ?_⟩
 ·
  obtain ⟨h1, h2⟩ := Np.1 hx
  rw [oI, if_pos h2]
  exact h.get x h1
 ·
  have e1 : (es.filter fun e => F e.2.1).map (·.2.1) = (es.map (·.2.1)).filter F := by rw [List.filter_map]; rfl
  have e2 : (ls.filter fun x => F x.id).map Ly.id = (ls.map Ly.id).filter F := by rw [List.filter_map]; rfl
  rw [e1, e2]
  exact h.keys.filter F
def InL (ls : List Ly) (k : List UInt8) (r : Nat) : Prop := ∃ l1 x l2, ls = l1 ++ x :: l2 ∧ x.id = k ∧ l1.length = r
theorem InL.of {ls : List Ly} {k : List UInt8} (h : k ∈ ls.map Ly.id) : ∃ r, InL ls k r := by
 obtain ⟨x, hx, rfl⟩ := Ll.1 h
 obtain ⟨l1, l2, rfl⟩ := Oo hx
 exact ⟨_, l1, x, l2, rfl, rfl, rfl⟩
theorem Trs.step {base : List UInt8} {ls : List Ly} {n s : Nat} (h : Trs base ls n s) {k : List UInt8} {r : Nat} (hk : InL ls k r) (hb : k ≠ base) : ∃ x ∈ ls, x.id = k ∧ ∃ r' < r, InL ls x.par r' := by
 obtain ⟨l1, x, l2, rfl, rfl, rfl⟩ := hk
 refine ⟨x, by simp, rfl, ?_⟩
 rcases h.par l1 x l2 rfl with e | ⟨y, hy, e⟩
 · exact absurd e hb
 ·
  obtain ⟨m1, m2, rfl⟩ := Oo hy
  exact ⟨m1.length, by simp, m1, y, m2 ++ x :: l2, by simp, e, rfl⟩
end E
end Go.Proofs.YtohlgnfachkmaaaGreat
