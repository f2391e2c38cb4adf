/-
 Merged: lemmas of this claim.
 Conditions: none.
-/
import Derived.Test.YtohlgnfachkmaaaGreatZA11
import Derived.Test.YtohlgnfachkmaaaGreatZA16
import Derived.Test.YtohlgnfachkmaaaGreatZA17
import Derived.Test.YtohlgnfachkmaaaGreatZA0
namespace Go.Proofs.YtohlgnfachkmaaaGreat
set_option linter.unusedVariables false
set_option maxRecDepth 20000
set_option maxHeartbeats 8000000
open Go.RowKit Mono Rlp Wd
namespace E
mutual
theorem ah.rows {ok : Nat → Prop} {w : World} {F : List (Value × D)} (hF : ∀ f ∈ F, Reads ok w f.2 [f.1]) {z : Nat} : ∀ (ds ds' : List D) (rows : List (List Value)), ah F ds ds' → aj ok w z ds rows → aj ok w z ds' rows
 | [], l, rows, h, hr => by rw [ah] at h; subst h; exact hr
 | d :: ds, l, rows, h, hr => by
  rw [ah] at h
  obtain ⟨d', ds', rfl, h1, h2⟩ := h
  rw [aj] at hr ⊢
  obtain ⟨r, rest, rfl, h3, h4, h5⟩ := hr
  exact ⟨r, rest, rfl, h3, (Refine.reads hF d d' r h1 h4).1, ah.rows hF ds ds' rest h2 h5⟩
end
theorem ah.length {F : List (Value × D)} : ∀ {ds ds' : List D}, ah F ds ds' → ds'.length = ds.length
 | [], l, h => by rw [ah] at h; subst h; rfl
 | d :: ds, l, h => by
  rw [ah] at h
  obtain ⟨d', ds', rfl, h1, h2⟩ := h
  rw [Me, Me, ah.length h2]
theorem RL.append {F : List (Value × D)} : ∀ {ds ds' es es' : List D}, ah F ds ds' → ah F es es' → ah F (ds ++ es) (ds' ++ es')
 | [], l, es, es', h, k => by rw [ah] at h; subst h; exact k
 | d :: ds, l, es, es', h, k => by
  rw [ah] at h
  obtain ⟨d', ds', rfl, h1, h2⟩ := h
  exact RL.cons h1 (RL.append h2 k)
theorem Le.FY {N : Nat} {X : Cx N} {rs : List (Tmp × R)} {os : List Obj} {fs : List (Value × D)} {v : Value} {e z : Nat} {ds ds' : List D} (h : ah fs ds ds') : Le X ⟨rs, .row v e z ds :: os, fs⟩ ⟨rs, .row v e z ds' :: os, fs⟩ := fun a w ha => by
 have hok : ∀ b, X.ok (.row v e z ds :: os) w b ↔ X.ok (.row v e z ds' :: os) w b := fun b => ⟨fun hb => ⟨hb.1, hb.2.1, fun o ho => by
   rcases Lj.1 ho with rfl | ho
   · exact hb.2.2 (.row v e z ds) Ld
   · exact hb.2.2 o (Lu _ ho)⟩, fun hb => ⟨hb.1, hb.2.1, fun o ho => by
   rcases Lj.1 ho with rfl | ho
   · exact hb.2.2 (.row v e z ds') Ld
   · exact hb.2.2 o (Lu _ ho)⟩⟩
 have hap := Mc.1 ha.mem.apart
 have hf : ∀ f ∈ fs, Reads (X.ok (.row v e z ds' :: os) w) w f.2 [f.1] := fun f hf => Reads.mono (fun b hb => (hok b).1 hb) (fun _ _ => rfl) _ _ (ha.mem.fact f hf)
 refine ⟨⟨ha.mem.gr, Mc.2 ⟨fun p hp b e => hap.1 p hp b e, hap.2⟩, fun o ho => ?_, hf⟩, fun t' r hr => (ha.regs t' r hr).mono (fun b hb => (hok b).1 hb) fun _ _ => rfl, ha.size, ha.defers⟩
 rcases Lj.1 ho with rfl | ho
 ·
  obtain ⟨rows, h1, h2⟩ := ha.mem.at_ (.row v e z ds) Ld
  refine ⟨rows, by rw [ah.length h]; exact h1, ah.rows hf _ _ _ h (aj.mono (fun b hb => (hok b).1 hb) (fun _ _ => rfl) _ _ _ h2)⟩
 · exact (ha.mem.at_ o (Lu _ ho)).move (fun b hb => (hok b).1 hb) (fun _ _ => rfl) fun _ _ => rfl
abbrev raA (L : Value) (l : List AcL) : Obj := .row L 57 55 (l.map ak)
def AcL.none (a : List UInt8) : AcL := ⟨a, 0, zero32, [], []⟩
theorem IV {g : Nat} {L k : Value} {n : Int} (l : List AcL) (a : List UInt8) (hll : l.length < 1099511627776) (kk : Nat) (hkk : kk < l.length) (hlo : ∀ j (hj : j < l.length), j < kk → Op.bytesLess l[j].a a = true) (he : l[kk].a = a) : FnM 103 [.v (ptr g), .arr 20 a] [rsO g L k n, raA L l] (fun r os' => r = .val (.v (aN L ((kk : Int).toNat * 55))) ∧ os' = [rsO g L k n, raA L l]) := by
 have hml : (l.map ak).length = l.length := Lc _
 refine FnM.walk 78 Tryz.func103 rfl Tryz.ntmps103 (by simp) fun X => ?_
 repeat (refine stp ?_; intros)
 rename_i g3
 refine EC.loop (ι := {i : Nat // i ≤ kk})
  (fun i => ⟨[(5, .val (.v (.int .i64 (i.1 : Int)))), (3, .val (.v (.pointer (some ⟨g3, 0, none⟩)))), (0, .val (.v (ptr g)))], [.var g3 36 (.arr 20 a), rsO g L k n, raA L l], []⟩)
  (fun i => kk - i.1) ⟨0, by omega⟩ ?_ ?_
 · exact Le.kp
 rintro ⟨i, hi⟩
 dsimp only at hi ⊢
 have hil : i < l.length := by omega
 have hd : (l.map ak)[i]? = some (ak l[i]) := by rw [Ls, La hil]; rfl
 have hb := kY l[i].a a
 by_cases hlt : i < kk
 ·
  rw [hlo i hil hlt] at hb
  repeat (refine stp ?_; intros)
  refine EC.draw 21 (by kernel_rfl) ?_
  simp only [KQ, KX, KP, KR]
  repeat
   (first
    | (apply pG; exact gV; rfl; exact I2; (rw [hml]; omega); iterate 2 rfl)
    | (apply mY (k := i) (off := 0) (d := ak l[i]); rfl; exact I2; exact ⟨by simp, hd⟩; iterate 4 rfl) | (apply jJ; exact gV; iterate 3 rfl)
    | (apply jA; rfl; exact I0; iterate 4 rfl) | (refine bM (hrun := hb) (kk := ?_)) | (refine sth ?_; intros))
  repeat (refine stp ?_; intros)
  refine EK.again ⟨i + 1, by omega⟩ (by dsimp only; omega) ?_
  simp only [LK]
  exact Le.kp
 ·
  obtain rfl : i = kk := by omega
  rw [show Op.bytesLess l[i].a a = false by rw [he]; exact y5 _] at hb
  have hne := (mW l[i].a a).2
  rw [show (l[i].a != a) = false by rw [he]; simp] at hne
  repeat (refine stp ?_; intros)
  refine EC.draw 21 (by kernel_rfl) ?_
  simp only [KQ, KX, KP, KR]
  repeat
   (first
    | (apply pG; exact gV; rfl; exact I2; (rw [hml]; omega); iterate 2 rfl)
    | (apply mY (k := i) (off := 0) (d := ak l[i]); rfl; exact I2; exact ⟨by simp, hd⟩; iterate 4 rfl) | (apply jJ; exact gV; iterate 3 rfl)
    | (apply jA; rfl; exact I0; iterate 4 rfl) | (refine bM (hrun := hb) (kk := ?_)) | (refine sth ?_; intros))
  repeat (refine stp ?_; intros)
  refine EC.draw 19 (by kernel_rfl) ?_
  simp only [KQ, KX, KP, KR]
  repeat
   (first
    | (apply aB (k := i) (off := 0) (d := ak l[i]); rfl; exact I2; exact ⟨by simp, hd⟩; iterate 4 rfl) | (refine bM (hrun := hne) (kk := ?_))
    | (refine sth ?_; intros))
  repeat (refine stp ?_; intros)
  exact EK.aI [rsO g L k n, raA L l] rfl rfl (by (repeat first | exact KZ _ | apply List.Sublist.cons_cons | apply List.Sublist.cons)) ⟨rfl, rfl⟩
theorem F5 {g : Nat} {L k : Value} {n : Int} (l : List AcL) (a : List UInt8) (hll : l.length < 1099511627) (kk : Nat) (hkk : kk ≤ l.length) (hlo : ∀ j (hj : j < l.length), j < kk → Op.bytesLess l[j].a a = true) (hhi : ∀ hj : kk < l.length, Op.bytesLess l[kk].a a = false ∧ (l[kk].a != a) = true) : FnM 103 [.v (ptr g), .arr 20 a] [rsO g L k n, raA L l] (fun r os' => ∃ L', r = .val (.v (aN L' ((kk : Int).toNat * 55))) ∧ os' = [rsO g L' k n, raA L' (l.take kk ++ AcL.none a :: l.drop kk)]) := by
 have hml : (l.map ak).length = l.length := Lc _
 refine FnM.walk 78 Tryz.func103 rfl Tryz.ntmps103 (by simp) fun X => ?_
 repeat (refine stp ?_; intros)
 rename_i g3
 refine EC.loop (ι := {i : Nat // i ≤ kk})
  (fun i => ⟨[(5, .val (.v (.int .i64 (i.1 : Int)))), (3, .val (.v (.pointer (some ⟨g3, 0, none⟩)))), (0, .val (.v (ptr g)))], [.var g3 36 (.arr 20 a), rsO g L k n, raA L l], []⟩)
  (fun i => kk - i.1) ⟨0, by omega⟩ ?_ ?_
 · exact Le.kp
 rintro ⟨i, hi⟩
 dsimp only at hi ⊢
 by_cases hlt : i < kk
 ·
  have hil : i < l.length := by omega
  have hd : (l.map ak)[i]? = some (ak l[i]) := by rw [Ls, La hil]; rfl
  have hb := kY l[i].a a
  rw [hlo i hil hlt] at hb
  repeat (refine stp ?_; intros)
  refine EC.draw 21 (by kernel_rfl) ?_
  simp only [KQ, KX, KP, KR]
  repeat
   (first
    | (apply pG; exact gV; rfl; exact I2; (rw [hml]; omega); iterate 2 rfl)
    | (apply mY (k := i) (off := 0) (d := ak l[i]); rfl; exact I2; exact ⟨by simp, hd⟩; iterate 4 rfl) | (apply jJ; exact gV; iterate 3 rfl)
    | (apply jA; rfl; exact I0; iterate 4 rfl) | (refine bM (hrun := hb) (kk := ?_)) | (refine sth ?_; intros))
  repeat (refine stp ?_; intros)
  refine EK.again ⟨i + 1, by omega⟩ (by dsimp only; omega) ?_
  simp only [LK]
  exact Le.kp
 ·
  obtain rfl : i = kk := by omega
  have hFr : ∀ F : List (Value × D), (L, D.sl 55 (l.map ak)) ∈ F → Refine F (.v L) (.sl 55 (l.map ak)) := fun F h => Rf.fact h rfl
  have hlen1 : ((l.map ak).drop i).length ≤ l.length := by rw [List.length_drop, hml]; omega
  have hlen2 : ((l.map ak).take i).length ≤ l.length := by rw [MJ, hml]; omega
  have hres : [] ++ (l.map ak).take i ++ [ak (AcL.none a)] ++ (l.map ak).drop i = (l.take i ++ AcL.none a :: l.drop i).map ak := by simp
  have hilen : i < ([] ++ (l.map ak).take i ++ [ak (AcL.none a)] ++ (l.map ak).drop i).length := by simp; omega
  by_cases hil : i < l.length
  ·
   have hd : (l.map ak)[i]? = some (ak l[i]) := by rw [Ls, La hil]; rfl
   have hb := kY l[i].a a
   rw [(hhi hil).1] at hb
   have hne := (mW l[i].a a).2
   rw [(hhi hil).2] at hne
   repeat (refine stp ?_; intros)
   refine EC.draw 21 (by kernel_rfl) ?_
   simp only [KQ, KX, KP, KR]
   repeat
    (first
     | (apply pG; exact gV; rfl; exact I2; (rw [hml]; omega); iterate 2 rfl)
     | (apply mY (k := i) (off := 0) (d := ak l[i]); rfl; exact I2; exact ⟨by simp, hd⟩; iterate 4 rfl) | (apply jJ; exact gV; iterate 3 rfl)
     | (apply jA; rfl; exact I0; iterate 4 rfl) | (refine bM (hrun := hb) (kk := ?_)) | (refine sth ?_; intros))
   repeat (refine stp ?_; intros)
   refine EC.draw 19 (by kernel_rfl) ?_
   simp only [KQ, KX, KP, KR]
   repeat
    (first
     | (apply aB (k := i) (off := 0) (d := ak l[i]); rfl; exact I2; exact ⟨by simp, hd⟩; iterate 4 rfl) | (refine bM (hrun := hne) (kk := ?_))
     | (refine sth ?_; intros))
   repeat (refine stp ?_; intros)
   refine EL.le (Le.freeze (pre := [_, _]) rfl) ?_
   refine EL.le (Le.pick [1, 0] [_, _] rfl (by decide) rfl) ?_
   refine EL.le (Le.yh (d' := .tup [.sl 55 (l.map ak), .v k, .v (.int .i64 n)]) (Rf.tup (RL.cons (hFr _ Ld) RL.a))) ?_
   refine EL.le (Le.refine (t := 52) rfl (hFr _ Ld)) ?_
   refine EL.le (Le.row 57 55) ?_
   repeat
    (first
     | (apply gQ; (iterate 3 rfl); exact ⟨by omega, by rw [hml, L8]; omega⟩; iterate 2 rfl) | (refine stp ?_; intros))
   rename_i v1
   dsimp only
   refine EC.le (Le.freeze (pre := []) rfl) ?_
   refine EC.le (Le.refine (t := 6) rfl (Rf.fact Ld rfl)) ?_
   refine EC.le (Le.row 57 55) ?_
   dsimp only
   refine EC.aZ 14 [0, 1, 2, 3, 4, 5, 6, 8, 9, 10, 12] [7, 11, 13] [_] _ (by kernel_rfl) (by kernel_rfl) rfl ?_
   simp only [au, KW, KY, KT, KU]
   repeat
    (first
     | (apply Fe; (iterate 3 rfl); exact ⟨by omega, by rw [hml, L8]; omega⟩; iterate 2 rfl) | (refine sth ?_; intros))
   refine EM.nil ?_
   repeat (first | rw [KN] | rw [KO])
   refine CH.mut (os := [_]) (rest := []) rfl rfl (gI rfl rfl rfl rfl rfl ⟨by simp; omega, by simp; omega⟩) ?_
   rintro _ _ ⟨v2, rfl, rfl⟩
   try simp only [St.put]
   repeat (first | rw [KN] | rw [KO])
   refine CH.mut (os := [_]) (rest := []) rfl rfl (gI rfl rfl rfl rfl rfl ⟨by simp; omega, by simp; omega⟩) ?_
   rintro _ _ ⟨v3, rfl, rfl⟩
   try simp only [St.put]
   repeat (first | rw [KN] | rw [KO])
   refine CH.mut (os := [_]) (rest := []) rfl rfl (gI rfl rfl rfl rfl rfl ⟨by simp; omega, by simp; omega⟩) ?_
   rintro _ _ ⟨v4, rfl, rfl⟩
   try simp only [St.put]
   repeat (first | rw [KN] | rw [KO])
   refine CH.nil ?_
   try simp only [KP, KR]
   repeat (refine stp ?_; intros)
   refine EK.le (Le.FY (ds' := [] ++ (l.map ak).take i ++ [ak (AcL.none a)] ++ (l.map ak).drop i) (RL.append (RL.append (ah.refl _ _) (RL.cons (Rf.tup (RL.cons Rf.same (RL.cons Rf.same (RL.cons Rf.same (RL.cons Rf.bs0 (RL.cons Rf.sl0 RL.nil)))))) RL.nil)) (ah.refl _ _))) ?_
   refine EK.le (Le.pick [1, 0, 2] [_, _, _] rfl (by decide) rfl) ?_
   exact EK.aI [rsO g v4 k n, .row v4 57 55 ([] ++ (l.map ak).take i ++ [ak (AcL.none a)] ++ (l.map ak).drop i)] rfl rfl (by (repeat first | exact KZ _ | apply List.Sublist.cons_cons | apply List.Sublist.cons)) ⟨v4, rfl, by rw [hres]⟩
  ·
   skip
   repeat (refine stp ?_; intros)
   refine EC.draw 21 (by kernel_rfl) ?_
   simp only [KQ, KX, KP, KR]
   repeat (refine sth ?_; intros)
   repeat (refine stp ?_; intros)
   refine EC.draw 19 (by kernel_rfl) ?_
   simp only [KQ, KX, KP, KR]
   repeat (refine sth ?_; intros)
   repeat (refine stp ?_; intros)
   refine EL.le (Le.freeze (pre := [_, _]) rfl) ?_
   refine EL.le (Le.pick [1, 0] [_, _] rfl (by decide) rfl) ?_
   refine EL.le (Le.yh (d' := .tup [.sl 55 (l.map ak), .v k, .v (.int .i64 n)]) (Rf.tup (RL.cons (hFr _ Ld) RL.a))) ?_
   refine EL.le (Le.refine (t := 52) rfl (hFr _ Ld)) ?_
   refine EL.le (Le.row 57 55) ?_
   repeat
    (first
     | (apply gQ; (iterate 3 rfl); exact ⟨by omega, by rw [hml, L8]; omega⟩; iterate 2 rfl) | (refine stp ?_; intros))
   rename_i v1
   dsimp only
   refine EC.le (Le.freeze (pre := []) rfl) ?_
   refine EC.le (Le.refine (t := 6) rfl (Rf.fact Ld rfl)) ?_
   refine EC.le (Le.row 57 55) ?_
   dsimp only
   refine EC.aZ 14 [0, 1, 2, 3, 4, 5, 6, 8, 9, 10, 12] [7, 11, 13] [_] _ (by kernel_rfl) (by kernel_rfl) rfl ?_
   simp only [au, KW, KY, KT, KU]
   repeat
    (first
     | (apply Fe; (iterate 3 rfl); exact ⟨by omega, by rw [hml, L8]; omega⟩; iterate 2 rfl) | (refine sth ?_; intros))
   refine EM.nil ?_
   repeat (first | rw [KN] | rw [KO])
   refine CH.mut (os := [_]) (rest := []) rfl rfl (gI rfl rfl rfl rfl rfl ⟨by simp; omega, by simp; omega⟩) ?_
   rintro _ _ ⟨v2, rfl, rfl⟩
   try simp only [St.put]
   repeat (first | rw [KN] | rw [KO])
   refine CH.mut (os := [_]) (rest := []) rfl rfl (gI rfl rfl rfl rfl rfl ⟨by simp; omega, by simp; omega⟩) ?_
   rintro _ _ ⟨v3, rfl, rfl⟩
   try simp only [St.put]
   repeat (first | rw [KN] | rw [KO])
   refine CH.mut (os := [_]) (rest := []) rfl rfl (gI rfl rfl rfl rfl rfl ⟨by simp; omega, by simp; omega⟩) ?_
   rintro _ _ ⟨v4, rfl, rfl⟩
   try simp only [St.put]
   repeat (first | rw [KN] | rw [KO])
   refine CH.nil ?_
   try simp only [KP, KR]
   repeat (refine stp ?_; intros)
   refine EK.le (Le.FY (ds' := [] ++ (l.map ak).take i ++ [ak (AcL.none a)] ++ (l.map ak).drop i) (RL.append (RL.append (ah.refl _ _) (RL.cons (Rf.tup (RL.cons Rf.same (RL.cons Rf.same (RL.cons Rf.same (RL.cons Rf.bs0 (RL.cons Rf.sl0 RL.nil)))))) RL.nil)) (ah.refl _ _))) ?_
   refine EK.le (Le.pick [1, 0, 2] [_, _, _] rfl (by decide) rfl) ?_
   exact EK.aI [rsO g v4 k n, .row v4 57 55 ([] ++ (l.map ak).take i ++ [ak (AcL.none a)] ++ (l.map ak).drop i)] rfl rfl (by (repeat first | exact KZ _ | apply List.Sublist.cons_cons | apply List.Sublist.cons)) ⟨v4, rfl, by rw [hres]⟩
def AcL.Small (N : Nat) (x : AcL) : Prop := x.sl.length ≤ N ∧ x.cd.length ≤ 140737488355328
theorem AcL.Small.mono {N M : Nat} {x : AcL} (h : x.Small N) (hm : N ≤ M) : x.Small M := ⟨LZ h.1 hm, h.2⟩
structure RL (A : As) (N : Nat) (l : List AcL) : Prop where
 bd : ∀ x ∈ l, x.Small N
 ord : l.Pairwise fun x y => x.a < y.a
 mem : ∀ x ∈ l, x.Is (A x.a)
 out : ∀ a, a ∉ l.map AcL.a → A a = Ac.zero
theorem AcL.o7 (a : List UInt8) : (AcL.none a).Is Ac.zero := ⟨rfl, rfl, rfl, .nil, fun p hp => by simp [AcL.none] at hp, fun k hk => absurd rfl hk⟩
theorem DC {a b : List UInt8} (h : a < b) : Op.bytesLess a b = true := by rw [y7]; simpa using h
theorem DT {a b : List UInt8} (h : ¬ a < b) : Op.bytesLess a b = false := by rw [y7]; simpa using h
theorem place (a : List UInt8) : ∀ (l : List AcL), l.Pairwise (fun x y => x.a < y.a) → ∃ l1 l2, (∀ x ∈ l1, x.a < a) ∧ ((∃ x, l = l1 ++ x :: l2 ∧ x.a = a ∧ ∀ y ∈ l2, a < y.a) ∨ (l = l1 ++ l2 ∧ ∀ y ∈ l2, a < y.a))
 | [], _ => ⟨[], [], fun x hx => by simp at hx, .inr ⟨rfl, fun y hy => by simp at hy⟩⟩
 | x :: l, h => by
  obtain ⟨h1, h2⟩ := Mc.1 h
  by_cases hlt : x.a < a
  ·
   obtain ⟨l1, l2, h3, h4⟩ := place a l h2
   refine ⟨x :: l1, l2, fun y hy => ?_, ?_⟩
   ·
    rcases Lj.1 hy with rfl | hy
    · exact hlt
    · exact h3 y hy
   ·
    rcases h4 with ⟨y, rfl, hy, hz⟩ | ⟨rfl, hz⟩
    · exact .inl ⟨y, rfl, hy, hz⟩
    · exact .inr ⟨rfl, hz⟩
  ·
   by_cases he : x.a = a
   · exact ⟨[], l, fun y hy => by simp at hy, .inl ⟨x, rfl, he, fun y hy => he ▸ h1 y hy⟩⟩
   ·
    refine ⟨[], x :: l, fun y hy => by simp at hy, .inr ⟨rfl, fun y hy => ?_⟩⟩
    have hxa : a < x.a := LY fun hn => he (NV (NJ.1 hn) (NJ.1 hlt))
    rcases Lj.1 hy with rfl | hy
    · exact hxa
    · exact NK hxa (h1 y hy)
structure Ig (A : As) (N : Nat) (a : List UInt8) (l1 : List AcL) (x : AcL) (l2 : List AcL) : Prop where
 ad : x.a = a
 lo : ∀ y ∈ l1, y.a < a
 hi : ∀ y ∈ l2, a < y.a
 o1 : l1.Pairwise fun x y => x.a < y.a
 o2 : l2.Pairwise fun x y => x.a < y.a
 m1 : ∀ y ∈ l1, y.Is (A y.a)
 m2 : ∀ y ∈ l2, y.Is (A y.a)
 is : x.Is (A a)
 b1 : ∀ y ∈ l1, y.Small N
 b2 : ∀ y ∈ l2, y.Small N
 bx : x.Small N
 out : ∀ b, b ∉ l1.map AcL.a → b ∉ l2.map AcL.a → b ≠ a → A b = Ac.zero
theorem Ig.upd {A : As} {N M : Nat} {a : List UInt8} {l1 l2 : List AcL} {x x' : AcL} {y : Ac} (h : Ig A N a l1 x l2) (hx : x'.a = a) (hi : x'.Is y) (hs : x'.Small M) (hm : N ≤ M) : RL (A.upd a y) M (l1 ++ x' :: l2) := by
 refine ⟨fun u hu => ?_, LX.2 ⟨h.o1, Mc.2 ⟨fun z hz => hx ▸ h.hi z hz, h.o2⟩, fun u hu z hz => ?_⟩, fun u hu => ?_, fun b hb => ?_⟩
 ·
  rcases LP.1 hu with hu | hu
  · exact (h.b1 u hu).mono hm
  ·
   rcases Lj.1 hu with rfl | hu
   · exact hs
   · exact (h.b2 u hu).mono hm
 ·
  rcases Lj.1 hz with rfl | hz
  · exact hx ▸ h.lo u hu
  · exact NK (h.lo u hu) (h.hi z hz)
 ·
  unfold As.upd
  rcases LP.1 hu with hu | hu
  ·
   rw [if_neg fun e => MF a (by have := h.lo u hu; rwa [← e] at this)]
   exact h.m1 u hu
  ·
   rcases Lj.1 hu with rfl | hu
   ·
    rw [if_pos hx.symm]
    exact hi
   ·
    rw [if_neg fun e => MF a (by have := h.hi u hu; rwa [← e] at this)]
    exact h.m2 u hu
 ·
  unfold As.upd
  simp only [MC, LV, LP, Lj, not_or] at hb
  rw [if_neg fun e => hb.2.1 (hx.trans e).symm]
  exact h.out b hb.1 hb.2.2 fun e => hb.2.1 (e.trans hx.symm)
theorem rat {g N : Nat} {L k : Value} {n : Int} {A : As} {l : List AcL} (h : RL A N l) (a : List UInt8) (hll : l.length < 1099511627) : FnM 103 [.v (ptr g), .arr 20 a] [rsO g L k n, raA L l] (fun r os' => ∃ L' l1 x l2, Ig A N a l1 x l2 ∧ l1.length + 1 + l2.length ≤ l.length + 1 ∧ r = .val (.v (aN L' ((l1.length : Int).toNat * 55))) ∧ os' = [rsO g L' k n, raA L' (l1 ++ x :: l2)]) := by
 obtain ⟨l1, l2, h1, h2⟩ := place a l h.ord
 have hlo : ∀ j (hj : j < l.length), j < l1.length → Op.bytesLess l[j].a a = true := fun j hj hjl => by
  have e : l[j] = l1[j] := by rcases h2 with ⟨x, rfl, _⟩ | ⟨rfl, _⟩ <;> rw [List.getElem_append_left hjl]
  rw [e]
  exact DC (h1 _ (MB hjl))
 rcases h2 with ⟨x, rfl, hx, h3⟩ | ⟨rfl, h3⟩
 ·
  have hkk : l1.length < (l1 ++ x :: l2).length := by simp
  have he : (l1 ++ x :: l2)[l1.length].a = a := by rw [List.getElem_append_right (LG _)]; simpa using hx
  refine FnM.mono (IV (g := g) (L := L) (k := k) (n := n) (l1 ++ x :: l2) a (by omega) l1.length hkk hlo he) ?_
  rintro r _ ⟨rfl, rfl⟩
  have ho := LX.1 h.ord
  refine ⟨L, l1, x, l2, ⟨hx, h1, h3, ho.1, (Mc.1 ho.2.1).2, fun y hy => h.mem y (LJ _ hy), fun y hy => h.mem y (LW _ (Lu _ hy)), hx ▸ h.mem x (by simp), fun y hy => h.bd y (LJ _ hy), fun y hy => h.bd y (LW _ (Lu _ hy)), h.bd x (by simp), fun b hb1 hb2 hb => h.out b ?_⟩, by simp; omega, rfl, rfl⟩
  simp only [MC, LV, LP, Lj, not_or]
  exact ⟨hb1, fun e => hb (e.trans hx), hb2⟩
 ·
  refine FnM.mono (F5 (g := g) (L := L) (k := k) (n := n) (l1 ++ l2) a hll l1.length (by simp) hlo fun hj => ?_) ?_
  ·
   have hj2 : 0 < l2.length := by simp at hj; exact hj
   have e : (l1 ++ l2)[l1.length] = l2[0] := by rw [List.getElem_append_right (LG _)]; simp
   rw [e]
   have h4 := h3 _ (MB hj2)
   refine ⟨DT fun h5 => MF _ (NK h4 h5), ?_⟩
   simp only [bne_iff_ne, ne_eq]
   exact fun e => MF a (by rwa [e] at h4)
  ·
   rintro r _ ⟨L', rfl, rfl⟩
   have ho := LX.1 h.ord
   have hnl : a ∉ (l1 ++ l2).map AcL.a := fun hm => by
    obtain ⟨y, hy, e⟩ := Ll.1 hm
    rcases LP.1 hy with hy | hy
    · exact MF a (by have := h1 y hy; rwa [e] at this)
    · exact MF a (by have := h3 y hy; rwa [e] at this)
   refine ⟨L', l1, AcL.none a, l2, ⟨rfl, h1, h3, ho.1, ho.2.1, fun y hy => h.mem y (LJ _ hy), fun y hy => h.mem y (LW _ hy), by rw [h.out a hnl]; exact AcL.o7 a, fun y hy => h.bd y (LJ _ hy), fun y hy => h.bd y (LW _ hy), ⟨LH _, LH _⟩, fun b hb1 hb2 hb => h.out b ?_⟩, by simp; omega, rfl, by simp⟩
   simp only [MC, LP, not_or]
   exact ⟨hb1, hb2⟩
def RSt (g : Nat) (A : As) (N : Nat) (os : List Obj) : Prop := ∃ L k n l, os = [rsO g L k n, raA L l] ∧ RL A N l ∧ l.length ≤ N
theorem eG (l1 l2 : List AcL) (x x' : AcL) : ((l1 ++ x :: l2).map ak).set l1.length (ak x') = (l1 ++ x' :: l2).map ak := by simp
theorem jl (l1 l2 : List AcL) (x : AcL) : ((l1 ++ x :: l2).map ak)[l1.length]? = some (ak x) := by simp
variable {g N : Nat} {A : As} {os : List Obj} {a : List UInt8}
theorem RSt.of {L k : Value} {n : Int} {l1 l2 : List AcL} {x x' : AcL} {y : Ac} (h : Ig A N a l1 x l2) (hl : l1.length + 1 + l2.length ≤ N + 1) (hx : x'.a = a) (hs : x'.Small (N + 1)) (hi : x'.Is y) : RSt g (A.upd a y) (N + 1) [rsO g L k n, raA L (l1 ++ x' :: l2)] := ⟨L, k, n, _, rfl, h.upd hx hi hs (Nat.le_succ _), by simp; omega⟩
theorem iT (h : RSt g A N os) (hN : N ≤ 1000000) (w : List UInt8) : FnM 59 [.v (ptr g), .arr 20 a, .arr 32 w] os (fun r os' => r = .tpl [] ∧ RSt g (A.upd a {A a with w := w}) (N + 1) os') := by
 obtain ⟨L, k, n, l, rfl, hR, hlN⟩ := h
 have h1 := rat (g := g) (L := L) (k := k) (n := n) hR a (by omega)
 refine FnM.walk 12 Tryz.func59 rfl Tryz.ntmps59 (by simp) fun X => ?_
 repeat (refine stp ?_; intros)
 refine EC.le (Le.pick [2, 3, 0, 1] [_, _, _, _] rfl (by decide) rfl) ?_
 refine EC.aZ 4 [0, 1, 3] [2] [_, _] _ (by kernel_rfl) (by kernel_rfl) rfl ?_
 simp only [au, KW, KY, KT, KU]
 repeat (refine sth ?_; intros)
 refine EM.nil ?_
 repeat (first | rw [KN] | rw [KO])
 refine CH.bC (rest := []) h1 (k := ?_)
 rintro _ _ ⟨L', l1, x, l2, ha, hll, rfl, rfl⟩
 try simp only [St.put]
 repeat (first | rw [KN] | rw [KO])
 refine CH.nil ?_
 try simp only [KP, KR]
 have hd := jl l1 l2 x
 obtain ⟨xa, xn, xw, xc, xs⟩ := x
 repeat
  (first
   | (apply aY (k := l1.length) (off := 21) (d := ak ⟨xa, xn, xw, xc, xs⟩) (d'' := ak ⟨xa, xn, w, xc, xs⟩); rfl; exact .s .z; exact ⟨by simp, hd⟩; iterate 4 rfl)
   | (refine stp ?_; intros))
 have hs := ha.is
 exact EK.cO [rsO g L' k n, .row L' 57 55 (((l1 ++ ⟨xa, xn, xw, xc, xs⟩ :: l2).map ak).set l1.length (ak ⟨xa, xn, w, xc, xs⟩))] rfl (by (repeat first | exact KZ _ | apply List.Sublist.cons_cons | apply List.Sublist.cons)) ⟨rfl, by rw [eG]; exact RSt.of ha (by omega) ha.ad (ha.bx.mono (Nat.le_succ _)) ⟨hs.n, rfl, hs.cd, hs.ord, hs.val, hs.all⟩⟩
theorem jY (h : RSt g A N os) (hN : N ≤ 1000000) (v : Int) : FnM 58 [.v (ptr g), .arr 20 a, .v (.int .i64 v)] os (fun r os' => r = .tpl [] ∧ RSt g (A.upd a {A a with n := if v > 0 then v else 0}) (N + 1) os') := by
 obtain ⟨L, k, n, l, rfl, hR, hlN⟩ := h
 have h1 := rat (g := g) (L := L) (k := k) (n := n) hR a (by omega)
 refine FnM.walk 14 Tryz.func58 rfl Tryz.ntmps58 (by simp) fun X => ?_
 by_cases hv : v < 0
 ·
  rw [show (if v > 0 then v else 0) = 0 by rw [if_neg (by omega)]]
  repeat
   (first
    | (apply bG h1 [_] rfl rfl (ah.refl _ _) (by intro _ _; simp [go_sem]) rfl rfl; rintro _ _ ⟨L', l1, x, l2, ha, hll, rfl, rfl⟩; simp only [KN, KO]; have hd := jl l1 l2 x; obtain ⟨xa, xn, xw, xc, xs⟩ := x)
    | (apply aY (k := l1.length) (off := 20) (d := ak ⟨xa, xn, xw, xc, xs⟩) (d'' := ak ⟨xa, 0, xw, xc, xs⟩); rfl; exact .s (.s .z); exact ⟨by simp, hd⟩; iterate 4 rfl)
    | (refine stp ?_; intros))
  have hs := ha.is
  exact EK.cO [rsO g L' k n, .row L' 57 55 (((l1 ++ ⟨xa, xn, xw, xc, xs⟩ :: l2).map ak).set l1.length (ak ⟨xa, 0, xw, xc, xs⟩))] rfl (by (repeat first | exact KZ _ | apply List.Sublist.cons_cons | apply List.Sublist.cons)) ⟨rfl, by rw [eG]; exact RSt.of ha (by omega) ha.ad (ha.bx.mono (Nat.le_succ _)) ⟨rfl, hs.w, hs.cd, hs.ord, hs.val, hs.all⟩⟩
 ·
  rw [show (if v > 0 then v else 0) = v by split <;> omega]
  repeat
   (first
    | (apply bG h1 [_] rfl rfl (ah.refl _ _) (by intro _ _; simp [go_sem]) rfl rfl; rintro _ _ ⟨L', l1, x, l2, ha, hll, rfl, rfl⟩; simp only [KN, KO]; have hd := jl l1 l2 x; obtain ⟨xa, xn, xw, xc, xs⟩ := x)
    | (apply aY (k := l1.length) (off := 20) (d := ak ⟨xa, xn, xw, xc, xs⟩) (d'' := ak ⟨xa, v, xw, xc, xs⟩); rfl; exact .s (.s .z); exact ⟨by simp, hd⟩; iterate 4 rfl)
    | (refine stp ?_; intros))
  have hs := ha.is
  exact EK.cO [rsO g L' k n, .row L' 57 55 (((l1 ++ ⟨xa, xn, xw, xc, xs⟩ :: l2).map ak).set l1.length (ak ⟨xa, v, xw, xc, xs⟩))] rfl (by (repeat first | exact KZ _ | apply List.Sublist.cons_cons | apply List.Sublist.cons)) ⟨rfl, by rw [eG]; exact RSt.of ha (by omega) ha.ad (ha.bx.mono (Nat.le_succ _)) ⟨rfl, hs.w, hs.cd, hs.ord, hs.val, hs.all⟩⟩
theorem lM (h : RSt g A N os) (hN : N ≤ 1000000) (v : List UInt8) (hv : v.length ≤ 140737488355328) : FnM 60 [.v (ptr g), .arr 20 a, .bs v] os (fun r os' => r = .tpl [] ∧ RSt g (A.upd a {A a with cd := v}) (N + 1) os') := by
 obtain ⟨L, k, n, l, rfl, hR, hlN⟩ := h
 have h1 := rat (g := g) (L := L) (k := k) (n := n) hR a (by omega)
 refine FnM.walk 13 Tryz.func60 rfl Tryz.ntmps60 (by simp) fun X => ?_
 repeat
  (first
   | (apply bG h1 [_] rfl rfl (ah.refl _ _) (by intro _ _; simp [go_sem]) rfl rfl; rintro _ _ ⟨L', l1, x, l2, ha, hll, rfl, rfl⟩; simp only [KN, KO]; have hd := jl l1 l2 x; obtain ⟨xa, xn, xw, xc, xs⟩ := x)
   | (apply Af hv; iterate 3 rfl)
   | (apply aY (k := l1.length) (off := 53) (d := ak ⟨xa, xn, xw, xc, xs⟩) (d'' := ak ⟨xa, xn, xw, v, xs⟩); rfl; exact .s (.s .z); exact ⟨by simp, hd⟩; iterate 4 rfl)
   | (refine stp ?_; intros))
 have hs := ha.is
 exact EK.cO [rsO g L' k n, .row L' 57 55 (((l1 ++ ⟨xa, xn, xw, xc, xs⟩ :: l2).map ak).set l1.length (ak ⟨xa, xn, xw, v, xs⟩))] rfl (by (repeat first | exact KZ _ | apply List.Sublist.cons_cons | apply List.Sublist.cons)) ⟨rfl, by rw [eG]; exact RSt.of ha (by omega) ha.ad ⟨LZ ha.bx.1 (Nat.le_succ _), hv⟩ ⟨hs.n, hs.w, rfl, hs.ord, hs.val, hs.all⟩⟩
theorem zx (h : RSt g A N os) (hN : N ≤ 1000000) : FnM 57 [.v (ptr g), .arr 20 a] os (fun r os' => r = .tpl [] ∧ RSt g (A.upd a Ac.zero) (N + 1) os') := by
 obtain ⟨L, k, n, l, rfl, hR, hlN⟩ := h
 have h1 := rat (g := g) (L := L) (k := k) (n := n) hR a (by omega)
 refine FnM.walk 10 Tryz.func57 rfl Tryz.ntmps57 (by simp) fun X => ?_
 repeat (refine stp ?_; intros)
 refine EC.le (Le.pick [1, 2, 0] [_, _, _] rfl (by decide) rfl) ?_
 refine EC.aZ 5 [0, 1, 3, 4] [2] [_, _] _ (by kernel_rfl) (by kernel_rfl) rfl ?_
 simp only [au, KW, KY, KT, KU]
 repeat (refine sth ?_; intros)
 refine EM.nil ?_
 repeat (first | rw [KN] | rw [KO])
 refine CH.bC (rest := []) h1 (k := ?_)
 rintro _ _ ⟨L', l1, x, l2, ha, hll, rfl, rfl⟩
 try simp only [St.put]
 repeat (first | rw [KN] | rw [KO])
 refine CH.nil ?_
 try simp only [KP, KR]
 have hd := jl l1 l2 x
 repeat
  (first
   | (apply aY (k := l1.length) (off := 0) (d := ak x) (d'' := .tup [.arr 20 a, .v (.int .i64 0), .arr 32 zero32, .v dn, .v dn]); rfl; exact .s .z; exact ⟨by simp, hd⟩; iterate 4 rfl)
   | (refine stp ?_; intros))
 have hR2 : ∀ F : List (Value × D), ah F (((l1 ++ x :: l2).map ak).set l1.length (.tup [.arr 20 a, .v (.int .i64 0), .arr 32 zero32, .v dn, .v dn])) ((l1 ++ AcL.none a :: l2).map ak) := fun F => by
  rw [show (((l1 ++ x :: l2).map ak).set l1.length (D.tup [.arr 20 a, .v (.int .i64 0), .arr 32 zero32, .v dn, .v dn])) = l1.map ak ++ ([D.tup [.arr 20 a, .v (.int .i64 0), .arr 32 zero32, .v dn, .v dn]] ++ l2.map ak) by simp, show (l1 ++ AcL.none a :: l2).map ak = l1.map ak ++ ([ak (AcL.none a)] ++ l2.map ak) by simp]
  exact RL.append (ah.refl _ _) (RL.append (RL.cons (Rf.tup (RL.cons Rf.same (RL.cons Rf.same (RL.cons Rf.same (RL.cons Rf.bs0 (RL.cons Rf.sl0 RL.nil)))))) RL.nil) (ah.refl _ _))
 refine EK.le (Le.pick [1, 0, 2] [_, _, _] rfl (by decide) rfl) ?_
 refine EK.le (Le.FY (hR2 _)) ?_
 refine EK.le (Le.pick [1, 0, 2] [_, _, _] rfl (by decide) rfl) ?_
 exact EK.cO [rsO g L' k n, raA L' (l1 ++ AcL.none a :: l2)] rfl (by (repeat first | exact KZ _ | apply List.Sublist.cons_cons | apply List.Sublist.cons)) ⟨rfl, RSt.of ha (by omega) rfl ⟨LH _, LH _⟩ (AcL.o7 a)⟩
end E
end Go.Proofs.YtohlgnfachkmaaaGreat
namespace Go.Proofs.YtohlgnfachkmaaaGreat
set_option linter.unusedVariables false
set_option maxRecDepth 20000
set_option maxHeartbeats 16000000
open Go.RowKit Mono Rlp Wd
namespace E
theorem pz (l m : List UInt8) : Fn 90 [.arr 32 l, .arr 32 m] (· = .val (.v (.bool (Op.bytesLess l m)))) := by
 have hb := kY l m
 refine Fn.walk 10 Tryz.func90 rfl Tryz.ntmps90 (by simp) fun X => ?_
 repeat (refine stp ?_; intros)
 refine EC.draw 5 (by kernel_rfl) ?_
 simp only [KQ, KX, KP, KR]
 repeat
  (first
   | (apply jJ; exact zn; iterate 3 rfl) | (apply jA; rfl; exact I0; iterate 4 rfl) | (apply jA; rfl; exact I1; iterate 4 rfl)
   | (refine bM (hrun := hb) (kk := ?_)) | (refine sth ?_; intros))
 repeat (refine stp ?_; intros)
 exact EK.jg rfl rfl rfl
theorem Dq (q : List UInt8) : ∀ (l : List (List UInt8 × List UInt8)), l.Pairwise (fun x y => x.1 < y.1) → ∃ l1 l2, (∀ x ∈ l1, x.1 < q) ∧ (∀ y ∈ l2, q < y.1) ∧ ((∃ v, l = l1 ++ (q, v) :: l2) ∨ l = l1 ++ l2)
 | [], _ => ⟨[], [], fun x hx => by simp at hx, fun y hy => by simp at hy, .inr rfl⟩
 | x :: l, h => by
  obtain ⟨h1, h2⟩ := Mc.1 h
  by_cases hlt : x.1 < q
  ·
   obtain ⟨l1, l2, h3, h4, h5⟩ := Dq q l h2
   refine ⟨x :: l1, l2, fun y hy => ?_, h4, ?_⟩
   ·
    rcases Lj.1 hy with rfl | hy
    · exact hlt
    · exact h3 y hy
   ·
    rcases h5 with ⟨y, rfl⟩ | rfl
    · exact .inl ⟨y, rfl⟩
    · exact .inr rfl
  ·
   by_cases he : x.1 = q
   · exact ⟨[], l, fun y hy => by simp at hy, fun y hy => he ▸ h1 y hy, .inl ⟨x.2, by rw [← he]; rfl⟩⟩
   ·
    have hxa : q < x.1 := LY fun hn => he (NV (NJ.1 hn) (NJ.1 hlt))
    refine ⟨[], x :: l, fun y hy => by simp at hy, fun y hy => ?_, .inr rfl⟩
    rcases Lj.1 hy with rfl | hy
    · exact hxa
    · exact NK hxa (h1 y hy)
def fB (q v : List UInt8) : List (List UInt8 × List UInt8) := if v = zero32 then [] else [(q, v)]
theorem AcL.Is.put {x : AcL} {y : Ac} (h : x.Is y) {q v : List UInt8} {l1 l2 : List (List UInt8 × List UInt8)} (h1 : ∀ x ∈ l1, x.1 < q) (h2 : ∀ y ∈ l2, q < y.1) (h3 : (∃ v, x.sl = l1 ++ (q, v) :: l2) ∨ x.sl = l1 ++ l2) : ({x with sl := l1 ++ fB q v ++ l2} : AcL).Is (y.slot q v) := by
 have hm : ∀ p, p ∈ l1 ∨ p ∈ l2 → p ∈ x.sl := fun p hp => by
  rcases h3 with ⟨u, e⟩ | e <;> rw [e] <;> simp only [LP, Lj]
  · exact hp.imp id .inr
  · exact hp
 have ho : l1.Pairwise (fun x y => x.1 < y.1) ∧ l2.Pairwise (fun x y => x.1 < y.1) := by
  have := h.ord
  rcases h3 with ⟨u, e⟩ | e <;> rw [e] at this
  · exact ⟨(LX.1 this).1, (Mc.1 (LX.1 this).2.1).2⟩
  · exact ⟨(LX.1 this).1, (LX.1 this).2.1⟩
 have hp1 : ∀ p ∈ fB q v, p = (q, v) ∧ v ≠ zero32 := fun p hp => by
  unfold fB at hp
  split at hp
  · simp at hp
  ·
   rename_i hv
   exact ⟨by simpa using hp, hv⟩
 have hne : ∀ p, p ∈ l1 ∨ p ∈ l2 → ¬ q = p.1 := fun p hp e => by
  rcases hp with hp | hp
  ·
   have := h1 p hp
   rw [e] at this
   exact MF _ this
  ·
   have := h2 p hp
   rw [e] at this
   exact MF _ this
 refine ⟨h.n, h.w, h.cd, ?_, fun p hp => ?_, fun k hk => ?_⟩
 ·
  refine LX.2 ⟨LX.2 ⟨ho.1, ?_, fun u hu z hz => ?_⟩, ho.2, fun u hu z hz => ?_⟩
  ·
   unfold fB
   split
   · exact .nil
   · exact Ol _ _
  ·
   rw [(hp1 z hz).1]
   exact h1 u hu
  ·
   rcases LP.1 hu with hu | hu
   · exact NK (h1 u hu) (h2 z hz)
   ·
    rw [(hp1 u hu).1]
    exact h2 z hz
 ·
  dsimp only at hp
  unfold Ac.slot
  dsimp only
  by_cases hq : p ∈ l1 ∨ p ∈ l2
  ·
   rw [if_neg (hne p hq)]
   exact h.val p (hm p hq)
  ·
   have : p ∈ fB q v := by
    simp only [LP] at hp
    rcases hp with (hp | hp) | hp
    · exact absurd (.inl hp) hq
    · exact hp
    · exact absurd (.inr hp) hq
   obtain ⟨rfl, hv⟩ := hp1 p this
   rw [if_pos rfl]
   exact ⟨rfl, hv⟩
 ·
  unfold Ac.slot at hk
  dsimp only at hk ⊢
  by_cases hqk : q = k
  ·
   rw [if_pos hqk] at hk
   exact ⟨(q, v), by unfold fB; rw [if_neg hk]; simp, hqk⟩
  ·
   rw [if_neg hqk] at hk
   obtain ⟨p, hp, e⟩ := h.all k hk
   refine ⟨p, ?_, e⟩
   rcases h3 with ⟨u, e2⟩ | e2 <;> rw [e2] at hp <;> simp only [LP, Lj] at hp ⊢
   ·
    rcases hp with hp | rfl | hp
    · exact .inl (.inl hp)
    · exact absurd e hqk
    · exact .inr hp
   · exact hp.imp .inl id
variable {g N : Nat} {A : As} {os : List Obj} {a : List UInt8}
theorem lK (h : RSt g A N os) (hN : N ≤ 1000000) (q v : List UInt8) : FnM 61 [.v (ptr g), .arr 20 a, .arr 32 q, .arr 32 v] os (fun r os' => r = .tpl [] ∧ RSt g (A.upd a ((A a).slot q v)) (N + 1) os') := by
 obtain ⟨L, k, n, l, rfl, hR, hlN⟩ := h
 have h1 := rat (g := g) (L := L) (k := k) (n := n) hR a (by omega)
 refine FnM.walk 85 Tryz.func61 rfl Tryz.ntmps61 (by simp) fun X => ?_
 repeat
  (first
   | (apply bG h1 [_, _, _] rfl rfl (ah.refl _ _) (by intro _ _; simp [go_sem]) rfl rfl; rintro _ _ ⟨L', l1, x, l2, ha, hll, rfl, rfl⟩; simp only [KN, KO])
   | (refine stp ?_; intros))
 rename_i g5 g6 g7
 obtain ⟨s1, s2, hs1, hs2, h3⟩ := Dq q x.sl ha.is.ord
 have hd0 := jl l1 l2 x
 have hxl : s1.length + s2.length ≤ x.sl.length := by rcases h3 with ⟨u, e⟩ | e <;> rw [e] <;> simp <;> omega
 have hxN := ha.bx.1
 have hml : (x.sl.map aA).length = x.sl.length := Lc _
 have hg1 : ∀ i (hi : i < s1.length), x.sl[i]? = some s1[i] := fun i hi => by rcases h3 with ⟨u, e⟩ | e <;> rw [e, MZ hi, La hi]
 have hput := ha.is.put (v := v) hs1 hs2 h3
 obtain ⟨xa, xn, xw, xc, xs⟩ := x
 dsimp only at hxl hxN hml hg1 h3 hput
 unfold ak at hd0
 dsimp only at hd0
 refine EC.loop (ι := {i : Nat // i ≤ s1.length})
  (fun i => ⟨[(9, .val (.v (.int .i64 (i.1 : Int)))), (8, .val (.v (aN L' ((l1.length : Int).toNat * 55)))), (7, .val (.v (.pointer (some ⟨g7, 0, none⟩)))), (6, .val (.v (.pointer (some ⟨g6, 0, none⟩))))], [.var g7 23 (.arr 32 v), .var g6 23 (.arr 32 q), .var g5 36 (.arr 20 a), rsO g L' k n, raA L' (l1 ++ ⟨xa, xn, xw, xc, xs⟩ :: l2)], []⟩)
  (fun i => s1.length - i.1) ⟨0, LH _⟩ ?_ ?_
 · exact Le.kp
 rintro ⟨i, hi⟩
 dsimp only at hi ⊢
 by_cases hlt : i < s1.length
 ·
  have hil : i < xs.length := by omega
  have hd : (xs.map aA)[i]? = some (.tup [.arr 32 s1[i].1, .arr 32 s1[i].2]) := by rw [Ls, hg1 i hlt]; rfl
  have hb := pz s1[i].1 q
  rw [DC (hs1 _ (MB hlt))] at hb
  repeat (refine stp ?_; intros)
  refine EC.draw 19 (by kernel_rfl) ?_
  simp only [KQ, KX, KP, KR]
  repeat
   (first
    | (apply aB (k := l1.length) (off := 54) (d := .tup [.arr 20 xa, .v (.int .i64 xn), .arr 32 xw, .bs xc, .sl 64 (xs.map aA)]); rfl; exact I4; exact ⟨by simp, hd0⟩; iterate 4 rfl)
    | (refine dB (hb) (kk := ?_)) | (refine sth ?_; intros))
  repeat (refine stp ?_; intros)
  refine EK.again ⟨i + 1, hlt⟩ (by dsimp only; omega) ?_
  simp only [LK]
  exact Le.kp
 ·
  have hiE : i = s1.length := by omega
  subst hiE
  have hpv : fB q v = if v = zero32 then [] else [(q, v)] := rfl
  have hcase : (∃ u, xs = s1 ++ (q, u) :: s2) ∨ (∃ p s3, s2 = p :: s3 ∧ xs = s1 ++ p :: s3 ∧ q < p.1) ∨ (s2 = [] ∧ s1 = xs) := by
   rcases h3 with h3 | h3
   · exact .inl h3
   ·
    cases s2 with
    | nil => exact .inr (.inr ⟨rfl, by simpa using h3.symm⟩)
    | cons p s3 => exact .inr (.inl ⟨p, s3, rfl, h3, hs2 p Ld⟩)
  rcases hcase with ⟨u, rfl⟩ | ⟨p, s3, rfl, rfl, hqp⟩ | ⟨rfl, rfl⟩
  ·
   have hd : ((s1 ++ (q, u) :: s2).map aA)[s1.length]? = some (.tup [.arr 32 q, .arr 32 u]) := by simp [aA]
   have hb := pz q q
   rw [y5] at hb
   have he := (aP q q).1
   rw [beq_self_eq_true] at he
   have hxl2 : (s1 ++ (q, u) :: s2).length = s1.length + 1 + s2.length := by simp; omega
   have hT : List.take (↑s1.length : Int).toNat (List.map aA (s1 ++ (q, u) :: s2)) = s1.map aA := by rw [L8, ← List.map_take]; simp
   have hDr : List.drop (↑s1.length + 1 : Int).toNat (List.map aA (s1 ++ (q, u) :: s2)) = (s2).map aA := by rw [show (↑s1.length + 1 : Int).toNat = s1.length + 1 by omega, ← List.map_drop]; simp [List.drop_append]
   repeat (refine stp ?_; intros)
   refine EC.draw 19 (by kernel_rfl) ?_
   simp only [KQ, KX, KP, KR]
   repeat
    (first
     | (apply aB (k := l1.length) (off := 54) (d := .tup [.arr 20 xa, .v (.int .i64 xn), .arr 32 xw, .bs xc, .sl 64 ((s1 ++ (q, u) :: s2).map aA)]); rfl; exact I4; exact ⟨by simp, hd0⟩; iterate 4 rfl)
     | (refine dB (hb) (kk := ?_)) | (refine sth ?_; intros))
   repeat (refine stp ?_; intros)
   refine EC.draw 19 (by kernel_rfl) ?_
   simp only [KQ, KX, KP, KR]
   repeat
    (first
     | (apply aB (k := l1.length) (off := 54) (d := .tup [.arr 20 xa, .v (.int .i64 xn), .arr 32 xw, .bs xc, .sl 64 ((s1 ++ (q, u) :: s2).map aA)]); rfl; exact I4; exact ⟨by simp, hd0⟩; iterate 4 rfl)
     | (refine bM (hrun := he) (kk := ?_)) | (refine sth ?_; intros))
   repeat
    (first
     | (apply bn (k := l1.length) (off := 54) (d := .tup [.arr 20 xa, .v (.int .i64 xn), .arr 32 xw, .bs xc, .sl 64 ((s1 ++ (q, u) :: s2).map aA)]); rfl; exact I4; exact ⟨by simp, hd0⟩; iterate 4 rfl)
     | (refine stp ?_; intros))
   refine EL.le (Le.row 86 64) ?_
   dsimp only
   by_cases hv : v = zero32
   ·
    have hz := (aP v zero32).2
    rw [show (v != zero32) = false by simp [hv]] at hz
    repeat
     (first
      | (apply nV; (iterate 3 rfl); exact ⟨by omega, by rw [hml, hxl2, L8]; omega⟩; iterate 2 rfl)
      | (apply gQ; (iterate 3 rfl); exact ⟨by omega, by rw [hml, hxl2]; omega⟩; iterate 2 rfl)
      | (apply bn (k := l1.length) (off := 54) (d := .tup [.arr 20 xa, .v (.int .i64 xn), .arr 32 xw, .bs xc, .sl 64 ((s1 ++ (q, u) :: s2).map aA)]); rfl; exact I5; exact ⟨by simp, hd0⟩; iterate 4 rfl)
      | (refine bH (hrun := hz) (kk := ?_)) | (refine stp ?_; intros))
    refine EL.le (Le.freeze (pre := []) rfl) ?_
    refine EL.le (Le.refine (t := 82) rfl (Rf.fact Ld rfl)) ?_
    have hp : fB q v = [] := by rw [hpv, if_pos hv]
    rw [hT, hDr, show [] ++ s1.map aA ++ (s2).map aA = (s1 ++ fB q v ++ s2).map aA by rw [hp]; simp]
    repeat
     (first
      | (apply aY (k := l1.length) (off := 54) (d := .tup [.arr 20 xa, .v (.int .i64 xn), .arr 32 xw, .bs xc, .sl 64 ((s1 ++ (q, u) :: s2).map aA)]) (d'' := .tup [.arr 20 xa, .v (.int .i64 xn), .arr 32 xw, .bs xc, .sl 64 ((s1 ++ fB q v ++ s2).map aA)]); rfl; exact .s (.s (.s (.s .z))); exact ⟨by simp, hd0⟩; iterate 4 rfl)
      | apply EL.nil)
    exact EK.cO [rsO g L' k n, .row L' 57 55 (((l1 ++ ⟨xa, xn, xw, xc, (s1 ++ (q, u) :: s2)⟩ :: l2).map ak).set l1.length (ak ⟨xa, xn, xw, xc, s1 ++ fB q v ++ s2⟩))] rfl (by (repeat first | exact KZ _ | apply List.Sublist.cons_cons | apply List.Sublist.cons)) ⟨rfl, by rw [eG]; exact RSt.of ha (by omega) ha.ad ⟨by dsimp only; rw [hp]; simp; omega, ha.bx.2⟩ hput⟩
   ·
    have hz := (aP v zero32).2
    rw [show (v != zero32) = true by simp [hv]] at hz
    repeat
     (first
      | (apply nV; (iterate 3 rfl); exact ⟨by omega, by rw [hml, hxl2, L8]; omega⟩; iterate 2 rfl)
      | (apply gQ; (iterate 3 rfl); exact ⟨by omega, by rw [hml, hxl2]; omega⟩; iterate 2 rfl)
      | (apply bn (k := l1.length) (off := 54) (d := .tup [.arr 20 xa, .v (.int .i64 xn), .arr 32 xw, .bs xc, .sl 64 ((s1 ++ (q, u) :: s2).map aA)]); rfl; exact I5; exact ⟨by simp, hd0⟩; iterate 4 rfl)
      | (refine bH (hrun := hz) (kk := ?_)) | (refine stp ?_; intros))
    refine EL.le (Le.freeze (pre := []) rfl) ?_
    refine EL.le (Le.refine (t := 82) rfl (Rf.fact Ld rfl)) ?_
    have hp : fB q v = [(q, v)] := by rw [hpv, if_neg hv]
    rw [hT, hDr, show [] ++ s1.map aA ++ [D.tup [.arr 32 q, .arr 32 v]] ++ (s2).map aA = (s1 ++ fB q v ++ s2).map aA by rw [hp]; simp [aA]]
    repeat
     (first
      | (apply aY (k := l1.length) (off := 54) (d := .tup [.arr 20 xa, .v (.int .i64 xn), .arr 32 xw, .bs xc, .sl 64 ((s1 ++ (q, u) :: s2).map aA)]) (d'' := .tup [.arr 20 xa, .v (.int .i64 xn), .arr 32 xw, .bs xc, .sl 64 ((s1 ++ fB q v ++ s2).map aA)]); rfl; exact .s (.s (.s (.s .z))); exact ⟨by simp, hd0⟩; iterate 4 rfl)
      | apply EL.nil)
    exact EK.cO [rsO g L' k n, .row L' 57 55 (((l1 ++ ⟨xa, xn, xw, xc, (s1 ++ (q, u) :: s2)⟩ :: l2).map ak).set l1.length (ak ⟨xa, xn, xw, xc, s1 ++ fB q v ++ s2⟩))] rfl (by (repeat first | exact KZ _ | apply List.Sublist.cons_cons | apply List.Sublist.cons)) ⟨rfl, by rw [eG]; exact RSt.of ha (by omega) ha.ad ⟨by dsimp only; rw [hp]; simp; omega, ha.bx.2⟩ hput⟩
  ·
   have hd : ((s1 ++ p :: s3).map aA)[s1.length]? = some (.tup [.arr 32 p.1, .arr 32 p.2]) := by simp [aA]
   have hb := pz p.1 q
   rw [DT (fun h => MF _ (NK h hqp))] at hb
   have he := (aP p.1 q).1
   rw [show (p.1 == q) = false by simp only [beq_eq_false_iff_ne, ne_eq]; exact fun e => MF q (by rwa [e] at hqp)] at he
   have hxl2 : (s1 ++ p :: s3).length = s1.length + 1 + s3.length := by simp; omega
   have hT : List.take (↑s1.length : Int).toNat (List.map aA (s1 ++ p :: s3)) = s1.map aA := by rw [L8, ← List.map_take]; simp
   have hDr : List.drop (↑s1.length : Int).toNat (List.map aA (s1 ++ p :: s3)) = ((p :: s3)).map aA := by rw [show (↑s1.length : Int).toNat = s1.length by omega, ← List.map_drop]; simp
   repeat (refine stp ?_; intros)
   refine EC.draw 19 (by kernel_rfl) ?_
   simp only [KQ, KX, KP, KR]
   repeat
    (first
     | (apply aB (k := l1.length) (off := 54) (d := .tup [.arr 20 xa, .v (.int .i64 xn), .arr 32 xw, .bs xc, .sl 64 ((s1 ++ p :: s3).map aA)]); rfl; exact I4; exact ⟨by simp, hd0⟩; iterate 4 rfl)
     | (refine dB (hb) (kk := ?_)) | (refine sth ?_; intros))
   repeat (refine stp ?_; intros)
   refine EC.draw 19 (by kernel_rfl) ?_
   simp only [KQ, KX, KP, KR]
   repeat
    (first
     | (apply aB (k := l1.length) (off := 54) (d := .tup [.arr 20 xa, .v (.int .i64 xn), .arr 32 xw, .bs xc, .sl 64 ((s1 ++ p :: s3).map aA)]); rfl; exact I4; exact ⟨by simp, hd0⟩; iterate 4 rfl)
     | (refine bM (hrun := he) (kk := ?_)) | (refine sth ?_; intros))
   repeat
    (first
     | (apply bn (k := l1.length) (off := 54) (d := .tup [.arr 20 xa, .v (.int .i64 xn), .arr 32 xw, .bs xc, .sl 64 ((s1 ++ p :: s3).map aA)]); rfl; exact I4; exact ⟨by simp, hd0⟩; iterate 4 rfl)
     | (refine stp ?_; intros))
   refine EL.le (Le.row 86 64) ?_
   dsimp only
   by_cases hv : v = zero32
   ·
    have hz := (aP v zero32).2
    rw [show (v != zero32) = false by simp [hv]] at hz
    repeat
     (first
      | (apply nV; (iterate 3 rfl); exact ⟨by omega, by rw [hml, hxl2, L8]; omega⟩; iterate 2 rfl)
      | (apply gQ; (iterate 3 rfl); exact ⟨by omega, by rw [hml, hxl2]; omega⟩; iterate 2 rfl)
      | (apply bn (k := l1.length) (off := 54) (d := .tup [.arr 20 xa, .v (.int .i64 xn), .arr 32 xw, .bs xc, .sl 64 ((s1 ++ p :: s3).map aA)]); rfl; exact I5; exact ⟨by simp, hd0⟩; iterate 4 rfl)
      | (refine bH (hrun := hz) (kk := ?_)) | (refine stp ?_; intros))
    refine EL.le (Le.freeze (pre := []) rfl) ?_
    refine EL.le (Le.refine (t := 82) rfl (Rf.fact Ld rfl)) ?_
    have hp : fB q v = [] := by rw [hpv, if_pos hv]
    rw [hT, hDr, show [] ++ s1.map aA ++ ((p :: s3)).map aA = (s1 ++ fB q v ++ (p :: s3)).map aA by rw [hp]; simp]
    repeat
     (first
      | (apply aY (k := l1.length) (off := 54) (d := .tup [.arr 20 xa, .v (.int .i64 xn), .arr 32 xw, .bs xc, .sl 64 ((s1 ++ p :: s3).map aA)]) (d'' := .tup [.arr 20 xa, .v (.int .i64 xn), .arr 32 xw, .bs xc, .sl 64 ((s1 ++ fB q v ++ (p :: s3)).map aA)]); rfl; exact .s (.s (.s (.s .z))); exact ⟨by simp, hd0⟩; iterate 4 rfl)
      | apply EL.nil)
    exact EK.cO [rsO g L' k n, .row L' 57 55 (((l1 ++ ⟨xa, xn, xw, xc, (s1 ++ p :: s3)⟩ :: l2).map ak).set l1.length (ak ⟨xa, xn, xw, xc, s1 ++ fB q v ++ (p :: s3)⟩))] rfl (by (repeat first | exact KZ _ | apply List.Sublist.cons_cons | apply List.Sublist.cons)) ⟨rfl, by rw [eG]; exact RSt.of ha (by omega) ha.ad ⟨by dsimp only; rw [hp]; simp; omega, ha.bx.2⟩ hput⟩
   ·
    have hz := (aP v zero32).2
    rw [show (v != zero32) = true by simp [hv]] at hz
    repeat
     (first
      | (apply nV; (iterate 3 rfl); exact ⟨by omega, by rw [hml, hxl2, L8]; omega⟩; iterate 2 rfl)
      | (apply gQ; (iterate 3 rfl); exact ⟨by omega, by rw [hml, hxl2]; omega⟩; iterate 2 rfl)
      | (apply bn (k := l1.length) (off := 54) (d := .tup [.arr 20 xa, .v (.int .i64 xn), .arr 32 xw, .bs xc, .sl 64 ((s1 ++ p :: s3).map aA)]); rfl; exact I5; exact ⟨by simp, hd0⟩; iterate 4 rfl)
      | (refine bH (hrun := hz) (kk := ?_)) | (refine stp ?_; intros))
    refine EL.le (Le.freeze (pre := []) rfl) ?_
    refine EL.le (Le.refine (t := 82) rfl (Rf.fact Ld rfl)) ?_
    have hp : fB q v = [(q, v)] := by rw [hpv, if_neg hv]
    rw [hT, hDr, show [] ++ s1.map aA ++ [D.tup [.arr 32 q, .arr 32 v]] ++ ((p :: s3)).map aA = (s1 ++ fB q v ++ (p :: s3)).map aA by rw [hp]; simp [aA]]
    repeat
     (first
      | (apply aY (k := l1.length) (off := 54) (d := .tup [.arr 20 xa, .v (.int .i64 xn), .arr 32 xw, .bs xc, .sl 64 ((s1 ++ p :: s3).map aA)]) (d'' := .tup [.arr 20 xa, .v (.int .i64 xn), .arr 32 xw, .bs xc, .sl 64 ((s1 ++ fB q v ++ (p :: s3)).map aA)]); rfl; exact .s (.s (.s (.s .z))); exact ⟨by simp, hd0⟩; iterate 4 rfl)
      | apply EL.nil)
    exact EK.cO [rsO g L' k n, .row L' 57 55 (((l1 ++ ⟨xa, xn, xw, xc, (s1 ++ p :: s3)⟩ :: l2).map ak).set l1.length (ak ⟨xa, xn, xw, xc, s1 ++ fB q v ++ (p :: s3)⟩))] rfl (by (repeat first | exact KZ _ | apply List.Sublist.cons_cons | apply List.Sublist.cons)) ⟨rfl, by rw [eG]; exact RSt.of ha (by omega) ha.ad ⟨by dsimp only; rw [hp]; simp; omega, ha.bx.2⟩ hput⟩
  ·
   have hge : ¬ s1.length < s1.length := Nat.lt_irrefl _
   have hxl2 : s1.length = s1.length := rfl
   have hT : List.take (↑s1.length : Int).toNat (List.map aA s1) = s1.map aA := by rw [L8, ← List.map_take]; simp
   have hDr : List.drop (↑s1.length : Int).toNat (List.map aA s1) = ([]).map aA := by rw [show (↑s1.length : Int).toNat = s1.length by omega, ← List.map_drop]; simp
   repeat (refine stp ?_; intros)
   refine EC.draw 19 (by kernel_rfl) ?_
   simp only [KQ, KX, KP, KR]
   repeat
    (first
     | (apply aB (k := l1.length) (off := 54) (d := .tup [.arr 20 xa, .v (.int .i64 xn), .arr 32 xw, .bs xc, .sl 64 (s1.map aA)]); rfl; exact I4; exact ⟨by simp, hd0⟩; iterate 4 rfl)
     | (refine sth ?_; intros))
   repeat (refine stp ?_; intros)
   refine EC.draw 19 (by kernel_rfl) ?_
   simp only [KQ, KX, KP, KR]
   repeat
    (first
     | (apply aB (k := l1.length) (off := 54) (d := .tup [.arr 20 xa, .v (.int .i64 xn), .arr 32 xw, .bs xc, .sl 64 (s1.map aA)]); rfl; exact I4; exact ⟨by simp, hd0⟩; iterate 4 rfl)
     | (refine sth ?_; intros))
   repeat
    (first
     | (apply bn (k := l1.length) (off := 54) (d := .tup [.arr 20 xa, .v (.int .i64 xn), .arr 32 xw, .bs xc, .sl 64 (s1.map aA)]); rfl; exact I4; exact ⟨by simp, hd0⟩; iterate 4 rfl)
     | (refine stp ?_; intros))
   refine EL.le (Le.row 86 64) ?_
   dsimp only
   by_cases hv : v = zero32
   ·
    have hz := (aP v zero32).2
    rw [show (v != zero32) = false by simp [hv]] at hz
    repeat
     (first
      | (apply nV; (iterate 3 rfl); exact ⟨by omega, by rw [hml, hxl2, L8]; omega⟩; iterate 2 rfl)
      | (apply gQ; (iterate 3 rfl); exact ⟨by omega, by rw [hml, hxl2]; omega⟩; iterate 2 rfl)
      | (apply bn (k := l1.length) (off := 54) (d := .tup [.arr 20 xa, .v (.int .i64 xn), .arr 32 xw, .bs xc, .sl 64 (s1.map aA)]); rfl; exact I5; exact ⟨by simp, hd0⟩; iterate 4 rfl)
      | (refine bH (hrun := hz) (kk := ?_)) | (refine stp ?_; intros))
    refine EL.le (Le.freeze (pre := []) rfl) ?_
    refine EL.le (Le.refine (t := 82) rfl (Rf.fact Ld rfl)) ?_
    have hp : fB q v = [] := by rw [hpv, if_pos hv]
    rw [hT, hDr, show [] ++ s1.map aA ++ ([]).map aA = (s1 ++ fB q v ++ []).map aA by rw [hp]; simp]
    repeat
     (first
      | (apply aY (k := l1.length) (off := 54) (d := .tup [.arr 20 xa, .v (.int .i64 xn), .arr 32 xw, .bs xc, .sl 64 (s1.map aA)]) (d'' := .tup [.arr 20 xa, .v (.int .i64 xn), .arr 32 xw, .bs xc, .sl 64 ((s1 ++ fB q v ++ []).map aA)]); rfl; exact .s (.s (.s (.s .z))); exact ⟨by simp, hd0⟩; iterate 4 rfl)
      | apply EL.nil)
    exact EK.cO [rsO g L' k n, .row L' 57 55 (((l1 ++ ⟨xa, xn, xw, xc, s1⟩ :: l2).map ak).set l1.length (ak ⟨xa, xn, xw, xc, s1 ++ fB q v ++ []⟩))] rfl (by (repeat first | exact KZ _ | apply List.Sublist.cons_cons | apply List.Sublist.cons)) ⟨rfl, by rw [eG]; exact RSt.of ha (by omega) ha.ad ⟨by dsimp only; rw [hp]; simp; omega, ha.bx.2⟩ hput⟩
   ·
    have hz := (aP v zero32).2
    rw [show (v != zero32) = true by simp [hv]] at hz
    repeat
     (first
      | (apply nV; (iterate 3 rfl); exact ⟨by omega, by rw [hml, hxl2, L8]; omega⟩; iterate 2 rfl)
      | (apply gQ; (iterate 3 rfl); exact ⟨by omega, by rw [hml, hxl2]; omega⟩; iterate 2 rfl)
      | (apply bn (k := l1.length) (off := 54) (d := .tup [.arr 20 xa, .v (.int .i64 xn), .arr 32 xw, .bs xc, .sl 64 (s1.map aA)]); rfl; exact I5; exact ⟨by simp, hd0⟩; iterate 4 rfl)
      | (refine bH (hrun := hz) (kk := ?_)) | (refine stp ?_; intros))
    refine EL.le (Le.freeze (pre := []) rfl) ?_
    refine EL.le (Le.refine (t := 82) rfl (Rf.fact Ld rfl)) ?_
    have hp : fB q v = [(q, v)] := by rw [hpv, if_neg hv]
    rw [hT, hDr, show [] ++ s1.map aA ++ [D.tup [.arr 32 q, .arr 32 v]] ++ ([]).map aA = (s1 ++ fB q v ++ []).map aA by rw [hp]; simp [aA]]
    repeat
     (first
      | (apply aY (k := l1.length) (off := 54) (d := .tup [.arr 20 xa, .v (.int .i64 xn), .arr 32 xw, .bs xc, .sl 64 (s1.map aA)]) (d'' := .tup [.arr 20 xa, .v (.int .i64 xn), .arr 32 xw, .bs xc, .sl 64 ((s1 ++ fB q v ++ []).map aA)]); rfl; exact .s (.s (.s (.s .z))); exact ⟨by simp, hd0⟩; iterate 4 rfl)
      | apply EL.nil)
    exact EK.cO [rsO g L' k n, .row L' 57 55 (((l1 ++ ⟨xa, xn, xw, xc, s1⟩ :: l2).map ak).set l1.length (ak ⟨xa, xn, xw, xc, s1 ++ fB q v ++ []⟩))] rfl (by (repeat first | exact KZ _ | apply List.Sublist.cons_cons | apply List.Sublist.cons)) ⟨rfl, by rw [eG]; exact RSt.of ha (by omega) ha.ad ⟨by dsimp only; rw [hp]; simp; omega, ha.bx.2⟩ hput⟩
end E
end Go.Proofs.YtohlgnfachkmaaaGreat
