/-
 Merged: lemmas of this claim.
 Conditions: none.
-/
import Derived.Test.YtelbhdobjdnglaaGreatZT18
import Derived.Test.YtelbhdobjdnglaaGreatZT17
import Derived.Test.YtelbhdobjdnglaaGreatZT0
namespace Go.Proofs.YtelbhdobjdnglaaGreat
set_option linter.unusedVariables false
set_option maxRecDepth 20000
set_option maxHeartbeats 16000000
open Go.RowKit Mono Rlp
namespace E
def bW (n : Nat) (l : List Pr) : List Pr := l.map fun x => (x.1.drop n, x.2)
theorem PY (l : List Pr) (n : Nat) (hl : l.length ≤ 1000000) (hn : ∀ x ∈ l, n ≤ x.1.length) : Fn 126 [.sl 2 (l.map dPr), .v (.int .i64 (n : Int))] (· = .val (.sl 2 ((bW n l).map dPr))) := by
 have hml : (l.map dPr).length = l.length := List.length_map _
 refine FnM.toFn ?_
 refine FnM.walk 30 Tryz.func126 rfl Tryz.ntmps126 (by simp) fun X => ?_
 repeat
  (first
   | (apply ah; iterate 3 rfl) | apply EL.nil | (with_reducible first | apply EK.nc | apply EC.seq | apply EC.r0 | apply EC.b0))
 refine EC.le (Le.row 146 2) ?_
 refine EC.loop (ι := {x : Nat × Value // x.1 ≤ l.length})
  (fun x => ⟨[(6, .val (.v (.int .i64 (x.1.1 : Int)))), (5, .val (.v x.1.2)), (0, .val (.sl 2 (l.map dPr))), (1, .val (.v (.int .i64 (n : Int))))], [.row x.1.2 146 2 ((bW n (l.take x.1.1)).map dPr)], []⟩)
  (fun x => l.length - x.1.1) ⟨(0, .slice none 0 0), XQ _⟩ ?_ ?_
 · exact Le.kp
 rintro ⟨⟨i, v⟩, hi⟩
 dsimp only at hi ⊢
 by_cases hlt : i < l.length
 ·
  have hd : (l.map dPr)[i]? = some (.tup [.bs l[i].1, .bs l[i].2]) := by rw [XK, List.getElem?_eq_getElem hlt]; rfl
  have hx := hn _ (XW hlt)
  have hl3 : ((bW n (l.take i)).map dPr).length = i := by unfold bW; rw [List.length_map, List.length_map, List.length_take]; omega
  have htk : (bW n (l.take (i + 1))).map dPr = (bW n (l.take i)).map dPr ++ [.tup [.bs (l[i].1.drop n), .bs l[i].2]] := by
   unfold bW
   rw [XE hlt, Yd, Yd]
   rfl
  repeat
   (first
    | (apply ak; iterate 3 rfl) | (apply aC (b := true); (iterate 2 rfl); exact aK; iterate 2 rfl) | (apply aJ; iterate 4 rfl) | apply EL.nil
    | (apply EC.t0; rfl) | (with_reducible first | apply EK.nc | apply EC.seq | apply EC.r0 | apply EC.k0 | apply EC.b0))
  refine EC.iU 16 [0, 1, 2, 3, 4, 5, 6, 7, 8, 9, 10, 11, 12, 13, 14] [15] [_] _ (by kernel_rfl) (by kernel_rfl) rfl ?_
  simp only [bJ, XD, XG, Xz, Xy]
  repeat
   (first
    | (apply jQ; (iterate 3 rfl); exact ⟨by omega, by rw [XL]; omega⟩; iterate 2 rfl) | (apply aX; iterate 3 rfl) | (apply dA; iterate 7 rfl)
    | (apply bD; iterate 5 rfl)
    | (apply dJ; (iterate 4 rfl); exact ixA; iterate 2 rfl)
    | (apply iM; iterate 7 rfl) | (apply kK; iterate 9 rfl))
  refine EM.nil ?_
  repeat (first | rw [Xr] | rw [List.nil_append])
  refine CH.mut (os := [_]) (rest := []) rfl rfl (gq rfl rfl rfl rfl rfl ?_) ?_
  ·
   rw [hl3]
   constructor <;> (simp; omega)
  rintro _ _ ⟨v', rfl, rfl⟩
  try simp only [St.put]
  repeat (first | rw [Xr] | rw [List.nil_append])
  refine CH.nil ?_
  try simp only [mP, Xq]
  repeat
   (first
    | (apply ak; iterate 3 rfl) | (apply ah; iterate 3 rfl) | (apply jh; (iterate 3 rfl); (focus omega); (focus omega); iterate 2 rfl) | apply EL.nil
    | (with_reducible first | apply EK.nc | apply EC.r0 | apply EK.n0))
  refine EK.again ⟨(i + 1, v'), hlt⟩ (by dsimp only; omega) ?_
  dsimp only
  rw [htk]
  simp only [XV]
  exact Le.kp
 ·
  obtain rfl : i = l.length := by omega
  rw [Yl]
  refine EC.le (Le.freeze (pre := []) rfl) ?_
  simp only [List.nil_append]
  repeat
   (first
    | (apply ak; iterate 3 rfl) | (apply ah; iterate 3 rfl) | (apply aC (b := false); (iterate 2 rfl); exact aK; iterate 2 rfl)
    | (apply aJ; iterate 4 rfl) | apply EL.nil | (apply EC.f0; rfl)
    | (with_reducible first | apply EK.nc | apply EC.seq | apply EC.r0 | apply EC.x0 | apply EC.ret | apply EK.s0 | apply EK.aY))
  exact EK.Dc [] rfl rfl (RL.cons (Rf.fact List.mem_cons_self rfl) RL.nil) (Xt _) ⟨rfl, rfl⟩
theorem xY (x : Raw) : (pkB x).length ≤ 1099511627776 := by
 have h : ∀ b, packed x = some b → b.length ≤ most := fun b h => by
  rw [tN] at h
  split at h
  · cases h
  ·
   split at h
   ·
    split at h
    · cases h
    ·
     cases h
     omega
   · cases h
 unfold pkB
 cases hp : packed x with
 | none => exact XQ _
 | some b =>
  have := h b hp
  simp only [most] at this
  show b.length ≤ _
  omega
def jG (l : List Pr) (U : List (List UInt8)) (x : Raw) : List (List UInt8) := if l.isEmpty then [] else U ++ (if (pkB x).length < 32 then [] else [pkB x])
def dX (l : List Pr) (x : Raw) : Raw := if l.isEmpty then .mk false [] [] else nG x
theorem yg {N : Nat} {X : Cx N} {ops : Array Oper} {Q : Exit → Act → World → Prop} {l' : List Oper} {t ty f : Nat} {pos : String} {af : Array Edge} {gd : Option (Nat × Bool)} {args : Array Operand} {tys : Array TypeId} {ds ds' : List D} {Φ : R → List Obj → Prop} {rs : List (Tmp × R)} {os os0 : List Obj} {fs : List (Value × D)} (hF : FnM f ds' os Φ) (l1 : List Obj) (hos : os0 = l1 ++ os)
  (hx : evs (⟨rs, l1, fs⟩ : St) args.toList = some ds) (hR : aj fs ds ds') (hf : Enters f) (hg : guardOf ops ⟨rs, os ++ l1, fs⟩ ⟨some t, .call { callee := .value (.func f), args := args, argTypes := tys }, ty, pos, af, gd⟩ = some true) (hN : Nat.blt t N = true) (k : ∀ r os', Φ r os' → EL X ops Q l' ⟨(t, r) :: rs, l1 ++ os', fs⟩) : EL X ops Q (⟨some t, .call { callee := .value (.func f), args := args, argTypes := tys }, ty, pos, af, gd⟩ :: l') ⟨rs, os0, fs⟩ :=
 jr hF l1 [] (by rw [X9]; exact hos) (by rw [X9]; exact hx) hR hf (by rw [X9]; exact hg) hN fun r os' h => by
  rw [X9]
  exact k r os' h
structure Bld (g : Nat) where
 σ : Type
 os : σ → List Obj
 sz : σ → Nat
 Rl : List (List UInt8) → Nat → σ → σ → Prop
 none : ∀ s, Rl [] 0 s s
 app : ∀ {U V : List (List UInt8)} {C E : Nat} {s t u : σ}, Rl U C s t → Rl V E t u → Rl (U ++ V) (C + E) s u
 more : ∀ {U : List (List UInt8)} {C E : Nat} {s t : σ}, Rl U C s t → C ≤ E → Rl U E s t
 size : ∀ {U : List (List UInt8)} {C : Nat} {s t : σ}, Rl U C s t → sz t ≤ sz s + C
 put : ∀ (s : σ) (x : List UInt8), sz s ≤ 1000000000 → x.length ≤ 1099511627776 → FnM 72 [.v (ptr g), .bs x] (os s) (fun r os' => ∃ t, Rl [x] 1 s t ∧ r = .val (.arr 32 (hash x)) ∧ os' = os t)
theorem Uh {g : Nat} (B : Bld g) (s : B.σ) (l : List Pr) (x : Raw) (U : List (List UInt8)) (C : Nat) (hc : B.sz s + C ≤ 1000000000)
  (H : l.isEmpty = false → FnM 71 [.v (ptr g), .sl 2 (l.map dPr)] (B.os s) (fun r os' => ∃ t, B.Rl U C s t ∧ r = .val (aO x) ∧ os' = B.os t)) :
  FnM 125 [.v (ptr g), .sl 2 (l.map dPr)] (B.os s) (fun r os' => ∃ t, B.Rl (jG l U x) (if l.isEmpty then 0 else C + 1) s t ∧ r = .val (aO (dX l x)) ∧ os' = B.os t) := by
 unfold dX jG
 have hb0 := mF []
 refine FnM.walk 30 Tryz.func125 rfl Tryz.ntmps125 (by simp) fun X => ?_
 cases l with
 | nil =>
  rw [if_pos (show ([] : List Pr).isEmpty = true from rfl), if_pos (show ([] : List Pr).isEmpty = true from rfl), if_pos (show ([] : List Pr).isEmpty = true from rfl)]
  repeat
   (first
    | (apply aA (hb0); rfl; exact RL.a; exact enA; iterate 2 rfl) | (apply ak; iterate 3 rfl)
    | (apply aC (b := true); (iterate 2 rfl); exact aK; iterate 2 rfl) | (apply aJ; iterate 4 rfl) | (apply aT; rfl; rfl; rfl; intro _)
    | (apply aI; rfl; exact saA; iterate 4 rfl) | apply EL.nil
    | (apply EC.t0; rfl) | (with_reducible first | apply EK.nc | apply EC.seq | apply EC.r0 | apply EC.ret | apply EK.aG))
  refine EK.kW 0 (B.os s) rfl rfl rfl rfl ?_ (by (repeat first | exact X4 _ | apply List.Sublist.cons_cons | apply List.Sublist.cons)) ⟨s, B.none s, rfl, rfl⟩
  (exact RL.a)
 | cons y l =>
  have h1 := H rfl
  rw [if_neg (show ¬ ((y :: l).isEmpty = true) from Xv), if_neg (show ¬ ((y :: l).isEmpty = true) from Xv), if_neg (show ¬ ((y :: l).isEmpty = true) from Xv)]
  have h2 := DN x
  unfold nG
  repeat
   (first
    | (apply ak; iterate 3 rfl) | (apply aC (b := false); (iterate 2 rfl); exact aK; iterate 2 rfl) | (apply aJ; iterate 4 rfl)
    | (apply aT; rfl; rfl; rfl; intro _) | apply EL.nil | (apply EC.f0; rfl)
    | (with_reducible first | apply EK.nc | apply EC.seq | apply EC.r0 | apply EC.k0))
  refine yg h1 [_] rfl rfl (aj.refl _ _) (by intro _ _; simp [go_sem]) rfl rfl ?_
  rintro _ _ ⟨t, hn1, rfl, rfl⟩
  simp only [Xr, List.nil_append]
  have hle := xY x
  have hpb : packed x = none ∨ packed x = some (pkB x) := by
   unfold pkB
   cases h : packed x with
   | none => exact .inl rfl
   | some b => exact .inr rfl
  rcases hpb with hp | hp
  ·
   have h0 : pkB x = [] := by unfold pkB; rw [hp]; rfl
   rw [hp] at h2
   rw [h0, if_pos (by decide), if_pos (by decide), X9]
   unfold og at h2
   dsimp only at h2
   cases x with
   | mk xb xs xl =>
    unfold aO at h2 ⊢
    repeat
     (first
      | (apply aA (h2); rfl; exact aj.refl _ _; exact enA; iterate 2 rfl) | (apply ak; iterate 3 rfl) | (apply ah; iterate 3 rfl)
      | (apply aF; iterate 4 rfl) | (apply bH; rfl; exact I.a; iterate 4 rfl) | (apply aC (b := true); (iterate 2 rfl); exact aK; iterate 2 rfl)
      | (apply VG; iterate 4 rfl) | (apply aT; rfl; rfl; rfl; intro _)
      | (apply aI; rfl; exact saA; iterate 4 rfl) | apply EL.nil
      | (apply EC.t0; rfl) | (with_reducible first | apply EK.nc | apply EC.seq | apply EC.r0 | apply EC.ret | apply EK.aG))
    refine EK.kW 1 (B.os t) rfl rfl rfl rfl ?_ (by (repeat first | exact X4 _ | apply List.Sublist.cons_cons | apply List.Sublist.cons)) ⟨t, B.more hn1 (by omega), rfl, rfl⟩
    (exact RL.a)
  ·
   rw [hp] at h2
   unfold og at h2
   dsimp only at h2
   generalize pkB x = pb at h2 hle
   by_cases h32 : pb.length < 32
   ·
    rw [if_pos h32, if_pos h32, X9]
    cases x with
    | mk xb xs xl =>
     unfold aO at h2 ⊢
     repeat
      (first
       | (apply aA (h2); rfl; exact aj.refl _ _; exact enA; iterate 2 rfl) | (apply ak; iterate 3 rfl) | (apply ah; iterate 3 rfl)
       | (apply aF; iterate 4 rfl) | (apply bH; rfl; exact I.a; iterate 4 rfl) | (apply aC (b := true); (iterate 2 rfl); exact aK; iterate 2 rfl)
       | (apply aP; iterate 4 rfl) | (apply aT; rfl; rfl; rfl; intro _)
       | (apply aI; rfl; exact saA; iterate 4 rfl) | apply EL.nil
       | (apply EC.t0; rfl) | (with_reducible first | apply EK.nc | apply EC.seq | apply EC.r0 | apply EC.ret | apply EK.aG))
     refine EK.kW 1 (B.os t) rfl rfl rfl rfl ?_ (by (repeat first | exact X4 _ | apply List.Sublist.cons_cons | apply List.Sublist.cons)) ⟨t, B.more hn1 (by omega), rfl, rfl⟩
     (exact RL.a)
   ·
    rw [if_neg h32, if_neg h32]
    have hsz := B.size hn1
    have h3 := B.put t pb (by omega) hle
    have h4 := mF (hash pb)
    cases x with
    | mk xb xs xl =>
     unfold aO at h2
     repeat
      (first
       | (apply aA (h2); rfl; exact aj.refl _ _; exact enA; iterate 2 rfl) | (apply ak; iterate 3 rfl) | (apply ah; iterate 3 rfl)
       | (apply aF; iterate 4 rfl) | (apply bH; rfl; exact I.a; iterate 4 rfl) | (apply aC (b := false); (iterate 2 rfl); exact aK; iterate 2 rfl)
       | (apply aP; iterate 4 rfl) | (apply aT; rfl; rfl; rfl; intro _)
       | (apply aI; rfl; exact saA; iterate 4 rfl) | apply EL.nil
       | (apply EC.f0; rfl) | (with_reducible first | apply EK.nc | apply EC.seq | apply EC.r0 | apply EC.k0))
     refine yg h3 [_, _] rfl rfl (aj.refl _ _) (by intro _ _; simp [go_sem]) rfl rfl ?_
     rintro _ _ ⟨u, hu, rfl, rfl⟩
     simp only [Xr, List.nil_append]
     repeat
      (first
       | (apply aT; rfl; rfl; rfl; intro _) | (apply aI; rfl; exact saA; iterate 4 rfl) | apply EL.nil
       | (with_reducible first | apply EK.nc | apply EC.seq | apply EC.r0))
     refine EL.le (Le.pin (p := 8) (pre := []) rfl rfl) ?_
     simp only [List.nil_append]
     repeat
      (first
       | (apply Jj rF; iterate 6 rfl) | (apply aA (h4); rfl; exact aj.refl _ _; exact enA; iterate 2 rfl)
       | (apply aI; rfl; exact saA; iterate 4 rfl) | apply EL.nil | ((with_reducible apply EK.h0); apply EK.code)
       | (with_reducible apply EC.ret))
     refine EK.kW 1 (B.os u) rfl rfl rfl rfl ?_ (by (repeat first | exact X4 _ | apply List.Sublist.cons_cons | apply List.Sublist.cons)) ⟨u, B.app hn1 hu, rfl, rfl⟩
     (exact RL.a)
def Srt (S : List Pr) : Prop := S.Pairwise fun a b => Op.bytesLess a.1 b.1 = true
def okN (x : Pr) : List Pr → Bool
 | [] => true
 | y :: l => if Op.bytesLess y.1 x.1 then okN x l else if y.1 == x.1 then y.2 == x.2 else true
theorem JI (x : Pr) : ∀ (S : List Pr) (k : Nat), k ≤ S.length → (∀ j, (h : j < S.length) → j < k → Op.bytesLess S[j].1 x.1 = true) → (∀ h : k < S.length, Op.bytesLess S[k].1 x.1 = false) →
  gG x S = S.take k ++ (match S.drop k with | [] => [x] | y :: l => if y.1 == x.1 then y :: l else x :: y :: l) ∧ okN x S = (match S.drop k with | [] => true | y :: _ => if y.1 == x.1 then y.2 == x.2 else true)
 | [], k, _, _, _ => by simp [gG, okN]
 | y :: S, 0, _, _, h2 => by
  have := h2 (by simp)
  simp only [List.getElem_cons_zero] at this
  rw [gG, okN, this, if_neg (show ¬ (false = true) from Xv), if_neg (show ¬ (false = true) from Xv)]
  simp
 | y :: S, k + 1, hk, h1, h2 => by
  have h0 := h1 0 (by simp) (by omega)
  simp only [List.getElem_cons_zero] at h0
  obtain ⟨e1, e2⟩ := JI x S k (by simpa using hk) (fun j h hj => by
   have := h1 (j + 1) (by simpa using h) (by omega)
   simpa using this) (fun h => by
   have := h2 (by simpa using h)
   simpa using this)
  rw [gG, okN, h0, if_pos rfl, if_pos rfl, e1, e2]
  simp
theorem uF (x : Pr) : ∀ (S : List Pr) (y : Pr), y ∈ gG x S → y = x ∨ y ∈ S
 | [], y, h => .inl (by simpa [gG] using h)
 | z :: S, y, h => by
  rw [gG] at h
  split at h
  ·
   rcases XB.1 h with rfl | h
   · exact .inr List.mem_cons_self
   ·
    rcases uF x S y h with h | h
    · exact .inl h
    · exact .inr (Xw _ h)
  ·
   split at h
   · exact .inr h
   ·
    rcases XB.1 h with rfl | h
    · exact .inl rfl
    · exact .inr h
theorem nU (x : Pr) : ∀ (S : List Pr) (y : Pr), y ∈ S → y ∈ gG x S
 | [], y, h => by cases h
 | z :: S, y, h => by
  rw [gG]
  split
  ·
   rcases XB.1 h with rfl | h
   · exact List.mem_cons_self
   · exact Xw _ (nU x S y h)
  ·
   split
   · exact h
   · exact Xw _ h
theorem Dn (x : Pr) : ∀ (S : List Pr), okN x S = true → x ∈ gG x S
 | [], _ => by simp [gG]
 | z :: S, h => by
  rw [okN] at h
  rw [gG]
  split
  ·
   rename_i h1
   rw [if_pos h1] at h
   exact Xw _ (Dn x S h)
  ·
   rename_i h1
   rw [if_neg h1] at h
   split
   ·
    rename_i h2
    rw [if_pos h2] at h
    have : z = x := Prod.ext (by simpa using h2) (by simpa using h)
    rw [this]
    exact List.mem_cons_self
   · exact List.mem_cons_self
theorem zY {a b c : List UInt8} (h1 : Op.bytesLess a b = true) (h2 : Op.bytesLess b c = true) : Op.bytesLess a c = true := by
 rw [DY] at *
 simp only [decide_eq_true_eq] at *
 exact List.lt_trans h1 h2
theorem Vu {a b : List UInt8} (h1 : Op.bytesLess a b = false) (h2 : (a == b) = false) : Op.bytesLess b a = true := by
 rw [DY] at *
 simp only [decide_eq_true_eq, decide_eq_false_iff_not] at *
 rcases List.le_total a b with h | h
 · exact absurd (Zy h (List.not_lt.1 h1)) (by simpa using h2)
 · exact Y1 fun hn => absurd (Zy (List.not_lt.1 hn) h) (by simpa using h2)
theorem uD (x : Pr) : ∀ (S : List Pr), Srt S → Srt (gG x S)
 | [], _ => by unfold Srt; simp [gG]
 | z :: S, h => by
  obtain ⟨h1, h2⟩ := Yj.1 h
  rw [gG]
  split
  ·
   rename_i hz
   refine Yj.2 ⟨fun y hy => ?_, uD x S h2⟩
   rcases uF x S y hy with rfl | hy
   · exact hz
   · exact h1 y hy
  ·
   rename_i hz
   split
   · exact h
   ·
    rename_i hq
    refine Yj.2 ⟨fun y hy => ?_, h⟩
    have hxz := Vu (by simpa using hz) (by simpa using hq)
    rcases XB.1 hy with rfl | hy
    · exact hxz
    · exact zY hxz (h1 y hy)
theorem Oo {S : List Pr} (h : Srt S) {i j : Nat} (hi : i < S.length) (hj : j < S.length) (hij : i < j) : Op.bytesLess S[i].1 S[j].1 = true := Yn.1 h i j hi hj hij
theorem Qx (a : Nat) (h : a < 9223372036854775808) : Bin .quo 3 (.v (.int .i64 (a : Int))) (.v (.int .i64 2)) (.int .i64 ((a / 2 : Nat) : Int)) := DZ rfl fun w => by
 have h2 : ((a : Int).tdiv 2) = ((a / 2 : Nat) : Int) := by
  rw [Int.tdiv_eq_ediv_of_nonneg (by omega)]
  omega
 have h3 : IntKind.i64.wrap ((a / 2 : Nat) : Int) = ((a / 2 : Nat) : Int) := IntWalk.i64_in _ ⟨by omega, by omega⟩
 simp only [binOp, Op.intDiv]
 rw [if_neg (by decide), h2]
 simp only [h3]
 rfl
theorem AV (S : List Pr) (x : Nat) (hx : x ≤ S.length) (dz d : D) : (((S.map dNd ++ [dz]).take (x + 1)) ++ ((S.map dNd ++ [dz]).drop x).take (S.length + 1 - (x + 1))).set x d = (S.take x).map dNd ++ d :: (S.drop x).map dNd := by
 have hml : (S.map dNd).length = S.length := List.length_map _
 have h1 : ((S.map dNd ++ [dz]).drop x).take (S.length + 1 - (x + 1)) = (S.drop x).map dNd := by
  rw [List.drop_append_of_le_length (by omega), Za (by rw [Xx]; omega), List.map_drop]
 have h2 : ∃ e, (S.map dNd ++ [dz]).take (x + 1) = (S.take x).map dNd ++ [e] := by
  have hlt : x < (S.map dNd ++ [dz]).length := by rw [List.length_append, hml]; simp; omega
  refine ⟨(S.map dNd ++ [dz])[x], ?_⟩
  rw [XE hlt, List.take_append_of_le_length (by omega), List.map_take]
 obtain ⟨e, h2⟩ := h2
 have hlx : ((S.take x).map dNd).length = x := by rw [List.length_map, List.length_take]; omega
 rw [h1, h2, List.append_assoc, Zu _ _ (by omega), hlx, Nat.sub_self]
 rfl
abbrev sdO (g : Nat) (v : Value) : Obj := .var g 80 (.tup [.v v])
abbrev sdR (v : Value) (S : List Pr) : Obj := .row v 40 33 (S.map dNd)
theorem Oz (g : Nat) (v : Value) (S : List Pr) (h b : List UInt8) (hs : Srt S) (hl : S.length ≤ 1000000000) (hb : b.length ≤ 140737488355328) : FnM 88 [.v (ptr g), .arr 32 h, .bs b] [sdO g v, sdR v S] (fun r os' => ∃ v', r = .val (.v (.bool (okN (h, b) S))) ∧ os' = [sdO g v', sdR v' (gG (h, b) S)]) := by
 have hml : (S.map dNd).length = S.length := List.length_map _
 refine FnM.walk 100 Tryz.func88 rfl Tryz.ntmps88 (by simp) fun X => ?_
 repeat
  (first
   | (apply ak; iterate 3 rfl) | (apply ah; iterate 3 rfl) | (apply bn; iterate 6 rfl) | (apply bH; rfl; exact I.a; iterate 4 rfl)
   | (apply GY; rfl; exact I.a; iterate 3 rfl) | (apply jl; iterate 3 rfl) | (apply fU; rfl; rfl; rfl; intro _) | apply EL.nil
   | (with_reducible first | apply EK.nc | apply EC.seq | apply EC.r0 | apply EC.b0))
 rename_i g4
 refine EC.loop (ι := {p : Nat × Nat // p.1 ≤ p.2 ∧ p.2 ≤ S.length ∧ (∀ j, (hj : j < S.length) → j < p.1 → Op.bytesLess S[j].1 h = true) ∧ (∀ j, (hj : j < S.length) → p.2 ≤ j → Op.bytesLess S[j].1 h = false)})
  (fun p => ⟨[(7, .val (.v (.int .i64 (p.1.1 : Int)))), (8, .val (.v (.int .i64 (p.1.2 : Int)))), (0, .val (.v (ptr g))), (2, .val (.bs b)), (4, .val (.v (.pointer (some ⟨g4, 0, none⟩))))], [.var g4 29 (.arr 32 h), sdO g v, sdR v S], []⟩)
  (fun p => p.1.2 - p.1.1) ⟨(0, S.length), XQ _, Nat.le_refl _, fun j _ hj => absurd hj (Yc _), fun j hj h1 => by dsimp only at h1; omega⟩ ?_ ?_
 ·
  simp only [hml]
  exact Le.kp
 rintro ⟨⟨x, y⟩, hxy, hy, hlo, hhi⟩
 dsimp only at hxy hy hlo hhi ⊢
 by_cases hlt : x < y
 ·
  have hq := Qx (x + y) (by omega)
  obtain ⟨m, hm⟩ : ∃ m, (x + y) / 2 = m := ⟨_, rfl⟩
  rw [hm, XV] at hq
  have hmS : m < S.length := by omega
  have hd : (S.map dNd)[m]? = some (dNd S[m]) := by rw [XK, List.getElem?_eq_getElem hmS]; rfl
  have hL := Gn S[m].1 h
  cases hbl : Op.bytesLess S[m].1 h with
  | true =>
   rw [hbl] at hL
   repeat
    (first
     | (apply dW; (iterate 2 rfl); exact hq; iterate 2 rfl) | (apply ak; iterate 3 rfl) | (apply ah; iterate 3 rfl)
     | (apply aC (b := true); (iterate 2 rfl); exact aK; iterate 2 rfl) | (apply jh; (iterate 3 rfl); (focus omega); (focus omega); iterate 2 rfl) | apply EL.nil
     | (apply EC.t0; rfl) | (with_reducible first | apply EK.nc | apply EC.seq | apply EC.r0 | apply EC.k0 | apply EC.b0))
   refine EC.draw 10 (by kernel_rfl) ?_
   simp only [Xp, Xu, mP, Xq]
   repeat
    (first
     | (apply fD (hL); rfl; exact aj.refl _ _; exact enA; iterate 2 rfl)
     | (apply kV (k := m) (off := 0) (d := dNd S[m]) (d' := .arr 32 S[m].1); rfl; (first | exact I0 | exact I1 | exact I2); exact ⟨by simp, hd⟩; iterate 4 rfl)
     | (apply aX; iterate 3 rfl) | (apply dH; iterate 6 rfl) | (apply dw; rfl; exact I.a; iterate 4 rfl) | (apply gU; iterate 3 rfl)
     | (apply mO; rfl; exact I.a; (focus (first | omega | (simp; done) | (simp; omega))); iterate 5 rfl)
     | (apply jw; rfl; exact I.a; (iterate 2 rfl); (focus (first | assumption | omega | (constructor <;> (first | (simp; done) | (simp; omega))))); iterate 2 rfl)
     | ((with_reducible apply EH.nil); rfl))
   repeat
    (first
     | (apply ak; iterate 3 rfl) | (apply ah; iterate 3 rfl) | (apply jh; (iterate 3 rfl); (focus omega); (focus omega); iterate 2 rfl) | apply EL.nil
     | (apply EC.t0; rfl) | (with_reducible first | apply EK.nc | apply EC.r0 | apply EK.n0))
   refine EK.again ⟨(m + 1, y), by dsimp only; omega, hy, fun j hj h1 => ?_, hhi⟩ (by dsimp only; omega) ?_
   ·
    dsimp only at h1
    rcases XY j m with h2 | h2
    · exact zY (Oo hs hj hmS h2) hbl
    ·
     obtain rfl : j = m := by omega
     exact hbl
   ·
    simp only [XV]
    exact Le.kp
  | false =>
   rw [hbl] at hL
   repeat
    (first
     | (apply dW; (iterate 2 rfl); exact hq; iterate 2 rfl) | (apply ak; iterate 3 rfl) | (apply ah; iterate 3 rfl)
     | (apply aC (b := true); (iterate 2 rfl); exact aK; iterate 2 rfl) | (apply jh; (iterate 3 rfl); (focus omega); (focus omega); iterate 2 rfl) | apply EL.nil
     | (apply EC.t0; rfl) | (with_reducible first | apply EK.nc | apply EC.seq | apply EC.r0 | apply EC.k0 | apply EC.b0))
   refine EC.draw 10 (by kernel_rfl) ?_
   simp only [Xp, Xu, mP, Xq]
   repeat
    (first
     | (apply fD (hL); rfl; exact aj.refl _ _; exact enA; iterate 2 rfl)
     | (apply kV (k := m) (off := 0) (d := dNd S[m]) (d' := .arr 32 S[m].1); rfl; (first | exact I0 | exact I1 | exact I2); exact ⟨by simp, hd⟩; iterate 4 rfl)
     | (apply aX; iterate 3 rfl) | (apply dH; iterate 6 rfl) | (apply dw; rfl; exact I.a; iterate 4 rfl) | (apply gU; iterate 3 rfl)
     | (apply mO; rfl; exact I.a; (focus (first | omega | (simp; done) | (simp; omega))); iterate 5 rfl)
     | (apply jw; rfl; exact I.a; (iterate 2 rfl); (focus (first | assumption | omega | (constructor <;> (first | (simp; done) | (simp; omega))))); iterate 2 rfl)
     | ((with_reducible apply EH.nil); rfl))
   repeat
    (first
     | (apply ak; iterate 3 rfl) | (apply ah; iterate 3 rfl) | apply EL.nil | (apply EC.f0; rfl)
     | (with_reducible first | apply EK.nc | apply EC.r0 | apply EK.n0))
   refine EK.again ⟨(x, m), by dsimp only; omega, by dsimp only; omega, hlo, fun j hj h1 => ?_⟩ (by dsimp only; omega) ?_
   ·
    dsimp only at h1
    rcases XY m j with h2 | h2
    ·
     cases hc : Op.bytesLess S[j].1 h with
     | false => rfl
     | true => exact absurd (zY (Oo hs hmS hj h2) hc) (by rw [hbl]; decide)
    ·
     obtain rfl : j = m := by omega
     exact hbl
   · exact Le.kp
 ·
  obtain rfl : x = y := by omega
  obtain ⟨hpN, hoN⟩ := JI (h, b) S x hy (fun j hj h1 => hlo j hj h1) (fun hj => hhi x hj (Nat.le_refl _))
  by_cases hxl : x < S.length
  ·
   have hd : (S.map dNd)[x]? = some (dNd S[x]) := by rw [XK, List.getElem?_eq_getElem hxl]; rfl
   rw [XI hxl] at hpN hoN
   have hw := (qR S[x].1 h).1
   dsimp only at hpN hoN
   cases hq : (S[x].1 == h) with
   | true =>
    rw [hq] at hw hpN hoN
    rw [if_pos rfl, ← XI hxl, X7] at hpN
    rw [if_pos rfl] at hoN
    have hbs := (jT S[x].2 b).1
    rw [hpN, hoN]
    repeat
     (first
      | (apply ak; iterate 3 rfl) | (apply aC (b := false); (iterate 2 rfl); exact aK; iterate 2 rfl) | apply EL.nil
      | (apply EC.f0; rfl) | (with_reducible first | apply EK.nc | apply EC.seq | apply EC.r0 | apply EC.x0 | apply EK.s0 | apply EK.aY))
    refine EC.draw 19 (by kernel_rfl) ?_
    simp only [Xp, Xu, mP, Xq]
    repeat
     (first
      | (apply lH; (iterate 2 rfl); exact hw; iterate 2 rfl)
      | (apply kV (k := x) (off := 0) (d := dNd S[x]) (d' := .arr 32 S[x].1); rfl; (first | exact I0 | exact I1 | exact I2); exact ⟨by simp, hd⟩; iterate 4 rfl)
      | (apply aX; iterate 3 rfl) | (apply dH; iterate 6 rfl) | (apply jI; iterate 4 rfl) | (apply dw; rfl; exact I.a; iterate 4 rfl)
      | (apply jm (b := true); (iterate 2 rfl); exact aK; iterate 2 rfl) | (apply vI; rfl; exact I.a; iterate 3 rfl) | (apply gU; iterate 3 rfl)
      | (apply mO; rfl; exact I.a; (focus (first | omega | (simp; done) | (simp; omega))); iterate 5 rfl)
      | (apply jw; rfl; exact I.a; (iterate 2 rfl); (focus (first | assumption | omega | (constructor <;> (first | (simp; done) | (simp; omega))))); iterate 2 rfl)
      | ((with_reducible apply EH.nil); rfl))
    repeat
     (first
      | apply EL.nil | ((with_reducible apply EK.h0); apply EK.code) | (apply EC.t0; rfl) | (with_reducible apply EC.seq))
    refine EC.draw 13 (by kernel_rfl) ?_
    simp only [Xp, Xu, mP, Xq]
    repeat
     (first
      | (apply lH; (iterate 2 rfl); exact hbs; iterate 2 rfl)
      | (apply kV (k := x) (off := 32) (d := dNd S[x]) (d' := .bs S[x].2); rfl; (first | exact I0 | exact I1 | exact I2); exact ⟨by simp, hd⟩; iterate 4 rfl)
      | (apply aX; iterate 3 rfl) | (apply fA; iterate 3 rfl) | (apply dH; iterate 6 rfl) | (apply dw; rfl; exact I.a; iterate 4 rfl)
      | (apply Ak; iterate 3 rfl) | (apply gU; iterate 3 rfl) | (apply mO; rfl; exact I.a; (focus (first | omega | (simp; done) | (simp; omega))); iterate 5 rfl)
      | (apply jw; rfl; exact I.a; (iterate 2 rfl); (focus (first | assumption | omega | (constructor <;> (first | (simp; done) | (simp; omega))))); iterate 2 rfl)
      | ((with_reducible apply EH.nil); rfl))
    repeat
     (first
      | apply EL.nil | (with_reducible first | apply EK.nc | apply EC.ret | apply EK.aG))
    exact EK.iP [sdO g v, sdR v S] rfl rfl (by (repeat first | exact Xt _ | apply List.Sublist.cons_cons | apply List.Sublist.cons)) ⟨v, rfl, rfl⟩
   | false =>
    rw [hq] at hw hpN hoN
    rw [if_neg (show ¬ (false = true) from Xv), ← XI hxl] at hpN
    rw [if_neg (show ¬ (false = true) from Xv)] at hoN
    repeat
     (first
      | (apply ak; iterate 3 rfl) | (apply aC (b := false); (iterate 2 rfl); exact aK; iterate 2 rfl) | apply EL.nil
      | (apply EC.f0; rfl) | (with_reducible first | apply EK.nc | apply EC.seq | apply EC.r0 | apply EC.x0 | apply EK.s0 | apply EK.aY))
    refine EC.draw 19 (by kernel_rfl) ?_
    simp only [Xp, Xu, mP, Xq]
    repeat
     (first
      | (apply lH; (iterate 2 rfl); exact hw; iterate 2 rfl)
      | (apply kV (k := x) (off := 0) (d := dNd S[x]) (d' := .arr 32 S[x].1); rfl; (first | exact I0 | exact I1 | exact I2); exact ⟨by simp, hd⟩; iterate 4 rfl)
      | (apply aX; iterate 3 rfl) | (apply dH; iterate 6 rfl) | (apply jI; iterate 4 rfl) | (apply dw; rfl; exact I.a; iterate 4 rfl)
      | (apply jm (b := true); (iterate 2 rfl); exact aK; iterate 2 rfl) | (apply vI; rfl; exact I.a; iterate 3 rfl) | (apply gU; iterate 3 rfl)
      | (apply mO; rfl; exact I.a; (focus (first | omega | (simp; done) | (simp; omega))); iterate 5 rfl)
      | (apply jw; rfl; exact I.a; (iterate 2 rfl); (focus (first | assumption | omega | (constructor <;> (first | (simp; done) | (simp; omega))))); iterate 2 rfl)
      | ((with_reducible apply EH.nil); rfl))
    have hds1 : (S.map dNd ++ [D.tup [.arr 32 zero32, .v (.slice none 0 0)]]).length = S.length + 1 := by rw [List.length_append, hml]; rfl
    have hfin := AV S x hy (D.tup [.arr 32 zero32, .v (.slice none 0 0)]) (dNd (h, b))
    have hgx : (((S.map dNd ++ [D.tup [.arr 32 zero32, .v (.slice none 0 0)]]).take (x + 1)) ++ ((S.map dNd ++ [D.tup [.arr 32 zero32, .v (.slice none 0 0)]]).drop x).take (S.length + 1 - (x + 1)))[x]? = some (dNd S[x]) := by
     rw [Yh (by rw [List.length_take, hds1]; omega), Zi (by omega)]
     rw [Yh (by rw [hml]; exact hxl)]
     exact hd
    have hmap : (gG (h, b) S).map dNd = (S.take x).map dNd ++ dNd (h, b) :: (S.drop x).map dNd := by
     rw [hpN]
     simp
    rw [hoN]
    repeat
     (first
      | (apply ak; iterate 3 rfl) | (apply bn; iterate 6 rfl) | (apply bH; rfl; exact I.a; iterate 4 rfl) | (apply eH; iterate 7 rfl)
      | (apply jF; iterate 9 rfl) | (apply jl; iterate 3 rfl) | (apply aI; rfl; exact saA; iterate 4 rfl)
      | ((apply ig; rfl; exact saA; (iterate 5 rfl); (focus (constructor <;> (first | (simp; done) | (simp; omega))))); intro _)
      | apply EL.nil | (apply EC.f0; rfl) | (with_reducible first | apply EK.nc | apply EC.seq | apply EC.r0 | apply EC.k0))
    rename_i v2
    refine EC.le (Le.pick [2, 0, 1] [_, _, _] rfl (by decide) rfl) ?_
    refine EC.Ug 14 [0, 1, 2, 3, 4, 5, 7, 8, 9, 10, 11] [6, 12, 13] [_] _ (by kernel_rfl) (by kernel_rfl) rfl ?_
    simp only [bJ, XD, XG, Xz, Xy]
    repeat
     (first
      | (apply aX; iterate 3 rfl) | (apply dH; iterate 6 rfl) | (apply dw; rfl; exact I.a; iterate 4 rfl)
      | (apply NV; (iterate 3 rfl); (focus omega); (focus omega); iterate 2 rfl) | (apply gU; iterate 3 rfl))
    refine EM.nil ?_
    repeat (first | rw [Xr] | rw [List.nil_append])
    refine CT.pick [6, 12] (by kernel_rfl) fun k hk => ?_
    rcases (show k = 6 ∨ k = 12 by simpa using hk) with rfl | rfl
    all_goals clear hk
    ·
     skip
     simp only [bJ, XD, XG, Xz, Xy]
     refine CH.cut 1 ?_
     simp only [Xp, Xu, mP, Xq]
     (apply EH.still; apply kZ (i := 0); (iterate 5 rfl); exact ⟨by omega, by rw [hds1]; omega⟩; iterate 3 rfl)
     refine EM.nil ?_
     repeat (first | rw [Xr] | rw [List.nil_append])
     refine CH.nil ?_
     refine CT.pick [12] (by kernel_rfl) fun k hk => ?_
     obtain rfl : k = 12 := (by simpa using hk)
     clear hk
     simp only [bJ, XD, XG, Xz, Xy]
     refine CH.cut 1 ?_
     simp only [Xp, Xu, mP, Xq]
     (apply EH.still; apply kZ (i := 0); (iterate 5 rfl); exact ⟨by omega, by rw [hds1]; omega⟩; iterate 3 rfl)
     refine EM.nil ?_
     repeat (first | rw [Xr] | rw [List.nil_append])
     refine CH.nil ?_
     refine CT.pick [13] (by kernel_rfl) fun k hk => ?_
     obtain rfl : k = 13 := (by simpa using hk)
     clear hk
     simp only [bJ, XD, XG, Xz, Xy]
     refine CH.mut (os := [_]) (rest := []) rfl rfl (Dw rfl (rQ (k := x) rfl rfl rfl rfl rfl (by rw [hds1]; omega))) ?_
     rintro _ _ ⟨rfl, rfl⟩
     try simp only [St.put]
     repeat (first | rw [Xr] | rw [List.nil_append])
     refine CH.nil ?_
     refine CT.nil ?_
     rw [hds1]
     repeat
      (first
       | apply EL.nil | ((with_reducible apply EK.h0); apply EK.code) | (with_reducible apply EC.seq))
     generalize ((S.map dNd ++ [D.tup [.arr 32 zero32, .v (.slice none 0 0)]]).take (x + 1)) ++ ((S.map dNd ++ [D.tup [.arr 32 zero32, .v (.slice none 0 0)]]).drop x).take (S.length + 1 - (x + 1)) = Z at hfin hgx ⊢
     have hxZ : x < Z.length := (XC.1 hgx).1
     refine EC.iU 11 [0, 1, 2, 3, 4, 5, 6, 7, 8] [9, 10] [_] _ (by kernel_rfl) (by kernel_rfl) rfl ?_
     simp only [bJ, XD, XG, Xz, Xy]
     repeat
      (first
       | (apply EH.grow (lK rfl rfl hb); rfl; rfl; rfl) | (apply aX; iterate 3 rfl) | (apply dH; iterate 6 rfl)
       | (apply dw; rfl; exact I.a; iterate 4 rfl) | (apply iM; iterate 7 rfl) | (apply gU; iterate 3 rfl))
     refine EM.nil ?_
     repeat (first | rw [Xr] | rw [List.nil_append])
     refine CH.cut 1 ?_
     simp only [Xp, Xu, mP, Xq]
     repeat
      (first
       | (apply jw; rfl; exact I0; rfl; rfl; exact ⟨by omega, by rw [XL]; exact hxZ⟩; iterate 2 rfl))
     refine EM.nil ?_
     repeat (first | rw [Xr] | rw [List.nil_append])
     refine CH.mut (os := [_]) (rest := []) rfl rfl (l9 (ku (k := x) (off := 0) (d := (dNd S[x])) (d'' := dNd (h, b)) ⟨by rw [XL]; rfl, hgx⟩ rfl rfl rfl rfl rfl)) ?_
     rintro _ _ ⟨rfl, rfl⟩
     try simp only [St.put]
     repeat (first | rw [Xr] | rw [List.nil_append])
     refine CH.nil ?_
     try simp only [mP, Xq]
     rw [hfin, ← hmap]
     repeat
      (first
       | (apply ah; iterate 3 rfl) | apply EL.nil | (with_reducible first | apply EK.nc | apply EC.seq | apply EC.r0 | apply EC.ret))
     refine EK.le (Le.pick [2, 0, 1] [_, _, _] rfl (by decide) rfl) ?_
     exact EK.iP [sdO g v2, sdR v2 (gG (h, b) S)] rfl rfl (by (repeat first | exact Xt _ | apply List.Sublist.cons_cons | apply List.Sublist.cons)) ⟨v2, rfl, rfl⟩
    ·
     skip
     simp only [bJ, XD, XG, Xz, Xy]
     refine CH.cut 1 ?_
     simp only [Xp, Xu, mP, Xq]
     (apply EH.still; apply kZ (i := 0); (iterate 5 rfl); exact ⟨by omega, by rw [hds1]; omega⟩; iterate 3 rfl)
     refine EM.nil ?_
     repeat (first | rw [Xr] | rw [List.nil_append])
     refine CH.nil ?_
     refine CT.pick [6] (by kernel_rfl) fun k hk => ?_
     obtain rfl : k = 6 := (by simpa using hk)
     clear hk
     simp only [bJ, XD, XG, Xz, Xy]
     refine CH.cut 1 ?_
     simp only [Xp, Xu, mP, Xq]
     (apply EH.still; apply kZ (i := 0); (iterate 5 rfl); exact ⟨by omega, by rw [hds1]; omega⟩; iterate 3 rfl)
     refine EM.nil ?_
     repeat (first | rw [Xr] | rw [List.nil_append])
     refine CH.nil ?_
     refine CT.pick [13] (by kernel_rfl) fun k hk => ?_
     obtain rfl : k = 13 := (by simpa using hk)
     clear hk
     simp only [bJ, XD, XG, Xz, Xy]
     refine CH.mut (os := [_]) (rest := []) rfl rfl (Dw rfl (rQ (k := x) rfl rfl rfl rfl rfl (by rw [hds1]; omega))) ?_
     rintro _ _ ⟨rfl, rfl⟩
     try simp only [St.put]
     repeat (first | rw [Xr] | rw [List.nil_append])
     refine CH.nil ?_
     refine CT.nil ?_
     rw [hds1]
     repeat
      (first
       | apply EL.nil | ((with_reducible apply EK.h0); apply EK.code) | (with_reducible apply EC.seq))
     generalize ((S.map dNd ++ [D.tup [.arr 32 zero32, .v (.slice none 0 0)]]).take (x + 1)) ++ ((S.map dNd ++ [D.tup [.arr 32 zero32, .v (.slice none 0 0)]]).drop x).take (S.length + 1 - (x + 1)) = Z at hfin hgx ⊢
     have hxZ : x < Z.length := (XC.1 hgx).1
     refine EC.iU 11 [0, 1, 2, 3, 4, 5, 6, 7, 8] [9, 10] [_] _ (by kernel_rfl) (by kernel_rfl) rfl ?_
     simp only [bJ, XD, XG, Xz, Xy]
     repeat
      (first
       | (apply EH.grow (lK rfl rfl hb); rfl; rfl; rfl) | (apply aX; iterate 3 rfl) | (apply dH; iterate 6 rfl)
       | (apply dw; rfl; exact I.a; iterate 4 rfl) | (apply iM; iterate 7 rfl) | (apply gU; iterate 3 rfl))
     refine EM.nil ?_
     repeat (first | rw [Xr] | rw [List.nil_append])
     refine CH.cut 1 ?_
     simp only [Xp, Xu, mP, Xq]
     repeat
      (first
       | (apply jw; rfl; exact I0; rfl; rfl; exact ⟨by omega, by rw [XL]; exact hxZ⟩; iterate 2 rfl))
     refine EM.nil ?_
     repeat (first | rw [Xr] | rw [List.nil_append])
     refine CH.mut (os := [_]) (rest := []) rfl rfl (l9 (ku (k := x) (off := 0) (d := (dNd S[x])) (d'' := dNd (h, b)) ⟨by rw [XL]; rfl, hgx⟩ rfl rfl rfl rfl rfl)) ?_
     rintro _ _ ⟨rfl, rfl⟩
     try simp only [St.put]
     repeat (first | rw [Xr] | rw [List.nil_append])
     refine CH.nil ?_
     try simp only [mP, Xq]
     rw [hfin, ← hmap]
     repeat
      (first
       | (apply ah; iterate 3 rfl) | apply EL.nil | (with_reducible first | apply EK.nc | apply EC.seq | apply EC.r0 | apply EC.ret))
     refine EK.le (Le.pick [2, 0, 1] [_, _, _] rfl (by decide) rfl) ?_
     exact EK.iP [sdO g v2, sdR v2 (gG (h, b) S)] rfl rfl (by (repeat first | exact Xt _ | apply List.Sublist.cons_cons | apply List.Sublist.cons)) ⟨v2, rfl, rfl⟩
  ·
   have hxe : x = S.length := by omega
   rw [show S.drop x = [] by rw [XP (by omega)]] at hoN
   replace hpN : gG (h, b) S = S.take x ++ (h, b) :: S.drop x := by rw [hpN, XP (by omega)]
   dsimp only at hoN
   repeat
    (first
     | (apply ak; iterate 3 rfl) | (apply aC (b := false); (iterate 2 rfl); exact aK; iterate 2 rfl) | apply EL.nil
     | (apply EC.f0; rfl) | (with_reducible first | apply EK.nc | apply EC.seq | apply EC.r0 | apply EC.x0 | apply EK.s0 | apply EK.aY))
   refine EC.draw 19 (by kernel_rfl) ?_
   simp only [Xp, Xu, mP, Xq]
   repeat
    (first
     | (apply uj; iterate 2 rfl) | (apply aX; iterate 3 rfl) | (apply dH; iterate 6 rfl) | (apply jI; iterate 4 rfl)
     | (apply dw; rfl; exact I.a; iterate 4 rfl) | (apply jm (b := false); (iterate 2 rfl); exact aK; iterate 2 rfl)
     | (apply vI; rfl; exact I.a; iterate 3 rfl) | (apply gU; iterate 3 rfl) | ((with_reducible apply EH.nil); rfl))
   have hds1 : (S.map dNd ++ [D.tup [.arr 32 zero32, .v (.slice none 0 0)]]).length = S.length + 1 := by rw [List.length_append, hml]; rfl
   have hfin := AV S x hy (D.tup [.arr 32 zero32, .v (.slice none 0 0)]) (dNd (h, b))
   have hgx : (((S.map dNd ++ [D.tup [.arr 32 zero32, .v (.slice none 0 0)]]).take (x + 1)) ++ ((S.map dNd ++ [D.tup [.arr 32 zero32, .v (.slice none 0 0)]]).drop x).take (S.length + 1 - (x + 1)))[x]? = some (D.tup [.arr 32 zero32, .v (.slice none 0 0)]) := by
    rw [Yh (by rw [List.length_take, hds1]; omega), Zi (by omega)]
    rw [Yg (by omega), hml, hxe, Nat.sub_self]
    rfl
   have hmap : (gG (h, b) S).map dNd = (S.take x).map dNd ++ dNd (h, b) :: (S.drop x).map dNd := by
    rw [hpN]
    simp
   rw [hoN]
   repeat
    (first
     | (apply ak; iterate 3 rfl) | (apply bn; iterate 6 rfl) | (apply bH; rfl; exact I.a; iterate 4 rfl) | (apply eH; iterate 7 rfl)
     | (apply jF; iterate 9 rfl) | (apply jl; iterate 3 rfl) | (apply aI; rfl; exact saA; iterate 4 rfl)
     | ((apply ig; rfl; exact saA; (iterate 5 rfl); (focus (constructor <;> (first | (simp; done) | (simp; omega))))); intro _)
     | apply EL.nil | (apply EC.f0; rfl) | (with_reducible first | apply EK.nc | apply EC.seq | apply EC.r0 | apply EC.k0))
   rename_i v2
   refine EC.le (Le.pick [2, 0, 1] [_, _, _] rfl (by decide) rfl) ?_
   refine EC.Ug 14 [0, 1, 2, 3, 4, 5, 7, 8, 9, 10, 11] [6, 12, 13] [_] _ (by kernel_rfl) (by kernel_rfl) rfl ?_
   simp only [bJ, XD, XG, Xz, Xy]
   repeat
    (first
     | (apply aX; iterate 3 rfl) | (apply dH; iterate 6 rfl) | (apply dw; rfl; exact I.a; iterate 4 rfl)
     | (apply NV; (iterate 3 rfl); (focus omega); (focus omega); iterate 2 rfl) | (apply gU; iterate 3 rfl))
   refine EM.nil ?_
   repeat (first | rw [Xr] | rw [List.nil_append])
   refine CT.pick [6, 12] (by kernel_rfl) fun k hk => ?_
   rcases (show k = 6 ∨ k = 12 by simpa using hk) with rfl | rfl
   all_goals clear hk
   ·
    skip
    simp only [bJ, XD, XG, Xz, Xy]
    refine CH.cut 1 ?_
    simp only [Xp, Xu, mP, Xq]
    (apply EH.still; apply kZ (i := 0); (iterate 5 rfl); exact ⟨by omega, by rw [hds1]; omega⟩; iterate 3 rfl)
    refine EM.nil ?_
    repeat (first | rw [Xr] | rw [List.nil_append])
    refine CH.nil ?_
    refine CT.pick [12] (by kernel_rfl) fun k hk => ?_
    obtain rfl : k = 12 := (by simpa using hk)
    clear hk
    simp only [bJ, XD, XG, Xz, Xy]
    refine CH.cut 1 ?_
    simp only [Xp, Xu, mP, Xq]
    (apply EH.still; apply kZ (i := 0); (iterate 5 rfl); exact ⟨by omega, by rw [hds1]; omega⟩; iterate 3 rfl)
    refine EM.nil ?_
    repeat (first | rw [Xr] | rw [List.nil_append])
    refine CH.nil ?_
    refine CT.pick [13] (by kernel_rfl) fun k hk => ?_
    obtain rfl : k = 13 := (by simpa using hk)
    clear hk
    simp only [bJ, XD, XG, Xz, Xy]
    refine CH.mut (os := [_]) (rest := []) rfl rfl (Dw rfl (rQ (k := x) rfl rfl rfl rfl rfl (by rw [hds1]; omega))) ?_
    rintro _ _ ⟨rfl, rfl⟩
    try simp only [St.put]
    repeat (first | rw [Xr] | rw [List.nil_append])
    refine CH.nil ?_
    refine CT.nil ?_
    rw [hds1]
    repeat
     (first
      | apply EL.nil | ((with_reducible apply EK.h0); apply EK.code) | (with_reducible apply EC.seq))
    generalize ((S.map dNd ++ [D.tup [.arr 32 zero32, .v (.slice none 0 0)]]).take (x + 1)) ++ ((S.map dNd ++ [D.tup [.arr 32 zero32, .v (.slice none 0 0)]]).drop x).take (S.length + 1 - (x + 1)) = Z at hfin hgx ⊢
    have hxZ : x < Z.length := (XC.1 hgx).1
    refine EC.iU 11 [0, 1, 2, 3, 4, 5, 6, 7, 8] [9, 10] [_] _ (by kernel_rfl) (by kernel_rfl) rfl ?_
    simp only [bJ, XD, XG, Xz, Xy]
    repeat
     (first
      | (apply EH.grow (lK rfl rfl hb); rfl; rfl; rfl) | (apply aX; iterate 3 rfl) | (apply dH; iterate 6 rfl)
      | (apply dw; rfl; exact I.a; iterate 4 rfl) | (apply iM; iterate 7 rfl) | (apply gU; iterate 3 rfl))
    refine EM.nil ?_
    repeat (first | rw [Xr] | rw [List.nil_append])
    refine CH.cut 1 ?_
    simp only [Xp, Xu, mP, Xq]
    repeat
     (first
      | (apply jw; rfl; exact I0; rfl; rfl; exact ⟨by omega, by rw [XL]; exact hxZ⟩; iterate 2 rfl))
    refine EM.nil ?_
    repeat (first | rw [Xr] | rw [List.nil_append])
    refine CH.mut (os := [_]) (rest := []) rfl rfl (l9 (ku (k := x) (off := 0) (d := (D.tup [.arr 32 zero32, .v (.slice none 0 0)])) (d'' := dNd (h, b)) ⟨by rw [XL]; rfl, hgx⟩ rfl rfl rfl rfl rfl)) ?_
    rintro _ _ ⟨rfl, rfl⟩
    try simp only [St.put]
    repeat (first | rw [Xr] | rw [List.nil_append])
    refine CH.nil ?_
    try simp only [mP, Xq]
    rw [hfin, ← hmap]
    repeat
     (first
      | (apply ah; iterate 3 rfl) | apply EL.nil | (with_reducible first | apply EK.nc | apply EC.seq | apply EC.r0 | apply EC.ret))
    refine EK.le (Le.pick [2, 0, 1] [_, _, _] rfl (by decide) rfl) ?_
    exact EK.iP [sdO g v2, sdR v2 (gG (h, b) S)] rfl rfl (by (repeat first | exact Xt _ | apply List.Sublist.cons_cons | apply List.Sublist.cons)) ⟨v2, rfl, rfl⟩
   ·
    skip
    simp only [bJ, XD, XG, Xz, Xy]
    refine CH.cut 1 ?_
    simp only [Xp, Xu, mP, Xq]
    (apply EH.still; apply kZ (i := 0); (iterate 5 rfl); exact ⟨by omega, by rw [hds1]; omega⟩; iterate 3 rfl)
    refine EM.nil ?_
    repeat (first | rw [Xr] | rw [List.nil_append])
    refine CH.nil ?_
    refine CT.pick [6] (by kernel_rfl) fun k hk => ?_
    obtain rfl : k = 6 := (by simpa using hk)
    clear hk
    simp only [bJ, XD, XG, Xz, Xy]
    refine CH.cut 1 ?_
    simp only [Xp, Xu, mP, Xq]
    (apply EH.still; apply kZ (i := 0); (iterate 5 rfl); exact ⟨by omega, by rw [hds1]; omega⟩; iterate 3 rfl)
    refine EM.nil ?_
    repeat (first | rw [Xr] | rw [List.nil_append])
    refine CH.nil ?_
    refine CT.pick [13] (by kernel_rfl) fun k hk => ?_
    obtain rfl : k = 13 := (by simpa using hk)
    clear hk
    simp only [bJ, XD, XG, Xz, Xy]
    refine CH.mut (os := [_]) (rest := []) rfl rfl (Dw rfl (rQ (k := x) rfl rfl rfl rfl rfl (by rw [hds1]; omega))) ?_
    rintro _ _ ⟨rfl, rfl⟩
    try simp only [St.put]
    repeat (first | rw [Xr] | rw [List.nil_append])
    refine CH.nil ?_
    refine CT.nil ?_
    rw [hds1]
    repeat
     (first
      | apply EL.nil | ((with_reducible apply EK.h0); apply EK.code) | (with_reducible apply EC.seq))
    generalize ((S.map dNd ++ [D.tup [.arr 32 zero32, .v (.slice none 0 0)]]).take (x + 1)) ++ ((S.map dNd ++ [D.tup [.arr 32 zero32, .v (.slice none 0 0)]]).drop x).take (S.length + 1 - (x + 1)) = Z at hfin hgx ⊢
    have hxZ : x < Z.length := (XC.1 hgx).1
    refine EC.iU 11 [0, 1, 2, 3, 4, 5, 6, 7, 8] [9, 10] [_] _ (by kernel_rfl) (by kernel_rfl) rfl ?_
    simp only [bJ, XD, XG, Xz, Xy]
    repeat
     (first
      | (apply EH.grow (lK rfl rfl hb); rfl; rfl; rfl) | (apply aX; iterate 3 rfl) | (apply dH; iterate 6 rfl)
      | (apply dw; rfl; exact I.a; iterate 4 rfl) | (apply iM; iterate 7 rfl) | (apply gU; iterate 3 rfl))
    refine EM.nil ?_
    repeat (first | rw [Xr] | rw [List.nil_append])
    refine CH.cut 1 ?_
    simp only [Xp, Xu, mP, Xq]
    repeat
     (first
      | (apply jw; rfl; exact I0; rfl; rfl; exact ⟨by omega, by rw [XL]; exact hxZ⟩; iterate 2 rfl))
    refine EM.nil ?_
    repeat (first | rw [Xr] | rw [List.nil_append])
    refine CH.mut (os := [_]) (rest := []) rfl rfl (l9 (ku (k := x) (off := 0) (d := (D.tup [.arr 32 zero32, .v (.slice none 0 0)])) (d'' := dNd (h, b)) ⟨by rw [XL]; rfl, hgx⟩ rfl rfl rfl rfl rfl)) ?_
    rintro _ _ ⟨rfl, rfl⟩
    try simp only [St.put]
    repeat (first | rw [Xr] | rw [List.nil_append])
    refine CH.nil ?_
    try simp only [mP, Xq]
    rw [hfin, ← hmap]
    repeat
     (first
      | (apply ah; iterate 3 rfl) | apply EL.nil | (with_reducible first | apply EK.nc | apply EC.seq | apply EC.r0 | apply EC.ret))
    refine EK.le (Le.pick [2, 0, 1] [_, _, _] rfl (by decide) rfl) ?_
    exact EK.iP [sdO g v2, sdR v2 (gG (h, b) S)] rfl rfl (by (repeat first | exact Xt _ | apply List.Sublist.cons_cons | apply List.Sublist.cons)) ⟨v2, rfl, rfl⟩
end E
end Go.Proofs.YtelbhdobjdnglaaGreat
