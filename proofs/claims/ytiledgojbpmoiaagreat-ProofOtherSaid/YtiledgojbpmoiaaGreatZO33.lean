/-
 Merged (wip/tools/merge.py): PQ4, PFC, SD6, KecDog, AL1, StrBytes, KecText, AL2, BGP, PG1.
 Conditions: none.
-/
import Derived.Test.YtiledgojbpmoiaaGreatZO32
import Derived.Test.YtiledgojbpmoiaaGreatZO25
import Derived.Test.YtiledgojbpmoiaaGreatZO31
import Derived.Test.YtiledgojbpmoiaaGreatZO3
import Derived.Lib.ConvBytes
import Derived.Test.YtiledgojbpmoiaaGreatZO2
import Derived.Test.YtiledgojbpmoiaaGreatZO26
namespace Go.Proofs.YtiledgojbpmoiaaGreat
set_option linter.unusedVariables false
set_option maxRecDepth 20000
set_option maxHeartbeats 16000000
open Go.RowKit Mono Rlp
namespace E
theorem vM : ∀ (f g : Nat) (l : List Pr), l.isEmpty = false → (∀ x ∈ l, x.1.length < f) → (∀ x ∈ l, x.1.length < g) → aF f l = aF g l ∧ dA f l = dA g l
 | 0, _, l, hl, hf, _ => by
  cases l with
  | nil => cases hl
  | cons x r => exact absurd (hf x List.mem_cons_self) (Nat.not_lt_zero _)
 | f + 1, 0, l, hl, _, hg => by
  cases l with
  | nil => cases hl
  | cons x r => exact absurd (hg x List.mem_cons_self) (Nat.not_lt_zero _)
 | f + 1, g + 1, [], hl, _, _ => by cases hl
 | f + 1, g + 1, [x], _, _, _ => ⟨by rw [aF, aF], by rw [dA, dA]⟩
 | f + 1, g + 1, x :: y :: r, hl, hf, hg => by
  have hle : bD x.1 (y :: r) ≤ x.1.length := (jl x.1 (y :: r) x.1.length (Nat.le_refl _)).1
  have hln : (x.1.take (bD x.1 (y :: r))).length = bD x.1 (y :: r) := by rw [List.length_take]; omega
  rw [aF, aF, dA, dA]
  by_cases hp : 0 < bD x.1 (y :: r)
  ·
   have hpre := DV x y r
   rw [if_pos hp, if_pos hp, if_pos hp, if_pos hp]
   have h1 := xK (p := x.1.take (bD x.1 (y :: r))) (f := f) (by omega) hf (by rw [hln]; exact hpre)
   have h2 := xK (p := x.1.take (bD x.1 (y :: r))) (f := g) (by omega) hg (by rw [hln]; exact hpre)
   rw [hln] at h1 h2
   obtain ⟨e1, e2⟩ := vM f g _ (show (bU (bD x.1 (y :: r)) (x :: y :: r)).isEmpty = false from rfl) h1 h2
   rw [e1, e2]
   exact ⟨rfl, rfl⟩
  ·
   rw [if_neg hp, if_neg hp, if_neg hp, if_neg hp]
   have hk : ∀ d, dY (aV d (x :: y :: r)) (aF f (aV d (x :: y :: r))) = dY (aV d (x :: y :: r)) (aF g (aV d (x :: y :: r))) ∧ jT (aV d (x :: y :: r)) (dA f (aV d (x :: y :: r))) (aF f (aV d (x :: y :: r))) = jT (aV d (x :: y :: r)) (dA g (aV d (x :: y :: r))) (aF g (aV d (x :: y :: r))) := fun d => by
    cases he : (aV d (x :: y :: r)).isEmpty with
    | true =>
     rw [oH he, oH he]
     unfold jT
     rw [he, if_pos rfl, if_pos rfl]
     exact ⟨rfl, rfl⟩
    | false =>
     obtain ⟨e1, e2⟩ := vM f g _ he (sO hf d) (sO hg d)
     rw [e1, e2]
     exact ⟨rfl, rfl⟩
   refine ⟨congrArg (Raw.mk true []) (congrArg (· ++ [Raw.mk false (iH (x :: y :: r)) []]) (List.map_congr_left fun d _ => (hk d).1)), congrArg List.flatten (List.map_congr_left fun d _ => (hk d).2)⟩
theorem uZ : ∀ (f : Nat) (l : List Pr) (p : List UInt8) (A : List (List UInt8)) (b : List UInt8) (B : List (List UInt8)), jh l → l.isEmpty = false → (∀ x ∈ l, x.1.length < f) → (∀ c ∈ p, c.toNat < 16) → pfE f l p = A ++ b :: B → ∃ f' l' p', b = pkB (aF f' l') ∧ B = pfE f' l' p' ∧ jh l' ∧ l'.isEmpty = false ∧ (∀ x ∈ l', x.1.length < f') ∧ (∀ c ∈ p', c.toNat < 16) ∧ (∀ u ∈ dA f' l', u ∈ dA f l) ∧ b ∈ dA f l ∧ (∀ x ∈ l', ∃ y ∈ l, x.1.length < y.1.length)
 | 0, l, p, A, b, B, hg, hl, hf, hp, e => by
  cases l with
  | nil => cases hl
  | cons x r => exact absurd (hf x List.mem_cons_self) (Nat.not_lt_zero _)
 | f + 1, l, p, A, b, B, hg, hl, hf, hp, e => by
  rw [pfE] at e
  rcases qA f l hg hl hf p hp with ⟨h1, h2, h3⟩ | ⟨l', p', h1, h2, h3, h4, h5, h6, h7, h8, h9, h10⟩
  ·
   rw [h1] at e
   simp at e
  ·
   rw [h1] at e
   dsimp only at e
   have hp' : ∀ c ∈ p', c.toNat < 16 := fun c hc => hp c (h8 c hc)
   have hsub : ∀ u ∈ dA f l', u ∈ dA (f + 1) l := fun u hu' => h9 u (by
    unfold jT
    rw [h3, if_neg Bool.false_ne_true]
    exact List.mem_append.2 (.inl hu'))
   have deep : ∀ A b B, pfE f l' p' = A ++ b :: B → ∃ f' l' p', b = pkB (aF f' l') ∧ B = pfE f' l' p' ∧ jh l' ∧ l'.isEmpty = false ∧ (∀ x ∈ l', x.1.length < f') ∧ (∀ c ∈ p', c.toNat < 16) ∧ (∀ u ∈ dA f' l', u ∈ dA (f + 1) l) ∧ b ∈ dA (f + 1) l ∧ (∀ x ∈ l', ∃ y ∈ l, x.1.length < y.1.length) := fun A b B e => by
    obtain ⟨f2, l2, p2, a1, a2, a3, a4, a5, a6, a7, a8, a9⟩ := uZ f l' p' A b B h4 h3 h5 hp' e
    refine ⟨f2, l2, p2, a1, a2, a3, a4, a5, a6, fun u hu => hsub u (a7 u hu), hsub b a8, fun x hx => ?_⟩
    obtain ⟨y, hy, hxy⟩ := a9 x hx
    obtain ⟨z, hz, hyz⟩ := h10 y hy
    exact ⟨z, hz, by omega⟩
   unfold hsh at e
   by_cases h32 : (pkB (aF f l')).length < 32
   ·
    rw [if_pos h32] at e
    exact deep A b B e
   ·
    rw [if_neg h32] at e
    cases A with
    | cons a A =>
     injection e with e1 e2
     exact deep A b B e2
    | nil =>
     injection e with e1 e2
     refine ⟨f, l', p', e1.symm, e2.symm, h4, h3, h5, hp', hsub, h9 b ?_, h10⟩
     unfold jT
     rw [h3, if_neg Bool.false_ne_true, if_neg h32]
     exact List.mem_append.2 (.inr (List.mem_singleton.2 e1.symm))
theorem MW {l : List Pr} (hl : l.isEmpty = false) (h : ∀ x ∈ l, ∃ y ∈ l, x.1.length < y.1.length) : False := by
 have key : ∀ n : Nat, ∃ y ∈ l, n ≤ y.1.length := fun n => by
  induction n with
  | zero =>
   cases l with
   | nil => cases hl
   | cons x r => exact ⟨x, List.mem_cons_self, Nat.zero_le _⟩
  | succ n ih =>
   obtain ⟨x, hx, hn⟩ := ih
   obtain ⟨y, hy, hxy⟩ := h x hx
   exact ⟨y, hy, by omega⟩
 have bd : ∀ m : List Pr, ∃ N, ∀ x ∈ m, x.1.length ≤ N := fun m => by
  induction m with
  | nil => exact ⟨0, fun x hx => by cases hx⟩
  | cons a m ih =>
   obtain ⟨N, hN⟩ := ih
   refine ⟨max N a.1.length, fun x hx => ?_⟩
   rcases List.mem_cons.1 hx with rfl | hx
   · omega
   ·
    have := hN x hx
    omega
 obtain ⟨N, hN⟩ := bd l
 obtain ⟨y, hy, hn⟩ := key (N + 1)
 have := hN y hy
 omega
theorem GK {S : List Pr} (hS : Srt S) {f : Nat} {l : List Pr} {p : List UInt8} (hg : jh l) (hl : l.isEmpty = false) (hf : ∀ x ∈ l, x.1.length < f) (hp : ∀ c ∈ p, c.toNat < 16) (hu : ∀ u ∈ dA f l, (hash u, u) ∈ S) (hb : (hash (pkB (aF f l)), pkB (aF f l)) ∈ S) {c : List UInt8} (hc : c ∈ pfE f l p) : hash c ≠ hash (pkB (aF f l)) := fun e => by
 obtain ⟨A, B, hAB⟩ := List.append_of_mem hc
 obtain ⟨f', l', p', a1, a2, a3, a4, a5, a6, a7, a8, a9⟩ := uZ f l p A c B hg hl hf hp hAB
 have h1 := hu c a8
 rw [e] at h1
 have h2 := pU hS h1 hb
 rw [a1] at h2
 have h3 := Ph (kU f' l' a3.toGoodL) (kU f l hg.toGoodL) h2
 have hlt : ∀ x ∈ l', x.1.length < f := fun x hx => by
  obtain ⟨y, hy, hxy⟩ := a9 x hx
  have := hf y hy
  omega
 obtain ⟨e1, e2⟩ := vM f' f l' a4 a5 hlt
 rw [e1] at h3
 have hcl : qL (dA f l) (dA f l') := fun u hu1 v hv e3 => by
  have b1 := hu u hu1
  have b2 := hu v (a7 v (by rw [e2]; exact hv))
  rw [e3] at b1
  exact pU hS b1 b2
 have h4 := yX f l l' hl a4 hf hlt hg.toGoodL a3.toGoodL hcl h3.symm
 exact MW hl fun x hx => a9 x (h4 x hx)
structure Sn (S : List Pr) (l : List Pr) : Prop where
 srt : Srt S
 ok : fQ l = 0
 ne : l ≠ []
 all : ∀ u ∈ ng l, (hash u, u) ∈ S
section
variable {S l : List Pr} (h : Sn S l)
include h
theorem Sn.good : jh (l.map sp) ∧ (l.map sp).isEmpty = false ∧ ∀ x ∈ l.map sp, x.1.length < 200 := ⟨zu h.ok, by
 cases l with
 | nil => exact absurd rfl h.ne
 | cons _ _ => rfl, IK h.ok⟩
theorem Sn.strs : ∀ u ∈ dA 200 (l.map sp), (hash u, u) ∈ S := fun u hu => h.all u (by
 unfold ng
 rw [if_neg (by cases l with | nil => exact absurd rfl h.ne | cons _ _ => exact Bool.false_ne_true)]
 exact List.mem_cons_of_mem _ (List.mem_append.2 (.inl hu)))
theorem Sn.top : (hash (pkB (aF 200 (l.map sp))), pkB (aF 200 (l.map sp))) ∈ S := h.all _ (by
 unfold ng
 rw [if_neg (by cases l with | nil => exact absurd rfl h.ne | cons _ _ => exact Bool.false_ne_true)]
 exact List.mem_cons_of_mem _ (List.mem_append.2 (.inr (List.mem_singleton.2 rfl))))
theorem Sn.emp : (lC, [128]) ∈ S := by
 have := h.all [128] (by unfold ng; exact List.mem_cons_self)
 exact this
theorem Sn.root : iJ l = hash (pkB (aF 200 (l.map sp))) := Et h.ok h.ne
theorem Sn.Rx : iJ l ≠ lC := fun e => by
 have h1 := h.top
 rw [← h.root, e] at h1
 have h2 := pU h.srt h1 h.emp
 obtain ⟨xs, hx⟩ := iV 199 (l.map sp)
 exact UF (kU 200 _ h.good.1.toGoodL) hx h2
theorem Sn.chk (key : List UInt8) (q : List (List UInt8)) : vP (iJ l) key q = chk 400 (.mk false (hash (pkB (aF 200 (l.map sp)))) []) (split key) q := by
 unfold vP
 rw [if_neg h.Rx, h.root]
theorem Sn.sound {key : List UInt8} (hk : key.length ≤ 70) {q : List (List UInt8)} (hq : ∀ u ∈ q, (hash u, u) ∈ S) : vP (iJ l) key q = (gtE (l.map sp) (split key), 0) ∨ ∃ e, e ≠ 0 ∧ vP (iJ l) key q = ([], e) := by
 obtain ⟨g1, g2, g3⟩ := h.good
 rw [h.chk, qC]
 cases q with
 | nil => exact .inr ⟨5, by decide, rfl⟩
 | cons c t =>
  by_cases hc : hash c = hash (pkB (aF 200 (l.map sp)))
  ·
   have := hq c List.mem_cons_self
   rw [hc] at this
   obtain rfl := pU h.srt this h.top
   rw [Py g1 g2 g3]
   exact BZ h.srt 200 399 _ _ _ g1 g2 g3 (fun c hc => by have := iU key c hc; omega) (by rw [dH]; omega) h.strs fun u hu => hq u (List.mem_cons_of_mem _ hu)
  ·
   refine .inr ⟨5, by decide, ?_⟩
   unfold nxt
   rw [if_neg (show ¬ isL (.mk false (hash (pkB (aF 200 (l.map sp)))) []) = true from Bool.false_ne_true)]
   dsimp only
   rw [if_neg (show ¬ hash c = bts (.mk false (hash (pkB (aF 200 (l.map sp)))) []) from hc)]
theorem Sn.next {key : List UInt8} {A : List (List UInt8)} {b c : List UInt8} {B : List (List UInt8)} (e : uX l key = A ++ b :: c :: B) : hash c ≠ hash b := by
 obtain ⟨g1, g2, g3⟩ := h.good
 have hp : ∀ c ∈ split key, c.toNat < 16 := fun c hc => by have := iU key c hc; omega
 unfold uX at e
 rw [if_neg (by cases l with | nil => exact absurd rfl h.ne | cons _ _ => exact Bool.false_ne_true)] at e
 cases A with
 | nil =>
  injection e with e1 e2
  rw [← e1]
  exact GK h.srt g1 g2 g3 hp h.strs h.top (p := split key) (by rw [e2]; exact List.mem_cons_self)
 | cons a A =>
  injection e with e1 e2
  obtain ⟨f', l', p', a1, a2, a3, a4, a5, a6, a7, a8, a9⟩ := uZ 200 _ _ A b (c :: B) g1 g2 g3 hp e2
  have hb := h.strs b a8
  rw [a1] at hb ⊢
  exact GK h.srt a3 a4 a5 a6 (fun u hu => h.strs u (a7 u hu)) hb (p := p') (by rw [← a2]; exact List.mem_cons_self)
theorem Sn.mem (key : List UInt8) : ∀ u ∈ uX l key, (hash u, u) ∈ S := fun u hu => by
 obtain ⟨g1, g2, g3⟩ := h.good
 unfold uX at hu
 rw [if_neg (by cases l with | nil => exact absurd rfl h.ne | cons _ _ => exact Bool.false_ne_true)] at hu
 rcases List.mem_cons.1 hu with rfl | hu
 · exact h.top
 · exact h.strs u (JO 200 _ _ g1 g2 g3 (fun c hc => by have := iU key c hc; omega) u hu)
end
def zx (l : List Pr) (key : List UInt8) : List UInt8 := match l.find? (fun x => x.1 == key) with
 | some x => x.2
 | none => []
theorem AQ : ∀ {a b : List UInt8}, split a = split b → a = b
 | [], [], _ => rfl
 | [], y :: b, h => by rw [jO] at h; cases h
 | x :: a, [], h => by rw [jO] at h; cases h
 | x :: a, y :: b, h => by
  rw [jO, jO] at h
  injection h with h1 h
  injection h with h2 h3
  rw [AQ h3]
  congr 1
  have e1 := congrArg UInt8.toNat h1
  have e2 := congrArg UInt8.toNat h2
  rw [uq, uq] at e1
  rw [uo, uo] at e2
  exact UInt8.toNat_inj.1 (by omega)
theorem Sz (l : List Pr) (key : List UInt8) : gtE (l.map sp) (split key) = zx l key := by
 unfold gtE zx
 rw [List.find?_map]
 have : ((fun x : Pr => x.1 == split key) ∘ sp) = fun x => x.1 == key := by
  funext x
  show (split x.1 == split key) = _
  cases hx : (x.1 == key) with
  | true =>
   have : x.1 = key := by simpa using hx
   rw [this, beq_self_eq_true]
  | false =>
   refine beq_eq_false_iff_ne.2 fun e => ?_
   rw [AQ e, beq_self_eq_true] at hx
   cases hx
 rw [this]
 cases l.find? (fun x => x.1 == key) <;> rfl
def pI : Tn → Nd
 | .nil => .nil
 | .leaf p v => .leaf p v
 | .ext p k => .ext p (pI k)
 | .br ks v => .br (fun i => pI (ks i)) v
theorem zL : ∀ t : Tn, dN (pI t) = dT t
 | .nil => rfl
 | .leaf p v => rfl
 | .ext p k => by rw [pI, dN, dT, zL k]
 | .br ks v => by
  rw [pI, dN, dT]
  have : ∀ i, dN (pI (ks i)) = dT (ks i) := fun i => zL (ks i)
  simp only [this]
theorem OA (t : Tn) (p : List UInt8) : (gB (pI t) p).1 = pI (stepT t p).1 ∧ ((stepT t p).1.isNil = false → (gB (pI t) p).2.1 = (stepT t p).2) := by
 cases t with
 | nil => rw [pI, show gB .nil p = (.nil, [], []) by cases p <;> rfl]; exact ⟨by cases p <;> rfl, fun h => by cases p <;> cases h⟩
 | leaf q v =>
  rw [pI, kJ, show stepT (.leaf q v) p = (.nil, []) by cases p <;> rfl]
  exact ⟨by split <;> rfl, fun h => by cases h⟩
 | ext q k =>
  rw [pI, nC, stepT]
  split
  · exact ⟨rfl, fun _ => rfl⟩
  · exact ⟨rfl, fun h => by cases h⟩
 | br ks v =>
  cases p with
  | nil => exact ⟨rfl, fun h => by cases h⟩
  | cons c r => exact ⟨rfl, fun _ => rfl⟩
theorem OC {t : Tn} (h : t.ok) (p : List UInt8) : (stepT t p).1.ok := by
 cases t with
 | nil => rw [show stepT .nil p = (.nil, []) by cases p <;> rfl]; exact trivial
 | leaf q v => rw [show stepT (.leaf q v) p = (.nil, []) by cases p <;> rfl]; exact trivial
 | ext q k =>
  rw [stepT]
  split
  · exact h.2
  · exact trivial
 | br ks v =>
  cases p with
  | nil => exact trivial
  | cons c r => exact h c.toNat
theorem GV (t : Tn) : Bin .neq 125 (dT t) (.v .nilIface) (.bool !t.isNil) := by
 have := kN (pI t)
 rw [zL] at this
 have e : (pI t).isNil = t.isNil := by cases t <;> rfl
 rwa [e] at this
def TI (tot : List (List UInt8)) (t : Tn) (p : List UInt8) (out : List (List UInt8)) : Prop :=
 t.ok ∧ (∀ c ∈ p, c.toNat < 16) ∧ ((t.isNil = true ∧ out = tot) ∨ ∃ f l g, TR f l t ∧ jh l ∧ (∀ x ∈ l, x.1.length < f) ∧ p.length < g ∧ out ++ yN g t p (decide (out.length = 0)) = tot)
def msT (t : Tn) (p : List UInt8) : Nat := if t.isNil then 0 else p.length + 1
theorem LG (n : Nd) (p : List UInt8) : ∀ c ∈ (gB n p).2.1, c ∈ p := by
 cases n with
 | nil => rw [show gB .nil p = (.nil, [], []) by cases p <;> rfl]; intro c hc; cases hc
 | hash w => rw [show gB (.hash w) p = (.nil, [], []) by cases p <;> rfl]; intro c hc; cases hc
 | leaf q v =>
  rw [kJ]
  intro c hc
  split at hc <;> cases hc
 | ext q k =>
  rw [nC]
  intro c hc
  split at hc
  · exact List.mem_of_mem_drop hc
  · cases hc
 | br ks v =>
  intro c hc
  cases p with
  | nil => cases hc
  | cons d r => exact List.mem_cons_of_mem _ hc
theorem MK {tot out : List (List UInt8)} {t : Tn} {p r : List UInt8} (h : TI tot t p out) (hn : t.isNil = false) (hr : ∀ c ∈ r, c ∈ p) (hr2 : (stepT t p).1.isNil = false → r = (stepT t p).2) :
  TI tot (stepT t p).1 r (out ++ if out.length = 0 ∨ 32 ≤ (pkB (dZ t)).length then [pkB (dZ t)] else []) ∧ msT (stepT t p).1 r < msT t p := by
 obtain ⟨hok, hp, h | ⟨f, l, g, h1, h2, h3, h4, h5⟩⟩ := h
 ·
  rw [hn] at h
  cases h.1
 ·
  obtain ⟨g, rfl⟩ : ∃ n, g = n + 1 := ⟨g - 1, by omega⟩
  obtain ⟨f, rfl⟩ : ∃ n, f = n + 1 := by
   cases f with
   | zero => exact h1.elim
   | succ f => exact ⟨f, rfl⟩
  rw [yN, if_neg (by rw [hn]; decide), ← List.append_assoc] at h5
  have e1 : (if decide (out.length = 0) || decide (32 ≤ (pkB (dZ t)).length) then [pkB (dZ t)] else []) = (if out.length = 0 ∨ 32 ≤ (pkB (dZ t)).length then [pkB (dZ t)] else []) := by
   by_cases ha : out.length = 0 <;> by_cases hb : 32 ≤ (pkB (dZ t)).length <;> simp [ha, hb]
  rw [e1] at h5
  have hne : (out ++ if out.length = 0 ∨ 32 ≤ (pkB (dZ t)).length then [pkB (dZ t)] else []).length ≠ 0 := by
   rw [List.length_append]
   by_cases ha : out.length = 0
   ·
    rw [if_pos (.inl ha)]
    simp
   · omega
  generalize (out ++ if out.length = 0 ∨ 32 ≤ (pkB (dZ t)).length then [pkB (dZ t)] else []) = out' at h5 hne ⊢
  have hms : ∀ q : List UInt8, ((stepT t p).1.isNil = false → q.length < p.length) → msT (stepT t p).1 q < msT t p := fun q hq => by
   unfold msT
   rw [hn, if_neg Bool.false_ne_true]
   cases hs : (stepT t p).1.isNil with
   | true =>
    rw [if_pos rfl]
    omega
   | false =>
    have := hq hs
    rw [if_neg Bool.false_ne_true]
    omega
  have hso := OC hok p
  rcases JC h1 p hp with ⟨a1, a2⟩ | ⟨l', p', t', a1, a2, a3⟩
  ·
   rw [a2, xB, List.append_nil] at h5
   exact ⟨⟨hso, fun c hc => hp c (hr c hc), .inl ⟨by rw [a2]; rfl, h5⟩⟩, hms _ fun h => by rw [a2] at h; cases h⟩
  ·
   rcases qA f l h2 (lK h1).2 h3 p hp with ⟨e1, _⟩ | ⟨l2, p2, e1, _, _, e4, e5, _, e7, e8, _, _⟩
   · rw [a1] at e1; cases e1
   ·
    rw [a1] at e1
    injection e1 with e1
    obtain ⟨rfl, rfl⟩ := Prod.mk.inj e1
    rw [a2] at h5 hso hms hr2 ⊢
    dsimp only at h5 hso hms hr2 ⊢
    obtain rfl := hr2 (lK a3).1
    refine ⟨⟨hso, fun c hc => hp c (e8 c hc), .inr ⟨f, l', g, a3, e4, e5, by omega, ?_⟩⟩, hms _ fun _ => e7⟩
    rw [decide_eq_false hne]
    exact h5
theorem Fg : ∀ (g : Nat) (t : Tn) (p : List UInt8) (b : Bool), (yN g t p b).length ≤ g
 | 0, _, _, _ => Nat.le_refl _
 | g + 1, t, p, b => by
  rw [yN]
  split
  · exact Nat.zero_le _
  ·
   rw [List.length_append]
   have := Fg g (stepT t p).1 (stepT t p).2 false
   split <;> simp <;> omega
def yO (l : List Pr) (key : List UInt8) : List (List UInt8) := if fQ l = 0 then yN 400 (jM l) (split key) true else []
theorem Tc (l : List Pr) (key : List UInt8) (hk : key.length ≤ 150) : Fn 43 [.sl 2 (l.map dPr), .bs key] (· = .tpl [.sl 1 ((yO l key).map D.bs), .v (.int .i64 (fQ l : Int))]) := by
 have hT := Jg l
 have hS := qw key (by omega)
 have hnib : ∀ c ∈ split key, c.toNat < 16 := fun c hc => by have := iU key c hc; omega
 have hsl := dH key
 refine FnM.toFn ?_
 unfold yO
 by_cases he : fQ l = 0
 ·
  rw [if_pos he]
  rw [if_pos he] at hT
  rw [he]
  generalize htot : yN 400 (jM l) (split key) true = tot
  have hI : TI tot (jM l) (split key) [] := by
   refine ⟨CQ he, hnib, ?_⟩
   by_cases hn : l = []
   ·
    subst hn
    have e : jM [] = .nil := by
     unfold jM
     rw [show srt (([] : List Pr).map sp) = [] from List.Perm.eq_nil (fV _), tu]
    rw [e, xB] at htot
    rw [e]
    exact .inl ⟨rfl, htot⟩
   · exact .inr ⟨200, _, 400, CS he hn, zu he, IK he, by omega, htot⟩
  have htl : tot.length ≤ 400 := by
   rw [← htot]
   exact Fg _ _ _ _
  clear htot hk hsl
  generalize split key = p0 at *
  generalize jM l = t0 at *
  refine FnM.walk 45 Tryz.func43 rfl Tryz.ntmps43 (by simp) fun X => ?_
  repeat
   (first
    | (apply aB (hT); rfl; exact ak.refl _ _; exact enA; iterate 2 rfl) | (apply aB (hS); rfl; exact ak.refl _ _; exact enA; iterate 2 rfl)
    | (apply au; iterate 3 rfl) | (apply aj; iterate 3 rfl) | (apply aG; iterate 4 rfl)
    | (apply aC (b := false); (iterate 2 rfl); exact aO; iterate 2 rfl) | apply EL.nil | ((with_reducible apply EK.ah); apply EK.code) | (apply EC.cond_false; rfl)
    | (with_reducible first | apply EC.seq | apply EC.region | apply EC.skip | apply EC.block))
  refine EC.le (Le.row 30 1) ?_
  refine EC.loop (ι := {x : Tn × List UInt8 × List (List UInt8) × Value // TI tot x.1 x.2.1 x.2.2.1})
   (fun x => ⟨[(6, .val (dT x.1.1)), (9, .val (.bs x.1.2.1)), (8, .val (.v x.1.2.2.2))], [.row x.1.2.2.2 30 1 (x.1.2.2.1.map D.bs)], []⟩)
   (fun x => msT x.1.1 x.1.2.1) ⟨(t0, p0, [], .slice none 0 0), hI⟩ ?_ ?_
  · exact Le.kp
  rintro ⟨⟨t, p, out, v⟩, hc⟩
  dsimp only at hc ⊢
  have hml : (out.map D.bs).length = out.length := List.length_map _
  have hnn := GV t
  cases hn : t.isNil with
  | true =>
   rw [hn] at hnn
   have hout : out = tot := by
    obtain ⟨_, _, h | ⟨f, l, g, h1, _⟩⟩ := hc
    · exact h.2
    ·
     rw [(lK h1).1] at hn
     cases hn
   subst hout
   refine EC.le (Le.freeze (pre := []) rfl) ?_
   simp only [List.nil_append]
   repeat
    (first
     | (apply dP; (iterate 2 rfl); exact hnn; iterate 2 rfl) | (apply au; iterate 3 rfl) | (apply aj; iterate 3 rfl) | apply EL.nil
     | ((with_reducible apply EK.ah); apply EK.code) | (apply EC.cond_false; rfl)
     | (with_reducible first | apply EC.seq | apply EC.region | apply EC.exit | apply EC.ret | apply EK.bG | apply EK.aQ))
   exact EK.bT [] rfl rfl rfl (RL.cons (Rf.fact List.mem_cons_self rfl) (RL.cons Rf.same RL.nil)) (List.nil_sublist _) ⟨rfl, rfl⟩
  | false =>
   rw [hn] at hnn
   have hol : out.length ≤ 400 := by
    obtain ⟨_, _, h | ⟨f, l, g, _, _, _, _, h5⟩⟩ := hc
    ·
     rw [h.2]
     exact htl
    ·
     rw [← h5, List.length_append] at htl
     omega
   have hB := Kv t hc.1 hn
   have hst := vN (pI t) p hc.2.1
   rw [zL] at hst
   obtain ⟨e1, e2⟩ := OA t p
   obtain ⟨hnx, hms⟩ := MK hc hn (LG (pI t) p) e2
   unfold stepD at hst
   rw [e1, zL] at hst
   generalize (gB (pI t) p).2.1 = r1 at *
   generalize (gB (pI t) p).2.2 = r2 at *
   generalize (stepT t p).1 = t2 at *
   generalize pkB (dZ t) = b at *
   by_cases hz : out.length = 0
   ·
    rw [if_pos (.inl hz)] at hnx
    have hc0 : dI .eql ((out.map D.bs).length : Int) 0 = some true := by
     have : ((out.map D.bs).length : Int) = 0 := by omega
     rw [this]
     rfl
    repeat
     (first
      | (apply fG; iterate 2 rfl) | (apply dP; (iterate 2 rfl); exact hnn; iterate 2 rfl)
      | (apply aB (hB); rfl; exact ak.refl _ _; exact enA; iterate 2 rfl) | (apply aB (hst); rfl; exact ak.refl _ _; exact enA; iterate 2 rfl)
      | (apply aC (b := true); (iterate 2 rfl); exact hc0; iterate 2 rfl)
      | (apply je; rfl; exact .z; (iterate 5 rfl); (focus (constructor <;> (first | (simp; done) | (simp; omega)))); intro v2) | (apply au; iterate 3 rfl)
      | (apply aj; iterate 3 rfl) | (apply aG; iterate 4 rfl) | (apply aU; iterate 4 rfl) | (apply qJ; rfl; exact I.a; iterate 3 rfl)
      | (apply jC; iterate 9 rfl) | apply EL.nil | ((with_reducible apply EK.ah); apply EK.code) | (apply EC.cond_true; rfl)
      | (with_reducible first | apply EC.seq | apply EC.region | apply EC.skip | apply EC.block | apply EK.aI))
    refine EK.again ⟨(t2, r1, out ++ [b], v2), hnx⟩ (by exact hms) ?_
    dsimp only
    rw [List.map_append]
    exact Le.kp
   ·
    have hc0 : dI .eql ((out.map D.bs).length : Int) 0 = some false := by
     simp only [dI, Option.some.injEq, beq_eq_false_iff_ne]
     omega
    by_cases h32 : 32 ≤ b.length
    ·
     rw [if_pos (.inr h32)] at hnx
     repeat
      (first
       | (apply dP; (iterate 2 rfl); exact hnn; iterate 2 rfl) | (apply aB (hB); rfl; exact ak.refl _ _; exact enA; iterate 2 rfl)
       | (apply aB (hst); rfl; exact ak.refl _ _; exact enA; iterate 2 rfl) | (apply aC (b := false); (iterate 2 rfl); exact hc0; iterate 2 rfl)
       | (apply je; rfl; exact .z; (iterate 5 rfl); (focus (constructor <;> (first | (simp; done) | (simp; omega)))); intro v2) | (apply au; iterate 3 rfl)
       | (apply aj; iterate 3 rfl) | (apply aG; iterate 4 rfl) | (apply aU; iterate 4 rfl)
       | (apply aC (b := true); (iterate 2 rfl); exact aO; iterate 2 rfl) | (apply aS; iterate 4 rfl) | (apply qJ; rfl; exact I.a; iterate 3 rfl)
       | (apply jC; iterate 9 rfl) | apply EL.nil | ((with_reducible apply EK.ah); apply EK.code) | (apply EC.cond_true; rfl)
       | (with_reducible first | apply EC.seq | apply EC.region | apply EC.skip | apply EC.block | apply EK.aI))
     refine EK.again ⟨(t2, r1, out ++ [b], v2), hnx⟩ (by exact hms) ?_
     dsimp only
     rw [List.map_append]
     exact Le.kp
    ·
     rw [if_neg (by omega), List.append_nil] at hnx
     repeat
      (first
       | (apply dP; (iterate 2 rfl); exact hnn; iterate 2 rfl) | (apply aB (hB); rfl; exact ak.refl _ _; exact enA; iterate 2 rfl)
       | (apply aB (hst); rfl; exact ak.refl _ _; exact enA; iterate 2 rfl) | (apply aC (b := false); (iterate 2 rfl); exact hc0; iterate 2 rfl)
       | (apply au; iterate 3 rfl) | (apply aj; iterate 3 rfl) | (apply aG; iterate 4 rfl) | (apply aU; iterate 4 rfl)
       | (apply aC (b := false); (iterate 2 rfl); exact aO; iterate 2 rfl) | (apply aS; iterate 4 rfl) | (apply qJ; rfl; exact I.a; iterate 3 rfl)
       | apply EL.nil | ((with_reducible apply EK.ah); apply EK.code) | (apply EC.cond_true; rfl) | (apply EC.cond_false; rfl)
       | (with_reducible first | apply EC.seq | apply EC.region | apply EC.skip | apply EC.block | apply EK.aI))
     refine EK.again ⟨(t2, r1, out, v), hnx⟩ (by exact hms) ?_
     exact Le.kp
 ·
  rw [if_neg he]
  rw [if_neg he] at hT
  have hne : (fQ l : Int) ≠ 0 := by omega
  refine FnM.walk 45 Tryz.func43 rfl Tryz.ntmps43 (by simp) fun X => ?_
  repeat
   (first
    | (apply aB (hT); rfl; exact ak.refl _ _; exact enA; iterate 2 rfl) | (apply au; iterate 3 rfl) | (apply aj; iterate 3 rfl)
    | (apply aG; iterate 4 rfl) | (apply aC (b := true); (iterate 2 rfl); exact aO; iterate 2 rfl) | apply EL.nil | ((with_reducible apply EK.ah); apply EK.code)
    | (apply EC.cond_true; rfl) | (with_reducible first | apply EC.seq | apply EC.region | apply EC.ret | apply EK.aH))
  exact EK.bT [] rfl rfl rfl (RL.cons Rf.sl0 (RL.cons Rf.same RL.nil)) (List.nil_sublist _) ⟨rfl, rfl⟩
abbrev Qz (l : List Pr) : D := .sl 2 (l.map dPr)
def Clr (ls : List (List Pr)) : Prop := ∃ S : List Pr, Srt S ∧ ∀ l ∈ ls, fQ l = 0 → ∀ x ∈ ng l, (hash x, x) ∈ S
theorem clear_ (ls : List (List Pr)) (hls : ls.length ≤ 40) : FnM 24 [.sl 1 (ls.map Qz)] [] (fun r os' => ∃ b, (b = true → Clr ls) ∧ r = .val (.v (.bool b)) ∧ os' = []) := by
 have hml : (ls.map Qz).length = ls.length := List.length_map _
 refine FnM.walk 28 Tryz.func24 rfl Tryz.ntmps24 (by simp) fun X => ?_
 repeat
  (first
   | (apply gU; rfl; rfl; rfl; intro gs) | (apply aj; iterate 3 rfl) | (apply eU; iterate 7 rfl) | apply EL.nil
   | ((with_reducible apply EK.ah); apply EK.code) | (with_reducible first | apply EC.seq | apply EC.region | apply EC.block))
 refine EC.le (Le.row 56 33) ?_
 refine EC.le (Le.pick [1, 0] [_, _] rfl (by decide) rfl) ?_
 refine EC.loop (ι := {x : Nat × Value × List Pr // x.1 ≤ ls.length ∧ Srt x.2.2 ∧ x.2.2.length ≤ x.1 * 20000002 ∧ ∀ j, (hj : j < ls.length) → j < x.1 → fQ ls[j] = 0 → ∀ y ∈ ng ls[j], (hash y, y) ∈ x.2.2})
  (fun x => ⟨[(4, .val (.v (.int .i64 (x.1.1 : Int)))), (3, .val (.v (ptr gs))), (0, .val (.sl 1 (ls.map Qz)))], [sdO gs x.1.2.1, sdR x.1.2.1 x.1.2.2], []⟩)
  (fun x => ls.length - x.1.1) ⟨(0, .slice none 0 0, []), Nat.zero_le _, .nil, Nat.zero_le _, fun j _ hj => absurd hj (Nat.not_lt_zero _)⟩ ?_ ?_
 · exact Le.kp
 rintro ⟨⟨i, v, S⟩, hi, hS, hSl, hall⟩
 dsimp only at hi hS hSl hall ⊢
 by_cases hlt : i < ls.length
 ·
  have hd : (ls.map Qz)[i]? = some (.sl 2 (ls[i].map dPr)) := by rw [List.getElem?_map, List.getElem?_eq_getElem hlt]; rfl
  have hM := sV ls[i]
  by_cases he : fQ ls[i] = 0
  ·
   have hT := Ru gs v S ls[i] hS (by omega) he
   have hlen := (Qs.1 he).1
   have hall1 : ∀ b S', Jt (ng ls[i]) (2 + 200 * ls[i].length) S S' b → b = true → ∀ j, (hj : j < ls.length) → j < i + 1 → fQ ls[j] = 0 → ∀ y ∈ ng ls[j], (hash y, y) ∈ S' := fun b S' h hb j hj hji hje y hy => by
    rcases Nat.lt_or_ge j i with h2 | h2
    · exact h.2.2.1 _ (hall j hj h2 hje y hy)
    ·
     obtain rfl : j = i := by omega
     exact h.2.2.2 hb y hy
   rw [he] at hM
   generalize ls[i] = l at hd hM hT hlen hall1
   repeat
    (first
     | (apply aB (hM); rfl; exact ak.refl _ _; exact enA; iterate 2 rfl) | (apply au; iterate 3 rfl) | (apply aJ; iterate 5 rfl)
     | (apply aC (b := true); (iterate 2 rfl); exact aO; iterate 2 rfl) | (apply aC (b := false); (iterate 2 rfl); exact aO; iterate 2 rfl)
     | (apply aK; iterate 4 rfl)
     | (apply bI; (iterate 4 rfl); (focus (first | exact ⟨by decide, rfl⟩ | (refine ⟨by omega, ?_⟩; rw [Int.toNat_natCast]; assumption))); iterate 2 rfl) | apply EL.nil
     | ((with_reducible apply EK.ah); apply EK.code) | (apply EC.cond_true; rfl) | (apply EC.cond_false; rfl)
     | (with_reducible first | apply EC.seq | apply EC.region | apply EC.skip | apply EC.block))
   refine jD hT [] [] rfl rfl (ak.refl _ _) (by intro _ _; simp [go_sem]) rfl rfl ?_
   rintro _ _ ⟨b, v', S', hsn, rfl, rfl⟩
   simp only [List.cons_append, List.nil_append]
   cases b with
   | true =>
    repeat
     (first
      | (apply au; iterate 3 rfl) | (apply aj; iterate 3 rfl) | (apply dS; iterate 3 rfl)
      | (apply iZ; (iterate 3 rfl); (focus omega); (focus omega); iterate 2 rfl) | apply EL.nil | ((with_reducible apply EK.ah); apply EK.code) | (apply EC.cond_false; rfl)
      | (with_reducible first | apply EC.seq | apply EC.region | apply EC.skip | apply EK.aI))
    refine EK.again ⟨(i + 1, v', S'), hlt, hsn.1, by have := hsn.2.1; dsimp only; omega, hall1 _ _ hsn rfl⟩ (by dsimp only; omega) ?_
    simp only [Int.natCast_add]
    exact Le.kp
   | false =>
    repeat
     (first
      | (apply au; iterate 3 rfl) | (apply aj; iterate 3 rfl) | (apply dS; iterate 3 rfl) | apply EL.nil | ((with_reducible apply EK.ah); apply EK.code)
      | (apply EC.cond_true; rfl) | (with_reducible first | apply EC.seq | apply EC.region | apply EC.ret | apply EK.dR | apply EK.aH))
    exact EK.iG [] rfl rfl (List.nil_sublist _) ⟨false, (fun h => by cases h), rfl, rfl⟩
  ·
   have hne : (fQ ls[i] : Int) ≠ 0 := by omega
   have hall1 : ∀ j, (hj : j < ls.length) → j < i + 1 → fQ ls[j] = 0 → ∀ y ∈ ng ls[j], (hash y, y) ∈ S := fun j hj hji hje y hy => by
    rcases Nat.lt_or_ge j i with h2 | h2
    · exact hall j hj h2 hje y hy
    ·
     obtain rfl : j = i := by omega
     exact absurd hje he
   generalize fQ ls[i] = e at hM hne
   generalize ls[i] = l at hd hM
   clear he
   repeat
    (first
     | (apply aB (hM); rfl; exact ak.refl _ _; exact enA; iterate 2 rfl) | (apply au; iterate 3 rfl) | (apply aj; iterate 3 rfl)
     | (apply aJ; iterate 5 rfl) | (apply aC (b := true); (iterate 2 rfl); exact aO; iterate 2 rfl)
     | (apply iZ; (iterate 3 rfl); (focus omega); (focus omega); iterate 2 rfl) | (apply aK; iterate 4 rfl)
     | (apply bI; (iterate 4 rfl); (focus (first | exact ⟨by decide, rfl⟩ | (refine ⟨by omega, ?_⟩; rw [Int.toNat_natCast]; assumption))); iterate 2 rfl) | apply EL.nil
     | ((with_reducible apply EK.ah); apply EK.code) | (apply EC.cond_true; rfl)
     | (with_reducible first | apply EC.seq | apply EC.region | apply EC.skip | apply EC.block | apply EC.exit | apply EK.bG | apply EK.aQ))
   refine EK.again ⟨(i + 1, v, S), hlt, hS, Nat.le_trans hSl (Nat.mul_le_mul_right _ (Nat.le_succ i)), hall1⟩ (by dsimp only; omega) ?_
   simp only [Int.natCast_add]
   exact Le.kp
 ·
  have hie : i = ls.length := by omega
  repeat
   (first
    | (apply au; iterate 3 rfl) | (apply aj; iterate 3 rfl) | (apply aC (b := false); (iterate 2 rfl); exact aO; iterate 2 rfl)
    | (apply aK; iterate 4 rfl) | apply EL.nil | ((with_reducible apply EK.ah); apply EK.code) | (apply EC.cond_false; rfl)
    | (with_reducible first | apply EC.seq | apply EC.region | apply EC.exit | apply EC.ret | apply EK.bG | apply EK.aQ))
  exact EK.iG [] rfl rfl (List.nil_sublist _) ⟨true, fun _ => ⟨S, hS, fun l hl he y hy => by
   obtain ⟨j, hj, rfl⟩ := List.getElem_of_mem hl
   exact hall j hj (by omega) he y hy⟩, rfl, rfl⟩
end E
end Go.Proofs.YtiledgojbpmoiaaGreat
namespace Go.Proofs.YtiledgojbpmoiaaGreat.Kec
end Go.Proofs.YtiledgojbpmoiaaGreat.Kec
namespace Go.Proofs.YtiledgojbpmoiaaGreat
set_option linter.unusedVariables false
open Go.RowKit Mono Rlp
namespace E

end E
end Go.Proofs.YtiledgojbpmoiaaGreat
namespace Go.Proofs.YtiledgojbpmoiaaGreat
set_option linter.unusedVariables false
open Go.RowKit Mono
def digit (n : Nat) : UInt8 := [48, 49, 50, 51, 52, 53, 54, 55, 56, 57, 97, 98, 99, 100, 101, 102].getD n 0
def text (l : List UInt8) : List UInt8 := [48, 120] ++ l.flatMap fun b => [digit (b.toNat / 16), digit (b.toNat % 16)]
end Go.Proofs.YtiledgojbpmoiaaGreat
namespace Go.Proofs.YtiledgojbpmoiaaGreat
set_option linter.unusedVariables false
set_option maxRecDepth 20000
set_option maxHeartbeats 8000000
open Go.RowKit Mono Rlp
namespace E
def Vw (l : List Pr) : Bool := decide (60 < l.length) || l.any fun x => decide (70 < x.1.length) || decide (300 < x.2.length)
theorem TB {α : Type} {p : α → Bool} {l : List α} {i : Nat} (h : i < l.length) (hp : p l[i] = true) : l.any p = true := List.any_eq_true.2 ⟨l[i], List.getElem_mem h, hp⟩
theorem Vb (l : List Pr) : Fn 23 [.sl 2 (l.map dPr)] (· = .val (.v (.bool (Vw l)))) := by
 have hml : (l.map dPr).length = l.length := List.length_map _
 refine Fn.walk 29 Tryz.func23 rfl Tryz.ntmps23 (by simp) fun X => ?_
 unfold Vw
 by_cases h60 : 60 < l.length
 ·
  rw [show decide (60 < l.length) = true by simp [h60], Bool.true_or]
  repeat
   (first
    | (apply au; iterate 3 rfl) | (apply aj; iterate 3 rfl) | (apply aC (b := true); (iterate 2 rfl); exact aO; iterate 2 rfl)
    | (apply aK; iterate 4 rfl) | apply EL.nil | ((with_reducible apply EK.ah); apply EK.code) | (apply EC.cond_true; rfl)
    | (with_reducible first | apply EC.seq | apply EC.region | apply EC.ret | apply EK.aH))
  exact EK.kG rfl rfl rfl
 ·
  rw [show decide (60 < l.length) = false by simp [h60], Bool.false_or]
  repeat
   (first
    | (apply au; iterate 3 rfl) | (apply aj; iterate 3 rfl) | (apply aC (b := false); (iterate 2 rfl); exact aO; iterate 2 rfl)
    | (apply aK; iterate 4 rfl) | apply EL.nil | ((with_reducible apply EK.ah); apply EK.code) | (apply EC.cond_false; rfl)
    | (with_reducible first | apply EC.seq | apply EC.region | apply EC.skip | apply EC.block))
  refine EC.loop (ι := {i : Nat // i ≤ l.length ∧ (l.take i).any (fun x => decide (70 < x.1.length) || decide (300 < x.2.length)) = false})
   (fun i => ⟨[(3, .val (.v (.int .i64 (i.1 : Int)))), (0, .val (.sl 2 (l.map dPr)))], [], []⟩)
   (fun i => l.length - i.1) ⟨0, Nat.zero_le _, rfl⟩ ?_ ?_
  · exact Le.kp
  rintro ⟨i, hi, hno⟩
  dsimp only at hi ⊢
  by_cases hlt : i < l.length
  ·
   have hd : (l.map dPr)[i]? = some (.tup [.bs l[i].1, .bs l[i].2]) := by rw [List.getElem?_map, List.getElem?_eq_getElem hlt]; rfl
   have htk : l.take (i + 1) = l.take i ++ [l[i]] := List.take_succ_eq_append_getElem hlt
   have hat := TB (p := fun x : Pr => decide (70 < x.1.length) || decide (300 < x.2.length)) hlt
   generalize l[i] = x at hd htk hat
   by_cases hc : 70 < x.1.length
   ·
    rw [hat (by simp [hc])]
    repeat
     (first
      | (apply fG; iterate 2 rfl) | (apply au; iterate 3 rfl) | (apply aj; iterate 3 rfl) | (apply aZ; iterate 7 rfl)
      | (apply aJ; iterate 5 rfl) | (apply aU; iterate 4 rfl) | (apply aC (b := true); (iterate 2 rfl); exact aO; iterate 2 rfl)
      | (apply aS; iterate 4 rfl) | (apply aK; iterate 4 rfl)
      | (apply bI; (iterate 4 rfl); (focus (first | exact ⟨by decide, rfl⟩ | (refine ⟨by omega, ?_⟩; rw [Int.toNat_natCast]; assumption))); iterate 2 rfl) | apply EL.nil
      | ((with_reducible apply EK.ah); apply EK.code) | (apply EC.cond_true; rfl)
      | (with_reducible first | apply EC.seq | apply EC.region | apply EC.skip | apply EC.block | apply EC.ret | apply EK.dR | apply EK.aH))
    exact EK.kG rfl rfl rfl
   ·
    by_cases hs : 300 < x.2.length
    ·
     rw [hat (by simp [hs])]
     repeat
      (first
       | (apply au; iterate 3 rfl) | (apply aj; iterate 3 rfl) | (apply aZ; iterate 7 rfl) | (apply aJ; iterate 5 rfl)
       | (apply aU; iterate 4 rfl) | (apply aC (b := true); (iterate 2 rfl); exact aO; iterate 2 rfl)
       | (apply aC (b := false); (iterate 2 rfl); exact aO; iterate 2 rfl) | (apply aS; iterate 4 rfl) | (apply aK; iterate 4 rfl)
       | (apply bI; (iterate 4 rfl); (focus (first | exact ⟨by decide, rfl⟩ | (refine ⟨by omega, ?_⟩; rw [Int.toNat_natCast]; assumption))); iterate 2 rfl) | apply EL.nil
       | ((with_reducible apply EK.ah); apply EK.code) | (apply EC.cond_true; rfl)
       | (with_reducible first | apply EC.seq | apply EC.region | apply EC.skip | apply EC.block | apply EC.ret | apply EK.dR | apply EK.aH))
     exact EK.kG rfl rfl rfl
    ·
     skip
     repeat
      (first
       | (apply au; iterate 3 rfl) | (apply aj; iterate 3 rfl) | (apply aZ; iterate 7 rfl) | (apply aJ; iterate 5 rfl)
       | (apply aU; iterate 4 rfl) | (apply aC (b := true); (iterate 2 rfl); exact aO; iterate 2 rfl)
       | (apply aC (b := false); (iterate 2 rfl); exact aO; iterate 2 rfl) | (apply iZ; (iterate 3 rfl); (focus omega); (focus omega); iterate 2 rfl)
       | (apply aS; iterate 4 rfl) | (apply aK; iterate 4 rfl)
       | (apply bI; (iterate 4 rfl); (focus (first | exact ⟨by decide, rfl⟩ | (refine ⟨by omega, ?_⟩; rw [Int.toNat_natCast]; assumption))); iterate 2 rfl) | apply EL.nil
       | ((with_reducible apply EK.ah); apply EK.code) | (apply EC.cond_true; rfl) | (apply EC.cond_false; rfl)
       | (with_reducible first | apply EC.seq | apply EC.region | apply EC.skip | apply EC.block | apply EK.aI))
     refine EK.again ⟨i + 1, hlt, ?_⟩ (by dsimp only; omega) ?_
     ·
      rw [htk, List.any_append, hno]
      simp [hc, hs]
     ·
      simp only [Int.natCast_add]
      exact Le.kp
  ·
   have hiE : i = l.length := by omega
   subst hiE
   rw [List.take_length] at hno
   rw [hno]
   repeat
    (first
     | (apply au; iterate 3 rfl) | (apply aj; iterate 3 rfl) | (apply aC (b := false); (iterate 2 rfl); exact aO; iterate 2 rfl)
     | (apply aK; iterate 4 rfl) | apply EL.nil | ((with_reducible apply EK.ah); apply EK.code) | (apply EC.cond_false; rfl)
     | (with_reducible first | apply EC.seq | apply EC.region | apply EC.exit | apply EC.ret | apply EK.bG | apply EK.aQ))
   exact EK.kG rfl rfl rfl
theorem PX (key : List UInt8) : zx [] key = [] := rfl
theorem Ns (x : Pr) (l : List Pr) (key : List UInt8) : zx (x :: l) key = if x.1 = key then x.2 else zx l key := by
 unfold zx
 rw [List.find?_cons]
 cases h : (x.1 == key) with
 | true => rw [if_pos (by simpa using h)]
 | false => rw [if_neg (by simpa using h)]
theorem Je (l : List Pr) (key : List UInt8) : Fn 44 [.sl 2 (l.map dPr), .bs key] (· = .val (.bs (zx l key))) := by
 have hml : (l.map dPr).length = l.length := List.length_map _
 refine FnM.toFn ?_
 refine FnM.walk 26 Tryz.func44 rfl Tryz.ntmps44 (by simp) fun X => ?_
 refine EC.lenOf (t := 0) rfl fun hmax => ?_
 unfold maxLen at hmax
 repeat
  (first
   | (apply aj; iterate 3 rfl) | apply EL.nil | ((with_reducible apply EK.ah); apply EK.code) | (with_reducible first | apply EC.seq | apply EC.region | apply EC.block))
 refine EC.loop (ι := {i : Nat // i ≤ l.length ∧ zx l key = zx (l.drop i) key})
  (fun i => ⟨[(5, .val (.v (.int .i64 (i.1 : Int)))), (0, .val (.sl 2 (l.map dPr))), (1, .val (.bs key))], [], []⟩)
  (fun i => l.length - i.1) ⟨0, Nat.zero_le _, rfl⟩ ?_ ?_
 · exact Le.kp
 rintro ⟨i, hi, hg⟩
 dsimp only at hi ⊢
 by_cases hlt : i < l.length
 ·
  have hd : (l.map dPr)[i]? = some (.tup [.bs l[i].1, .bs l[i].2]) := by rw [List.getElem?_map, List.getElem?_eq_getElem hlt]; rfl
  rw [List.drop_eq_getElem_cons hlt, Ns] at hg
  have hb := (jJ l[i].1 key).1
  by_cases hk : l[i].1 = key
  ·
   rw [if_pos hk] at hg
   rw [show (l[i].1 == key) = true by simp [hk]] at hb
   repeat
    (first
     | (apply au; iterate 3 rfl) | (apply aC (b := true); (iterate 2 rfl); exact aO; iterate 2 rfl) | (apply aK; iterate 4 rfl) | apply EL.nil
     | ((with_reducible apply EK.ah); apply EK.code) | (apply EC.cond_true; rfl) | (with_reducible first | apply EC.seq | apply EC.region | apply EC.skip | apply EC.block))
   refine EC.draw 8 (by kernel_rfl) ?_
   simp only [List.take_succ_cons, List.take_zero, List.drop_succ_cons, List.drop_zero]
   repeat
    (first
     | (apply dw; (iterate 4 rfl); exact ⟨by omega, by rw [Int.toNat_natCast]; exact hd⟩; iterate 2 rfl) | (apply aY; iterate 3 rfl) | (apply bZ; iterate 7 rfl)
     | (apply bH; iterate 5 rfl) | (apply Af; iterate 3 rfl) | ((with_reducible apply EH.nil); rfl))
   repeat
    (first
     | (apply dP; (iterate 2 rfl); exact hb; iterate 2 rfl) | (apply bI; (iterate 4 rfl); exact ⟨by omega, by rw [Int.toNat_natCast]; exact hd⟩; iterate 2 rfl)
     | (apply au; iterate 3 rfl) | (apply aj; iterate 3 rfl) | (apply aZ; iterate 7 rfl) | (apply aJ; iterate 5 rfl) | apply EL.nil
     | ((with_reducible apply EK.ah); apply EK.code) | (apply EC.cond_true; rfl) | (with_reducible first | apply EC.seq | apply EC.region | apply EC.ret | apply EK.dR | apply EK.aH))
   exact EK.iG [] rfl rfl (List.nil_sublist _) ⟨by rw [hg], rfl⟩
  ·
   rw [if_neg hk] at hg
   rw [show (l[i].1 == key) = false by simp [hk]] at hb
   repeat
    (first
     | (apply au; iterate 3 rfl) | (apply aC (b := true); (iterate 2 rfl); exact aO; iterate 2 rfl) | (apply aK; iterate 4 rfl) | apply EL.nil
     | ((with_reducible apply EK.ah); apply EK.code) | (apply EC.cond_true; rfl) | (with_reducible first | apply EC.seq | apply EC.region | apply EC.skip | apply EC.block))
   refine EC.draw 8 (by kernel_rfl) ?_
   simp only [List.take_succ_cons, List.take_zero, List.drop_succ_cons, List.drop_zero]
   repeat
    (first
     | (apply dw; (iterate 4 rfl); exact ⟨by omega, by rw [Int.toNat_natCast]; exact hd⟩; iterate 2 rfl) | (apply aY; iterate 3 rfl) | (apply bZ; iterate 7 rfl)
     | (apply bH; iterate 5 rfl) | (apply Af; iterate 3 rfl) | ((with_reducible apply EH.nil); rfl))
   repeat
    (first
     | (apply dP; (iterate 2 rfl); exact hb; iterate 2 rfl) | (apply au; iterate 3 rfl) | (apply aj; iterate 3 rfl)
     | (apply iZ; (iterate 3 rfl); (focus omega); (focus omega); iterate 2 rfl) | apply EL.nil | ((with_reducible apply EK.ah); apply EK.code) | (apply EC.cond_false; rfl)
     | (with_reducible first | apply EC.region | apply EC.skip | apply EK.aI))
   refine EK.again ⟨i + 1, hlt, hg⟩ (by dsimp only; omega) ?_
   simp only [Int.natCast_add]
   exact Le.kp
 ·
  obtain rfl : i = l.length := by omega
  rw [List.drop_length, PX] at hg
  repeat
   (first
    | (apply au; iterate 3 rfl) | (apply aj; iterate 3 rfl) | (apply aC (b := false); (iterate 2 rfl); exact aO; iterate 2 rfl)
    | (apply aK; iterate 4 rfl) | apply EL.nil | ((with_reducible apply EK.ah); apply EK.code) | (apply EC.cond_false; rfl)
    | (with_reducible first | apply EC.seq | apply EC.region | apply EC.exit | apply EC.ret | apply EK.bG | apply EK.aQ))
  exact EK.yF (d' := .bs []) [] rfl rfl RL.a (List.nil_sublist _) ⟨by rw [hg], rfl⟩
theorem Vo {ls : List (List Pr)} (h : Clr ls) {l : List Pr} (hl : l ∈ ls) (he : fQ l = 0) (hn : l ≠ []) : ∃ S, Sn S l := by
 obtain ⟨S, hS, hall⟩ := h
 exact ⟨S, hS, he, hn, hall l hl he⟩
theorem Iw {l : List Pr} (he : fQ l = 0) (hn : l ≠ []) {key : List UInt8} (hk : key.length ≤ 150) : yO l key = uX l key := by
 have hnib : ∀ c ∈ split key, c.toNat < 16 := fun c hc => by have := iU key c hc; omega
 have h := Pe 200 400 (l.map sp) (jM l) (split key) true (CS he hn) (zu he) (IK he) hnib (by rw [dH]; omega)
 unfold yO uX
 rw [if_pos he, h, if_pos rfl, if_neg (by cases l with | nil => exact absurd rfl hn | cons _ _ => exact Bool.false_ne_true)]
 rfl
theorem Kw : fQ [] = 0 := by decide +kernel
theorem Iy (key : List UInt8) : yO [] key = [] := by
 unfold yO
 rw [if_pos Kw]
 have e : jM [] = .nil := by
  unfold jM
  rw [show srt (([] : List Pr).map sp) = [] from List.Perm.eq_nil (fV _), tu]
 rw [e, xB]
theorem Eu : iJ [] = lC := by
 unfold iJ
 rw [if_pos Kw]
 unfold jM
 rw [show srt (([] : List Pr).map sp) = [] from List.Perm.eq_nil (fV _), tu]
 rfl
theorem MR {l : List Pr} (he : fQ l = 0) (h : Clr [l]) {a b : List UInt8} (ha : a.length ≤ 64) (hb : b.length ≤ 64) : vP (iJ l) b (yO l a) = (zx l b, 0) ∨ ∃ e, e ≠ 0 ∧ vP (iJ l) b (yO l a) = ([], e) := by
 by_cases hn : l = []
 ·
  subst hn
  rw [Iy, Eu]
  unfold vP
  rw [if_pos rfl]
  exact .inl rfl
 ·
  obtain ⟨S, hS⟩ := Vo h List.mem_cons_self he hn
  rw [Iw he hn (by omega), ← Sz]
  exact hS.sound (by omega) (hS.mem a)
end E
end Go.Proofs.YtiledgojbpmoiaaGreat
