/-
 Merged: lemmas of this claim.
 Conditions: none.
-/
import Derived.Test.YtaoicebcdmpemaaGreatZB6
import Derived.Carry
import Derived.MapKept
import Derived.Test.YtaoicebcdmpemaaGreatZB2
import Derived.Laws.IdiomCopy
import Derived.Test.YtaoicebcdmpemaaGreatZB0
namespace Go.Proofs.YtaoicebcdmpemaaGreat
set_option linter.unusedVariables false
open Go.RowKit Mono Rlp
namespace E
abbrev Ent := Nat × List UInt8 × D
def dw (es : List Ent) (l : List UInt8) : Bool := es.any fun x => x.2.1 == l
def aX : List Ent → List UInt8 → Option D
 | [], _ => none
 | x :: es, l => if x.2.1 == l then some x.2.2 else aX es l
def kE : List Ent → List UInt8 → D → List Ent
 | [], _, _ => []
 | x :: es, l, d => if x.2.1 == l then (x.1, x.2.1, d) :: es else x :: kE es l d
def kJ (c : Nat) (es : List Ent) (l : List UInt8) (d : D) : List Ent := if dw es l then kE es l d else es ++ [(c, l, d)]
def kC (c : Nat) (es : List Ent) (l : List UInt8) : Nat := if dw es l then c else c + 1
def fO : List Ent → List UInt8 → List Ent
 | [], _ => []
 | x :: es, l => if x.2.1 == l then es else x :: fO es l
theorem eH : ∀ (es : List Ent) (l : List UInt8), dw es l = (aX es l).isSome
 | [], l => rfl
 | x :: es, l => by
  unfold dw aX
  cases h : x.2.1 == l
  ·
   have := eH es l
   unfold dw at this
   simp [h, this]
  · simp [h]
theorem lF : ∀ (es : List Ent) (l : List UInt8), aX es l = none ↔ l ∉ es.map (·.2.1)
 | [], l => by simp [aX]
 | x :: es, l => by
  rw [aX]
  cases h : x.2.1 == l
  ·
   have h1 : x.2.1 ≠ l := by simpa using h
   simp [lF es l, h1.symm]
  ·
   have h1 : x.2.1 = l := by simpa using h
   simp [h1]
theorem qh : ∀ (es : List Ent) (l : List UInt8) (d : D), (kE es l d).map (·.2.1) = es.map (·.2.1)
 | [], l, d => rfl
 | x :: es, l, d => by
  rw [kE]
  split
  · rfl
  · simp [qh es l d]
theorem jS : ∀ (es : List Ent) (l : List UInt8) (d : D), (kE es l d).map (·.1) = es.map (·.1)
 | [], l, d => rfl
 | x :: es, l, d => by
  rw [kE]
  split
  · rfl
  · simp [jS es l d]
theorem qB : ∀ (es : List Ent) (l k : List UInt8) (d : D), aX (kE es l d) k = if l = k ∧ dw es l then some d else aX es k
 | [], l, k, d => by simp [kE, aX, dw]
 | x :: es, l, k, d => by
  rw [kE]
  cases h : x.2.1 == l
  ·
   have h1 : ¬ x.2.1 = l := by simpa using h
   rw [if_neg (by simp), aX, qB es l k d, aX]
   unfold dw
   rw [List.any_cons, h, Bool.false_or]
   cases h2 : x.2.1 == k
   · simp
   ·
    have h3 : x.2.1 = k := by simpa using h2
    have h4 : ¬ l = k := fun e => h1 (h3.trans e.symm)
    simp [h4]
  ·
   have h1 : x.2.1 = l := by simpa using h
   rw [if_pos (by simp), aX, aX]
   unfold dw
   rw [List.any_cons, h, Bool.true_or]
   subst h1
   by_cases h2 : x.2.1 = k
   · simp [h2]
   · simp [h2]
theorem lY : ∀ (es : List Ent) (c : Nat) (l k : List UInt8) (d : D), aX (es ++ [(c, l, d)]) k = match aX es k with
  | some y => some y
  | none => if l = k then some d else none
 | [], c, l, k, d => by simp [aX]
 | x :: es, c, l, k, d => by
  rw [Ko, aX, lY es c l k d, aX]
  split <;> rfl
theorem zG (c : Nat) (es : List Ent) (l k : List UInt8) (d : D) : aX (kJ c es l d) k = if l = k then some d else aX es k := by
 unfold kJ
 cases h : dw es l
 ·
  rw [if_neg (by simp), lY]
  by_cases h1 : l = k
  ·
   subst h1
   have : aX es l = none := by
    rw [eH] at h
    simpa using h
   rw [this]
  ·
   simp [h1]
   cases aX es k <;> rfl
 ·
  rw [if_pos rfl, qB, h]
  simp
theorem jq : ∀ (es : List Ent) (l : List UInt8), (fO es l).Sublist es
 | [], l => Lc _
 | x :: es, l => by
  rw [fO]
  split
  · exact MH _ _
  · exact (jq es l).cons_cons x
theorem qC : ∀ (es : List Ent) (l k : List UInt8), (es.map (·.2.1)).Nodup → aX (fO es l) k = if l = k then none else aX es k
 | [], l, k, _ => by simp [fO, aX]
 | x :: es, l, k, hn => by
  simp only [KD, ML] at hn
  rw [fO]
  cases h : x.2.1 == l
  ·
   have h1 : ¬ x.2.1 = l := by simpa using h
   rw [if_neg (by simp), aX, qC es l k hn.2, aX]
   cases h2 : x.2.1 == k
   · simp
   ·
    have h3 : x.2.1 = k := by simpa using h2
    have h4 : ¬ l = k := fun e => h1 (h3.trans e.symm)
    simp [h4]
  ·
   have h1 : x.2.1 = l := by simpa using h
   rw [if_pos (by simp), aX]
   subst h1
   by_cases h2 : x.2.1 = k
   ·
    subst h2
    rw [if_pos rfl]
    exact (lF es _).2 hn.1
   · simp [h2]
theorem lK.set {c : Nat} {es : List Ent} (h : lK c es) (l : List UInt8) (d : D) : lK c (kE es l d) := by
 refine ⟨by rw [qh]; exact h.keys, by rw [jS]; exact h.borns, fun x hx => ?_⟩
 have : x.1 ∈ (kE es l d).map (·.1) := KI.2 ⟨x, hx, rfl⟩
 rw [jS] at this
 obtain ⟨y, hy, e⟩ := KI.1 this
 rw [← e]
 exact h.lt y hy
theorem lK.put {c : Nat} {es : List Ent} (h : lK c es) (l : List UInt8) (d : D) : lK (kC c es l) (kJ c es l d) := by
 unfold kC kJ
 cases hh : dw es l
 ·
  have hn : l ∉ es.map (·.2.1) := by
   rw [eH] at hh
   exact (lF es l).1 (by simpa using hh)
  refine ⟨?_, ?_, fun x hx => ?_⟩
  ·
   simp only [LP, if_false, LG, KD, KU]
   refine MW.2 ⟨h.keys, by simp, fun a ha b hb e => ?_⟩
   simp only [Kz, List.not_mem_nil, or_false] at hb
   subst e hb
   exact hn ha
  ·
   simp only [LP, if_false, LG, KD, KU]
   refine MW.2 ⟨h.borns, by simp, fun a ha b hb e => ?_⟩
   simp only [Kz, List.not_mem_nil, or_false] at hb
   subst e hb
   obtain ⟨y, hy, e⟩ := KI.1 ha
   have := h.lt y hy
   omega
  ·
   simp only [LP, if_false] at hx ⊢
   rcases Lh.1 hx with hx | hx
   ·
    have := h.lt x hx
    omega
   ·
    simp only [Kz, List.not_mem_nil, or_false] at hx
    subst hx
    simp
 ·
  simp only [if_true]
  exact h.set l d
theorem lK.del {c : Nat} {es : List Ent} (h : lK c es) (l : List UInt8) : lK c (fO es l) :=
 ⟨h.keys.sublist ((jq es l).map _), h.borns.sublist ((jq es l).map _), fun x hx => h.lt x ((jq es l).subset hx)⟩
theorem lK.nil : lK 0 [] := ⟨List.nodup_nil, List.nodup_nil, fun x h => by cases h⟩
section
variable {K n : Nat} {ok : Nat → Prop} {w : World}
theorem jG (hK : sS K n) (em : Bool) (d : Nat) (l : List UInt8) (hl : l.length = n) : (Instr.checkKey em (d + 2) K (bg l)).run Tryz.prog w = .ok () w := by
 obtain ⟨e, ht, he, hsz⟩ := hK.get
 rw [Instr.checkKey]
 unfold bg
 simp only [Kq, run_underlying ht, J6, Std.Legacy.Range.forIn_eq_forIn_range', Std.Legacy.Range.size, Nat.sub_zero, Nat.add_sub_cancel, Nat.div_one]
 have hlt : ∀ i ∈ List.range' 0 n 1, i < n := fun i hi => by simpa using (List.mem_range'_1.1 hi).2
 generalize List.range' 0 n 1 = is at hlt ⊢
 induction is with
 | nil => simp
 | cons i is ih =>
  have hi : i < n := hlt i (by simp)
  have px : (part e (bvs l).toArray (i * 1)).run Tryz.prog w = .ok (bv (l.getD i 0)) w := by
   simp [part, isAgg, run_underlying he, List.getD, bvs, List.getElem?_eq_getElem (show i < l.length by omega)]
  have pc : (Instr.checkKey em (d + 1) e (bv (l.getD i 0))).run Tryz.prog w = .ok () w := by
   rw [Instr.checkKey]
   simp [run_underlying he, bv]
  simp only [List.forIn_cons, Kq, hsz, px, pc, J6, Ku]
  exact ih fun j hj => hlt j (by simp [hj])
theorem dG (hK : sS K n) (em : Bool) (l : List UInt8) (hl : l.length = n) : (Instr.checkKey em 10000 K (bg l)).run Tryz.prog w = .ok () w := jG hK em 9998 l hl
def hit (l : List UInt8) : List MapEntry → List Ent → Nat → Option (Nat × Value)
 | e :: arr, x :: es, i => if l == x.2.1 then some (i, e.val) else hit l arr es (i + 1)
 | _, _, _ => none
theorem iY (hK : sS K n) (l : List UInt8) (hl : l.length = n) : ∀ (arr : List MapEntry) (es : List Ent) (i : Nat), dY (jQ ok w n) arr es → (Instr.findAsking K (bg l) arr i).run Tryz.prog w = .ok (hit l arr es i) w
 | [], [], i, _ => by simp [Instr.findAsking, hit]
 | e :: arr, x :: es, i, .cons h1 h2 => by
  obtain ⟨e', ht, he, hsz⟩ := hK.get
  have heq : (Op.equal K (bg l) e.key).run Tryz.prog w = .ok (l == x.2.1) w := by
   rw [h1.key]
   exact CZ ht he hsz w l x.2.1 hl h1.len
  rw [Instr.findAsking, Kq, heq, J6, hit]
  cases l == x.2.1
  · simpa using iY hK l hl arr es (i + 1) h2
  · simp
theorem run_findKey (hK : sS K n) (l : List UInt8) (hl : l.length = n) (arr : List MapEntry) (es : List Ent) (h : dY (jQ ok w n) arr es) : (Instr.findKey K (bg l) arr).run Tryz.prog w = .ok (hit l arr es 0) w := by
 obtain ⟨e', ht, he, hsz⟩ := hK.get
 unfold Instr.findKey
 rw [Kq, run_underlying ht, J6]
 cases h with
 | nil => simp [Instr.findNow, hit]
 | @cons e x arr es h1 h2 =>
  have : Instr.findNow (.array n e') (bg l) (e :: arr) 0 = none := by
   unfold Instr.findNow bg
   rw [h1.key]
   rfl
  rw [this]
  exact iY hK l hl _ _ 0 (.cons h1 h2)
theorem yB : ∀ (arr : List MapEntry) (es : List Ent) (i : Nat) (l : List UInt8), dY (jQ ok w n) arr es →
  match hit l arr es i with
  | some (j, v) => ∃ k d, j = i + k ∧ aX es l = some d ∧ aP ok w d v ∧ ∃ e x, arr[k]? = some e ∧ es[k]? = some x ∧ e.val = v ∧ x.2.1 = l
  | none => aX es l = none
 | [], [], i, l, _ => by simp [hit, aX]
 | e :: arr, x :: es, i, l, .cons h1 h2 => by
  rw [hit, aX]
  by_cases h : l = x.2.1
  ·
   subst h
   simp only [beq_self_eq_true, if_true]
   exact ⟨0, x.2.2, rfl, rfl, h1.val, e, x, rfl, rfl, rfl, rfl⟩
  ·
   rw [if_neg (by simpa using h), if_neg (by simpa using fun e => h e.symm)]
   have := yB arr es (i + 1) l h2
   cases hh : hit l arr es (i + 1) with
   | none => rw [hh] at this; exact this
   | some p =>
    rw [hh] at this
    obtain ⟨k, d, e1, e2, e3, e', x', e4, e5, e6, e7⟩ := this
    exact ⟨k + 1, d, by omega, e2, e3, e', x', by simpa using e4, by simpa using e5, e6, e7⟩
theorem nD {T E g c : Nat} {base : Nat → Prop} {es : List Ent} {dz : D} (hT : Tryz.prog.underlying T = some (.map K E)) (hK : sS K n) (hz : vK E dz) (h : Obj.At base ok w (.map g n c es)) (l : List UInt8) (hl : l.length = n) (cok : Bool) :
  ∃ v, (Instr.lookup T (.map (some g)) (bg l) cok).run Tryz.prog w = .ok (if cok then .tuple #[v, .bool (aX es l).isSome] else v) w ∧ aP ok w ((aX es l).getD dz) v := by
 obtain ⟨_, _, arr, hw, hf⟩ := h
 obtain ⟨z, hz1, hz2⟩ := hz.get
 have hg := yB arr.toList es 0 l hf
 have hk := run_findKey hK l hl arr.toList es hf
 unfold Instr.lookup
 simp only [Kq, run_underlying hT, J6, LX hw, Ku, dG hK _ l hl, hk]
 cases hh : hit l arr.toList es 0 with
 | none =>
  rw [hh] at hg
  dsimp only at hg
  refine ⟨z, ?_, by rw [hg]; exact hz2 _ _⟩
  simp [hg, hz1]
 | some p =>
  rw [hh] at hg
  obtain ⟨k, d, e1, e2, e3, _⟩ := hg
  refine ⟨p.2, ?_, by rw [e2]; exact e3⟩
  simp [e2]
theorem nC (k : Nat) (l : List UInt8) : Instr.sameBits (k + 1) (bg l) (bg l) = true := by
 unfold bg Instr.sameBits
 simp only [beq_self_eq_true, Bool.true_and, KQ]
 intro p hp
 obtain ⟨x, y⟩ := p
 have hxy : x = y ∧ x ∈ bvs l := by
  have : ∀ m : List Value, (x, y) ∈ m.zip m → x = y ∧ x ∈ m := by
   intro m
   induction m with
   | nil => intro h; simp at h
   | cons z m ih =>
    intro h
    rw [List.zip_cons_cons] at h
    rcases Kz.1 h with h | h
    ·
     cases h
     simp
    ·
     obtain ⟨h1, h2⟩ := ih h
     exact ⟨h1, KC _ h2⟩
  exact this _ (by simpa using hp)
 obtain ⟨rfl, hx⟩ := hxy
 obtain ⟨b, _, rfl⟩ := KI.1 hx
 cases k <;> simp [bv, Instr.sameBits]
theorem l9 {α β : Type} {R : α → β → Prop} {a : α} {b : β} (h : R a b) : ∀ {l : List α} {m : List β} (i : Nat), dY R l m → dY R (l.set i a) (m.set i b)
 | [], [], i, _ => by simpa using dY.nil
 | x :: l, y :: m, 0, .cons h1 h2 => .cons h h2
 | x :: l, y :: m, i + 1, .cons h1 h2 => .cons h1 (l9 h i h2)
theorem jl {α β : Type} {R : α → β → Prop} : ∀ {l : List α} {m : List β} {l' : List α} {m' : List β}, dY R l m → dY R l' m' → dY R (l ++ l') (m ++ m')
 | [], [], l', m', _, h => h
 | x :: l, y :: m, l', m', .cons h1 h2, h => .cons h1 (jl h2 h)
theorem jM {α β : Type} {R : α → β → Prop} : ∀ {l : List α} {m : List β} (i : Nat), dY R l m → dY R (l.eraseIdx i) (m.eraseIdx i)
 | [], [], i, _ => by simpa using dY.nil
 | x :: l, y :: m, 0, .cons h1 h2 => h2
 | x :: l, y :: m, i + 1, .cons h1 h2 => .cons h1 (jM i h2)
theorem xB : ∀ (arr : List MapEntry) (es : List Ent) (i : Nat) (l : List UInt8), dY (jQ ok w n) arr es →
  match hit l arr es i with
  | some (j, v) => dw es l = true ∧ ∃ k e x, j = i + k ∧ arr[k]? = some e ∧ es[k]? = some x ∧ x.2.1 = l ∧ (∀ d, kE es l d = es.set k (x.1, x.2.1, d)) ∧ fO es l = es.eraseIdx k
  | none => dw es l = false ∧ fO es l = es
 | [], [], i, l, _ => by simp [hit, dw, fO]
 | e :: arr, x :: es, i, l, .cons h1 h2 => by
  rw [hit]
  by_cases h : l = x.2.1
  ·
   subst h
   simp only [beq_self_eq_true, if_true]
   exact ⟨by simp [dw], 0, e, x, rfl, rfl, rfl, rfl, fun d => by simp [kE], by simp [fO]⟩
  ·
   rw [if_neg (by simpa using h)]
   have h' : (x.2.1 == l) = false := by simpa using fun e => h e.symm
   have := xB arr es (i + 1) l h2
   cases hh : hit l arr es (i + 1) with
   | none =>
    rw [hh] at this
    refine ⟨?_, ?_⟩
    ·
     unfold dw
     rw [List.any_cons, h']
     exact this.1
    · rw [fO, h', if_neg (by simp), this.2]
   | some p =>
    rw [hh] at this
    obtain ⟨e0, k, e', x', e1, e2, e3, e4, e5, e6⟩ := this
    refine ⟨?_, k + 1, e', x', by omega, by simpa using e2, by simpa using e3, e4, fun d => ?_, ?_⟩
    ·
     unfold dw
     rw [List.any_cons, h']
     exact e0
    ·
     rw [kE, h', if_neg (by simp), e5 d]
     rfl
    ·
     rw [fO, h', if_neg (by simp), e6]
     rfl
theorem eP {g : Nat} {o o' : Go.Obj} (hg : w.heap[g]? = some o) : w.grownBy { w with heap := w.heap.setIfInBounds g o' } (some g) := ⟨rfl, rfl, rfl, by simp, fun k hk hne => by
 simp only [MG]
 rw [if_neg fun e => hne (by rw [e])]⟩
theorem jk {α β : Type} {R : α → β → Prop} : ∀ {l : List α} {m : List β} {k : Nat} {a : α} {b : β}, dY R l m → l[k]? = some a → m[k]? = some b → R a b
 | x :: l, y :: m, 0, a, b, .cons h1 h2, ha, hb => by
  cases ha
  cases hb
  exact h1
 | x :: l, y :: m, k + 1, a, b, .cons h1 h2, ha, hb => jk h2 (by simpa using ha) (by simpa using hb)
theorem oV {g : Nat} {o' : Go.Obj} (hg : ¬ ok g) (p : Addr) (hp : ok p.block) : World.cell? { w with heap := w.heap.setIfInBounds g o' } p = w.cell? p := World.cell?_of_block (by
 simp only [MG]
 rw [if_neg fun e => hg (by rw [e]; exact hp)])
theorem heap_put {g : Nat} {o o' : Go.Obj} (hg : w.heap[g]? = some o) : ({ w with heap := w.heap.setIfInBounds g o' } : World).heap[g]? = some o' := by
 have := lt_of_some hg
 simp [this]
theorem pR {T E g c : Nat} {base : Nat → Prop} {es : List Ent} {d : D} {v : Value} (hT : Tryz.prog.underlying T = some (.map K E)) (hK : sS K n) (h : Obj.At base ok w (.map g n c es)) (l : List UInt8) (hl : l.length = n) (hv : aP ok w d v) (hg : ¬ ok g) :
  ∃ w', (Instr.mapUpdate T (.map (some g)) (bg l) v).run Tryz.prog w = .ok () w' ∧ w.grownBy w' (some g) ∧ Obj.At base ok w' (.map g n (kC c es l) (kJ c es l d)) := by
 obtain ⟨hb, hE, arr, hw, hf⟩ := h
 have hx := xB arr.toList es 0 l hf
 have hk := run_findKey hK l hl arr.toList es hf
 have hE' := hE.put l d
 have hf' := fun (o' : Go.Obj) => fP (fun e x h => jQ.mono (w' := { w with heap := w.heap.setIfInBounds g o' }) h (fun _ h => h) (oV hg)) hf
 have hv' := fun (o' : Go.Obj) => aP.mono (w' := { w with heap := w.heap.setIfInBounds g o' }) (fun _ h => h) (oV hg) hv
 unfold Instr.mapUpdate
 simp only [Kq, run_underlying hT, J6, LX hw, dG hK _ l hl, hk]
 cases hh : hit l arr.toList es 0 with
 | none =>
  rw [hh] at hx
  obtain ⟨h1, _⟩ := hx
  refine ⟨{ w with heap := w.heap.setIfInBounds g (.map (arr.push { key := bg l, val := v, born := c }) (c + 1)) }, LY _ hw, eP hw, hb, hE', arr.push { key := bg l, val := v, born := c }, ?_, ?_⟩
  ·
   simp only [kC, h1]
   exact heap_put hw
  ·
   simp only [kJ, h1, LP, if_false, Array.toList_push]
   exact jl (hf' _) (.cons ⟨rfl, rfl, hl, hv' _⟩ .nil)
 | some p =>
  rw [hh] at hx
  obtain ⟨h1, k, e, x, e1, e2, e3, e4, e5, _⟩ := hx
  obtain ⟨j, u⟩ := p
  obtain rfl : j = k := by simpa using e1
  have hek : e.key = bg l := by rw [(jk hf e2 e3).key, e4]
  have e2' : arr[j]? = some e := by simpa using e2
  refine ⟨{ w with heap := w.heap.setIfInBounds g (.map (arr.modify j fun e => { e with key := bg l, val := v }) c) }, ?_, eP hw, hb, hE', arr.modify j (fun e => { e with key := bg l, val := v }), ?_, ?_⟩
  · simp only [e2', Nk, Option.getD_some, hek, Instr.keyThatStays, nC 9999 l, if_true, Kq, Ku, J6, LY _ hw]
  ·
   simp only [kC, h1, if_true]
   exact heap_put hw
  ·
   simp only [kJ, h1, if_true, e5 d, Array.toList_modify]
   have hset : arr.toList.modify j (fun e => { e with key := bg l, val := v }) = arr.toList.set j { e with key := bg l, val := v } := by
    rw [List.modify_eq_set, e2]
    rfl
   rw [hset]
   have he := jk (hf' (.map (arr.modify j fun e => { e with key := bg l, val := v }) c)) e2 e3
   exact l9 ⟨he.born, by rw [e4], he.len, hv' _⟩ j (hf' _)
theorem wz {T U E g c : Nat} {base : Nat → Prop} {es : List Ent} (ty : TypeId) (hT : Tryz.prog.underlying T = some (.map K E)) (hK : sS K n) (h : Obj.At base ok w (.map g n c es)) (l : List UInt8) (hl : l.length = n) (hg : ¬ ok g) :
  ∃ w', (Builtin.delete_ #[T, U] ty #[.map (some g), bg l]).run Tryz.prog w = .ok (.tuple #[]) w' ∧ w.grownBy w' (some g) ∧ Obj.At base ok w' (.map g n c (fO es l)) := by
 obtain ⟨hb, hE, arr, hw, hf⟩ := h
 have hx := xB arr.toList es 0 l hf
 have hk := run_findKey hK l hl arr.toList es hf
 have hE' := hE.del l
 have hf' := fun (o' : Go.Obj) => fP (fun e x h => jQ.mono (w' := { w with heap := w.heap.setIfInBounds g o' }) h (fun _ h => h) (oV hg)) hf
 have hstart : (Builtin.delete_ #[T, U] ty #[.map (some g), bg l]).run Tryz.prog w = ((match hit l arr.toList es 0 with
   | some (i, _) => setObj g (.map (arr.eraseIdxIfInBounds i) c)
   | none => setObj g (.map arr c) : Sem Unit).run Tryz.prog w).andThen fun _ w' => .ok (.tuple #[]) w' := by
  unfold Builtin.delete_
  simp only [MK, KT, KZ, Kq, run_underlying hT, J6, LX hw, dG hK _ l hl, hk]
  cases hit l arr.toList es 0 <;> simp only [Kq] <;> rfl
 rw [hstart]
 cases hh : hit l arr.toList es 0 with
 | none =>
  rw [hh] at hx
  refine ⟨{ w with heap := w.heap.setIfInBounds g (.map arr c) }, ?_, eP hw, hb, hE', arr, heap_put hw, ?_⟩
  · simp only [LY _ hw, J6]
  ·
   rw [hx.2]
   exact hf' _
 | some p =>
  rw [hh] at hx
  obtain ⟨h1, k, e, x, e1, e2, e3, e4, _, e5⟩ := hx
  obtain ⟨j, u⟩ := p
  obtain rfl : j = k := by simpa using e1
  refine ⟨{ w with heap := w.heap.setIfInBounds g (.map (arr.eraseIdxIfInBounds j) c) }, ?_, eP hw, hb, hE', arr.eraseIdxIfInBounds j, heap_put hw, ?_⟩
  · simp only [LY _ hw, J6]
  ·
   rw [e5]
   have : (arr.eraseIdxIfInBounds j).toList = arr.toList.eraseIdx j := by simp
   rw [this]
   exact jM j (hf' _)
theorem wu {T g c : Nat} {E : Nat} {base : Nat → Prop} {es : List Ent} (ty : TypeId) (hT : Tryz.prog.underlying T = some (.map K E)) (h : Obj.At base ok w (.map g n c es)) :
  (Builtin.len_ #[T] ty #[.map (some g)]).run Tryz.prog w = .ok (.int .i64 es.length) w := by
 obtain ⟨hb, hE, arr, hw, hf⟩ := h
 have hl : arr.toList.length = es.length := by
  clear hw hE
  generalize arr.toList = m at hf
  induction hf with
  | nil => rfl
  | cons _ _ ih => simp [ih]
 unfold Builtin.len_
 simp only [MK, KT, Kq, run_underlying hT, J6, LX hw, Ku]
 rw [← hl]
 rfl
end
section
variable {N : Nat} {X : Cx N} {S S' : St} {ops : Array Oper} {o : Oper} {Q : Exit → Act → World → Prop} {l : List Oper} {T : St → List Fr → Prop} {EE : List Fr} {rs : List (Tmp × R)} {os : List Obj} {fs : List (Value × D)} {fn : Func} {Φ : R → Prop} {w : World}
variable {t ty : Nat} {pos : String} {af : Array Edge} {gd : Option (Nat × Bool)}
theorem Refine1.gJ {ok : Nat → Prop} {F : List (Value × D)} (hF : ∀ f ∈ F, Reads ok w f.2 [f.1]) {d d' : D} {x : Value} (h : aj F [d] [d']) (hr : aP ok w d x) : aP ok w d' x := by
 have := aj.nN hF [d] [d'] [x] h ⟨x, [], rfl, hr, rfl⟩
 obtain ⟨y, rest, e, h1, _⟩ := this
 cases e
 exact h1
theorem aj.cons {F : List (Value × D)} {d d' : D} {ds ds' : List D} (h : aj F (d :: ds) (d' :: ds')) : aj F [d] [d'] ∧ aj F ds ds' := by
 rw [aj] at h
 obtain ⟨_, _, e, h1, h2⟩ := h
 cases e
 refine ⟨?_, h2⟩
 rw [aj]
 exact ⟨_, _, rfl, h1, by rw [aj]⟩
theorem EK.Ja {t u : Tmp} {d e d' e' : D} (hres : fn.results = #[.tmp t, .tmp u]) (hl : look S.regs t = some (.val d)) (hk : look S.regs u = some (.val e)) (hR : aj S.facts [d, e] [d', e']) (hΦ : Φ (.tpl [d', e'])) : EK X (bodyPost Tryz.prog fn (Out X Φ) .ret) S := by
 constructor
 intro a w ha
 obtain ⟨h1, h2⟩ := hR.cons
 exact bodyPost_ret (results_tmp2 hres a.tmps Tryz.prog w) ha.defers ⟨ha.mem.gr, _, _, rfl, hΦ, [a.tmps.getD t undef, a.tmps.getD u undef], rfl, _, _, rfl, aP.mono (fun b hb => ⟨hb.1, hb.2.1⟩) (fun _ _ => rfl) (Refine1.gJ ha.mem.fact h1 (ha.regs t _ hl)), _, _, rfl, aP.mono (fun b hb => ⟨hb.1, hb.2.1⟩) (fun _ _ => rfl) (Refine1.gJ ha.mem.fact h2 (ha.regs u _ hk)), rfl⟩
theorem EK.AO {p : Tmp} {g ty : Nat} {t : TypeId} {d d' : D} (i : Nat) (hres : fn.results = #[.cell p ty]) (hl : look S.regs p = some (.val (.v (.pointer (some ⟨g, 0, none⟩))))) (hi : S.objs[i]? = some (.var g t d)) (hT : assoc tyL ty = some (d.size, d.agg)) (hR : aj S.facts [d] [d']) (hΦ : Φ (.val d')) : EK X (bodyPost Tryz.prog fn (Out X Φ) .ret) S := by
 constructor
 intro a w ha
 obtain ⟨x, h1, h2⟩ := nG ha.mem hi (tyI hT)
 have hp := (ay.1 (ha.regs p _ hl)).2
 have hp' : a.tmps[p]?.getD undef = .pointer (some ⟨g, 0, none⟩) := by simpa using hp
 refine bodyPost_ret (v := x) ?_ ha.defers ⟨ha.mem.gr, _, _, rfl, hΦ, aP.mono (fun b hb => ⟨hb.1, hb.2.1⟩) (fun _ _ => rfl) (Refine1.gJ ha.mem.fact hR h2)⟩
 simp [results, hres, hp', asAddr, h1]
theorem RL.nil {F : List (Value × D)} : aj F [] [] := by rw [aj]
theorem RL.cons {F : List (Value × D)} {d d' : D} {ds ds' : List D} (h : Refine F d d') (k : aj F ds ds') : aj F (d :: ds) (d' :: ds') := by
 rw [aj]
 exact ⟨d', ds', rfl, h, k⟩
theorem Rf.same {F : List (Value × D)} {d : D} : Refine F d d := by
 have := aj.refl F [d]
 rw [aj] at this
 obtain ⟨_, _, e, h, _⟩ := this
 cases e
 exact h
theorem Rf.bs0 {F : List (Value × D)} : Refine F (.v (.slice none 0 0)) (.bs []) := by
 rw [Refine]
 exact .inr (.inr ⟨rfl, .inl rfl⟩)
theorem Rf.sl0 {F : List (Value × D)} {z : Nat} : Refine F (.v (.slice none 0 0)) (.sl z []) := by
 rw [Refine]
 exact .inr (.inr ⟨rfl, .inr ⟨z, rfl⟩⟩)
theorem Rf.fact {F : List (Value × D)} {x : Value} {d : D} (h : (x, d) ∈ F) (hd : d.agg = false) : Refine F (.v x) d := by
 rw [Refine]
 exact .inr (.inl ⟨h, hd⟩)
theorem Rf.tup {F : List (Value × D)} {ds ds' : List D} (h : aj F ds ds') : Refine F (.tup ds) (.tup ds') := by
 rw [Refine]
 exact ⟨ds', rfl, h⟩
theorem Le.keep {rs' : List (Tmp × R)} {os' : List Obj} {fs' : List (Value × D)} (hr : Sub rs rs') (ho : os'.Sublist os) (hf : ∀ f ∈ fs', f ∈ fs) : Le X ⟨rs, os, fs⟩ ⟨rs', os', fs'⟩ := Le.less ho hf hr
theorem RL.a {F : List (Value × D)} {ds ds' : List D} (h : aj F ds ds' := by (repeat first | exact aj.refl _ _ | exact RL.nil | exact Rf.same | exact Rf.bs0 | exact Rf.sl0 | (apply Rf.fact; (focus (simp; done)); rfl) | apply Rf.tup | apply RL.cons); first | done | fail) : aj F ds ds' := h
theorem Le.kp {rs' : List (Tmp × R)} {os' : List Obj} {fs' : List (Value × D)} (hr : Sub rs rs' := by (repeat first | exact trivial | refine ⟨rfl, ?_⟩); first | done | fail) (ho : os'.Sublist os := by (repeat first | exact Kr _ | apply List.Sublist.cons_cons | apply List.Sublist.cons); first | done | fail) (hf : ∀ f ∈ fs', f ∈ fs := by simp) : Le X ⟨rs, os, fs⟩ ⟨rs', os', fs'⟩ := Le.less ho hf hr
theorem I.a {α : Type} {a : α} {m : List α} {i : Nat} (h : m[i]? = some a := by first | exact I0 | exact I1 | exact I2 | exact I3 | exact I4 | exact I5 | exact I6) : m[i]? = some a := h
theorem Fe {op : BinOp} {x y : Int} {b : Bool} (h : kT op x y = some b := by first | (simp [kT]; done) | (simp [kT]; omega)) : kT op x y = some b := h
theorem enA {f : FuncId} (h : Enters f := by intro _ _; simp [go_sem]) : Enters f := h
end
theorem ixA {p q : Prop} (h : p ∧ q := by (first | exact ⟨by decide, rfl⟩ | (refine ⟨by omega, ?_⟩; rw [KX]; assumption)); done) : p ∧ q := h
theorem saA {p : Prop} (h : p := by (repeat first | exact .z | apply jP.s | apply jY.s); done) : p := h
structure FnA (f : FuncId) (ds : List D) (Φ : R → Prop) : Prop where
 go : ∀ (w : World) (xs : List Value), bC (fun b => b < w.heap.size) w ds xs →
  Calls Tryz.prog f xs.toArray w fun e w' => Gr w w' ∧ ∃ v r, e = .returned v ∧ Φ r ∧ aC (fun b => b < w'.heap.size) w' r v
theorem Fn.all {f : FuncId} {ds : List D} {Φ : R → Prop} (h : Fn f ds Φ) : FnA f ds Φ := ⟨fun w xs hr => (h.go _ w xs (fun _ hb => hb) hr).mono fun e w' ⟨h1, v, r, h2, h3, h4⟩ => ⟨h1, v, r, h2, h3, h4.mono (fun b hb => hb.2) fun _ _ => rfl⟩⟩
theorem FnA.mono {f : FuncId} {ds : List D} {Φ Ψ : R → Prop} (h : FnA f ds Φ) (k : ∀ r, Φ r → Ψ r) : FnA f ds Ψ := ⟨fun w xs hr => (h.go w xs hr).mono fun e w' ⟨h1, v, r, h2, h3, h4⟩ => ⟨h1, v, r, h2, k r h3, h4⟩⟩
def All {N : Nat} (X : Cx N) : Prop := ∀ b, b < X.w0.heap.size → X.ok0 b
section
variable {N : Nat} {X : Cx N} {S : St} {ops : Array Oper} {o : Oper} {Q : Exit → Act → World → Prop} {l : List Oper} {rs : List (Tmp × R)} {os : List Obj} {fs : List (Value × D)}
theorem FnA.walk {f : FuncId} {fn : Func} {c : Code} {ds : List D} {Φ : R → Prop} (N : Nat) (hf : Tryz.prog.funcs[f]? = some fn) (hb : fn.body = some c) (hN : fn.ntmps = N) (hl : ds.length ≤ N)
  (h : ∀ X : Cx N, All X → EC X (bodyPost Tryz.prog fn (Out X Φ)) c ⟨jd 0 ds, [], []⟩) : FnA f ds Φ := by
 constructor
 intro w xs hr
 have hxl := fE ds xs hr
 refine Calls.mono (calls_of_wp hf hb ((h ⟨w, fun b => b < w.heap.size, fun _ => False, fun _ hb => hb⟩ fun _ hb => hb).go _ w ⟨⟨.refl w, List.Pairwise.nil, (fun o ho => by cases ho), (fun f hf => by cases hf)⟩, fun t r ht => ?_, ?_, rfl⟩)) ?_
 ·
  refine gI ds xs 0 _ (bC.mono (fun b hb => ⟨.inl hb, hb, (fun o ho => by cases ho)⟩) (fun _ _ => rfl) ds xs hr) (fun j x hx => ?_) t r ht
  have hj := (Kw.1 hx).1
  have : (xs.toArray ++ Array.replicate (fn.ntmps - xs.toArray.size) undef)[j]? = some x := by
   rw [MO (by simpa using hj)]
   simpa using hx
  rw [KJ, MI, this]
  rfl
 ·
  simp [hN]
  omega
 ·
  rintro e w' ⟨h1, v, r, h2, h3, h4⟩
  exact ⟨h1.gr (fun _ h => h), v, r, h2, h3, h4.mono (fun b hb => hb.2) fun _ _ => rfl⟩
theorem Le.pin {p : Tmp} {g : Nat} {t : TypeId} {d : D} {pre post : List Obj} (hl : look S.regs p = some (.val (.v (.pointer (some ⟨g, 0, none⟩))))) (ho : S.objs = pre ++ .var g t d :: post) : Le X S ⟨(p, .val (.pd d)) :: S.regs, pre ++ post, S.facts⟩ := by
 intro a w h
 have hm := h.mem
 rw [ho] at hm
 have hsub : (pre ++ post).Sublist S.objs := by rw [ho]; exact List.Sublist.append (Lc _) (MH _ _)
 have hl' : At X ⟨S.regs, pre ++ post, S.facts⟩ a w := ⟨h.mem.less hsub (fun _ hf => hf), fun t r ht => aC.mono (fun b hb => ⟨hb.1, hb.2.1, fun o hm => hb.2.2 o (hsub.subset hm)⟩) (fun _ _ => rfl) (h.regs t r ht), h.size, h.defers⟩
 refine ⟨hl'.mem, fun u r hu => ?_, hl'.size, hl'.defers⟩
 rw [look] at hu
 split at hu
 ·
  rename_i e
  cases hu
  subst e
  obtain ⟨h1, cs, h2, h3⟩ := hm.at_ (.var g t d) (by simp)
  have hp := (ay.1 (h.regs _ _ hl)).2
  rw [hp]
  refine (aI rfl).2 ?_
  rw [Reads]
  refine ⟨g, 0, cs, rfl, ⟨.inr h1, lt_of_some h2, fun q hq => ?_⟩, dA h2, Reads.mono (fun b hb => ⟨hb.1, hb.2.1, fun o hm => hb.2.2 o (by
   rcases Lh.1 hm with hm | hm
   · simp [hm]
   · simp [hm])⟩) (fun _ _ => rfl) _ _ h3⟩
  have hap := hm.apart
  rcases Lh.1 hq with hq | hq
  · exact fun e => (Lj.1 hap).2.2 q hq _ (Kt) g e rfl
  · exact (KR.1 (Lj.1 hap).2.1).1 q hq g rfl
 · exact hl'.regs u r hu
end
def Jb : Inf → List (Obj × Obj)
 | .put p q => [(p, q)]
 | _ => []
def EMS (N : Nat) (ops : Array Oper) (T : St → List Fr → Prop) : List Oper → List (Obj × Obj) → St → List Fr → Prop
 | [], ps, S, E => ps = [] ∧ T S E
 | o :: l, ps, S, E => ∃ (inf : Inf) (ps' : List (Obj × Obj)), ps = Jb inf ++ ps' ∧ dL N o.dst E = true ∧ ((∃ T d, inf = .new T d) → o.dst ≠ none) ∧ OkI N ops S o inf ∧ EMS N ops T l ps' (S.put o.dst inf.reg) (lV E o.dst inf)
section
variable {N : Nat} {X : Cx N} {S S' : St} {a : Act} {w w' : World} {ops : Array Oper} {o : Oper} {Q : Exit → Act → World → Prop} {l : List Oper} {T : St → List Fr → Prop} {E : List Fr} {p q : Obj} {ps : List (Obj × Obj)}
theorem EMS.nil (h : T S E) : EMS N ops T [] [] S E := ⟨rfl, h⟩
theorem EMS.put (hg : guardOf ops S o = some true) (hd : o.dst = none) (hP : Puts ops S o p q) (k : EMS N ops T l ps S E) : EMS N ops T (o :: l) ((p, q) :: ps) S E :=
 ⟨.put p q, ps, rfl, by rw [hd]; rfl, (fun ⟨_, _, e⟩ => by cases e), ⟨hg, hd, hP⟩, by rw [hd]; exact k⟩
theorem EMS.seg {l2 : List Oper} : ∀ (l1 : List Oper) (S : St) (E : List Fr), EM N ops (fun S' E' => EMS N ops T l2 ps S' E') l1 S E → EMS N ops T (l1 ++ l2) ps S E
 | [], S, E, h => h
 | o :: l1, S, E, ⟨inf, h0, h1, h2, h3, h4⟩ => ⟨inf, ps, (by cases inf with
  | put _ _ => cases h0
  | _ => rfl), h1, h2, h3, EMS.seg l1 _ _ h4⟩
theorem EMS.cut (k : Nat) (h : EM N ops (fun S' E' => EMS N ops T (l.drop k) ps S' E') (l.take k) S E) : EMS N ops T l ps S E := by
 have := EMS.seg _ _ _ h
 rwa [LK] at this
structure GP (X : Cx N) (S : St) (infs : List Inf) (ws : World) (F : Nat → Nat → Prop) (L : Nat → Prop) (vs : Nat → Value) (u : World) : Prop where
 gr : GrE (fun b => ∃ (k : Nat) (p q : Obj), infs[k]? = some (.put p q) ∧ p.blk = some b) ws u
 lo : ∀ j, L j → ∀ b, F j b → ws.heap.size ≤ b ∧ b < u.heap.size
 dis : ∀ i j b, L i → L j → i ≠ j → F i b → ¬ F j b
 val : ∀ j i, L j → infs[j]? = some i → (match (generalizing := false) i with
  | .new T d => ∃ g cs, vs j = .pointer (some ⟨g, 0, none⟩) ∧ (∀ b, F j b ↔ b = g) ∧ u.heap[g]? = some (.cells cs.toArray T (0, 0)) ∧ Reads (zone X S infs ws F L) u d cs
  | i => aC (zone X S infs ws F L) u i.reg (vs j))
 put : ∀ (k : Nat) (p q : Obj), infs[k]? = some (.put p q) → (L k → q.At X.mine (zone X S infs ws F L) u) ∧ (¬ L k → p.At X.mine (zone X S infs ws F L) u)
structure Dk (X : Cx N) (S : St) (infs : List Inf) (ws : World) : Prop where
 low : ∀ (k : Nat) (p q : Obj) (b : Nat), infs[k]? = some (.put p q) → p.blk = some b → ¬ X.ok S.objs ws b ∧ b < ws.heap.size
 apart : ∀ (k k' : Nat) (p q p' q' : Obj), infs[k]? = some (.put p q) → infs[k']? = some (.put p' q') → k ≠ k' → ∀ b, p.blk = some b → p'.blk ≠ some b
 same : ∀ (k : Nat) (p q : Obj), infs[k]? = some (.put p q) → q.blk = p.blk
theorem GP.lt {infs : List Inf} {ws : World} {F : Nat → Nat → Prop} {L : Nat → Prop} {vs : Nat → Value} {u : World} (h : GP X S infs ws F L vs u) {b : Nat} (hb : zone X S infs ws F L b) : b < u.heap.size := by
 rcases hb with hb | ⟨i, h1, _, h2⟩
 · exact KA hb.2.1 h.gr.size
 · exact (h.lo i h1 b h2).2
theorem GP.off {infs : List Inf} {ws : World} {F : Nat → Nat → Prop} {L : Nat → Prop} {vs : Nat → Value} {u : World} (h : GP X S infs ws F L vs u) (hP : Dk X S infs ws) {k b : Nat} (hk : infs[k]? = some (.put p q)) (hp : p.blk = some b) : ¬ zone X S infs ws F L b := by
 have := hP.low k p q b hk hp
 rintro (hb | ⟨i, h1, _, h2⟩)
 · exact this.1 hb
 ·
  have := (h.lo i h1 b h2).1
  omega
theorem GP.step {infs : List Inf} {ws : World} {F : Nat → Nat → Prop} {L : Nat → Prop} {vs : Nat → Value} {u u' : World} (h : GP X S infs ws F L vs u) (hP : Dk X S infs ws) {k : Nat} {i : Inf} (hi : infs[k]? = some i) (hk : ¬ L k) (H : Nat → Prop) (hH : ∀ b, H b → ∃ p q : Obj, i = .put p q ∧ p.blk = some b) (hg : GrE H u u') (v : Value) (f : Nat → Prop) (hf : ∀ b, f b → u.heap.size ≤ b ∧ b < u'.heap.size)
  (hv : (∀ b, zone X S infs ws F L b → zone X S infs ws (fun j => if j = k then f else F j) (fun j => j = k ∨ L j) b) → (match (generalizing := false) i with
   | .new T d => ∃ g cs, v = .pointer (some ⟨g, 0, none⟩) ∧ (∀ b, f b ↔ b = g) ∧ u'.heap[g]? = some (.cells cs.toArray T (0, 0)) ∧ Reads (zone X S infs ws (fun j => if j = k then f else F j) (fun j => j = k ∨ L j)) u' d cs
   | i => aC (zone X S infs ws (fun j => if j = k then f else F j) (fun j => j = k ∨ L j)) u' i.reg v))
  (hq : ∀ p q : Obj, i = .put p q → q.At X.mine (zone X S infs ws F L) u') :
  GP X S infs ws (fun j => if j = k then f else F j) (fun j => j = k ∨ L j) (fun j => if j = k then v else vs j) u' := by
 have hF : ∀ j, L j → (if j = k then f else F j) = F j := fun j hj => if_neg fun e => hk (by rw [← e]; exact hj)
 have hz : ∀ b, zone X S infs ws F L b → zone X S infs ws (fun j => if j = k then f else F j) (fun j => j = k ∨ L j) b := fun b hb => by
  rcases hb with hb | ⟨i, h1, h2, h3⟩
  · exact .inl hb
  · exact .inr ⟨i, .inr h1, h2, by show (if i = k then f else F i) b; rw [hF i h1]; exact h3⟩
 have hHz : ∀ b, H b → ¬ zone X S infs ws F L b := fun b hb => by
  obtain ⟨p, q, rfl, hp⟩ := hH b hb
  exact h.off hP hi hp
 have hc : ∀ p : Addr, zone X S infs ws F L p.block → u'.cell? p = u.cell? p := fun p hp => hg.cell (h.lt hp) fun hn => hHz _ hn hp
 refine ⟨⟨hg.os.trans h.gr.os, hg.tape.trans h.gr.tape, hg.output.trans h.gr.output, La h.gr.size hg.size, fun b hb hn => ?_⟩, fun j hj b hb => ?_, fun i j b hi hj hij hb => ?_, fun j i' hj hi' => ?_, fun k' p' q' hk' => ?_⟩
 ·
  rw [hg.block b (KA hb h.gr.size) fun hn' => by
   obtain ⟨p, q, rfl, hp⟩ := hH b hn'
   exact hn ⟨k, p, q, hi, hp⟩]
  exact h.gr.block b hb hn
 ·
  by_cases e : j = k
  ·
   rw [if_pos e] at hb
   exact ⟨La h.gr.size (hf b hb).1, (hf b hb).2⟩
  ·
   rw [if_neg e] at hb
   have := h.lo j (hj.resolve_left e) b hb
   exact ⟨this.1, KA this.2 hg.size⟩
 ·
  by_cases e1 : i = k
  ·
   by_cases e2 : j = k
   · exact absurd (e1.trans e2.symm) hij
   ·
    rw [if_pos e1] at hb
    rw [if_neg e2]
    intro hb2
    have := (h.lo j (hj.resolve_left e2) b hb2).2
    have := (hf b hb).1
    omega
  ·
   rw [if_neg e1] at hb
   by_cases e2 : j = k
   ·
    rw [if_pos e2]
    intro hb2
    have := (h.lo i (hi.resolve_left e1) b hb).2
    have := (hf b hb2).1
    omega
   ·
    rw [if_neg e2]
    exact h.dis i j b (hi.resolve_left e1) (hj.resolve_left e2) hij hb
 ·
  by_cases e : j = k
  ·
   subst e
   obtain rfl : i' = i := Lu (hi'.symm.trans hi)
   simp only [if_true]
   exact hv hz
  ·
   have hj' := hj.resolve_left e
   have h0 := h.val j i' hj' hi'
   simp only [if_neg e]
   cases i' with
   | new T d =>
    obtain ⟨g, cs, g1, g2, g3, g4⟩ := h0
    have hlo := h.lo j hj' g ((g2 g).2 rfl)
    exact ⟨g, cs, g1, g2, (hg.block g (lt_of_some g3) fun hn => by
     obtain ⟨p, q, rfl, hp⟩ := hH g hn
     have := (hP.low k p q g hi hp).2
     omega).trans g3, Reads.mono hz hc _ _ g4⟩
   | still r => exact aC.mono hz hc h0
   | grow r => exact aC.mono hz hc h0
   | skip => exact aC.mono hz hc h0
   | put p q => trivial
 ·
  by_cases e : k' = k
  ·
   subst e
   obtain rfl : i = .put p' q' := Lu (hi.symm.trans hk')
   refine ⟨fun _ => (hq p' q' rfl).move hz (fun _ _ => rfl) (fun _ _ => rfl), fun hn => absurd (.inl rfl) hn⟩
  ·
   have hb : ∀ g, p'.blk = some g → u'.heap[g]? = u.heap[g]? := fun g hg' => hg.block g (KA (hP.low k' p' q' g hk' hg').2 h.gr.size) fun hn => by
    obtain ⟨p, q, rfl, hp⟩ := hH g hn
    exact hP.apart k k' p q p' q' hi hk' (fun e' => e e'.symm) g hp hg'
   obtain ⟨h1, h2⟩ := h.put k' p' q' hk'
   refine ⟨fun hL => (h1 (hL.resolve_left e)).move hz hc fun g hg' => hb g (by rw [← hP.same k' p' q' hk']; exact hg'), fun hn => (h2 fun hL => hn (.inr hL)).move hz hc hb⟩
theorem EM.put (hg : guardOf ops S o = some true) (hd : o.dst = none) (hP : Puts ops S o p q) (k : EMS N ops T l ps S E) : EM N ops (fun S' E' => EMS N ops T (o :: l) ((p, q) :: ps) S' E') [] S E := EMS.put hg hd hP k
theorem Le.perm {rs : List (Tmp × R)} {os os' : List Obj} {fs : List (Value × D)} (h : os.Perm os') : Le X ⟨rs, os, fs⟩ ⟨rs, os', fs⟩ := fun a w ha => by
 have hok : ∀ b, X.ok os w b → X.ok os' w b := fun b hb => ⟨hb.1, hb.2.1, fun o ho => hb.2.2 o (h.mem_iff.2 ho)⟩
 refine ⟨⟨ha.mem.gr, ?_, fun o ho => (ha.mem.at_ o (h.mem_iff.2 ho)).move hok (fun _ _ => rfl) fun _ _ => rfl, fun f hf => Reads.mono hok (fun _ _ => rfl) _ _ (ha.mem.fact f hf)⟩, fun t r hr => (ha.regs t r hr).mono hok fun _ _ => rfl, ha.size, ha.defers⟩
 exact h.pairwise ha.mem.apart fun {x y} hxy b hb e => hxy b e hb
end
end E
end Go.Proofs.YtaoicebcdmpemaaGreat
namespace Go.Proofs.YtaoicebcdmpemaaGreat
set_option linter.unusedVariables false
open Go.RowKit Mono Rlp
def JZ (B : Nat) (l : List UInt8) : VP := fun v w => mM (fun k => B ≤ k ∧ k < w.heap.size) w v l
theorem jV {w : World} {o : Oper} {a : Act} {x : Operand} {v : Value} {l : List UInt8} {B : Nat} (hB : B ≤ w.heap.size)
  (ho : o.op = .call { callee := .builtin .append, args := #[.const (.slice none 0 0), x], argTypes := #[41, 41] }) (hx : a.eval x = v) (h : IsB w v l) (hl : l.length ≤ 140737488355328) :
  bJ Tryz.prog (JZ B l) w ((execOp a.eval o).run Tryz.prog w) := by
 obtain ⟨A, c, rfl, h1, h2, hr⟩ := h
 obtain ⟨A', c', w', hrun, hown, hg, hb⟩ := dZ (P := Tryz.prog) (ty := o.type) dW (World.ownsRow_nil w w.heap.size _ _) (m := l.length) (c := c) (news := bvs l) (by rw [aJ]; omega) hr (iH _) (by simp only [maxLen] at *; omega) (by omega) (Nat.le_refl _)
 have hs : a.eval (.const (.slice none 0 0)) = .slice none 0 0 := rfl
 unfold execOp
 simp only [ho, resolve, invoke, builtin, Kq, Ku, J6, LV, KD, KU, hs, hx, hrun]
 refine ⟨⟨hg.os, hg.tape, hg.output, hg.size, fun k hk => hg.block k hk (by simp [Value.ownBlock])⟩, ?_⟩
 have := xg (w := w') (base := w.heap.size) (v := .slice A' (0 + l.length) c') (l := l) (by unfold OwnB; simpa using hown)
 exact mM.mono this (fun b hb => ⟨by have := hb.1; omega, hb.2⟩) fun _ _ => rfl
theorem ni (w : World) (g o : Nat) : (Instr.sliceAt 36 (.pointer (some ⟨g, o, none⟩)) none none none).run Tryz.prog w = .ok (.slice (some ⟨g, o, none⟩) 32 32) w := by
 have hn : Tryz.prog.arrayLen 36 = 32 := by kernel_rfl
 have hs : (sizeOf (Tryz.prog.elem 36)).run Tryz.prog w = .ok 1 w := by kernel_rfl
 rw [run_sliceAt_array_all (P := Tryz.prog) w 36 ⟨g, o, none⟩ (by kernel_rfl), hs]
 simp [slicedAt, hn, bM, Result.andThen]
end Go.Proofs.YtaoicebcdmpemaaGreat
namespace Go.Proofs.YtaoicebcdmpemaaGreat
set_option linter.unusedVariables false
open Go.RowKit Mono Rlp
namespace E
structure pF (T n : Nat) : Prop where
 ok : ∀ w g o, (Instr.sliceAt T (.pointer (some ⟨g, o, none⟩)) none none none).run Tryz.prog w = .ok (.slice (some ⟨g, o, none⟩) n n) w
section
variable {N : Nat} {X : Cx N} {S : St} {ops : Array Oper} {o : Oper} {Q : Exit → Act → World → Prop} {l : List Oper} {TT : St → List Fr → Prop} {EE : List Fr} {rs : List (Tmp × R)} {os : List Obj} {fs : List (Value × D)}
variable {t ty : Nat} {pos : String} {af : Array Edge} {gd : Option (Nat × Bool)}
theorem Ew {x : Operand} {T n g k : Nat} (hA : pF T n) (ho : o.op = .slice T x none none none) (hx : ev S x = some (.val (.v (.pointer (some ⟨g, k, none⟩))))) : Still ops S o (.val (.v (.slice (some ⟨g, k, none⟩) n n))) := fun base ok a w ha => by
 have hx' := dh ha hx fun t e => ak e (by rw [ho]; simp [Op.operands])
 refine ⟨_, ?_, dM rfl⟩
 unfold execOp
 simp only [ho, hx', Option.map_none, Kq, hA.ok w g k, J6, Ku]
theorem FT {x : Operand} {T n g k : Nat} (hA : pF T n) (hx : ev (⟨rs, os, fs⟩ : St) x = some (.val (.v (.pointer (some ⟨g, k, none⟩))))) : HS N ops TT l rs os fs EE t ty pos af gd (.slice T x none none none) (.val (.v (.slice (some ⟨g, k, none⟩) n n))) := fun hg hoff kk => EH.still (Ew hA rfl hx) hg rfl hoff kk
theorem EL.copy {T U e b g n k c : Nat} {x y : Operand} {t : TypeId} {d d'' : D} {m : List UInt8} (i : Nat) (ho : o.op = .call { callee := .builtin .copy, args := #[x, y], argTypes := #[T, U] }) (hg : guardOf ops S o = some true) (hd : ∀ t, o.dst = some t → t < N) (hT : assoc slL T = some (e, 1, b))
  (hx : ev S x = some (.val (.v (.slice (some ⟨g, n, none⟩) k c)))) (hi : S.objs[i]? = some (.var g t d)) (hy : ev S y = some (.val (.bs m))) (hm : m.length = k) (h0 : Nat.blt 0 k = true) (hu : d.upd n (.arr k m) = some d'')
  (kk : EL X ops Q l (St.put ⟨S.regs, S.objs.set i (.var g t d''), S.facts⟩ o.dst (.val (.v (.int .i64 (k : Int)))))) : EL X ops Q (o :: l) S := by
 constructor
 intro a w ha
 have hk := ha.kn fun t => t ∈ o.looksAt ops
 have hx' := dh hk hx fun t e => ak e (by rw [ho]; simp [Op.operands, Call.operands])
 obtain ⟨A, c', h1, h2, h3, h4⟩ := vw (hk.ev hy fun t e => ak e (by rw [ho]; simp [Op.operands, Call.operands]))
 have h0' : 0 < k := by simpa using h0
 obtain ⟨bl, o', rfl, hb, hc⟩ := h4 (fun e => by have := congrArg List.length e; rw [aJ] at this; simp at this; rw [this] at hm; simp at hm; omega)
 obtain ⟨hge, cs, h5, h6⟩ := ha.mem.var hi
 have hnew : Reads (X.ok S.objs w) w (.arr k m) (bvs m) := by rw [Reads]; exact ⟨hm, rfl⟩
 obtain ⟨e1, e2, pre, mid, post, rfl, h7, h8, h9⟩ := iQ d n (.arr k m) d'' cs (bvs m) hu h6 hnew
 have hcell : ∀ j, j < (bvs m).length → (w.cell? ⟨g, n + j, none⟩).isSome = true := fun j hj => by
  rw [cell_of_row w g (n + j) _ t (0, 0) h5]
  simp only [MK, KY]
  rw [Lr (by omega), LC (by omega)]
  simp
  omega
 have hf : ∀ j, j < (bvs m).length → w.frozen? ⟨g, n + j, none⟩ = false := fun j _ => by simp [World.frozen?, h5]
 have hsl := slI hT
 have hrun := run_copy_cells (P := Tryz.prog) w T U o.type e g n k c ⟨bl, o', none⟩ m.length c' (bvs m) hsl.und hsl.size (by rw [aJ, hm]; simp) (fun j v hv => by rw [bM]; exact hc j v hv) hcell hf (iH m)
 unfold wpList
 rw [if_pos (bK ha hg)]
 refine .inl ?_
 unfold Oper.wp execOp
 simp only [ho, resolve, invoke, builtin, Kq, Ku, J6, LV, KD, KU, hx', h1, hrun]
 have ht := ha.turn (q := .var g t d'') (w' := w.setCells g n (bvs m)) hi (bU g (bvs m) n w) (.inl rfl) fun hok hcell => ⟨hge, pre ++ bvs m ++ post, by
  have := dN (bvs m) pre mid post w h8 h5
  rwa [h7] at this, Reads.mono hok hcell _ _ h9⟩
 rw [aJ, hm]
 exact kk.go _ _ (ht.put hd (dM rfl))
theorem EI {x : Operand} {m : List UInt8} (ho : o.op = .call { callee := .builtin .append, args := #[.const (.slice none 0 0), x], argTypes := #[41, 41] }) (hx : ev S x = some (.val (.bs m))) (hl : m.length ≤ 140737488355328) : ig ops S o (· = .val (.bs m)) := fun base ok a w ha => by
 have hr := ha.ev hx fun t e => ak e (by rw [ho]; simp [Op.operands, Call.operands])
 refine rX (fun v w' hg hv => ⟨_, rfl, (aI rfl).2 (by rw [Reads]; exact ⟨v, rfl, mM.mono hv (fun b hb => ⟨.inr hb.1, hb.2⟩) fun _ _ => rfl⟩)⟩) (jV (B := w.heap.size) (Nat.le_refl _) ho rfl (jU ha.lt hr) hl)
end
theorem kD : pF 36 32 := ⟨fun w g o => ni w g o⟩
def sO (l : List (Tmp × R)) : List (Tmp × R) → Prop
 | [] => True
 | (t, .val (.v x)) :: m => look l t = some (.val (.v x)) ∧ sO l m
 | _ :: _ => False
section
variable {N : Nat} {X X' : Cx N} {S S1 : St} {ops : Array Oper} {o : Oper} {Q : Exit → Act → World → Prop} {K : Act → World → Prop} {l : List Oper} {c : Code} {TT : St → List Fr → Prop} {EE : List Fr} {rs : List (Tmp × R)} {os : List Obj} {fs : List (Value × D)} {a : Act} {w : World}
variable {t ty : Nat} {pos : String} {af : Array Edge} {gd : Option (Nat × Bool)}
def Back (X : Cx N) (S : St) (X' : Cx N) : Prop := (∀ b, ¬ X'.own0 b) ∧ ∃ a, At X S a X'.w0
theorem sO.get {l : List (Tmp × R)} : ∀ (m : List (Tmp × R)), sO l m → ∀ t r, look m t = some r → ∃ x, r = .val (.v x) ∧ look l t = some (.val (.v x))
 | [], _, t, r, h => by simp [look] at h
 | (u, .val (.v x)) :: m, hs, t, r, h => by
  rw [look] at h
  split at h
  ·
   rename_i e
   cases h
   subst e
   exact ⟨x, rfl, hs.1⟩
  · exact sO.get m hs.2 t r h
 | (u, .any) :: m, hs, t, r, h => hs.elim
 | (u, .tpl _) :: m, hs, t, r, h => hs.elim
 | (u, .val (.arr _ _)) :: m, hs, t, r, h => hs.elim
 | (u, .val (.bs _)) :: m, hs, t, r, h => hs.elim
 | (u, .val (.sl _ _)) :: m, hs, t, r, h => hs.elim
 | (u, .val (.tup _)) :: m, hs, t, r, h => hs.elim
 | (u, .val (.pd _)) :: m, hs, t, r, h => hs.elim
 | (u, .val (.ifc _ _)) :: m, hs, t, r, h => hs.elim
theorem At.back (hb : Back X S X') (hr : sO S1.regs rs) (ha : At X' S1 a w) : At X ⟨rs, S.objs, S.facts⟩ a w := by
 obtain ⟨hno, a0, h0⟩ := hb
 refine ⟨(h0.gr (ha.mem.gr.gr hno)).mem, fun t r ht => ?_, ha.size, ha.defers⟩
 obtain ⟨x, rfl, h1⟩ := sO.get rs hr t r ht
 exact ay.2 (ay.1 (ha.regs t _ h1))
theorem EC.back (hb : Back X S X') (rs : List (Tmp × R)) (hr : sO S1.regs rs) (k : EC X Q c ⟨rs, S.objs, S.facts⟩) : EC X' Q c S1 := ⟨fun a w ha => k.go a w (At.back hb hr ha)⟩
theorem EL.back (hb : Back X S X') (rs : List (Tmp × R)) (hr : sO S1.regs rs) (k : EL X ops Q l ⟨rs, S.objs, S.facts⟩) : EL X' ops Q l S1 := ⟨fun a w ha => k.go a w (At.back hb hr ha)⟩
theorem EK.back (hb : Back X S X') (rs : List (Tmp × R)) (hr : sO S1.regs rs) (k : EK X K ⟨rs, S.objs, S.facts⟩) : EK X' K S1 := ⟨fun a w ha => k.go a w (At.back hb hr ha)⟩
end
end E
end Go.Proofs.YtaoicebcdmpemaaGreat
