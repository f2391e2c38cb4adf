/-
 Merged: lemmas of this claim.
 Conditions: none.
-/
import Derived.Test.YtelbhdobjdnglaaGreatZC2
import Derived.Deep.LoopGhost
import Derived.Deep.MidRow
import Derived.Test.YtelbhdobjdnglaaGreatZC0
namespace Go.Proofs.YtelbhdobjdnglaaGreat
set_option linter.unusedVariables false
open Go.RowKit Mono Rlp
namespace E
inductive D where
 | v (x : Value)
 | arr (n : Nat) (l : List UInt8)
 | bs (l : List UInt8)
 | sl (z : Nat) (ds : List D)
 | tup (ds : List D)
 | pd (d : D)
 | ifc (t : TypeId) (d : D)
mutual
def D.size : D → Nat
 | .arr n _ => n
 | .tup ds => D.sizes ds
 | _ => 1
def D.sizes : List D → Nat
 | [] => 0
 | d :: ds => d.size + D.sizes ds
end
def D.agg : D → Bool
 | .arr _ _ => true
 | .tup _ => true
 | _ => false
def form (d : D) (cs : List Value) : Value := if d.agg then .agg cs.toArray else cs.headD undef
mutual
def Reads (ok : Nat → Prop) (w : World) : D → List Value → Prop
 | .v x, cs => x.oneCell' = true ∧ cs = [x]
 | .arr n l, cs => l.length = n ∧ cs = bvs l
 | .bs l, cs => ∃ u, cs = [u] ∧ wC ok w u l
 | .sl z ds, cs => ∃ A c rows, cs = [.slice A ds.length c] ∧ ds.length ≤ c ∧ c ≤ maxLen ∧ (A = none → ds.length = 0 ∧ c = 0) ∧ RdP ok w A rows.flatten ∧ ay ok w z ds rows
 | .tup ds, cs => dF ok w ds cs
 | .pd d, cs => ∃ b o cs', cs = [.pointer (some ⟨b, o, none⟩)] ∧ ok b ∧ w.rangeAt b o cs' ∧ Reads ok w d cs'
 | .ifc t d, cs => ∃ cs', cs = [.iface t (form d cs')] ∧ Reads ok w d cs'
def dF (ok : Nat → Prop) (w : World) : List D → List Value → Prop
 | [], cs => cs = []
 | d :: ds, cs => ∃ c1 c2, cs = c1 ++ c2 ∧ Reads ok w d c1 ∧ dF ok w ds c2
def ay (ok : Nat → Prop) (w : World) (z : Nat) : List D → List (List Value) → Prop
 | [], rows => rows = []
 | d :: ds, rows => ∃ r rest, rows = r :: rest ∧ r.length = z ∧ Reads ok w d r ∧ ay ok w z ds rest
end
def bW (ok : Nat → Prop) (w : World) (d : D) (x : Value) : Prop := ∃ cs, Reads ok w d cs ∧ x = form d cs
def fH (ok : Nat → Prop) (w : World) : List D → List Value → Prop
 | [], xs => xs = []
 | d :: ds, xs => ∃ x rest, xs = x :: rest ∧ bW ok w d x ∧ fH ok w ds rest
inductive R where
 | val (d : D)
 | tpl (ds : List D)
 | any
def bU (ok : Nat → Prop) (w : World) : R → Value → Prop
 | .val d, x => bW ok w d x
 | .tpl ds, x => ∃ vs, x = .tuple vs.toArray ∧ fH ok w ds vs
 | .any, _ => True
section
variable {ok ok' : Nat → Prop} {w w' : World}
theorem Iz {b o : Nat} {cs : List Value} (h2 : ∀ p : Addr, ok p.block → w'.cell? p = w.cell? p) (hb : ok b) (h : w.rangeAt b o cs) : w'.rangeAt b o cs := fun j v hv => (h2 ⟨b, o + j, none⟩ hb).trans (h j v hv)
mutual
theorem Reads.mono (h1 : ∀ b, ok b → ok' b) (h2 : ∀ p : Addr, ok p.block → w'.cell? p = w.cell? p) : ∀ (d : D) (cs : List Value), Reads ok w d cs → Reads ok' w' d cs
 | .v x, cs, h => by rw [Reads] at h ⊢; exact h
 | .arr n l, cs, h => by rw [Reads] at h ⊢; exact h
 | .bs l, cs, h => by
  rw [Reads] at h ⊢
  obtain ⟨u, h3, h4⟩ := h
  exact ⟨u, h3, h4.mono h1 h2⟩
 | .sl z ds, cs, h => by
  rw [Reads] at h ⊢
  obtain ⟨A, c, rows, g1, g2, g3, g4, g5, g6⟩ := h
  exact ⟨A, c, rows, g1, g2, g3, g4, g5.mono h1 h2, ay.mono h1 h2 z ds rows g6⟩
 | .tup ds, cs, h => by
  rw [Reads] at h ⊢
  exact dF.mono h1 h2 ds cs h
 | .pd d, cs, h => by
  rw [Reads] at h ⊢
  obtain ⟨b, o, cs', g1, g2, g3, g4⟩ := h
  exact ⟨b, o, cs', g1, h1 b g2, Iz h2 g2 g3, Reads.mono h1 h2 d cs' g4⟩
 | .ifc t d, cs, h => by
  rw [Reads] at h ⊢
  obtain ⟨cs', g1, g2⟩ := h
  exact ⟨cs', g1, Reads.mono h1 h2 d cs' g2⟩
theorem dF.mono (h1 : ∀ b, ok b → ok' b) (h2 : ∀ p : Addr, ok p.block → w'.cell? p = w.cell? p) : ∀ (ds : List D) (cs : List Value), dF ok w ds cs → dF ok' w' ds cs
 | [], cs, h => by rw [dF] at h ⊢; exact h
 | d :: ds, cs, h => by
  rw [dF] at h ⊢
  obtain ⟨c1, c2, g1, g2, g3⟩ := h
  exact ⟨c1, c2, g1, Reads.mono h1 h2 d c1 g2, dF.mono h1 h2 ds c2 g3⟩
theorem ay.mono (h1 : ∀ b, ok b → ok' b) (h2 : ∀ p : Addr, ok p.block → w'.cell? p = w.cell? p) (z : Nat) : ∀ (ds : List D) (rows : List (List Value)), ay ok w z ds rows → ay ok' w' z ds rows
 | [], rows, h => by rw [ay] at h ⊢; exact h
 | d :: ds, rows, h => by
  rw [ay] at h ⊢
  obtain ⟨r, rest, g1, g2, g3, g4⟩ := h
  exact ⟨r, rest, g1, g2, Reads.mono h1 h2 d r g3, ay.mono h1 h2 z ds rest g4⟩
end
mutual
theorem Reads.len : ∀ (d : D) (cs : List Value), Reads ok w d cs → cs.length = d.size
 | .v x, cs, h => by rw [Reads] at h; rw [h.2]; rfl
 | .arr n l, cs, h => by rw [Reads] at h; rw [h.2, bJ, h.1]; rfl
 | .bs l, cs, h => by rw [Reads] at h; obtain ⟨u, rfl, _⟩ := h; rfl
 | .sl z ds, cs, h => by rw [Reads] at h; obtain ⟨A, c, rows, rfl, _⟩ := h; rfl
 | .tup ds, cs, h => by rw [Reads] at h; exact dF.len ds cs h
 | .pd d, cs, h => by rw [Reads] at h; obtain ⟨b, o, cs', rfl, _⟩ := h; rfl
 | .ifc t d, cs, h => by rw [Reads] at h; obtain ⟨cs', rfl, _⟩ := h; rfl
theorem dF.len : ∀ (ds : List D) (cs : List Value), dF ok w ds cs → cs.length = D.sizes ds
 | [], cs, h => by rw [dF] at h; rw [h]; rfl
 | d :: ds, cs, h => by
  rw [dF] at h
  obtain ⟨c1, c2, rfl, g2, g3⟩ := h
  rw [List.length_append, Reads.len d c1 g2, dF.len ds c2 g3]
  rfl
end
mutual
theorem Reads.one : ∀ (d : D) (cs : List Value), Reads ok w d cs → ∀ u ∈ cs, u.oneCell' = true
 | .v x, cs, h, u, hu => by
  rw [Reads] at h
  rw [h.2] at hu
  obtain rfl : u = x := by simpa using hu
  exact h.1
 | .arr n l, cs, h, u, hu => by rw [Reads] at h; rw [h.2] at hu; exact dR l u hu
 | .bs l, cs, h, u, hu => by
  rw [Reads] at h
  obtain ⟨x, rfl, A, c, rfl, _⟩ := h
  obtain rfl : u = _ := by simpa using hu
  rfl
 | .sl z ds, cs, h, u, hu => by
  rw [Reads] at h
  obtain ⟨A, c, rows, rfl, _⟩ := h
  obtain rfl : u = _ := by simpa using hu
  rfl
 | .tup ds, cs, h, u, hu => by rw [Reads] at h; exact dF.one ds cs h u hu
 | .pd d, cs, h, u, hu => by
  rw [Reads] at h
  obtain ⟨b, o, cs', rfl, _⟩ := h
  obtain rfl : u = _ := by simpa using hu
  rfl
 | .ifc t d, cs, h, u, hu => by
  rw [Reads] at h
  obtain ⟨cs', rfl, _⟩ := h
  obtain rfl : u = _ := by simpa using hu
  rfl
theorem dF.one : ∀ (ds : List D) (cs : List Value), dF ok w ds cs → ∀ u ∈ cs, u.oneCell' = true
 | [], cs, h, u, hu => by rw [dF] at h; rw [h] at hu; cases hu
 | d :: ds, cs, h, u, hu => by
  rw [dF] at h
  obtain ⟨c1, c2, rfl, g2, g3⟩ := h
  rcases Xq.1 hu with hu | hu
  · exact Reads.one d c1 g2 u hu
  · exact dF.one ds c2 g3 u hu
end
theorem lZ {d : D} {cs : List Value} (h : Reads ok w d cs) : (form d cs).cells = cs.toArray := by
 unfold form
 cases hd : d.agg with
 | true => rfl
 | false =>
  have h1 : cs.length = 1 := by
   have := Reads.len d cs h
   cases d <;> simp [D.agg] at hd <;> simpa [D.size] using this
  obtain ⟨c, rfl⟩ := Yf.1 h1
  have := Reads.one d _ h c (by simp)
  simp only [Yi, if_false, List.headD_cons]
  cases c <;> simp [Value.oneCell'] at this <;> rfl
theorem bW.mono (h1 : ∀ b, ok b → ok' b) (h2 : ∀ p : Addr, ok p.block → w'.cell? p = w.cell? p) {d : D} {x : Value} (h : bW ok w d x) : bW ok' w' d x := by
 obtain ⟨cs, h3, h4⟩ := h
 exact ⟨cs, Reads.mono h1 h2 d cs h3, h4⟩
theorem fH.mono (h1 : ∀ b, ok b → ok' b) (h2 : ∀ p : Addr, ok p.block → w'.cell? p = w.cell? p) : ∀ (ds : List D) (xs : List Value), fH ok w ds xs → fH ok' w' ds xs
 | [], xs, h => h
 | d :: ds, xs, h => by
  obtain ⟨x, rest, g1, g2, g3⟩ := h
  exact ⟨x, rest, g1, g2.mono h1 h2, fH.mono h1 h2 ds rest g3⟩
theorem bU.mono (h1 : ∀ b, ok b → ok' b) (h2 : ∀ p : Addr, ok p.block → w'.cell? p = w.cell? p) {r : R} {x : Value} (h : bU ok w r x) : bU ok' w' r x := by
 cases r with
 | val d => exact bW.mono h1 h2 h
 | tpl ds =>
  obtain ⟨vs, g1, g2⟩ := h
  exact ⟨vs, g1, fH.mono h1 h2 ds vs g2⟩
 | any => trivial
theorem aY {x y : Value} : bW ok w (.v x) y ↔ x.oneCell' = true ∧ y = x := by
 constructor
 ·
  rintro ⟨cs, h, rfl⟩
  rw [Reads] at h
  rw [h.2]
  exact ⟨h.1, rfl⟩
 ·
  rintro ⟨h, rfl⟩
  exact ⟨[y], by rw [Reads]; exact ⟨h, rfl⟩, rfl⟩
theorem dn {d : D} (hd : d.agg = false) {x : Value} : bW ok w d x ↔ Reads ok w d [x] := by
 have hf : ∀ cs, form d cs = cs.headD undef := fun cs => by unfold form; rw [hd]; rfl
 constructor
 ·
  rintro ⟨cs, h, rfl⟩
  have h1 : cs.length = 1 := by
   have := Reads.len d cs h
   cases d <;> simp [D.agg] at hd <;> simpa [D.size] using this
  obtain ⟨c, rfl⟩ := Yf.1 h1
  rw [hf]
  exact h
 ·
  intro h
  exact ⟨[x], h, by rw [hf]; rfl⟩
theorem nZ {d : D} (hd : d.agg = true) {x : Value} : bW ok w d x ↔ ∃ cs, Reads ok w d cs ∧ x = .agg cs.toArray := by
 have hf : ∀ cs, form d cs = .agg cs.toArray := fun cs => by unfold form; rw [hd]; rfl
 constructor
 ·
  rintro ⟨cs, h, rfl⟩
  exact ⟨cs, h, hf cs⟩
 ·
  rintro ⟨cs, h, rfl⟩
  exact ⟨cs, h, (hf cs).symm⟩
theorem ay.get {z : Nat} : ∀ (ds : List D) (rows : List (List Value)), ay ok w z ds rows → ∀ k (hk : k < ds.length), ∃ r, rows[k]? = some r ∧ r.length = z ∧ Reads ok w ds[k] r
 | [], rows, _, k, hk => absurd hk (by simp)
 | d :: ds, rows, h, k, hk => by
  rw [ay] at h
  obtain ⟨r, rest, rfl, g2, g3, g4⟩ := h
  cases k with
  | zero => exact ⟨r, rfl, g2, g3⟩
  | succ k => exact ay.get ds rest g4 k (by simpa using hk)
theorem ay.lens {z : Nat} : ∀ (ds : List D) (rows : List (List Value)), ay ok w z ds rows → rows.length = ds.length ∧ ∀ r ∈ rows, r.length = z
 | [], rows, h => by rw [ay] at h; subst h; simp
 | d :: ds, rows, h => by
  rw [ay] at h
  obtain ⟨r, rest, rfl, g2, g3, g4⟩ := h
  obtain ⟨h1, h2⟩ := ay.lens ds rest g4
  exact ⟨by simp [h1], fun x hx => by
   rcases Xb.1 hx with rfl | hx
   · exact g2
   · exact h2 x hx⟩
theorem ay.append {z : Nat} : ∀ (ds es : List D) (rows more : List (List Value)), ay ok w z ds rows → ay ok w z es more → ay ok w z (ds ++ es) (rows ++ more)
 | [], es, rows, more, h, h' => by rw [ay] at h; subst h; exact h'
 | d :: ds, es, rows, more, h, h' => by
  rw [ay] at h
  obtain ⟨r, rest, rfl, g2, g3, g4⟩ := h
  rw [WL, WL, ay]
  exact ⟨r, _, rfl, g2, g3, ay.append ds es rest more g4 h'⟩
theorem ay.one {z : Nat} : ∀ (ds : List D) (rows : List (List Value)), ay ok w z ds rows → ∀ u ∈ rows.flatten, u.oneCell' = true
 | [], rows, h, u, hu => by rw [ay] at h; subst h; simp at hu
 | d :: ds, rows, h, u, hu => by
  rw [ay] at h
  obtain ⟨r, rest, rfl, g2, g3, g4⟩ := h
  rw [Xv] at hu
  rcases Xq.1 hu with hu | hu
  · exact Reads.one d r g3 u hu
  · exact ay.one ds rest g4 u hu
theorem ay.drop {z : Nat} : ∀ (ds : List D) (rows : List (List Value)) (k : Nat), ay ok w z ds rows → ay ok w z (ds.drop k) (rows.drop k)
 | ds, rows, 0, h => by simpa using h
 | [], rows, k + 1, h => by rw [ay] at h; subst h; simp [ay]
 | d :: ds, rows, k + 1, h => by
  rw [ay] at h
  obtain ⟨r, rest, rfl, g2, g3, g4⟩ := h
  simpa using ay.drop ds rest k g4
theorem ay.take {z : Nat} : ∀ (ds : List D) (rows : List (List Value)) (k : Nat), ay ok w z ds rows → ay ok w z (ds.take k) (rows.take k)
 | ds, rows, 0, h => by simp [ay]
 | [], rows, k + 1, h => by rw [ay] at h; subst h; simp [ay]
 | d :: ds, rows, k + 1, h => by
  rw [ay] at h
  obtain ⟨r, rest, rfl, g2, g3, g4⟩ := h
  rw [WH, WH, ay]
  exact ⟨r, _, rfl, g2, g3, ay.take ds rest k g4⟩
end
mutual
def D.sub : D → Nat → Nat → Bool → Option D
 | .tup ds, off, sz, ag => if off = 0 ∧ D.sizes ds = sz ∧ ag = true then some (.tup ds) else D.Hr ds off sz ag
 | .arr n l, off, sz, ag => if off = 0 ∧ n = sz ∧ ag = true then some (.arr n l) else none
 | d, off, sz, ag => if off = 0 ∧ 1 = sz ∧ ag = false then some d else none
def D.Hr : List D → Nat → Nat → Bool → Option D
 | [], _, _, _ => none
 | d :: ds, off, sz, ag => if off < d.size then d.sub off sz ag else D.Hr ds (off - d.size) sz ag
end
mutual
def D.upd : D → Nat → D → Option D
 | .tup ds, off, new => if off = 0 ∧ D.sizes ds = new.size ∧ new.agg = true then some new else (D.vg ds off new).map .tup
 | .arr n l, off, new => if off = 0 ∧ n = new.size ∧ new.agg = true then some new else none
 | d, off, new => if off = 0 ∧ 1 = new.size ∧ new.agg = false then some new else none
def D.vg : List D → Nat → D → Option (List D)
 | [], _, _ => none
 | d :: ds, off, new => if off < d.size then (d.upd off new).map (· :: ds) else (D.vg ds (off - d.size) new).map (d :: ·)
end
section
variable {ok : Nat → Prop} {w : World}
theorem qj {d d' : D} {off sz : Nat} {ag : Bool} (h : (if off = 0 ∧ 1 = sz ∧ ag = false then some d else none) = some d') (hd : d.agg = false) (hs : d.size = 1) {cs : List Value} (hr : Reads ok w d cs) :
  d'.size = sz ∧ d'.agg = ag ∧ ∃ pre mid post, cs = pre ++ mid ++ post ∧ pre.length = off ∧ Reads ok w d' mid := by
 split at h
 ·
  rename_i hc
  cases h
  exact ⟨by rw [hs]; exact hc.2.1, by rw [hd, hc.2.2], [], cs, [], by simp, hc.1.symm, hr⟩
 · cases h
mutual
theorem nT : ∀ (d : D) (off sz : Nat) (ag : Bool) (d' : D) (cs : List Value), d.sub off sz ag = some d' → Reads ok w d cs → d'.size = sz ∧ d'.agg = ag ∧ ∃ pre mid post, cs = pre ++ mid ++ post ∧ pre.length = off ∧ Reads ok w d' mid
 | .tup ds, off, sz, ag, d', cs, h, hr => by
  rw [D.sub] at h
  split at h
  ·
   rename_i hc
   cases h
   exact ⟨hc.2.1, hc.2.2.symm, [], cs, [], by simp, hc.1.symm, hr⟩
  ·
   rw [Reads] at hr
   exact AY ds off sz ag d' cs h hr
 | .arr n l, off, sz, ag, d', cs, h, hr => by
  rw [D.sub] at h
  split at h
  ·
   rename_i hc
   cases h
   exact ⟨hc.2.1, hc.2.2.symm, [], cs, [], by simp, hc.1.symm, hr⟩
  · cases h
 | .v x, off, sz, ag, d', cs, h, hr => qj (by simpa only [D.sub] using h) rfl rfl hr
 | .bs l, off, sz, ag, d', cs, h, hr => qj (by simpa only [D.sub] using h) rfl rfl hr
 | .sl z ds, off, sz, ag, d', cs, h, hr => qj (by simpa only [D.sub] using h) rfl rfl hr
 | .pd d, off, sz, ag, d', cs, h, hr => qj (by simpa only [D.sub] using h) rfl rfl hr
 | .ifc t d, off, sz, ag, d', cs, h, hr => qj (by simpa only [D.sub] using h) rfl rfl hr
theorem AY : ∀ (ds : List D) (off sz : Nat) (ag : Bool) (d' : D) (cs : List Value), D.Hr ds off sz ag = some d' → dF ok w ds cs → d'.size = sz ∧ d'.agg = ag ∧ ∃ pre mid post, cs = pre ++ mid ++ post ∧ pre.length = off ∧ Reads ok w d' mid
 | [], off, sz, ag, d', cs, h, hr => by rw [D.Hr] at h; cases h
 | d :: ds, off, sz, ag, d', cs, h, hr => by
  rw [D.Hr] at h
  rw [dF] at hr
  obtain ⟨c1, c2, rfl, g2, g3⟩ := hr
  have hl := Reads.len d c1 g2
  split at h
  ·
   obtain ⟨e1, e2, pre, mid, post, rfl, h2, h3⟩ := nT d off sz ag d' c1 h g2
   exact ⟨e1, e2, pre, mid, post ++ c2, by simp, h2, h3⟩
  ·
   obtain ⟨e1, e2, pre, mid, post, rfl, h2, h3⟩ := AY ds _ sz ag d' c2 h g3
   exact ⟨e1, e2, c1 ++ pre, mid, post, by simp, by rw [List.length_append]; omega, h3⟩
end
theorem qh {d new d'' : D} {off : Nat} (h : (if off = 0 ∧ 1 = new.size ∧ new.agg = false then some new else none) = some d'') (hd : d.agg = false) (hs : d.size = 1) {cs mid' : List Value} (hr : Reads ok w d cs) (hn : Reads ok w new mid') :
  d''.size = d.size ∧ d''.agg = d.agg ∧ ∃ pre mid post, cs = pre ++ mid ++ post ∧ pre.length = off ∧ mid.length = mid'.length ∧ Reads ok w d'' (pre ++ mid' ++ post) := by
 split at h
 ·
  rename_i hc
  cases h
  exact ⟨by rw [hs, ← hc.2.1], by rw [hd, hc.2.2], [], cs, [], by simp, hc.1.symm, by rw [Reads.len _ _ hr, Reads.len _ _ hn, hs, hc.2.1], by simpa using hn⟩
 · cases h
mutual
theorem nR : ∀ (d : D) (off : Nat) (new d'' : D) (cs mid' : List Value), d.upd off new = some d'' → Reads ok w d cs → Reads ok w new mid' →
  d''.size = d.size ∧ d''.agg = d.agg ∧ ∃ pre mid post, cs = pre ++ mid ++ post ∧ pre.length = off ∧ mid.length = mid'.length ∧ Reads ok w d'' (pre ++ mid' ++ post)
 | .tup ds, off, new, d'', cs, mid', h, hr, hn => by
  rw [D.upd] at h
  split at h
  ·
   rename_i hc
   cases h
   have hl := Reads.len _ _ hr
   refine ⟨hc.2.1.symm, hc.2.2, [], cs, [], by simp, hc.1.symm, ?_, by simpa using hn⟩
   rw [hl, Reads.len _ _ hn]
   exact hc.2.1
  ·
   rw [Reads] at hr
   cases hu : D.vg ds off new with
   | none => rw [hu] at h; cases h
   | some ds' =>
    rw [hu] at h
    cases h
    obtain ⟨e1, pre, mid, post, h1, h2, h3, h4⟩ := AV ds off new ds' cs mid' hu hr hn
    exact ⟨e1, rfl, pre, mid, post, h1, h2, h3, by rw [Reads]; exact h4⟩
 | .arr n l, off, new, d'', cs, mid', h, hr, hn => by
  rw [D.upd] at h
  split at h
  ·
   rename_i hc
   cases h
   refine ⟨hc.2.1.symm, hc.2.2, [], cs, [], by simp, hc.1.symm, ?_, by simpa using hn⟩
   rw [Reads.len _ _ hr, Reads.len _ _ hn]
   exact hc.2.1
  · cases h
 | .v x, off, new, d'', cs, mid', h, hr, hn => qh (by simpa only [D.upd] using h) rfl rfl hr hn
 | .bs l, off, new, d'', cs, mid', h, hr, hn => qh (by simpa only [D.upd] using h) rfl rfl hr hn
 | .sl z ds, off, new, d'', cs, mid', h, hr, hn => qh (by simpa only [D.upd] using h) rfl rfl hr hn
 | .pd d, off, new, d'', cs, mid', h, hr, hn => qh (by simpa only [D.upd] using h) rfl rfl hr hn
 | .ifc t d, off, new, d'', cs, mid', h, hr, hn => qh (by simpa only [D.upd] using h) rfl rfl hr hn
theorem AV : ∀ (ds : List D) (off : Nat) (new : D) (ds' : List D) (cs mid' : List Value), D.vg ds off new = some ds' → dF ok w ds cs → Reads ok w new mid' →
  D.sizes ds' = D.sizes ds ∧ ∃ pre mid post, cs = pre ++ mid ++ post ∧ pre.length = off ∧ mid.length = mid'.length ∧ dF ok w ds' (pre ++ mid' ++ post)
 | [], off, new, ds', cs, mid', h, hr, hn => by rw [D.vg] at h; cases h
 | d :: ds, off, new, ds', cs, mid', h, hr, hn => by
  rw [D.vg] at h
  rw [dF] at hr
  obtain ⟨c1, c2, rfl, g2, g3⟩ := hr
  have hl := Reads.len d c1 g2
  split at h
  ·
   cases hu : d.upd off new with
   | none => rw [hu] at h; cases h
   | some e =>
    rw [hu] at h
    cases h
    obtain ⟨e1, e2, pre, mid, post, rfl, h2, h3, h4⟩ := nR d off new e c1 mid' hu g2 hn
    refine ⟨by rw [D.sizes, D.sizes, e1], pre, mid, post ++ c2, by simp, h2, h3, ?_⟩
    rw [dF]
    exact ⟨_, c2, by simp, h4, g3⟩
  ·
   cases hu : D.vg ds (off - d.size) new with
   | none => rw [hu] at h; cases h
   | some es =>
    rw [hu] at h
    cases h
    obtain ⟨e1, pre, mid, post, rfl, h2, h3, h4⟩ := AV ds (off - d.size) new es c2 mid' hu g3 hn
    refine ⟨by rw [D.sizes, D.sizes, e1], c1 ++ pre, mid, post, by simp, by rw [List.length_append]; omega, h3, ?_⟩
    rw [dF]
    exact ⟨c1, _, by simp, g2, h4⟩
end
end
inductive Obj where
 | var (g : Nat) (t : TypeId) (d : D)
 | row (v : Value) (e : TypeId) (z : Nat) (ds : List D)
 | map (g n c : Nat) (es : List (Nat × List UInt8 × D))
 | it (g : Nat) (o : Go.Obj)
def Obj.blk : Obj → Option Nat
 | .var g _ _ => some g
 | .row v _ _ _ => v.ownBlock
 | .map g _ _ _ => some g
 | .it g _ => some g
structure GrE (H : Nat → Prop) (w w' : World) : Prop where
 os : w'.os = w.os
 tape : w'.tape = w.tape
 output : w'.output = w.output
 size : w.heap.size ≤ w'.heap.size
 block : ∀ k, k < w.heap.size → ¬ H k → w'.heap[k]? = w.heap[k]?
structure St where
 regs : List (Tmp × R)
 objs : List Obj
 facts : List (Value × D)
def look : List (Tmp × R) → Tmp → Option R
 | [], _ => none
 | (u, r) :: l, t => if u = t then some r else look l t
def St.put (S : St) (d : Option Tmp) (r : R) : St :=
 match d with
 | some d => { S with regs := (d, r) :: S.regs }
 | none => S
structure Cx (N : Nat) where
 w0 : World
 ok0 : Nat → Prop
 own0 : Nat → Prop
 low : ∀ b, ok0 b → b < w0.heap.size
def Cx.mine {N : Nat} (X : Cx N) (b : Nat) : Prop := X.own0 b ∨ X.w0.heap.size ≤ b
def Cx.ok {N : Nat} (X : Cx N) (objs : List Obj) (w : World) (b : Nat) : Prop := (X.ok0 b ∨ X.mine b) ∧ b < w.heap.size ∧ ∀ o ∈ objs, o.blk ≠ some b
inductive jY {α β : Type} (R : α → β → Prop) : List α → List β → Prop
 | nil : jY R [] []
 | cons {a : α} {b : β} {l : List α} {m : List β} (h1 : R a b) (h2 : jY R l m) : jY R (a :: l) (b :: m)
structure nD (ok : Nat → Prop) (w : World) (n : Nat) (e : MapEntry) (x : Nat × List UInt8 × D) : Prop where
 born : e.born = x.1
 key : e.key = dG x.2.1
 len : x.2.1.length = n
 val : bW ok w x.2.2 e.val
def Row (base : Nat → Prop) (w : World) (e z : Nat) (v : Value) (n : Nat) (cs : List Value) : Prop := w.ownsRow 0 e z v n cs ∧ ∀ b, v.ownBlock = some b → base b
structure qZ (c : Nat) (es : List (Nat × List UInt8 × D)) : Prop where
 keys : (es.map (·.2.1)).Nodup
 borns : (es.map (·.1)).Nodup
 lt : ∀ x ∈ es, x.1 < c
def Obj.At (base : Nat → Prop) (ok : Nat → Prop) (w : World) : Obj → Prop
 | .var g t d => base g ∧ ∃ cs, w.heap[g]? = some (.cells cs.toArray t (0, 0)) ∧ Reads ok w d cs
 | .row v e z ds => ∃ rows, Row base w e z v ds.length rows.flatten ∧ ay ok w z ds rows
 | .map g n c es => base g ∧ qZ c es ∧ ∃ arr : Array MapEntry, w.heap[g]? = some (.map arr c) ∧ jY (nD ok w n) arr.toList es
 | .it g o => base g ∧ w.heap[g]? = some o
structure Mem {N : Nat} (X : Cx N) (objs : List Obj) (facts : List (Value × D)) (w : World) : Prop where
 gr : GrE X.own0 X.w0 w
 apart : objs.Pairwise fun o p => ∀ b, o.blk = some b → p.blk ≠ some b
 at_ : ∀ o ∈ objs, o.At X.mine (X.ok objs w) w
 fact : ∀ f ∈ facts, Reads (X.ok objs w) w f.2 [f.1]
structure At {N : Nat} (X : Cx N) (S : St) (a : Act) (w : World) : Prop where
 mem : Mem X S.objs S.facts w
 regs : ∀ t r, look S.regs t = some r → bU (X.ok S.objs w) w r (a.tmps.getD t undef)
 size : a.tmps.size = N
 defers : a.defers = []
structure Kn (base : Nat → Prop) (ok : Nat → Prop) (L : Tmp → Prop) (S : St) (a : Act) (w : World) : Prop where
 objs : ∀ o ∈ S.objs, o.At base ok w
 facts : ∀ f ∈ S.facts, Reads ok w f.2 [f.1]
 lt : ∀ b, ok b → b < w.heap.size
 regs : ∀ t r, L t → look S.regs t = some r → bU ok w r (a.tmps.getD t undef)
theorem At.kn {N : Nat} {X : Cx N} {S : St} {a : Act} {w : World} (h : At X S a w) (L : Tmp → Prop) : Kn X.mine (X.ok S.objs w) L S a w := ⟨h.mem.at_, h.mem.fact, fun b hb => hb.2.1, fun t r _ hr => h.regs t r hr⟩
section
variable {N : Nat} {X : Cx N} {S S' : St} {a : Act} {w w' : World} {objs : List Obj} {facts : List (Value × D)}
theorem GrE.of {H : Nat → Prop} (h : Gr w w') : GrE H w w' := ⟨h.os, h.tape, h.output, h.size, fun k hk _ => h.block k hk⟩
theorem GrE.refl {H : Nat → Prop} (w : World) : GrE H w w := .of (Gr.refl w)
theorem GrE.cell {H : Nat → Prop} (h : GrE H w w') {p : Addr} (hp : p.block < w.heap.size) (hn : ¬ H p.block) : w'.cell? p = w.cell? p := World.cell?_of_block (h.block _ hp hn)
theorem GrE.trans {H : Nat → Prop} {w'' : World} (h : GrE H w w') (k : GrE H w' w'') : GrE H w w'' := ⟨k.os.trans h.os, k.tape.trans h.tape, k.output.trans h.output, XD h.size k.size, fun b hb hn => (k.block b (Xd hb h.size) hn).trans (h.block b hb hn)⟩
theorem GrE.gr {H : Nat → Prop} (h : GrE H w w') (h0 : ∀ b, ¬ H b) : Gr w w' := ⟨h.os, h.tape, h.output, h.size, fun b hb => h.block b hb (h0 b)⟩
theorem GrE.step {H K : Nat → Prop} {w'' : World} (h : GrE H w w') (k : GrE K w' w'') (hK : ∀ b, K b → H b ∨ w.heap.size ≤ b) : GrE H w w'' := ⟨k.os.trans h.os, k.tape.trans h.tape, k.output.trans h.output, XD h.size k.size, fun b hb hn => (k.block b (Xd hb h.size) fun hk => by
 rcases hK b hk with h1 | h1
 · exact hn h1
 · omega).trans (h.block b hb hn)⟩
theorem GrE.grown {H : Nat → Prop} {w'' : World} {row : Option Nat} (h : GrE H w w') (k : w'.grownBy w'' row) (hK : ∀ b, row = some b → H b ∨ w.heap.size ≤ b) : GrE H w w'' :=
 h.step (K := fun b => row = some b) ⟨k.os, k.tape, k.output, k.size, fun b hb hn => k.block b hb fun e => hn e.symm⟩ hK
theorem Row.lt {base : Nat → Prop} {e z n : Nat} {v : Value} {cs : List Value} (h : Row base w e z v n cs) {b : Nat} (hb : v.ownBlock = some b) : base b ∧ b < w.heap.size := ⟨h.2 b hb, (h.1.lt b hb).2⟩
theorem Obj.eP {base ok : Nat → Prop} {o : Obj} (h : o.At base ok w) {b : Nat} (hb : o.blk = some b) : base b ∧ b < w.heap.size := by
 cases o with
 | var g t d =>
  obtain ⟨h1, cs, h2, _⟩ := h
  obtain rfl : g = b := by simpa [Obj.blk] using hb
  exact ⟨h1, lt_of_some h2⟩
 | row v e z ds =>
  obtain ⟨rows, h1, _⟩ := h
  exact h1.lt hb
 | map g n c es =>
  obtain ⟨h1, _, arr, h2, _⟩ := h
  obtain rfl : g = b := by simpa [Obj.blk] using hb
  exact ⟨h1, lt_of_some h2⟩
 | it g o =>
  obtain ⟨h1, h2⟩ := h
  obtain rfl : g = b := by simpa [Obj.blk] using hb
  exact ⟨h1, lt_of_some h2⟩
theorem nD.mono {ok ok' : Nat → Prop} {n : Nat} {e : MapEntry} {x : Nat × List UInt8 × D} (h : nD ok w n e x) (h1 : ∀ b, ok b → ok' b) (h2 : ∀ p : Addr, ok p.block → w'.cell? p = w.cell? p) : nD ok' w' n e x := ⟨h.born, h.key, h.len, h.val.mono h1 h2⟩
theorem je {α β : Type} {R T : α → β → Prop} (h : ∀ a b, R a b → T a b) : ∀ {l : List α} {m : List β}, jY R l m → jY T l m
 | _, _, .nil => .nil
 | _, _, .cons h1 h2 => .cons (h _ _ h1) (je h h2)
theorem Obj.At.move {base : Nat → Prop} {z z' : Nat → Prop} {u u' : World} {o : Obj} (h : o.At base z u) (hz : ∀ b, z b → z' b) (hc : ∀ p : Addr, z p.block → u'.cell? p = u.cell? p) (hb : ∀ g, o.blk = some g → u'.heap[g]? = u.heap[g]?) : o.At base z' u' := by
 cases o with
 | var g t d =>
  obtain ⟨h1, cs, h2, h3⟩ := h
  exact ⟨h1, cs, (hb g rfl).trans h2, Reads.mono hz hc _ _ h3⟩
 | row v e s ds =>
  obtain ⟨rows, ⟨h1, hm⟩, h2⟩ := h
  refine ⟨rows, ⟨⟨h1.1, ?_⟩, hm⟩, ay.mono hz hc s ds rows h2⟩
  rcases h1.2 with h1 | ⟨g, cap, cur, k1, k2, k3, k4⟩
  · exact .inl h1
  · exact .inr ⟨g, cap, cur, k1, k2, by rw [hb g (by rw [k1]; rfl)]; exact k3, k4⟩
 | map g n c es =>
  obtain ⟨h1, h0, arr, h2, h3⟩ := h
  exact ⟨h1, h0, arr, (hb g rfl).trans h2, je (fun e x h => h.mono hz hc) h3⟩
 | it g o => exact ⟨h.1, (hb g rfl).trans h.2⟩
theorem Obj.At.ku {base base' : Nat → Prop} {ok : Nat → Prop} {o : Obj} (h : o.At base ok w) (hb : ∀ b, o.blk = some b → base' b) : o.At base' ok w := by
 cases o with
 | var g t d => exact ⟨hb g rfl, h.2⟩
 | row v e s ds =>
  obtain ⟨rows, ⟨h1, hm⟩, h2⟩ := h
  exact ⟨rows, ⟨h1, hb⟩, h2⟩
 | map g n c es => exact ⟨hb g rfl, h.2⟩
 | it g o => exact ⟨hb g rfl, h.2⟩
theorem BL (hg : Gr w w') {b : Nat} (h : X.ok objs w b) : X.ok objs w' b := ⟨h.1, Xd h.2.1 hg.size, h.2.2⟩
theorem uz (hg : Gr w w') (p : Addr) (h : X.ok objs w p.block) : w'.cell? p = w.cell? p := hg.cell h.2.1
theorem OB (hg : Gr w w') {d : D} {cs : List Value} (h : Reads (X.ok objs w) w d cs) : Reads (X.ok objs w') w' d cs := Reads.mono (fun _ => BL hg) (uz hg) d cs h
theorem qA (hg : Gr w w') {r : R} {x : Value} (h : bU (X.ok objs w) w r x) : bU (X.ok objs w') w' r x := bU.mono (fun _ => BL hg) (uz hg) h
theorem Obj.At.gr {base : Nat → Prop} {o : Obj} (h : o.At base (X.ok objs w) w) (hg : Gr w w') : o.At base (X.ok objs w') w' :=
 h.move (fun _ => BL hg) (uz hg) fun g hb => hg.block g (Obj.eP h hb).2
theorem Mem.grown (h : Mem X objs facts w) (hg : Gr w w') : Mem X objs facts w' := ⟨h.gr.trans (.of hg), h.apart, fun o ho => (h.at_ o ho).gr hg, fun f hf => OB hg (h.fact f hf)⟩
def more (ok : Nat → Prop) (w w' : World) (b : Nat) : Prop := (ok b ∨ w.heap.size ≤ b) ∧ b < w'.heap.size
theorem rH (h : Mem X objs facts w) (hg : Gr w w') {b : Nat} (hb : more (X.ok objs w) w w' b) : X.ok objs w' b := by
 have h0 := h.gr.size
 rcases hb.1 with h1 | h1
 · exact BL hg h1
 ·
  refine ⟨.inr (.inr (XD h0 h1)), hb.2, fun p hp e => ?_⟩
  have := (Obj.eP (h.at_ p hp) e).2
  omega
theorem At.gr (h : At X S a w) (hg : Gr w w') : At X S a w' := ⟨h.mem.grown hg, fun t r hr => qA hg (h.regs t r hr), h.size, h.defers⟩
theorem At.put (h : At X S a w) {d : Option Tmp} {r : R} {x : Value} (hd : ∀ t, d = some t → t < N) (hx : bU (X.ok S.objs w) w r x) : At X (S.put d r) (a.put d x) w := by
 cases d with
 | none => exact h
 | some d =>
  refine ⟨h.mem, fun t r' hr => ?_, by rw [fK]; exact h.size, by rw [put_defers]; exact h.defers⟩
  simp only [St.put, look] at hr
  split at hr
  ·
   rename_i e
   subst e
   cases hr
   rw [qC _ (by rw [h.size]; exact hd _ rfl)]
   exact hx
  ·
   rename_i e
   rw [jH _ (by simpa using e)]
   exact h.regs t r' hr
theorem At.drop (h : At X S a w) {d : Option Tmp} {x : Value} : At X (S.put d .any) (a.put d x) w := by
 cases d with
 | none => exact h
 | some d =>
  refine ⟨h.mem, fun t r' hr => ?_, by rw [fK]; exact h.size, by rw [put_defers]; exact h.defers⟩
  simp only [St.put, look] at hr
  split at hr
  ·
   cases hr
   trivial
  ·
   rename_i e
   rw [jH _ (by simpa using e)]
   exact h.regs t r' hr
def Le {N : Nat} (X : Cx N) (S S' : St) : Prop := ∀ a w, At X S a w → At X S' a w
def Sub (l : List (Tmp × R)) : List (Tmp × R) → Prop
 | [] => True
 | (t, r) :: m => look l t = some r ∧ Sub l m
theorem Sub.get {l : List (Tmp × R)} : ∀ (m : List (Tmp × R)), Sub l m → ∀ t r, look m t = some r → look l t = some r
 | [], _, t, r, h => by simp [look] at h
 | (u, r') :: m, hs, t, r, h => by
  rw [look] at h
  split at h
  ·
   rename_i e
   cases h
   subst e
   exact hs.1
  · exact Sub.get m hs.2 t r h
theorem Le.refl {N : Nat} (X : Cx N) (S : St) : Le X S S := fun _ _ h => h
theorem Le.trans {S'' : St} (h : Le X S S') (h' : Le X S' S'') : Le X S S'' := fun a w k => h' a w (h a w k)
theorem Mem.less {objs' : List Obj} {facts' : List (Value × D)} (h : Mem X objs facts w) (ho : objs'.Sublist objs) (hf : ∀ f ∈ facts', f ∈ facts) : Mem X objs' facts' w := by
 have hok : ∀ b, X.ok objs w b → X.ok objs' w b := fun b hb => ⟨hb.1, hb.2.1, fun o hm => hb.2.2 o (ho.subset hm)⟩
 exact ⟨h.gr, h.apart.sublist ho, fun o hm => (h.at_ o (ho.subset hm)).move hok (fun _ _ => rfl) fun _ _ => rfl, fun f hm => Reads.mono hok (fun _ _ => rfl) _ _ (h.fact f (hf f hm))⟩
theorem Le.less (ho : S'.objs.Sublist S.objs) (hf : ∀ f ∈ S'.facts, f ∈ S.facts) (hr : Sub S.regs S'.regs) : Le X S S' := fun a w h =>
 ⟨h.mem.less ho hf, fun t r ht => bU.mono (fun b hb => ⟨hb.1, hb.2.1, fun o hm => hb.2.2 o (ho.subset hm)⟩) (fun _ _ => rfl) (h.regs t r (Sub.get _ hr t r ht)), h.size, h.defers⟩
theorem Le.freeze {v : Value} {e : TypeId} {z : Nat} {ds : List D} {pre post : List Obj} (ho : S.objs = pre ++ .row v e z ds :: post) : Le X S ⟨S.regs, pre ++ post, (v, .sl z ds) :: S.facts⟩ := by
 intro a w h
 have hm := h.mem
 rw [ho] at hm
 have hsub : (pre ++ post).Sublist S.objs := by rw [ho]; exact List.Sublist.append (Yn _) (Y4 _ _)
 have hl : At X ⟨S.regs, pre ++ post, S.facts⟩ a w := ⟨h.mem.less hsub (fun _ hf => hf), fun t r ht => bU.mono (fun b hb => ⟨hb.1, hb.2.1, fun o hm => hb.2.2 o (hsub.subset hm)⟩) (fun _ _ => rfl) (h.regs t r ht), h.size, h.defers⟩
 refine ⟨⟨hl.mem.gr, hl.mem.apart, hl.mem.at_, fun f hf => ?_⟩, hl.regs, hl.size, hl.defers⟩
 rcases Xb.1 hf with rfl | hf
 ·
  obtain ⟨rows, h1, h2⟩ := hm.at_ (.row v e z ds) (by simp)
  obtain ⟨h1, hmine⟩ := h1
  obtain ⟨A, c, rfl, hc1, hc2⟩ := dB h1
  show Reads _ _ (D.sl z ds) [.slice A ds.length c]
  rw [Reads]
  refine ⟨A, c, rows, rfl, hc1, hc2, fun e => by subst e; exact qH h1, ?_, ay.mono (fun b hb => ⟨hb.1, hb.2.1, fun o hm => hb.2.2 o (by
   rcases Xq.1 hm with hm | hm
   · simp [hm]
   · simp [hm])⟩) (fun _ _ => rfl) z ds rows h2⟩
  intro hn
  obtain ⟨b, o, rfl, hb, hc⟩ := uy h1 hn
  refine ⟨b, o, rfl, ⟨.inr (hmine b rfl), hb.2, fun p hp => ?_⟩, hc⟩
  have hap := hm.apart
  rcases Xq.1 hp with hp | hp
  · exact fun e => (X0.1 hap).2.2 p hp _ (WT) b e rfl
  · exact (Yc.1 (X0.1 hap).2.1).1 p hp b rfl
 · exact hl.mem.fact f hf
mutual
def Refine (F : List (Value × D)) : D → D → Prop
 | .v x, d' => d' = .v x ∨ ((x, d') ∈ F ∧ d'.agg = false) ∨ (x = .slice none 0 0 ∧ (d' = .bs [] ∨ ∃ z, d' = .sl z []))
 | .tup ds, d' => ∃ ds', d' = .tup ds' ∧ aj F ds ds'
 | .arr n l, d' => d' = .arr n l
 | .bs l, d' => d' = .bs l
 | .sl z ds, d' => d' = .sl z ds
 | .pd d, d' => d' = .pd d
 | .ifc t d, d' => d' = .ifc t d
def aj (F : List (Value × D)) : List D → List D → Prop
 | [], l => l = []
 | d :: ds, l => ∃ d' ds', l = d' :: ds' ∧ Refine F d d' ∧ aj F ds ds'
end
mutual
theorem Refine.reads {ok : Nat → Prop} {F : List (Value × D)} (hF : ∀ f ∈ F, Reads ok w f.2 [f.1]) : ∀ (d d' : D) (cs : List Value), Refine F d d' → Reads ok w d cs → Reads ok w d' cs ∧ d'.agg = d.agg
 | .v x, d', cs, h, hr => by
  rw [Refine] at h
  rcases h with rfl | ⟨h, h2⟩ | ⟨rfl, rfl | ⟨z, rfl⟩⟩
  · exact ⟨hr, rfl⟩
  ·
   rw [Reads] at hr
   rw [hr.2]
   exact ⟨hF _ h, h2⟩
  ·
   rw [Reads] at hr
   refine ⟨?_, rfl⟩
   rw [Reads]
   exact ⟨_, hr.2, none, 0, rfl, Nat.le_refl _, by simp [maxLen], fun hn => absurd rfl hn⟩
  ·
   rw [Reads] at hr
   refine ⟨?_, rfl⟩
   rw [Reads]
   exact ⟨none, 0, [], hr.2, Nat.le_refl _, by simp [maxLen], fun _ => ⟨rfl, rfl⟩, fun hn => absurd rfl hn, by rw [ay]⟩
 | .tup ds, d', cs, h, hr => by
  rw [Refine] at h
  obtain ⟨ds', rfl, h⟩ := h
  rw [Reads] at hr ⊢
  exact ⟨aj.reads hF ds ds' cs h hr, rfl⟩
 | .arr n l, d', cs, h, hr => by rw [Refine] at h; subst h; exact ⟨hr, rfl⟩
 | .bs l, d', cs, h, hr => by rw [Refine] at h; subst h; exact ⟨hr, rfl⟩
 | .sl z ds, d', cs, h, hr => by rw [Refine] at h; subst h; exact ⟨hr, rfl⟩
 | .pd d, d', cs, h, hr => by rw [Refine] at h; subst h; exact ⟨hr, rfl⟩
 | .ifc t d, d', cs, h, hr => by rw [Refine] at h; subst h; exact ⟨hr, rfl⟩
theorem aj.reads {ok : Nat → Prop} {F : List (Value × D)} (hF : ∀ f ∈ F, Reads ok w f.2 [f.1]) : ∀ (ds l : List D) (cs : List Value), aj F ds l → dF ok w ds cs → dF ok w l cs
 | [], l, cs, h, hr => by rw [aj] at h; subst h; exact hr
 | d :: ds, l, cs, h, hr => by
  rw [aj] at h
  obtain ⟨d', ds', rfl, h1, h2⟩ := h
  rw [dF] at hr ⊢
  obtain ⟨c1, c2, rfl, h3, h4⟩ := hr
  exact ⟨c1, c2, rfl, (Refine.reads hF d d' c1 h1 h3).1, aj.reads hF ds ds' c2 h2 h4⟩
end
theorem Refine.kP {ok : Nat → Prop} {F : List (Value × D)} (hF : ∀ f ∈ F, Reads ok w f.2 [f.1]) {d d' : D} {x : Value} (h : Refine F d d') (hr : bW ok w d x) : bW ok w d' x := by
 obtain ⟨cs, h1, rfl⟩ := hr
 obtain ⟨h2, h3⟩ := Refine.reads hF d d' cs h h1
 exact ⟨cs, h2, by unfold form; rw [h3]⟩
theorem Le.refine {t : Tmp} {d d' : D} (hl : look S.regs t = some (.val d)) (hr : Refine S.facts d d') : Le X S ⟨(t, .val d') :: S.regs, S.objs, S.facts⟩ := fun a w h => by
 refine ⟨h.mem, fun u r hu => ?_, h.size, h.defers⟩
 rw [look] at hu
 split at hu
 ·
  rename_i e
  cases hu
  subst e
  exact hr.kP h.mem.fact (h.regs _ _ hl)
 · exact h.regs u r hu
structure EL {N : Nat} (X : Cx N) (ops : Array Oper) (Q : Exit → Act → World → Prop) (l : List Oper) (S : St) : Prop where
 go : ∀ a w, At X S a w → wpList Tryz.prog ops Q l a w
structure EC {N : Nat} (X : Cx N) (Q : Exit → Act → World → Prop) (c : Code) (S : St) : Prop where
 go : ∀ a w, At X S a w → c.wp Tryz.prog Q a w
structure EK {N : Nat} (X : Cx N) (K : Act → World → Prop) (S : St) : Prop where
 go : ∀ a w, At X S a w → K a w
variable {Q : Exit → Act → World → Prop} {K : Act → World → Prop} {c y : Code} {ops : Array Oper} {l : List Oper}
theorem EL.le (h : Le X S S') (k : EL X ops Q l S') : EL X ops Q l S := ⟨fun a w ha => k.go a w (h a w ha)⟩
theorem EC.le (h : Le X S S') (k : EC X Q c S') : EC X Q c S := ⟨fun a w ha => k.go a w (h a w ha)⟩
theorem EK.le (h : Le X S S') (k : EK X K S') : EK X K S := ⟨fun a w ha => k.go a w (h a w ha)⟩
theorem EL.nil (h : EK X (Q .normal) S) : EL X ops Q [] S := ⟨fun a w ha => wpList_nil (h.go a w ha)⟩
theorem EC.r0 {id : Nat} (h : EL X l.toArray Q l S) : EC X Q (.region id l.toArray false) S := ⟨fun a w ha => wp_region_lit (h.go a w ha)⟩
theorem EC.k0 (h : EK X (Q .normal) S) : EC X Q .skip S := ⟨fun a w ha => wp_skip (h.go a w ha)⟩
theorem EC.label {n : Nat} (h : EK X (Q .normal) S) : EC X Q (.label n) S := ⟨fun a w ha => wp_label (h.go a w ha)⟩
theorem EC.seq (h : EC X (Exit.then (y.wp Tryz.prog Q) Q) c S) : EC X Q (.seq c y) S := ⟨fun a w ha => wp_seq (h.go a w ha)⟩
theorem EC.cut {ι : Type} (J : ι → St) (h : EC X (Exit.then (fun a w => ∃ i, At X (J i) a w) Q) c S) (k : ∀ i, EC X Q y (J i)) : EC X Q (.seq c y) S := ⟨fun a w ha =>
 wp_seq (wp_mono (h.go a w ha) fun e a w hq => by
  cases e with
  | normal =>
   obtain ⟨i, hi⟩ := hq
   exact (k i).go a w hi
  | _ => exact hq)⟩
theorem EK.meet {ι : Type} {J : ι → St} (i : ι) (h : Le X S (J i)) : EK X (fun a w => ∃ i, At X (J i) a w) S := ⟨fun a w ha => ⟨i, h a w ha⟩⟩
theorem EC.cond {t : Tmp} {b : Bool} {x : Code} (hl : look S.regs t = some (.val (.v (.bool b)))) (ht : b = true → EC X Q x S) (hf : b = false → EC X Q y S) : EC X Q (.cond (.tmp t) x y) S := ⟨fun a w ha => by
 have hv := (aY.1 (ha.regs t _ hl)).2
 exact wp_cond_split (t := b) hv (fun e => (ht e).go a w ha) (fun e => (hf e).go a w ha)⟩
theorem EC.t0 {t : Tmp} {x : Code} (hl : look S.regs t = some (.val (.v (.bool true)))) (h : EC X Q x S) : EC X Q (.cond (.tmp t) x y) S := EC.cond hl (fun _ => h) (fun e => by cases e)
theorem EC.f0 {t : Tmp} {x : Code} (hl : look S.regs t = some (.val (.v (.bool false)))) (h : EC X Q y S) : EC X Q (.cond (.tmp t) x y) S := EC.cond hl (fun e => by cases e) (fun _ => h)
theorem EC.b0 {id : Nat} (h : EC X (Exit.inBlock id Q) c S) : EC X Q (.block id c) S := ⟨fun a w ha => wp_block (h.go a w ha)⟩
theorem EC.x0 {id : Nat} (h : EK X (Q (.exit id)) S) : EC X Q (.exit id) S := ⟨fun a w ha => wp_exit (h.go a w ha)⟩
theorem EC.ret (h : EK X (Q .ret) S) : EC X Q .ret S := ⟨fun a w ha => wp_ret (h.go a w ha)⟩
def Again {N : Nat} (X : Cx N) {ι : Type} (I : ι → St) (μ : ι → Nat) (i : ι) : Act → World → Prop := fun a w => ∃ i', μ i' < μ i ∧ At X (I i') a w
theorem EC.loop {ι : Type} (I : ι → St) (μ : ι → Nat) (i0 : ι) (h0 : Le X S (I i0)) (hr : ∀ i, EC X (Exit.then (Again X I μ i) Q) c (I i)) : EC X Q (.loop c) S := ⟨fun a w ha =>
 wp_loop_ghost (fun n a w => ∃ i, μ i = n ∧ At X (I i) a w) (μ i0) ⟨i0, rfl, h0 a w ha⟩ fun n a w ⟨i, hn, hi⟩ => by
  subst hn
  refine wp_mono ((hr i).go a w hi) fun e a w hq => ?_
  cases e with
  | normal =>
   obtain ⟨i', h1, h2⟩ := hq
   exact ⟨μ i', h1, i', rfl, h2⟩
  | _ => exact hq⟩
theorem EK.again {ι : Type} {I : ι → St} {μ : ι → Nat} {i : ι} (i' : ι) (hm : μ i' < μ i) (h : Le X S (I i')) : EK X (Again X I μ i) S := ⟨fun a w ha => ⟨i', hm, h a w ha⟩⟩
theorem EK.code (h : EC X Q c S) : EK X (c.wp Tryz.prog Q) S := ⟨h.go⟩
theorem EK.h0 (h : EK X K S) : EK X (Exit.then K Q .normal) S := h
theorem EK.aJ {id : Nat} (h : EK X (Q (.exit id)) S) : EK X (Exit.then K Q (.exit id)) S := h
theorem EK.aB (h : EK X (Q .ret) S) : EK X (Exit.then K Q .ret) S := h
theorem EK.n0 {id : Nat} (h : EK X (Q .normal) S) : EK X (Exit.inBlock id Q .normal) S := h
theorem EK.bK {id : Nat} (h : EK X (Q .ret) S) : EK X (Exit.inBlock id Q .ret) S := h
theorem EK.s0 {id : Nat} (h : EK X (Q .normal) S) : EK X (Exit.inBlock id Q (.exit id)) S := ⟨fun a w ha => by
 simp only [Exit.inBlock, if_true]
 exact h.go a w ha⟩
theorem EK.FU {id id' : Nat} (hne : (id' == id) = false) (h : EK X (Q (.exit id')) S) : EK X (Exit.inBlock id Q (.exit id')) S := ⟨fun a w ha => by
 simp only [Exit.inBlock]
 rw [if_neg (by simpa using hne)]
 exact h.go a w ha⟩
end
def ev (S : St) : Operand → Option R
 | .tmp t => look S.regs t
 | .const v => if v.oneCell' then some (.val (.v v)) else some .any
 | .func f => some (.val (.v (.func (.func f) #[] #[])))
 | .global g => some (.val (.v (.pointer (some ⟨g, 0, none⟩))))
def evs (S : St) : List Operand → Option (List D)
 | [] => some []
 | x :: xs => match ev S x, evs S xs with
  | some (.val d), some ds => some (d :: ds)
  | _, _ => none
def guardOf (ops : Array Oper) (S : St) (o : Oper) : Option Bool :=
 match o.guard with
 | none => some true
 | some (j, want) => match (ops[j]?).bind (·.dst) with
  | some d => match look S.regs d with
   | some (.val (.v (.bool b))) => some (b == want)
   | some (.tpl []) => some false
   | _ => none
  | none => none
section
variable {N : Nat} {X : Cx N} {S S' : St} {a : Act} {w w' : World} {ops : Array Oper} {o : Oper} {Q : Exit → Act → World → Prop} {l : List Oper} {L : Tmp → Prop} {base : Nat → Prop} {ok : Nat → Prop}
theorem Kn.ev (h : Kn base ok L S a w) {x : Operand} {r : R} (hx : E.ev S x = some r) (hL : ∀ t, x = .tmp t → L t) : bU ok w r (a.eval x) := by
 cases x with
 | tmp t => exact h.regs t r (hL t rfl) hx
 | const v =>
  simp only [E.ev] at hx
  split at hx
  ·
   rename_i h1
   cases hx
   exact aY.2 ⟨h1, rfl⟩
  ·
   cases hx
   trivial
 | func f =>
  cases hx
  exact aY.2 ⟨rfl, rfl⟩
 | global g =>
  cases hx
  exact aY.2 ⟨rfl, rfl⟩
theorem Kn.evs (h : Kn base ok L S a w) : ∀ (xs : List Operand) (ds : List D), E.evs S xs = some ds → (∀ t, .tmp t ∈ xs → L t) → fH ok w ds (xs.map a.eval)
 | [], ds, hx, _ => by cases hx; rfl
 | x :: xs, ds, hx, hL => by
  rw [E.evs] at hx
  cases h1 : E.ev S x with
  | none => rw [h1] at hx; cases hx
  | some r =>
   cases h2 : E.evs S xs with
   | none => rw [h1, h2] at hx; cases r <;> cases hx
   | some es =>
    rw [h1, h2] at hx
    cases r with
    | val d =>
     cases hx
     exact ⟨_, _, rfl, h.ev h1 (fun t e => hL t (by simp [e])), Kn.evs h xs es h2 fun t ht => hL t (by simp [ht])⟩
    | _ => cases hx
theorem aU {x : Operand} {t : Tmp} (hx : x = .tmp t) (h : x ∈ o.op.operands.toList) : t ∈ o.looksAt ops := by
 subst hx
 unfold Oper.looksAt
 exact XC _ (List.mem_filterMap.2 ⟨_, h, rfl⟩)
theorem bZ (h : Kn base ok (fun t => t ∈ o.looksAt ops) S a w) {b : Bool} (hg : guardOf ops S o = some b) : Region.wanted o (yielded ops a.tmps) = b := by
 unfold guardOf at hg
 unfold Region.wanted
 split at hg
 ·
  rename_i e
  cases hg
  rw [e]
 ·
  rename_i j want e
  rw [e]
  dsimp only
  split at hg
  ·
   rename_i d hd
   split at hg
   ·
    rename_i b' hl
    cases hg
    have hv := (aY.1 (h.regs d _ (by
     unfold Oper.looksAt
     refine Xz _ ?_
     rw [e]
     simp [hd]) hl)).2
    unfold yielded
    rw [hd]
    have hlt : d < a.tmps.size := by
     rcases Xx d a.tmps.size with h1 | h1
     · exact h1
     ·
      simp [Array.getElem?_eq_none h1] at hv
      cases hv
    simp [hlt] at hv
    simp [hlt, hv]
   ·
    rename_i hl
    cases hg
    obtain ⟨vs, hv, hvs⟩ := h.regs d _ (by
     unfold Oper.looksAt
     refine Xz _ ?_
     rw [e]
     simp [hd]) hl
    obtain rfl : vs = [] := hvs
    unfold yielded
    rw [hd]
    rcases Xx d a.tmps.size with h1 | h1
    ·
     simp [h1] at hv
     simp [h1, hv]
    · simp [Array.getElem?_eq_none h1]
   · cases hg
  · cases hg
theorem gX (h : At X S a w) {b : Bool} (hg : guardOf ops S o = some b) : Region.wanted o (yielded ops a.tmps) = b := bZ (h.kn _) hg
def Still (ops : Array Oper) (S : St) (o : Oper) (r : R) : Prop :=
 ∀ base ok a w, Kn base ok (fun t => t ∈ o.looksAt ops) S a w → ∃ v, (execOp a.eval o).run Tryz.prog w = .ok (.value v) w ∧ bU ok w r v
def oN (ops : Array Oper) (S : St) (o : Oper) (Φ : R → Prop) : Prop :=
 ∀ base ok a w, Kn base ok (fun t => t ∈ o.looksAt ops) S a w → fP Tryz.prog (fun v w' => ∃ r, Φ r ∧ bU (more ok w w') w' r v) w ((execOp a.eval o).run Tryz.prog w)
theorem EL.growE {Φ : R → Prop} (hg : guardOf ops S o = some true) (hd : ∀ t, o.dst = some t → t < N) (hO : oN ops S o Φ) (k : ∀ r, Φ r → EL X ops Q l (S.put o.dst r)) : EL X ops Q (o :: l) S := by
 constructor
 intro a w ha
 have h1 := hO _ _ a w (ha.kn _)
 unfold wpList
 rw [if_pos (gX ha hg)]
 refine .inl ?_
 unfold Oper.wp
 generalize (execOp a.eval o).run Tryz.prog w = res at *
 have hnext : ∀ v w', Gr w w' → (∃ r, Φ r ∧ bU (more (X.ok S.objs w) w w') w' r v) → wpList Tryz.prog ops Q l (a.put o.dst v) w' := fun v w' hgr ⟨r, hr, hv⟩ => (k r hr).go _ _ ((ha.gr hgr).put hd (hv.mono (fun b hb => rH ha.mem hgr hb) fun _ _ => rfl))
 cases res with
 | ok x w' =>
  cases x <;> simp only [fP] at h1 <;> simp only [Oper.upon]
  case value v => exact hnext _ _ h1.1 h1.2
  case skip => exact hnext _ _ h1.1 h1.2
  case enter g args =>
   obtain ⟨hgr, hc⟩ := h1
   refine hc.mono fun e w'' ⟨v, he, hg', hv⟩ => ?_
   subst he
   exact hnext _ _ (hgr.trans hg') hv
 | halt x w' => simp only [fP] at h1
theorem EL.grow {r : R} (hg : guardOf ops S o = some true) (hd : ∀ t, o.dst = some t → t < N) (hO : oN ops S o (· = r)) (k : EL X ops Q l (S.put o.dst r)) : EL X ops Q (o :: l) S :=
 EL.growE hg hd hO fun _ e => e ▸ k
theorem EL.still {r : R} (hg : guardOf ops S o = some true) (hd : ∀ t, o.dst = some t → t < N) (hO : Still ops S o r) (k : EL X ops Q l (S.put o.dst r)) : EL X ops Q (o :: l) S := by
 constructor
 intro a w ha
 obtain ⟨v, h1, h2⟩ := hO _ _ a w (ha.kn _)
 unfold wpList
 rw [if_pos (gX ha hg)]
 refine .inl ?_
 unfold Oper.wp
 rw [h1]
 exact k.go _ _ (ha.put hd h2)
theorem EL.skip (hg : guardOf ops S o = some false) (hd : ∀ t, o.dst = some t → t < N) (k : EL X ops Q l (S.put o.dst (.tpl []))) : EL X ops Q (o :: l) S := by
 constructor
 intro a w ha
 unfold wpList
 rw [if_neg (by rw [gX ha hg]; decide)]
 exact k.go _ _ (ha.put hd ⟨[], rfl, rfl⟩)
theorem EL.split (b : Bool) (k1 : b = true → EL X ops Q l S) (k2 : b = false → EL X ops Q l S) : EL X ops Q l S := by
 cases b
 · exact k2 rfl
 · exact k1 rfl
theorem Po {x : Operand} {r : R} (ho : o.op = .move x) (hx : ev S x = some r) : Still ops S o (r) := fun base ok a w ha => by
 refine ⟨a.eval x, ?_, ha.ev hx fun t e => aU e (by rw [ho]; simp [Op.operands])⟩
 unfold execOp
 simp only [ho, Xc]
theorem Gf {x : Operand} {r : R} (ho : o.op = .assign x) (hx : ev S x = some r) : Still ops S o (r) := fun base ok a w ha => by
 refine ⟨a.eval x, ?_, ha.ev hx fun t e => aU e (by rw [ho]; simp [Op.operands])⟩
 unfold execOp
 simp only [ho, Xc]
theorem yM {ok : Nat → Prop} : ∀ (ds : List D) (xs : List Value) (i : Nat) (d : D), fH ok w ds xs → ds[i]? = some d → ∃ x, xs[i]? = some x ∧ bW ok w d x
 | [], xs, i, d, _, h => by simp at h
 | e :: ds, xs, i, d, h, hi => by
  obtain ⟨x, rest, rfl, h1, h2⟩ := h
  cases i with
  | zero => cases hi; exact ⟨x, rfl, h1⟩
  | succ i => exact yM ds rest i d h2 (by simpa using hi)
theorem Ci {x : Operand} {i : Nat} {ds : List D} {d : D} (ho : o.op = .extract x i) (hx : ev S x = some (.tpl ds)) (hd : ds[i]? = some d) : Still ops S o (.val d) := fun base ok a w ha => by
 obtain ⟨vs, h1, h2⟩ := ha.ev hx fun t e => aU e (by rw [ho]; simp [Op.operands])
 obtain ⟨y, h3, h4⟩ := yM ds vs i d h2 hd
 refine ⟨y, ?_, h4⟩
 unfold execOp
 simp only [ho, h1, Instr.extract, WX]
 simp [h3]
theorem Pn {c x y : Operand} {b : Bool} {r : R} (ho : o.op = .pick c x y) (hc : ev S c = some (.val (.v (.bool b)))) (hx : ev S (if b then x else y) = some r) : Still ops S o (r) := fun base ok a w ha => by
 have h1 := (aY.1 (ha.ev hc fun t e => aU e (by rw [ho]; simp [Op.operands]))).2
 refine ⟨a.eval (if b then x else y), ?_, ha.ev hx fun t e => aU e (by rw [ho]; cases b <;> simp [Op.operands])⟩
 unfold execOp
 simp only [ho, h1, asBool, WX, Xc, WV]
 cases b <;> simp
structure Fld (P : Program) (T k off sz : Nat) (ag : Bool) : Prop where
 get : ∃ fs f d, P.underlying T = some (.struct fs) ∧ fs[k]? = some f ∧ f.offset = off ∧ (P.info? f.type).map (·.size) = some sz ∧ P.underlying f.type = some d ∧ d.isRow = ag
 pos : 0 < sz
structure Ty (P : Program) (T sz : Nat) (ag : Bool) : Prop where
 get : ∃ d, P.underlying T = some d ∧ d.isRow = ag ∧ (P.info? T).map (·.size) = some sz
def tyB (P : Program) (T : Nat) : Option (Nat × Bool) :=
 match P.info? T, P.underlying T with
 | some i, some d => some (i.size, d.isRow)
 | _, _ => none
theorem Vm {P : Program} {T sz : Nat} {ag : Bool} (h : tyB P T = some (sz, ag)) : Ty P T sz ag := by
 unfold tyB at h
 split at h
 ·
  rename_i i d hi hd
  simp only [Xw, Prod.mk.injEq] at h
  exact ⟨d, hd, h.2, by rw [hi]; simp [h.1]⟩
 · cases h
theorem wJ {P : Program} {T k off sz : Nat} {ag : Bool} (F : Fld P T k off sz ag) (b n : Nat) : (Instr.fieldAt T (.pointer (some ⟨b, n, none⟩)) k).run P w = .ok (.pointer (some ⟨b, n + off, none⟩)) w := by
 obtain ⟨⟨fs, f, d, h1, h2, h3, h4, h5, h6⟩, h7⟩ := F
 cases hi : P.info? f.type with
 | none => rw [hi] at h4; cases h4
 | some i =>
  rw [hi] at h4
  have hs : i.size = sz := by simpa using h4
  have hne : ¬ i.size = 0 := by omega
  simp [Instr.fieldAt, run_underlying h1, h2, Instr.sureAddr, fieldPlace, sizeOf, typeInfo, hi, hne, h3, eu]
theorem lT {P : Program} {T : TypeId} {d : D} {ok : Nat → Prop} {cs : List Value} {b n : Nat} (hT : Ty P T d.size d.agg) (hr : Reads ok w d cs) (hc : w.rangeAt b n cs) : (Instr.loadAt T (.pointer (some ⟨b, n, none⟩))).run P w = .ok (form d cs) w := by
 obtain ⟨de, h1, h2, h3⟩ := hT
 have hl := Reads.len d cs hr
 unfold form
 cases hd : d.agg with
 | true =>
  rw [hd] at h2
  exact run_loadAt_mid w b n T cs de hc h1 h2 (by rw [h3, hl])
 | false =>
  rw [hd] at h2
  have h1' : cs.length = 1 := by
   rw [hl]
   cases d <;> simp [D.agg] at hd <;> rfl
  obtain ⟨c, rfl⟩ := Yf.1 h1'
  have hcell := hc 0 c rfl
  rw [XI] at hcell
  have hagg : (isAgg T).run P w = .ok false w := by
   unfold isAgg
   rw [WX, run_underlying h1 w]
   cases de <;> simp_all
  simp [Instr.loadAt, Instr.sureAddr, loadVar, Sem.run_bind, hagg, hcell]
theorem lU {b n : Nat} {pre mid post : List Value} (h : w.rangeAt b n (pre ++ mid ++ post)) : w.rangeAt b (n + pre.length) mid := fun j v hv => by
 rw [Y0]
 refine h (pre.length + j) v ?_
 rw [Xp, XY (by omega), X6, XZ ((Xf.1 hv).1)]
 exact hv
theorem iL {g : Nat} {cs : List Value} {t : TypeId} (h : w.heap[g]? = some (.cells cs.toArray t (0, 0))) : w.rangeAt g 0 cs := fun j v hv => by
 rw [Xj, cell_of_row w g j _ t (0, 0) h]
 simpa using hv
theorem RU {x : Operand} {T k off sz g n : Nat} {ag : Bool} (ho : o.op = .fieldAddr T x k) (hx : ev S x = some (.val (.v (.pointer (some ⟨g, n, none⟩))))) (F : Fld Tryz.prog T k off sz ag) : Still ops S o (.val (.v (.pointer (some ⟨g, n + off, none⟩)))) := fun base ok a w ha => by
 have h1 := (aY.1 (ha.ev hx fun t e => aU e (by rw [ho]; simp [Op.operands]))).2
 refine ⟨_, ?_, aY.2 ⟨rfl, rfl⟩⟩
 unfold execOp
 simp only [ho, h1, WX, wJ F, WV, Xc]
theorem I9 {x : Operand} {T k off sz : Nat} {ag : Bool} {d d' : D} (ho : o.op = .fieldAddr T x k) (hx : ev S x = some (.val (.pd d))) (F : Fld Tryz.prog T k off sz ag) (hs : d.sub off sz ag = some d') : Still ops S o (.val (.pd d')) := fun base ok a w ha => by
 have h1 := (dn rfl).1 (ha.ev hx fun t e => aU e (by rw [ho]; simp [Op.operands]))
 rw [Reads] at h1
 obtain ⟨b, n, cs, h2, h3, h4, h5⟩ := h1
 have h2' : a.eval x = .pointer (some ⟨b, n, none⟩) := by simpa using h2
 obtain ⟨e1, e2, pre, mid, post, rfl, e3, e4⟩ := nT d off sz ag d' cs hs h5
 refine ⟨_, ?_, (dn rfl).2 (by rw [Reads]; exact ⟨b, n + off, mid, rfl, h3, by rw [← e3]; exact lU h4, e4⟩)⟩
 unfold execOp
 simp only [ho, h2', WX, wJ F, WV, Xc]
theorem Kn.var (h : Kn base ok L S a w) {i g : Nat} {t : TypeId} {d : D} (hi : S.objs[i]? = some (.var g t d)) : base g ∧ ∃ cs, w.heap[g]? = some (.cells cs.toArray t (0, 0)) ∧ Reads ok w d cs := h.objs _ (Xh hi)
theorem Mem.var {objs : List Obj} {facts : List (Value × D)} (h : Mem X objs facts w) {i g : Nat} {t : TypeId} {d : D} (hi : objs[i]? = some (.var g t d)) : X.mine g ∧ ∃ cs, w.heap[g]? = some (.cells cs.toArray t (0, 0)) ∧ Reads (X.ok objs w) w d cs := h.at_ _ (Xh hi)
theorem UJ {x : Operand} {T sz g n : Nat} {ag : Bool} {t : TypeId} {d d' : D} (i : Nat) (ho : o.op = .load T x) (hx : ev S x = some (.val (.v (.pointer (some ⟨g, n, none⟩))))) (hi : S.objs[i]? = some (.var g t d)) (hT : Ty Tryz.prog T sz ag) (hs : d.sub n sz ag = some d') : Still ops S o (.val d') := fun base ok a w ha => by
 have h1 := (aY.1 (ha.ev hx fun t e => aU e (by rw [ho]; simp [Op.operands]))).2
 obtain ⟨_, cs, h2, h3⟩ := ha.var hi
 obtain ⟨e1, e2, pre, mid, post, rfl, e3, e4⟩ := nT d n sz ag d' cs hs h3
 have hr := lU (iL h2)
 rw [Xj, e3] at hr
 refine ⟨form d' mid, ?_, mid, e4, rfl⟩
 unfold execOp
 simp only [ho, h1, WX, lT (d := d') (by rw [e1, e2]; exact hT) e4 hr, WV, Xc]
theorem Na {x : Operand} {T sz : Nat} {ag : Bool} {d d' : D} (ho : o.op = .load T x) (hx : ev S x = some (.val (.pd d))) (hT : Ty Tryz.prog T sz ag) (hs : d.sub 0 sz ag = some d') : Still ops S o (.val d') := fun base ok a w ha => by
 have h1 := (dn rfl).1 (ha.ev hx fun t e => aU e (by rw [ho]; simp [Op.operands]))
 rw [Reads] at h1
 obtain ⟨b, n, cs, h2, h3, h4, h5⟩ := h1
 have h2' : a.eval x = .pointer (some ⟨b, n, none⟩) := by simpa using h2
 obtain ⟨e1, e2, pre, mid, post, rfl, e3, e4⟩ := nT d 0 sz ag d' cs hs h5
 have hr := lU h4
 rw [e3, XI] at hr
 refine ⟨form d' mid, ?_, mid, e4, rfl⟩
 unfold execOp
 simp only [ho, h2', WX, lT (d := d') (by rw [e1, e2]; exact hT) e4 hr, WV, Xc]
end
end E
end Go.Proofs.YtelbhdobjdnglaaGreat
