/-
 Merged: lemmas of this claim.
 Conditions: none.
-/
import Derived.Test.YtaoicebcdmpemaaGreatZB10
import Derived.Test.YtaoicebcdmpemaaGreatZB17
import Derived.Test.YtaoicebcdmpemaaGreatZB2
import Derived.OpenShut
import Derived.Deep.Slices
import Derived.ChangeSame
import Derived.SizedLaws
import Derived.Test.YtaoicebcdmpemaaGreatZB15
import Derived.Test.YtaoicebcdmpemaaGreatZB11
import Derived.Below
import Derived.Test.YtaoicebcdmpemaaGreatZB0
namespace Go.Proofs.YtaoicebcdmpemaaGreat
set_option linter.unusedVariables false
set_option maxRecDepth 20000
set_option maxHeartbeats 8000000
open Go.RowKit Mono Rlp
namespace E
theorem Sm.got {es : List Ent} {L : List Pr} (h : Sm es L) (w : List UInt8) : aX es w = some (.bs (bfL L w)) ∨ aX es w = none ∧ bfL L w = [] := by
 rw [h.get]
 unfold bfL
 cases aW L w with
 | none => exact .inr ⟨rfl, rfl⟩
 | some b => exact .inl rfl
theorem BZ (L : List Pr) (w : List UInt8) : uT (aW L w) = .tpl [.bs (bfL L w), .v (.bool (jh L w))] := by
 rw [gV]
 unfold bfL uT
 cases aW L w <;> rfl
theorem JK : ∀ q : BitVec 8, bits .xor .u8 (q.toNat : Int) 255 = ((q ^^^ 255).toNat : Int) := by decide +kernel
theorem Ip (b : UInt8) : Bin .xor 5 (.v (bv b)) (.v (.int .u8 255)) (bv (b ^^^ 255)) := Iq rfl fun w => by
 show Result.ok (Value.int .u8 (bits .xor .u8 (b.toBitVec.toNat : Int) 255)) w = _
 rw [JK]
 rfl
theorem Fh (l : List UInt8) (k : Nat) (b : UInt8) : (bvD l).set k (.v (bv b)) = bvD (l.set k b) := by
 unfold bvD
 rw [List.map_set]
def okP (l : List Pr) : Prop := ∀ x ∈ l, x.1.length = 32 ∧ x.2.length ≤ 140737488355328
theorem zy (l m : List Pr) (gone : List (List UInt8)) (hl : okP l) (hm : okP m) (hg : ∀ w ∈ gone, w.length = 32) : FnM 6 [.sl 33 (l.map dNd), .sl 33 (m.map dNd), .sl 32 (gone.map (D.arr 32))] [] (fun r os' => r = .val (.v (.bool true)) ∧ os' = []) := by
 have hA := CV
 have e1 : (l.map dNd).length = l.length := Kv _
 have e2 : (m.map dNd).length = m.length := Kv _
 have e3 : (gone.map (D.arr 32)).length = gone.length := Kv _
 refine FnM.walk 151 Tryz.func6 rfl Tryz.ntmps6 (by simp) fun X => ?_
 by_cases h1 : 60 < l.length
 ·
  skip
  repeat
   (first
    | (refine bG (hA) (kk := ?_)) | (refine stp ?_; intros))
  exact EK.aY [] rfl rfl (Kr _) ⟨rfl, rfl⟩
 by_cases h2 : 60 < m.length
 ·
  skip
  repeat
   (first
    | (refine bG (hA) (kk := ?_)) | (refine stp ?_; intros))
  exact EK.aY [] rfl rfl (Kr _) ⟨rfl, rfl⟩
 by_cases h3 : 60 < gone.length
 ·
  skip
  repeat
   (first
    | (refine bG (hA) (kk := ?_)) | (refine stp ?_; intros))
  exact EK.aY [] rfl rfl (Kr _) ⟨rfl, rfl⟩
 have hS1 := Sm.nil.puts l (c := 0) hl
 have hS2 := hS1.puts m (c := (l.foldl fM (0, [])).1) hm
 have q1 := kH l []
 have q2 := kH m (l.foldl jH [])
 have hP1 := fun g => yJ g [] l (fun x hx => (hl x hx).2) (by simp; omega)
 have hP2 := fun g => yJ g (l.foldl jH []) m (fun x hx => (hm x hx).2) (by simp at q1; omega)
 have hN := CS l (fun x hx => (hl x hx).2) (by omega)
 have hN2 := fun s mm => yK s mm m (fun x hx => (hm x hx).2) (by omega) (l.foldl fM (0, []))
 have n1 := hS1.ln
 have n2 := hS2.ln
 have g1 := qJ m (l.foldl fM (0, []))
 have hLl : (m.foldl jH (l.foldl jH [])).length ≤ 120 := by simp at q1; omega
 generalize m.foldl jH (l.foldl jH []) = L2 at *
 generalize l.foldl jH [] = L1 at *
 obtain ⟨s2, hs2⟩ : ∃ s2, m.foldl fM (l.foldl fM (0, [])) = s2 := ⟨_, rfl⟩
 rw [hs2] at hN2 g1
 have hS2' : Sm s2.2 L2 := by rw [← hs2]; exact hS2
 have n2' := hS2'.ln
 clear hS2 n2 hs2
 generalize l.foldl fM (0, []) = s1 at *
 obtain ⟨c1, es1⟩ := s1
 obtain ⟨c2, es2⟩ := s2
 dsimp only at *
 repeat
  (first
   | (refine bG (hA) (kk := ?_)) | (refine stp ?_; intros))
 refine aO (os := []) hN (kk := ?_)
 rintro _ _ ⟨s, mm, rfl, rfl⟩
 simp only [Ko, J8]
 repeat
  (first
   | (apply qV; rfl; rfl; rfl; intro g) | (refine stp ?_; intros))
 refine EL.le (Le.IX (d' := .tup [.sl 33 (([] : List Pr).map dNd)]) (Rf.tup (RL.cons Rf.sl0 RL.nil))) ?_
 refine aO (os := [_]) (hP1 g) (kk := ?_)
 rintro _ _ ⟨rfl, rfl⟩
 simp only [Ko, J8]
 repeat (refine stp ?_; intros)
 refine EL.le (Le.pick [1, 2, 0] [_, _, _] rfl (by decide) rfl) ?_
 refine aO (os := [_, _]) (hN2 s mm) (kk := ?_)
 rintro _ _ ⟨rfl, rfl⟩
 simp only [Ko, J8]
 repeat (refine stp ?_; intros)
 refine EL.le (Le.pick [2, 0, 1] [_, _, _] rfl (by decide) rfl) ?_
 refine aO (os := [_]) (hP2 g) (kk := ?_)
 rintro _ _ ⟨rfl, rfl⟩
 simp only [Ko, J8]
 have hcmp : kT .neq (((es2.length - es1.length : Nat) : Int)) ((L2.length : Int) - (L1.length : Int)) = some false := by
  have : ((es2.length - es1.length : Nat) : Int) = (L2.length : Int) - (L1.length : Int) := by omega
  simp [kT, this]
 repeat
  (first
   | (apply qU (b := false); (iterate 2 rfl); exact hcmp; iterate 2 rfl) | (refine stp ?_; intros))
 refine EC.loop (ι := {x : Nat × Nat × List Ent × List Pr // x.1 ≤ gone.length ∧ Sm x.2.2.1 x.2.2.2 ∧ x.2.2.2.length ≤ 120})
  (fun x => ⟨[(10, .val (.v (.int .i64 (x.1.1 : Int)))), (2, .val (.sl 32 (gone.map (D.arr 32)))), (8, .val (.v (ptr s))), (9, .val (.v (ptr g)))], [rsO g x.1.2.2.2, nsO s mm, .map mm 32 x.1.2.1 x.1.2.2.1], []⟩)
  (fun x => gone.length - x.1.1) ⟨(0, c2, es2, L2), Lm _, hS2', hLl⟩ ?_ ?_
 · exact Le.kp
 clear hcmp hN2 g1 n2' hS2' n1 hS1 hN hP1 hP2 q1 q2 hLl
 rintro ⟨⟨i, c, es, L⟩, hi, hS, hL⟩
 dsimp only at hi hS hL ⊢
 by_cases hlt : i < gone.length
 ·
  have hd : (gone.map (D.arr 32))[i]? = some (.arr 32 gone[i]) := by rw [List.getElem?_map, List.getElem?_eq_getElem hlt]; rfl
  have hw := hg _ (LH hlt)
  generalize gone[i] = w at hd hw
  have hG := EY s mm c es w (bfL L w) (hS.got w) (hS.bf.2 w)
  have hG2 := EP g L hS.len (by omega) w hw
  rw [BZ] at hG2
  have hD := CU s mm c es w
  have hD2 := Cc g L (by omega) w
  rw [hS.has] at hG hD
  have hS' := hS.del w
  have hL' : (jo L w).length ≤ 120 := by have := oP (h := w) (L := L); omega
  have b1 := (Di (jh L w) (jh L w)).2
  have b2 := (fK (bfL L w) (bfL L w)).2
  rw [bne_self_eq_false] at b1 b2
  generalize bfL L w = bb at *
  generalize jh L w = q at *
  generalize fO es w = es' at *
  generalize jo L w = L' at *
  repeat (refine stp ?_; intros)
  refine EL.le (Le.pick [1, 2, 0] [_, _, _] rfl (by decide) rfl) ?_
  refine aO (os := [_, _]) hG (kk := ?_)
  rintro _ _ ⟨rfl, rfl⟩
  simp only [Ko, J8]
  repeat (refine stp ?_; intros)
  refine EL.le (Le.pick [2, 0, 1] [_, _, _] rfl (by decide) rfl) ?_
  refine aO (os := [_]) hG2 (kk := ?_)
  rintro _ _ ⟨rfl, rfl⟩
  simp only [Ko, J8]
  repeat (refine stp ?_; intros)
  refine EC.le (Le.pick [1, 2, 0] [_, _, _] rfl (by decide) rfl) ?_
  refine EC.mD 25 [0, 1, 2, 3, 4, 5, 6, 7, 8, 9, 10, 11, 12, 13, 14, 15, 17, 18, 19, 20, 21] [16, 22, 23, 24] [_, _, _] _ (by kernel_rfl) (by kernel_rfl) rfl ?_
  simp only [bI, Lp, LQ, KT, KZ]
  repeat
   (first
    | (refine dR (hrun := b1) (kk := ?_)) | (refine dR (hrun := b2) (kk := ?_)) | (refine sth ?_; intros))
  refine EM.nil ?_
  repeat (first | rw [Ko] | rw [J8])
  refine CH.vk (os := [_, _]) (rest := [_]) hD (k := ?_)
  rintro _ _ ⟨rfl, rfl⟩
  try simp only [St.put]
  repeat (first | rw [Ko] | rw [J8])
  refine CH.vk (rest := []) ((hD2.frame [nsO s mm, .map mm 32 c es']).pick [1, 2, 0] rfl (by decide)) (k := ?_)
  rintro _ _ ⟨_, ⟨rfl, rfl⟩, rfl⟩
  try simp only [St.put]
  repeat (first | rw [Ko] | rw [J8])
  refine CH.cut 2 ?_
  simp only [J5, J9, J4, J7]
  repeat
   (first
    | (refine dR (hrun := b1) (kk := ?_)) | (refine sth ?_; intros))
  refine EM.nil ?_
  repeat (first | rw [Ko] | rw [J8])
  refine CH.nil ?_
  try simp only [J4, J7]
  repeat (refine stp ?_; intros)
  refine EK.again ⟨(i + 1, c, es', L'), hlt, hS', hL'⟩ (by dsimp only; omega) ?_
  simp only [Ls]
  exact Le.kp
 ·
  obtain rfl : i = gone.length := by omega
  have hNO := xG s mm c es L hS (by omega)
  have hN3 := zS s mm c es L hS (by omega)
  have hSm := ER L (by omega)
  repeat (refine stp ?_; intros)
  refine EL.le (Le.pick [1, 2, 0] [_, _, _] rfl (by decide) rfl) ?_
  refine aO (os := [_, _]) hNO (kk := ?_)
  rintro _ _ ⟨nv, P, rfl, hP, rfl⟩
  refine EL.le (Le.perm (os' := .row nv 43 33 (P.map nel) :: rsO g L :: nsO s mm :: .map mm 32 c es :: P.map brO) (by rw [Ko]; exact (MN (l₁ := nsO s mm :: .map mm 32 c es :: P.map brO) (l₂ := [rsO g L])).cons _)) ?_
  repeat (refine stp ?_; intros)
  refine EL.borrow (x := .bool true) ((Le.GX (mid := [rsO g L, nsO s mm, .map mm 32 c es])).trans (Le.refine (t := 103) (d' := .sl 33 (L.map dNd)) rfl (Rf.fact (by rw [hP]; exact Kt) rfl))) rfl (fun t ht => by cases ht; decide) (rY hSm rfl rfl (by intro _ _; simp [go_sem]) (aj.refl _ _)) ?_
  have hPl : P.length ≤ 120 := by rw [← hP, Kv] at hL; exact hL
  have hnl : (P.map nel).length = P.length := Kv _
  simp only [St.put]
  repeat (refine stp ?_; intros)
  clear hNO
  refine EC.loop (ι := {i : Nat // i ≤ P.length})
   (fun i => ⟨[(17, .val (.v (.int .i64 (i.1 : Int)))), (16, .val (.v (.bool true))), (15, .val (.v nv)), (8, .val (.v (ptr s))), (9, .val (.v (ptr g)))], .row nv 43 33 (P.map nel) :: rsO g L :: nsO s mm :: .map mm 32 c es :: (P.drop i.1).map brO, []⟩)
   (fun i => P.length - i.1) ⟨0, Lm _⟩ ?_ ?_
  · exact (Le.keep (by repeat first | exact trivial | refine ⟨rfl, ?_⟩) (by repeat first | exact Lc _ | apply List.Sublist.cons_cons | apply List.Sublist.cons) (by simp))
  rintro ⟨i, hi⟩
  dsimp only at hi ⊢
  by_cases hlt : i < P.length
  ·
   have hnel : (P.map nel)[i]? = some (nel P[i]) := by rw [List.getElem?_map, List.getElem?_eq_getElem hlt]; rfl
   rw [KW hlt, KD]
   have hpb : P[i].1.2.length ≤ 140737488355328 := hS.bl _ (by rw [← hP]; exact KI.2 ⟨P[i], LH hlt, rfl⟩)
   generalize P[i] = p at hnel hpb
   obtain ⟨⟨ph, pb⟩, pv⟩ := p
   dsimp only at hpb
   obtain ⟨tl, htl⟩ : ∃ tl, (P.drop (i + 1)).map brO = tl := ⟨_, rfl⟩
   rw [htl]
   repeat
    (first
     | (apply jv (i := 0); rfl; rfl; iterate 3 rfl) | (refine stp ?_; intros))
   refine EC.loop (ι := {x : Nat × List UInt8 // x.1 ≤ pb.length ∧ x.2.length = pb.length})
    (fun x => ⟨[(18, .val (.v (.int .i64 (x.1.1 : Int)))), (17, .val (.v (.int .i64 (i : Int)))), (16, .val (.v (.bool true))), (15, .val (.v nv)), (8, .val (.v (ptr s))), (9, .val (.v (ptr g)))], .row nv 43 33 (P.map nel) :: rsO g L :: nsO s mm :: .map mm 32 c es :: .row pv 5 1 (bvD x.1.2) :: tl, []⟩)
    (fun x => pb.length - x.1.1) ⟨(0, pb), Lm _, rfl⟩ ?_ ?_
   · exact (Le.keep (by repeat first | exact trivial | refine ⟨rfl, ?_⟩) (by repeat first | exact Lc _ | apply List.Sublist.cons_cons | apply List.Sublist.cons) (by simp))
   rintro ⟨⟨k, bs⟩, hk, hbs⟩
   dsimp only at hk hbs ⊢
   have hbl : (bvD bs).length = bs.length := Kv _
   by_cases hk2 : k < bs.length
   ·
    have hbk : (bvD bs)[k]? = some (.v (bv bs[k])) := by unfold bvD; rw [List.getElem?_map, List.getElem?_eq_getElem hk2]; rfl
    generalize bs[k] = b at hbk
    have hx := Ip b
    repeat
     (first
      | (apply kW; rfl; exact I0; rfl; rfl; exact ⟨by omega, by rw [KX, hnl]; exact hlt⟩; iterate 2 rfl)
      | (apply qR (k := i) (off := 32) (d := nel ((ph, pb), pv)); rfl; exact I0; exact ⟨by simp, hnel⟩; iterate 4 rfl)
      | (apply jv (i := 4); rfl; rfl; iterate 3 rfl) | (refine stp ?_; intros))
    refine EC.draw 15 (by kernel_rfl) ?_
    simp only [J5, J9, J4, J7]
    repeat
     (first
      | (apply pK; rfl; exact I0; rfl; rfl; exact ⟨by omega, by rw [KX, hnl]; exact hlt⟩; iterate 2 rfl)
      | (apply qW (k := i) (off := 32) (d := nel ((ph, pb), pv)); rfl; exact I0; exact ⟨by simp, hnel⟩; iterate 4 rfl)
      | (apply pK (i := 4); rfl; rfl; rfl; rfl; exact ⟨by omega, by rw [KX, hbl]; exact hk2⟩; iterate 2 rfl)
      | (apply qW (i := 4) (k := k) (off := 0) (d := .v (bv b)); rfl; rfl; exact ⟨by simp, hbk⟩; iterate 4 rfl)
      | (refine dR (hrun := hx) (kk := ?_)) | (refine sth ?_; intros))
    dsimp only
    repeat
     (first
      | (apply kW (i := 4); rfl; rfl; rfl; rfl; exact ⟨by omega, by rw [KX, hbl]; exact hk2⟩; iterate 2 rfl)
      | (apply xO (k := k) (off := 0) (d := .v (bv b)) (d'' := .v (bv (b ^^^ 255))); rfl; exact .s (.s (.s (.s .z))); exact ⟨by simp, hbk⟩; (iterate 4 rfl); rw [Fh])
      | (refine stp ?_; intros))
    refine EK.again ⟨(k + 1, bs.set k (b ^^^ 255)), by omega, by rw [Me]; exact hbs⟩ (by dsimp only; omega) ?_
    simp only [Ls]
    exact (Le.keep (by repeat first | exact trivial | refine ⟨rfl, ?_⟩) (by repeat first | exact Lc _ | apply List.Sublist.cons_cons | apply List.Sublist.cons) (by simp))
   ·
    skip
    repeat
     (first
      | (apply kW; rfl; exact I0; rfl; rfl; exact ⟨by omega, by rw [KX, hnl]; exact hlt⟩; iterate 2 rfl)
      | (apply qR (k := i) (off := 32) (d := nel ((ph, pb), pv)); rfl; exact I0; exact ⟨by simp, hnel⟩; iterate 4 rfl)
      | (apply jv (i := 4); rfl; rfl; iterate 3 rfl) | (refine stp ?_; intros))
    refine EK.again ⟨i + 1, hlt⟩ (by dsimp only; omega) ?_
    simp only [Ls]
    rw [htl]
    exact (Le.keep (by repeat first | exact trivial | refine ⟨rfl, ?_⟩) (by repeat first | exact Lc _ | apply List.Sublist.cons_cons | apply List.Sublist.cons) (by simp))
  ·
   obtain rfl : i = P.length := by omega
   rw [List.drop_length, KU]
   repeat
    (first
     | (apply jv (i := 0); rfl; rfl; iterate 3 rfl) | (refine stp ?_; intros))
   refine EC.le (Le.pick [2, 3, 1, 0] [_, _, _, _] rfl (by decide) rfl) ?_
   refine EC.mD 10 [0, 1, 2, 4, 5, 6, 7] [3, 8, 9] [_, _] _ (by kernel_rfl) (by kernel_rfl) rfl ?_
   simp only [bI, Lp, LQ, KT, KZ]
   repeat (refine sth ?_; intros)
   refine EM.nil ?_
   repeat (first | rw [Ko] | rw [J8])
   refine CH.vk (os := [_, _]) (rest := []) hN3 (k := ?_)
   rintro _ _ ⟨rfl, rfl⟩
   try simp only [St.put]
   repeat (first | rw [Ko] | rw [J8])
   refine CH.cut 2 ?_
   simp only [J5, J9, J4, J7]
   repeat
    (first
     | (refine bP (hSm) (kk := ?_)) | (refine sth ?_; intros))
   refine EM.nil ?_
   repeat (first | rw [Ko] | rw [J8])
   refine CH.nil ?_
   try simp only [J4, J7]
   repeat (refine stp ?_; intros)
   exact EK.aY [] rfl rfl (Kr _) ⟨rfl, rfl⟩
end E
end Go.Proofs.YtaoicebcdmpemaaGreat
namespace Go.Proofs.YtaoicebcdmpemaaGreat
open Go.RowKit Mono

end Go.Proofs.YtaoicebcdmpemaaGreat
namespace Go.Proofs.YtaoicebcdmpemaaGreat
set_option linter.unusedVariables false
set_option maxRecDepth 100000
open Go.RowKit Mono Go.ChangeShapes Go.WideShapes Go.Deep
theorem cell_spot {w : World} {p : Addr} {v : Value} (h : w.cell? p = some v) : p.block < w.heap.size ∧ ∃ b o, p = ⟨b, o, none⟩ := by
 obtain ⟨blk, off, spot⟩ := p
 have hspot : spot = none := by
  simp only [World.cell?] at h
  cases spot with
  | none => rfl
  | some s =>
   simp at h
   split at h <;> simp at h
 subst hspot
 refine ⟨?_, blk, off, rfl⟩
 rcases KP blk w.heap.size with hlt | hge
 · exact hlt
 · simp [World.cell?, Array.getElem?_eq_none hge] at h
theorem flat_get {n : Nat} {u : Value} : ∀ (rows : List (List Value)) (j : Nat), (∀ r ∈ rows, r.length = n) → rows.flatten[j]? = some u → ∃ i r row, j = i * n + r ∧ r < n ∧ rows[i]? = some row ∧ row[r]? = some u
 | [], j, _, h => by simp at h
 | row :: rows, j, hn, h => by
  have hr : row.length = n := hn row (by simp)
  rw [KG] at h
  by_cases hj : j < n
  ·
   rw [LC (by omega)] at h
   exact ⟨0, j, row, by simp, hj, rfl, h⟩
  ·
   rw [Lr (by omega), hr] at h
   obtain ⟨i, r, row', h1, h2, h3, h4⟩ := flat_get rows (j - n) (fun r hr => hn r (by simp [hr])) h
   exact ⟨i + 1, r, row', by rw [LW]; omega, h2, by simpa using h3, h4⟩
section
variable {H : Type} {enc : TypeId × Value → H} {w : World} {spare : Nat → Bool} {held : Bool}
theorem int_of_trod {t : TypeId} {k : IntKind} {fuel : Nat} {cs : List Value} {x : DataW H × List MemPlace} (ht : Tryz.prog.underlying t = some (.int k)) (h : DataW.trod enc Tryz.prog w 0 spare held fuel t cs = some x) : ∃ n, cs = [.int k n] ∧ (Lit.int k n).wf = true := by
 obtain ⟨n, h1, _, h2⟩ := DataW.trod_int ht h
 exact ⟨n, h1, h2⟩
theorem mZ {fuel : Nat} {cs : List Value} {x : DataW H × List MemPlace} (h : DataW.trod enc Tryz.prog w 0 spare held fuel 5 cs = some x) : ∃ b : UInt8, cs = [bv b] := by
 obtain ⟨n, rfl, hw⟩ := int_of_trod Tryz.underlying5 h
 have hb := bounds_u8 hw
 refine ⟨UInt8.ofNat n.toNat, ?_⟩
 unfold bv
 rw [UInt8.toNat_ofNat']
 have : ((n.toNat % 2 ^ 8 : Nat) : Int) = n := by omega
 rw [this]
theorem pV {rows : List (List Value)} (h : ∀ r ∈ rows, ∃ b : UInt8, r = [bv b]) : ∃ l : List UInt8, l.length = rows.length ∧ rows.flatten = bvs l := by
 induction rows with
 | nil => exact ⟨[], rfl, rfl⟩
 | cons r rows ih =>
  obtain ⟨l, h1, h2⟩ := ih fun r hr => h r (by simp [hr])
  obtain ⟨b, rfl⟩ := h r (by simp)
  exact ⟨b :: l, by simp [h1], by simp [h2, bvs]⟩
set_option maxRecDepth 100000
variable {r : Reach} {b0 : Nat} {v : Value} {d : DataW H} {ps : List MemPlace}
end
section
variable {H : Type} {enc : TypeId × Value → H} {w : World} {spare : Nat → Bool} {held : Bool}
theorem Ik (cs : List Value) (h : ∀ u ∈ cs, ∃ b : UInt8, u = bv b) : ∃ l : List UInt8, cs = bvs l := by
 induction cs with
 | nil => exact ⟨[], rfl⟩
 | cons u cs ih =>
  obtain ⟨l, hl⟩ := ih fun u hu => h u (by simp [hu])
  obtain ⟨b, rfl⟩ := h u (by simp)
  exact ⟨b :: l, by rw [hl]; rfl⟩
theorem vF {t : TypeId} {n fuel : Nat} {cs : List Value} {x : DataW H × List MemPlace} (ht : Tryz.prog.underlying t = some (.array n 5)) (hc : Tryz.prog.cellsOf t = n) (h : DataW.trod enc Tryz.prog w 0 spare held fuel t cs = some x) :
  ∃ l : List UInt8, l.length = n ∧ cs = bvs l := by
 obtain ⟨xs, m, _, _, hl, hxl, hg⟩ := DataW.trod_array ht h
 rw [hc] at hl
 obtain ⟨l, rfl⟩ := Ik cs fun u hu => by
  obtain ⟨i, hi, rfl⟩ := List.getElem_of_mem hu
  have h1 := hg i (by omega)
  rw [(by kernel_rfl : Tryz.prog.cellsOf 5 = 1), Nat.mul_one, KW hi, J5, J9, List.getElem?_eq_getElem (by omega)] at h1
  obtain ⟨b, hb⟩ := mZ h1
  exact ⟨b, by simpa using hb⟩
 exact ⟨l, by rw [← hl, aJ], rfl⟩
variable {r : Reach} {b0 : Nat} {v : Value} {d : DataW H} {ps : List MemPlace}
end
section
variable {H : Type} {enc : TypeId × Value → H} {w : World} {spare : Nat → Bool} {held : Bool}
theorem lM {P : Program} {e : TypeId} {d : DataW H} {k : Nat} : ∀ {ds : List (DataW H)}, d ∈ ds → k ∈ d.weights P e → k ∈ DataW.weightsAll P e ds
 | [], h, _ => by cases h
 | x :: xs, h, hk => by
  rw [DataW.weightsAll]
  rcases Kz.1 h with rfl | h
  · exact KO _ hk
  · exact KL _ (lM h hk)
theorem lS {t e n : TypeId} {fuel : Nat} {v : Value} {x : DataW H × List MemPlace} (ht : Tryz.prog.underlying t = some (.slice e)) (hn : Tryz.prog.cellsOf e = n) (h : DataW.trod enc Tryz.prog w 0 spare held fuel t [v] = some x) :
  ∃ (A : Option Addr) (c f : Nat) (rows : List (List Value)), v = .slice A rows.length c ∧ rows.length ≤ c ∧ c ≤ maxLen ∧ Rd w w.heap.size A rows.flatten ∧ (∀ r ∈ rows, r.length = n) ∧ (A = none → rows = [] ∧ c = 0) ∧ (rows ≠ [] → f < fuel) ∧ (∀ r ∈ rows, ∃ y, DataW.trod enc Tryz.prog w 0 spare held f e r = some y ∧ ∀ k ∈ y.1.weights Tryz.prog e, k ∈ x.1.weights Tryz.prog t) ∧ (rows ≠ [] → ∃ k ∈ x.1.weights Tryz.prog t, rows.length * Tryz.prog.bytesOf e ≤ k) := by
 rcases DataW.trod_slice ht h with ⟨hcs, hx⟩ | ⟨a, len, cap, elems, rest, f, hfu, hcs, hx, _, hl, hm, hel, hi, _⟩
 ·
  simp at hcs
  subst hcs
  exact ⟨none, 0, 0, [], rfl, Nat.le_refl _, by simp [maxLen], Rd.nil, by simp, fun _ => ⟨rfl, rfl⟩, fun hne => absurd rfl hne, by simp, fun hne => absurd rfl hne⟩
 ·
  simp at hcs
  subst hcs
  rw [hn] at hi
  let row : Nat → List Value := fun i => (w.cells? 0 (a.add (i * n)) n).getD []
  have hrow : ∀ i, i < len → w.cells? 0 (a.add (i * n)) n = some (row i) ∧ ∃ y, DataW.trod enc Tryz.prog w 0 spare held f e (row i) = some y ∧ ∀ k ∈ y.1.weights Tryz.prog e, k ∈ x.1.weights Tryz.prog t := fun i hil => by
   have h1 := hi i hil
   rw [List.getElem?_eq_getElem (by omega)] at h1
   cases hc : w.cells? 0 (a.add (i * n)) n with
   | none => rw [hc] at h1; cases h1
   | some cs' =>
    rw [hc] at h1
    have : row i = cs' := by simp only [row]; rw [hc]; rfl
    rw [this]
    refine ⟨rfl, _, h1, fun k hk => ?_⟩
    rw [hx, DataW.weights, ht]
    exact KC _ (KO _ (lM (List.mem_map_of_mem (LH (by omega))) hk))
  have hmem : ∀ r ∈ (List.range len).map row, ∃ i, i < len ∧ r = row i := fun r hr => by
   obtain ⟨i, h1, h2⟩ := KI.1 hr
   exact ⟨i, Na.1 h1, h2.symm⟩
  have hlen : ∀ r ∈ (List.range len).map row, r.length = n := fun r hr => by
   obtain ⟨i, h1, rfl⟩ := hmem r hr
   exact (World.cells?_some (hrow i h1).1).2.1
  refine ⟨some a, cap, f, (List.range len).map row, by simp, by simpa using hl, hm, ?_, hlen, (fun e => by cases e), fun _ => by omega, fun r hr => ?_, fun _ => ⟨(elems.length + rest.length) * Tryz.prog.bytesOf e, ?_, ?_⟩⟩
  ·
   have hcell : ∀ j u, ((List.range len).map row).flatten[j]? = some u → w.cell? (a.add j) = some u := fun j u hu => by
    obtain ⟨i, r, row', rfl, h2, h3, h4⟩ := flat_get _ j hlen hu
    have hil : i < len := by
     have := (Kw.1 h3).1
     simpa using this
    have h5 : row' = row i := by
     rw [List.getElem?_map, List.getElem?_range hil] at h3
     exact (Lu h3).symm
    subst h5
    have h6 := (World.cells?_some (hrow i hil).1).2.2 r h2
    rw [h4, Go.Deep.add_add] at h6
    exact h6
   intro hne
   obtain ⟨u0, rest, he⟩ := List.exists_cons_of_ne_nil hne
   have h0 := hcell 0 u0 (by rw [he]; rfl)
   rw [show a.add 0 = a from if_pos rfl] at h0
   obtain ⟨h1, b, o, rfl⟩ := cell_spot h0
   refine ⟨b, o, rfl, h1, fun j u hu => ?_⟩
   have := hcell j u hu
   rw [bM] at this
   exact this
  ·
   obtain ⟨i, h1, rfl⟩ := hmem r hr
   exact (hrow i h1).2
  ·
   rw [hx, DataW.weights, ht]
   simp
  ·
   rw [Kv, List.length_range]
   exact Nb _ (by omega)
end
end Go.Proofs.YtaoicebcdmpemaaGreat
namespace Go.Proofs.YtaoicebcdmpemaaGreat
set_option linter.unusedVariables false
set_option maxRecDepth 100000
open Go.RowKit Mono Go.ChangeShapes Go.WideShapes Go.Deep
namespace E
inductive Sh where
 | bool
 | int (k : IntKind)
 | arr (n : Nat)
 | bytes
 | slice (b : Nat) (s : Sh)
 | struct (ss : List Sh)
mutual
def Sh.size : Sh → Nat
 | .arr n => n
 | .struct ss => Sh.sizes ss
 | _ => 1
def Sh.sizes : List Sh → Nat
 | [] => 0
 | s :: ss => s.size + Sh.sizes ss
end
def Sh.agg : Sh → Bool
 | .arr _ => true
 | .struct _ => true
 | _ => false
mutual
def Sh.Is : Sh → TypeId → Prop
 | .bool, t => Tryz.prog.underlying t = some .bool ∧ Tryz.prog.cellsOf t = 1
 | .int k, t => Tryz.prog.underlying t = some (.int k) ∧ Tryz.prog.cellsOf t = 1
 | .arr n, t => Tryz.prog.underlying t = some (.array n 5) ∧ Tryz.prog.cellsOf t = n
 | .bytes, t => Tryz.prog.underlying t = some (.slice 5) ∧ Tryz.prog.cellsOf t = 1
 | .slice b s, t => Tryz.prog.cellsOf t = 1 ∧ ∃ e, Tryz.prog.underlying t = some (.slice e) ∧ Tryz.prog.bytesOf e = b ∧ s.Is e
 | .struct ss, t => ∃ fs : Array Field, Tryz.prog.underlying t = some (.struct fs) ∧ Tryz.prog.cellsOf t = Sh.sizes ss ∧ Sh.IsF ss 0 fs.toList
def Sh.IsF : List Sh → Nat → List Field → Prop
 | [], _, fs => fs = []
 | s :: ss, o, fs => ∃ f rest, fs = f :: rest ∧ f.offset = o ∧ s.Is f.type ∧ Sh.IsF ss (o + s.size) rest
end
mutual
def Sh.Of (N : Nat) : Sh → D → Prop
 | .bool, d => ∃ b, d = .v (.bool b)
 | .int k, d => ∃ n, d = .v (.int k n) ∧ (Lit.int k n).wf = true
 | .arr n, d => ∃ l : List UInt8, l.length = n ∧ d = .arr n l
 | .bytes, d => ∃ l : List UInt8, l.length ≤ N ∧ d = .bs l
 | .slice b s, d => ∃ ds : List D, ds.length * b ≤ N ∧ d = .sl s.size ds ∧ ∀ x ∈ ds, s.Of N x
 | .struct ss, d => ∃ ds, d = .tup ds ∧ Sh.OfL N ss ds
def Sh.OfL (N : Nat) : List Sh → List D → Prop
 | [], ds => ds = []
 | s :: ss, ds => ∃ d rest, ds = d :: rest ∧ s.Of N d ∧ Sh.OfL N ss rest
end
theorem Sh.Is.cells : ∀ {s : Sh} {t : TypeId}, s.Is t → Tryz.prog.cellsOf t = s.size
 | .bool, t, h => by rw [Sh.Is] at h; exact h.2
 | .int k, t, h => by rw [Sh.Is] at h; exact h.2
 | .arr n, t, h => by rw [Sh.Is] at h; exact h.2
 | .bytes, t, h => by rw [Sh.Is] at h; exact h.2
 | .slice b s, t, h => by rw [Sh.Is] at h; exact h.1
 | .struct ss, t, h => by
  rw [Sh.Is] at h
  obtain ⟨fs, _, h2, _⟩ := h
  exact h2
theorem x9 {ok : Nat → Prop} {w : World} {z : Nat} {Q : D → Prop} : ∀ {rows : List (List Value)}, (∀ r ∈ rows, r.length = z ∧ ∃ d, Q d ∧ Reads ok w d r) → ∃ ds, ds.length = rows.length ∧ (∀ x ∈ ds, Q x) ∧ ah ok w z ds rows
 | [], _ => ⟨[], rfl, by simp, by rw [ah]⟩
 | r :: rows, h => by
  obtain ⟨ds, h1, h2, h3⟩ := x9 (rows := rows) fun r hr => h r (by simp [hr])
  obtain ⟨hz, d, hd, hr⟩ := h r (by simp)
  refine ⟨d :: ds, by simp [h1], fun x hx => ?_, by rw [ah]; exact ⟨r, rows, rfl, hz, hr, h3⟩⟩
  rcases Kz.1 hx with rfl | hx
  · exact hd
  · exact h2 x hx
section
variable {H : Type} {enc : TypeId × Value → H} {w : World} {spare : Nat → Bool} {held : Bool} {N : Nat}
mutual
theorem rG : ∀ (s : Sh) (t : TypeId) (fuel : Nat) (cs : List Value) (x : DataW H × List MemPlace), s.Is t → DataW.trod enc Tryz.prog w 0 spare held fuel t cs = some x → (∀ k ∈ x.1.weights Tryz.prog t, k ≤ N) → ∃ d, s.Of N d ∧ Reads (fun b => b < w.heap.size) w d cs
 | .bool, t, fuel, cs, x, hs, h, hN => by
  rw [Sh.Is] at hs
  obtain ⟨b, rfl, _⟩ := DataW.trod_bool hs.1 h
  exact ⟨.v (.bool b), by rw [Sh.Of]; exact ⟨b, rfl⟩, by rw [Reads]; exact ⟨rfl, rfl⟩⟩
 | .int k, t, fuel, cs, x, hs, h, hN => by
  rw [Sh.Is] at hs
  obtain ⟨n, rfl, _, hw⟩ := DataW.trod_int hs.1 h
  exact ⟨.v (.int k n), by rw [Sh.Of]; exact ⟨n, rfl, hw⟩, by rw [Reads]; exact ⟨rfl, rfl⟩⟩
 | .arr n, t, fuel, cs, x, hs, h, hN => by
  rw [Sh.Is] at hs
  obtain ⟨l, hl, rfl⟩ := vF hs.1 hs.2 h
  exact ⟨.arr n l, by rw [Sh.Of]; exact ⟨l, hl, rfl⟩, by rw [Reads]; exact ⟨hl, rfl⟩⟩
 | .bytes, t, fuel, cs, x, hs, h, hN => by
  rw [Sh.Is] at hs
  have hl : ∃ v, cs = [v] := by
   rcases DataW.trod_slice hs.1 h with ⟨hcs, _⟩ | ⟨a, len, cap, elems, rest, f, hfu, hcs, _⟩
   · exact ⟨_, hcs⟩
   · exact ⟨_, hcs⟩
  obtain ⟨v, rfl⟩ := hl
  obtain ⟨A, c, f, rows, rfl, h1, h2, h3, _, _, _, h5, h8⟩ := lS hs.1 (by kernel_rfl : Tryz.prog.cellsOf 5 = 1) h
  obtain ⟨l, h6, h7⟩ := pV fun r hr => by
   obtain ⟨y, hy, _⟩ := h5 r hr
   exact mZ hy
  rw [h7] at h3
  have hl : l.length ≤ N := by
   rw [h6]
   by_cases hr : rows = []
   · rw [hr]; simp
   ·
    obtain ⟨k, hk, hk2⟩ := h8 hr
    rw [(by kernel_rfl : Tryz.prog.bytesOf 5 = 1), Nat.mul_one] at hk2
    exact La hk2 (hN k hk)
  exact ⟨.bs l, by rw [Sh.Of]; exact ⟨l, hl, rfl⟩, by rw [Reads]; exact ⟨_, rfl, A, c, by rw [h6], by rw [h6]; exact h1, h2, h3⟩⟩
 | .slice b s, t, fuel, cs, x, hs, h, hN => by
  rw [Sh.Is] at hs
  obtain ⟨_, e, hu, hb, he⟩ := hs
  have hl : ∃ v, cs = [v] := by
   rcases DataW.trod_slice hu h with ⟨hcs, _⟩ | ⟨a, len, cap, elems, rest, f, hfu, hcs, _⟩
   · exact ⟨_, hcs⟩
   · exact ⟨_, hcs⟩
  obtain ⟨v, rfl⟩ := hl
  obtain ⟨A, c, f, rows, rfl, h1, h2, h3, h4, h5, _, h6, h8⟩ := lS hu he.cells h
  obtain ⟨ds, g1, g2, g3⟩ := x9 (ok := fun b => b < w.heap.size) (w := w) (z := s.size) (Q := s.Of N) fun r hr => by
   obtain ⟨y, hy, hk⟩ := h6 r hr
   exact ⟨h4 r hr, rG s e f r y he hy fun k hk' => hN k (hk k hk')⟩
  have hl : ds.length * b ≤ N := by
   rw [g1, ← hb]
   by_cases hr : rows = []
   · rw [hr]; simp
   ·
    obtain ⟨k, hk, hk2⟩ := h8 hr
    exact La hk2 (hN k hk)
  refine ⟨.sl s.size ds, by rw [Sh.Of]; exact ⟨ds, hl, rfl, g2⟩, ?_⟩
  rw [Reads]
  exact ⟨A, c, rows, by rw [g1], by rw [g1]; exact h1, h2, fun e => by rw [g1, (h5 e).1]; exact ⟨rfl, (h5 e).2⟩, h3, g3⟩
 | .struct ss, t, fuel, cs, x, hs, h, hN => by
  rw [Sh.Is] at hs
  obtain ⟨fs, hu, hc, hf⟩ := hs
  obtain ⟨xs, n, _, hx, hl, hxl, hg⟩ := DataW.trod_struct hu h
  obtain ⟨ds, h1, h2⟩ := tC ss 0 n cs fs.toList hf (by rw [hl, hc, KJ]) fun f hm => by
   obtain ⟨i, hi, rfl⟩ := List.getElem_of_mem hm
   have hi' : i < fs.size := by simpa using hi
   have := hg i fs[i] (by rw [MR hi'])
   rw [List.getElem?_eq_getElem (by omega)] at this
   refine ⟨_, this, fun k hk => hN k ?_⟩
   rw [hx]
   simp only [DataW.weights, hu]
   exact DataW.weights_mem_each (j := i) (t := fs[i].type) (d := xs[i].1) (by simp [Array.getElem?_eq_getElem hi']) (by rw [List.getElem?_map, List.getElem?_eq_getElem (by omega)]; rfl) k hk
  exact ⟨.tup ds, by rw [Sh.Of]; exact ⟨ds, rfl, h1⟩, by rw [Reads]; simpa using h2⟩
theorem tC : ∀ (ss : List Sh) (o n : Nat) (cs : List Value) (fs : List Field), Sh.IsF ss o fs → cs.length = o + Sh.sizes ss → (∀ f ∈ fs, ∃ y, DataW.trod enc Tryz.prog w 0 spare held n f.type ((cs.drop f.offset).take (Tryz.prog.cellsOf f.type)) = some y ∧ ∀ k ∈ y.1.weights Tryz.prog f.type, k ≤ N) →
  ∃ ds, Sh.OfL N ss ds ∧ aK (fun b => b < w.heap.size) w ds (cs.drop o)
 | [], o, n, cs, fs, hf, hl, h => ⟨[], by rw [Sh.OfL], by
  rw [aK]
  rw [Sh.sizes] at hl
  exact LJ (by omega)⟩
 | s :: ss, o, n, cs, fs, hf, hl, h => by
  rw [Sh.IsF] at hf
  obtain ⟨f, rest, rfl, rfl, hs, hf⟩ := hf
  rw [Sh.sizes] at hl
  obtain ⟨y, hy, hk⟩ := h f (by simp)
  rw [hs.cells] at hy
  obtain ⟨d, h1, h2⟩ := rG s f.type n _ y hs hy hk
  obtain ⟨ds, h3, h4⟩ := tC ss (f.offset + s.size) n cs rest hf (by omega) fun g hg => h g (by simp [hg])
  refine ⟨d :: ds, by rw [Sh.OfL]; exact ⟨d, ds, rfl, h1, h3⟩, ?_⟩
  rw [aK]
  refine ⟨_, _, ?_, h2, h4⟩
  rw [← Nq, LK]
end
theorem Gy {s : Sh} {d : D} (h : s.Of N d) : d.agg = s.agg := by
 cases s <;> rw [Sh.Of] at h
 ·
  obtain ⟨_, rfl⟩ := h
  rfl
 ·
  obtain ⟨_, rfl, _⟩ := h
  rfl
 ·
  obtain ⟨_, _, rfl⟩ := h
  rfl
 ·
  obtain ⟨_, _, rfl⟩ := h
  rfl
 ·
  obtain ⟨_, _, rfl, _⟩ := h
  rfl
 ·
  obtain ⟨_, rfl, _⟩ := h
  rfl
variable {r : Reach} {b0 : Nat} {v : Value} {d : DataW H} {ps : List MemPlace}
theorem AB {s : Sh} {t : TypeId} (hs : s.Is t) (hv : Value.okWide Tryz.prog w r b0 t v) (h : DataW.Trod enc Tryz.prog w 0 spare held t v d ps) : v = if s.agg then .agg v.cells else v.cells.toList.headD undef := by
 cases s <;> rw [Sh.Is] at hs
 ·
  obtain ⟨b, rfl, _⟩ := open_bool hs.1 hv h
  rfl
 ·
  obtain ⟨n, rfl, _⟩ := open_int hs.1 hv h
  rfl
 ·
  simp only [Value.okWide, hs.1] at hv
  obtain ⟨cs, rfl, _⟩ := hv
  rfl
 ·
  obtain ⟨a, n, c, rfl⟩ := okWide_slice hs.1 hv
  rfl
 ·
  obtain ⟨_, e, hu, _, _⟩ := hs
  obtain ⟨a, n, c, rfl⟩ := okWide_slice hu hv
  rfl
 ·
  obtain ⟨fs, hu, _⟩ := hs
  simp only [Value.okWide, hu] at hv
  obtain ⟨cs, rfl, _⟩ := hv
  rfl
theorem Jf {s : Sh} {t : TypeId} (hs : s.Is t) (hv : Value.okWide Tryz.prog w r b0 t v) (h : DataW.Trod enc Tryz.prog w 0 spare held t v d ps) (hN : ∀ k ∈ d.weights Tryz.prog t, k ≤ N) : ∃ D, s.Of N D ∧ aP (fun b => b < w.heap.size) w D v := by
 have h3 := AB hs hv h
 obtain ⟨fuel, hf⟩ := h
 obtain ⟨D, h1, h2⟩ := rG s t fuel _ _ hs hf hN
 refine ⟨D, h1, _, h2, ?_⟩
 unfold form
 rw [Gy h1]
 simpa using h3
end
end E
end Go.Proofs.YtaoicebcdmpemaaGreat
namespace Go.Proofs.YtaoicebcdmpemaaGreat
set_option linter.unusedVariables false
set_option maxRecDepth 100000
open Go.RowKit Mono Go.ChangeShapes Go.WideShapes Go.Deep
namespace E
def AL : Sh := .struct [.arr 32, .bytes]
theorem Eo : AL.Is 43 := by
 unfold AL
 rw [Sh.Is]
 refine ⟨_, Tryz.underlying43, by kernel_rfl, ?_⟩
 simp only [Sh.IsF, Sh.Is]
 exact ⟨_, _, rfl, rfl, ⟨Tryz.underlying36, by kernel_rfl⟩, _, _, rfl, rfl, ⟨Tryz.underlying41, by kernel_rfl⟩, rfl⟩
theorem Bv : (Sh.slice 56 AL).Is 27 := by
 rw [Sh.Is]
 exact ⟨by kernel_rfl, _, Tryz.underlying27, by kernel_rfl, Eo⟩
theorem Bq : (Sh.slice 32 (Sh.arr 32)).Is 69 := by
 rw [Sh.Is]
 exact ⟨by kernel_rfl, _, Tryz.underlying69, by kernel_rfl, by rw [Sh.Is]; exact ⟨Tryz.underlying36, by kernel_rfl⟩⟩
theorem nY {α : Type} {Q : D → Prop} {P : α → Prop} {f : α → D} (h : ∀ d, Q d → ∃ a, P a ∧ d = f a) : ∀ {ds : List D}, (∀ x ∈ ds, Q x) → ∃ rs : List α, (∀ a ∈ rs, P a) ∧ ds = rs.map f
 | [], _ => ⟨[], by simp, rfl⟩
 | d :: ds, hd => by
  obtain ⟨a, h1, rfl⟩ := h d (hd d (by simp))
  obtain ⟨rs, h2, rfl⟩ := nY h fun x hx => hd x (KC _ hx)
  refine ⟨a :: rs, fun b hb => ?_, rfl⟩
  rcases Kz.1 hb with rfl | hb
  · exact h1
  · exact h2 b hb
theorem Em (l : List Nat) : ∀ k ∈ l, k ≤ l.sum := by
 induction l with
 | nil => intro k hk; cases hk
 | cons a l ih =>
  intro k hk
  rw [List.sum_cons]
  rcases Kz.1 hk with rfl | hk
  · omega
  ·
   have := ih k hk
   omega
variable {N : Nat}
theorem Ed {d : D} (h : AL.Of N d) : ∃ x : Pr, (x.1.length = 32 ∧ x.2.length ≤ N) ∧ d = dNd x := by
 unfold AL at h
 simp only [Sh.Of, Sh.OfL] at h
 obtain ⟨_, rfl, _, _, rfl, ⟨k, h1, rfl⟩, _, _, rfl, ⟨v, h2, rfl⟩, rfl⟩ := h
 exact ⟨(k, v), ⟨h1, h2⟩, rfl⟩
theorem Ec {d : D} (h : (Sh.arr 32).Of N d) : ∃ x : List UInt8, x.length = 32 ∧ d = .arr 32 x := by
 rw [Sh.Of] at h
 obtain ⟨k, h1, rfl⟩ := h
 exact ⟨k, h1, rfl⟩
end E
def gu (w : World) (v : Value) : Prop := ∃ l : List E.Pr, (∀ x ∈ l, x.1.length = 32 ∧ x.2.length ≤ 140737488355328) ∧ E.aP (fun b => b < w.heap.size) w (.sl 33 (l.map E.dNd)) v
def kL (w : World) (v : Value) : Prop := ∃ l : List (List UInt8), (∀ x ∈ l, x.length = 32) ∧ E.aP (fun b => b < w.heap.size) w (.sl 32 (l.map (E.D.arr 32))) v
section
variable {H : Type} {enc : TypeId × Value → H} {w : World} {spare : Nat → Bool} {held : Bool} {r : Reach} {b0 : Nat} {v : Value} {d : DataW H} {ps : List MemPlace}
theorem uq (hv : Value.okWide Tryz.prog w r b0 27 v) (h : DataW.Trod enc Tryz.prog w 0 spare held 27 v d ps) (hN : ∀ k ∈ d.weights Tryz.prog 27, k ≤ reachBytes) : gu w v := by
 obtain ⟨D, h1, h2⟩ := E.Jf E.Bv hv h hN
 rw [E.Sh.Of] at h1
 obtain ⟨ds, _, rfl, h3⟩ := h1
 obtain ⟨l, h4, rfl⟩ := E.nY (fun _ => E.Ed) h3
 refine ⟨l, fun x hx => ⟨(h4 x hx).1, La (h4 x hx).2 (by decide)⟩, h2⟩
theorem Ee (hv : Value.okWide Tryz.prog w r b0 69 v) (h : DataW.Trod enc Tryz.prog w 0 spare held 69 v d ps) : kL w v := by
 obtain ⟨D, h1, h2⟩ := E.Jf E.Bq hv h (E.Em _)
 rw [E.Sh.Of] at h1
 obtain ⟨ds, _, rfl, h3⟩ := h1
 obtain ⟨l, h4, rfl⟩ := E.nY (fun _ => E.Ec) h3
 exact ⟨l, h4, h2⟩
end
end Go.Proofs.YtaoicebcdmpemaaGreat
namespace Go.Proofs.YtaoicebcdmpemaaGreat
set_option linter.unusedVariables false
open Go.RowKit Mono
namespace E
theorem zA {f : FuncId} {ds : List D} {xs : List Value} {w : World} (h : FnM f ds [] (fun r os' => r = .val (.v (.bool true)) ∧ os' = [])) (hr : bC (fun b => b < w.heap.size) w ds xs) : Calls Tryz.prog f xs.toArray w fun e w' => e = .returned (.bool true) ∧ Below w.heap.size w w' :=
 (h.go _ w xs (fun b hb => hb) ⟨fun o ho => by simp at ho, .nil, fun b ⟨o, ho, _⟩ => by simp at ho⟩ hr).mono fun e w' ⟨v, r, os', he, ⟨h1, h2⟩, ht, hv⟩ => by
  subst he h1
  have hg := ht.gr.gr fun b ⟨o, ho, _⟩ => by simp at ho
  exact ⟨by rw [(ay.1 hv).2], hg⟩
end E
end Go.Proofs.YtaoicebcdmpemaaGreat
