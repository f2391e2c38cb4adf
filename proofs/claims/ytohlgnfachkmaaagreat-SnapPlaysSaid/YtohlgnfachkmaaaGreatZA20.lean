/-
 Merged: lemmas of this claim.
 Conditions: none.
-/
import Derived.Test.YtohlgnfachkmaaaGreatZA11
import Derived.Test.YtohlgnfachkmaaaGreatZA19
import Derived.Test.YtohlgnfachkmaaaGreatZA17
import Derived.Test.YtohlgnfachkmaaaGreatZA13
import Derived.Test.YtohlgnfachkmaaaGreatZA16
import Derived.Test.YtohlgnfachkmaaaGreatZA0
namespace Go.Proofs.YtohlgnfachkmaaaGreat
set_option linter.unusedVariables false
set_option maxRecDepth 20000
set_option maxHeartbeats 8000000
open Go.RowKit Mono Rlp Wd
namespace E
theorem FnM.drop {f : FuncId} {ds : List D} {os : List Obj} {Φ : R → List Obj → Prop} (h : FnM f ds os Φ) : FnM f ds os (fun r os' => (∃ os2, Φ r os2) ∧ os' = []) := ⟨fun ok w xs h1 h2 h3 => (h.go ok w xs h1 h2 h3).mono fun e w' ⟨v, r, os', e1, e2, e3, e4⟩ => ⟨v, r, [], e1, ⟨⟨os', e2⟩, rfl⟩, ⟨e3.gr, .nil, fun o ho => by simp at ho⟩, e4.mono (fun b hb => ⟨hb.1, hb.2.1, fun o ho => by simp at ho⟩) fun _ _ => rfl⟩⟩
abbrev tO (g m : Nat) (base : List UInt8) : Obj := .var g 93 (.tup [.arr 32 base, .v (.map (some m))])
def dJ (p : List UInt8) (L : List AcL) : D := .tup [.arr 32 p, .sl 55 (L.map ak)]
theorem JI (l : List AcL) (id : List UInt8) (hll : l.length ≤ 1000) (hB : ∀ x ∈ l, x.sl.length ≤ 1000 ∧ x.cd.length ≤ 140737488355328) : FnM 7 [.arr 32 id, .sl 55 (l.map ak)] [] (fun r os' => ∃ g m L, Canon (dH l) L ∧ L.length ≤ 2000 ∧ (∀ x ∈ L, x.sl.length ≤ 2000) ∧ r = .val (.v (ptr g)) ∧ os' = [tO g m id, .map m 32 (aU 0 [] id) (aX 0 [] id (dJ zero32 L))]) := by
 have h1 := JY l 1000 (by omega) hB (by omega)
 refine FnM.walk 15 Tryz.func7 rfl Tryz.ntmps7 (by simp) fun X => ?_
 repeat (refine stp ?_; intros)
 refine EC.Iz 11 [0, 2, 3] [1, 4, 5, 6, 7, 8, 9, 10] [] _ (by kernel_rfl) (by kernel_rfl) rfl ?_
 simp only [au, KW, KY, KT, KU]
 repeat (refine sth ?_; intros)
 refine EM.nil ?_
 repeat (first | rw [KN] | rw [KO])
 refine CT.pick [1, 4] (by kernel_rfl) fun k hk => ?_
 rcases (show k = 1 ∨ k = 4 by simpa using hk) with rfl | rfl
 all_goals clear hk
 ·
  skip
  simp only [au, KW, KY, KT, KU]
  refine CH.mut (os := []) (rest := []) rfl rfl (dW rfl rfl) ?_
  rintro _ _ ⟨m, rfl, rfl⟩
  try simp only [St.put]
  repeat (first | rw [KN] | rw [KO])
  refine CH.nil ?_
  refine CT.pick [4] (by kernel_rfl) fun k hk => ?_
  obtain rfl : k = 4 := (by simpa using hk)
  clear hk
  simp only [au, KW, KY, KT, KU]
  refine CH.bC (os := []) (rest := [_]) h1 (k := ?_)
  rintro _ os1 ⟨g1, rfl, hp⟩
  try simp only [St.put]
  refine CH.nil ?_
  refine CT.pick [5] (by kernel_rfl) fun k hk => ?_
  obtain rfl : k = 5 := (by simpa using hk)
  clear hk
  simp only [au, KW, KY, KT, KU]
  refine CH.bC (os := os1) (rest := [_]) (iJ hp (by omega)).drop (k := ?_)
  rintro _ _ ⟨⟨_, ⟨L, hL, hLl, hLs, rfl⟩, rfl⟩, rfl⟩
  try simp only [St.put]
  repeat (first | rw [KN] | rw [KO])
  refine CH.nil ?_
  refine CT.pick [6] (by kernel_rfl) fun k hk => ?_
  obtain rfl : k = 6 := (by simpa using hk)
  clear hk
  simp only [au, KW, KY, KT, KU]
  refine CH.cut 1 ?_
  simp only [KQ, KX, KP, KR]
  repeat (refine sth ?_; intros)
  refine EM.nil ?_
  repeat (first | rw [KN] | rw [KO])
  refine CH.nil ?_
  refine CT.pick [7] (by kernel_rfl) fun k hk => ?_
  obtain rfl : k = 7 := (by simpa using hk)
  clear hk
  simp only [au, KW, KY, KT, KU]
  refine CH.mut (os := [_]) (rest := []) rfl rfl (dS (jC rfl rfl rfl rfl rfl)) ?_
  rintro _ _ ⟨rfl, rfl⟩
  try simp only [St.put]
  repeat (first | rw [KN] | rw [KO])
  refine CH.nil ?_
  refine CT.pick [8] (by kernel_rfl) fun k hk => ?_
  obtain rfl : k = 8 := (by simpa using hk)
  clear hk
  simp only [au, KW, KY, KT, KU]
  refine CH.cut 1 ?_
  simp only [KQ, KX, KP, KR]
  repeat (refine sth ?_; intros)
  refine EM.nil ?_
  repeat (first | rw [KN] | rw [KO])
  refine CH.nil ?_
  refine CT.pick [9] (by kernel_rfl) fun k hk => ?_
  obtain rfl : k = 9 := (by simpa using hk)
  clear hk
  simp only [au, KW, KY, KT, KU]
  refine CH.cut 1 ?_
  simp only [KQ, KX, KP, KR]
  repeat (refine sth ?_; intros)
  refine EM.nil ?_
  repeat (first | rw [KN] | rw [KO])
  refine CH.nil ?_
  refine CT.pick [10] (by kernel_rfl) fun k hk => ?_
  obtain rfl : k = 10 := (by simpa using hk)
  clear hk
  simp only [au, KW, KY, KT, KU]
  refine CH.mut (os := []) (rest := [_]) rfl rfl (lG rfl rfl) ?_
  rintro _ _ ⟨g2, rfl, rfl⟩
  try simp only [St.put]
  repeat (first | rw [KN] | rw [KO])
  refine CH.nil ?_
  refine CT.nil ?_
  repeat (refine stp ?_; intros)
  exact EK.aI [tO g2 m id, .map m 32 (aU 0 [] id) (aX 0 [] id (dJ zero32 L))] rfl rfl (by (repeat first | exact KZ _ | apply List.Sublist.cons_cons | apply List.Sublist.cons)) ⟨g2, m, L, hL, by omega, fun x hx => by have := hLs x hx; omega, rfl, rfl⟩
 ·
  skip
  simp only [au, KW, KY, KT, KU]
  refine CH.bC (os := []) (rest := []) h1 (k := ?_)
  rintro _ os1 ⟨g1, rfl, hp⟩
  try simp only [St.put]
  refine CH.nil ?_
  refine CT.pick [1, 5] (by kernel_rfl) fun k hk => ?_
  rcases (show k = 1 ∨ k = 5 by simpa using hk) with rfl | rfl
  all_goals clear hk
  ·
   skip
   simp only [au, KW, KY, KT, KU]
   refine CH.mut (os := []) (rest := os1) rfl rfl (dW rfl rfl) ?_
   rintro _ _ ⟨m, rfl, rfl⟩
   try simp only [St.put]
   repeat (first | rw [KN] | rw [KO])
   refine CH.nil ?_
   refine CT.pick [5] (by kernel_rfl) fun k hk => ?_
   obtain rfl : k = 5 := (by simpa using hk)
   clear hk
   simp only [au, KW, KY, KT, KU]
   refine CH.bC (os := .map m 32 0 [] :: os1) (rest := []) (((iJ hp (by omega)).drop.frame [.map m 32 0 []]).perm MG) (k := ?_)
   rintro _ _ ⟨_, ⟨⟨_, ⟨L, hL, hLl, hLs, rfl⟩, rfl⟩, rfl⟩, rfl⟩
   try simp only [St.put]
   repeat (first | rw [KN] | rw [KO])
   refine CH.nil ?_
   refine CT.pick [6] (by kernel_rfl) fun k hk => ?_
   obtain rfl : k = 6 := (by simpa using hk)
   clear hk
   simp only [au, KW, KY, KT, KU]
   refine CH.cut 1 ?_
   simp only [KQ, KX, KP, KR]
   repeat (refine sth ?_; intros)
   refine EM.nil ?_
   repeat (first | rw [KN] | rw [KO])
   refine CH.nil ?_
   refine CT.pick [7] (by kernel_rfl) fun k hk => ?_
   obtain rfl : k = 7 := (by simpa using hk)
   clear hk
   simp only [au, KW, KY, KT, KU]
   refine CH.mut (os := [_]) (rest := []) rfl rfl (dS (jC rfl rfl rfl rfl rfl)) ?_
   rintro _ _ ⟨rfl, rfl⟩
   try simp only [St.put]
   repeat (first | rw [KN] | rw [KO])
   refine CH.nil ?_
   refine CT.pick [8] (by kernel_rfl) fun k hk => ?_
   obtain rfl : k = 8 := (by simpa using hk)
   clear hk
   simp only [au, KW, KY, KT, KU]
   refine CH.cut 1 ?_
   simp only [KQ, KX, KP, KR]
   repeat (refine sth ?_; intros)
   refine EM.nil ?_
   repeat (first | rw [KN] | rw [KO])
   refine CH.nil ?_
   refine CT.pick [9] (by kernel_rfl) fun k hk => ?_
   obtain rfl : k = 9 := (by simpa using hk)
   clear hk
   simp only [au, KW, KY, KT, KU]
   refine CH.cut 1 ?_
   simp only [KQ, KX, KP, KR]
   repeat (refine sth ?_; intros)
   refine EM.nil ?_
   repeat (first | rw [KN] | rw [KO])
   refine CH.nil ?_
   refine CT.pick [10] (by kernel_rfl) fun k hk => ?_
   obtain rfl : k = 10 := (by simpa using hk)
   clear hk
   simp only [au, KW, KY, KT, KU]
   refine CH.mut (os := []) (rest := [_]) rfl rfl (lG rfl rfl) ?_
   rintro _ _ ⟨g2, rfl, rfl⟩
   try simp only [St.put]
   repeat (first | rw [KN] | rw [KO])
   refine CH.nil ?_
   refine CT.nil ?_
   repeat (refine stp ?_; intros)
   exact EK.aI [tO g2 m id, .map m 32 (aU 0 [] id) (aX 0 [] id (dJ zero32 L))] rfl rfl (by (repeat first | exact KZ _ | apply List.Sublist.cons_cons | apply List.Sublist.cons)) ⟨g2, m, L, hL, by omega, fun x hx => by have := hLs x hx; omega, rfl, rfl⟩
  ·
   skip
   simp only [au, KW, KY, KT, KU]
   refine CH.bC (os := os1) (rest := []) (iJ hp (by omega)).drop (k := ?_)
   rintro _ _ ⟨⟨_, ⟨L, hL, hLl, hLs, rfl⟩, rfl⟩, rfl⟩
   try simp only [St.put]
   repeat (first | rw [KN] | rw [KO])
   refine CH.nil ?_
   refine CT.pick [1, 6] (by kernel_rfl) fun k hk => ?_
   rcases (show k = 1 ∨ k = 6 by simpa using hk) with rfl | rfl
   all_goals clear hk
   ·
    skip
    simp only [au, KW, KY, KT, KU]
    refine CH.mut (os := []) (rest := []) rfl rfl (dW rfl rfl) ?_
    rintro _ _ ⟨m, rfl, rfl⟩
    try simp only [St.put]
    repeat (first | rw [KN] | rw [KO])
    refine CH.nil ?_
    refine CT.pick [6] (by kernel_rfl) fun k hk => ?_
    obtain rfl : k = 6 := (by simpa using hk)
    clear hk
    simp only [au, KW, KY, KT, KU]
    refine CH.cut 1 ?_
    simp only [KQ, KX, KP, KR]
    repeat (refine sth ?_; intros)
    refine EM.nil ?_
    repeat (first | rw [KN] | rw [KO])
    refine CH.nil ?_
    refine CT.pick [7] (by kernel_rfl) fun k hk => ?_
    obtain rfl : k = 7 := (by simpa using hk)
    clear hk
    simp only [au, KW, KY, KT, KU]
    refine CH.mut (os := [_]) (rest := []) rfl rfl (dS (jC rfl rfl rfl rfl rfl)) ?_
    rintro _ _ ⟨rfl, rfl⟩
    try simp only [St.put]
    repeat (first | rw [KN] | rw [KO])
    refine CH.nil ?_
    refine CT.pick [8] (by kernel_rfl) fun k hk => ?_
    obtain rfl : k = 8 := (by simpa using hk)
    clear hk
    simp only [au, KW, KY, KT, KU]
    refine CH.cut 1 ?_
    simp only [KQ, KX, KP, KR]
    repeat (refine sth ?_; intros)
    refine EM.nil ?_
    repeat (first | rw [KN] | rw [KO])
    refine CH.nil ?_
    refine CT.pick [9] (by kernel_rfl) fun k hk => ?_
    obtain rfl : k = 9 := (by simpa using hk)
    clear hk
    simp only [au, KW, KY, KT, KU]
    refine CH.cut 1 ?_
    simp only [KQ, KX, KP, KR]
    repeat (refine sth ?_; intros)
    refine EM.nil ?_
    repeat (first | rw [KN] | rw [KO])
    refine CH.nil ?_
    refine CT.pick [10] (by kernel_rfl) fun k hk => ?_
    obtain rfl : k = 10 := (by simpa using hk)
    clear hk
    simp only [au, KW, KY, KT, KU]
    refine CH.mut (os := []) (rest := [_]) rfl rfl (lG rfl rfl) ?_
    rintro _ _ ⟨g2, rfl, rfl⟩
    try simp only [St.put]
    repeat (first | rw [KN] | rw [KO])
    refine CH.nil ?_
    refine CT.nil ?_
    repeat (refine stp ?_; intros)
    exact EK.aI [tO g2 m id, .map m 32 (aU 0 [] id) (aX 0 [] id (dJ zero32 L))] rfl rfl (by (repeat first | exact KZ _ | apply List.Sublist.cons_cons | apply List.Sublist.cons)) ⟨g2, m, L, hL, by omega, fun x hx => by have := hLs x hx; omega, rfl, rfl⟩
   ·
    skip
    simp only [au, KW, KY, KT, KU]
    refine CH.cut 1 ?_
    simp only [KQ, KX, KP, KR]
    repeat (refine sth ?_; intros)
    refine EM.nil ?_
    repeat (first | rw [KN] | rw [KO])
    refine CH.nil ?_
    refine CT.pick [1] (by kernel_rfl) fun k hk => ?_
    obtain rfl : k = 1 := (by simpa using hk)
    clear hk
    simp only [au, KW, KY, KT, KU]
    refine CH.mut (os := []) (rest := []) rfl rfl (dW rfl rfl) ?_
    rintro _ _ ⟨m, rfl, rfl⟩
    try simp only [St.put]
    repeat (first | rw [KN] | rw [KO])
    refine CH.nil ?_
    refine CT.pick [7] (by kernel_rfl) fun k hk => ?_
    obtain rfl : k = 7 := (by simpa using hk)
    clear hk
    simp only [au, KW, KY, KT, KU]
    refine CH.mut (os := [_]) (rest := []) rfl rfl (dS (jC rfl rfl rfl rfl rfl)) ?_
    rintro _ _ ⟨rfl, rfl⟩
    try simp only [St.put]
    repeat (first | rw [KN] | rw [KO])
    refine CH.nil ?_
    refine CT.pick [8] (by kernel_rfl) fun k hk => ?_
    obtain rfl : k = 8 := (by simpa using hk)
    clear hk
    simp only [au, KW, KY, KT, KU]
    refine CH.cut 1 ?_
    simp only [KQ, KX, KP, KR]
    repeat (refine sth ?_; intros)
    refine EM.nil ?_
    repeat (first | rw [KN] | rw [KO])
    refine CH.nil ?_
    refine CT.pick [9] (by kernel_rfl) fun k hk => ?_
    obtain rfl : k = 9 := (by simpa using hk)
    clear hk
    simp only [au, KW, KY, KT, KU]
    refine CH.cut 1 ?_
    simp only [KQ, KX, KP, KR]
    repeat (refine sth ?_; intros)
    refine EM.nil ?_
    repeat (first | rw [KN] | rw [KO])
    refine CH.nil ?_
    refine CT.pick [10] (by kernel_rfl) fun k hk => ?_
    obtain rfl : k = 10 := (by simpa using hk)
    clear hk
    simp only [au, KW, KY, KT, KU]
    refine CH.mut (os := []) (rest := [_]) rfl rfl (lG rfl rfl) ?_
    rintro _ _ ⟨g2, rfl, rfl⟩
    try simp only [St.put]
    repeat (first | rw [KN] | rw [KO])
    refine CH.nil ?_
    refine CT.nil ?_
    repeat (refine stp ?_; intros)
    exact EK.aI [tO g2 m id, .map m 32 (aU 0 [] id) (aX 0 [] id (dJ zero32 L))] rfl rfl (by (repeat first | exact KZ _ | apply List.Sublist.cons_cons | apply List.Sublist.cons)) ⟨g2, m, L, hL, by omega, fun x hx => by have := hLs x hx; omega, rfl, rfl⟩
theorem Ik {g m c : Nat} {base id par p : List UInt8} {es : List Ent} {L : List AcL} (ch : List ChL) (h1 : aC es id = none) (h2 : aC es par = some (dJ p L)) (hl : L.length ≤ 1000) (hls : ∀ x ∈ L, x.sl.length ≤ 20000 ∧ x.cd.length ≤ 140737488355328) (hc : ch.length ≤ 100) (hcs : ∀ c ∈ ch, c.sl.length ≤ 1000 ∧ c.cd.length ≤ 140737488355328) :
  FnM 11 [.v (ptr g), .tup [.arr 32 id, .arr 32 par, .sl 56 (ch.map fV)]] [tO g m base, .map m 32 c es] (fun r os' => ∃ L', Canon (dw (dH L) ch) L' ∧ L'.length ≤ 1000000 ∧ (∀ x ∈ L', x.sl.length ≤ 1000000) ∧ r = .val (.v (.int .i64 0)) ∧ os' = [tO g m base, .map m 32 (aU c es id) (aX c es id (dJ par L'))]) := by
 have ha := G9 L ch id par hl hls hc hcs
 have hz1 : (aC es id).getD (.tup [.arr 32 zero32, .v dn]) = .tup [.arr 32 zero32, .v dn] ∧ (aC es id).isSome = false := by rw [h1]; exact ⟨rfl, rfl⟩
 have hz2 : (aC es par).getD (.tup [.arr 32 zero32, .v dn]) = .tup [.arr 32 p, .sl 55 (L.map ak)] ∧ (aC es par).isSome = true := by rw [h2]; exact ⟨rfl, rfl⟩
 refine FnM.walk 47 Tryz.func11 rfl Tryz.ntmps11 (by simp) fun X => ?_
 repeat (refine stp ?_; intros)
 rename_i g3
 refine EC.aZ 12 [0, 1, 2, 3, 4, 5, 6, 7, 8, 9] [10, 11] [] _ (by kernel_rfl) (by kernel_rfl) rfl ?_
 simp only [au, KW, KY, KT, KU]
 repeat
  (first
   | (apply bV; exact hz1; rfl; (first | exact I0 | exact I1 | exact I2 | exact I3 | exact I4 | exact I5); iterate 5 rfl) | (refine sth ?_; intros))
 refine EM.nil ?_
 repeat (first | rw [KN] | rw [KO])
 refine CH.mut (os := []) (rest := []) rfl rfl (dZ rfl rfl) ?_
 rintro _ _ ⟨g5, rfl, rfl⟩
 try simp only [St.put]
 repeat (first | rw [KN] | rw [KO])
 refine CH.mut (os := [_]) (rest := []) rfl rfl (dS (bT rfl rfl rfl rfl rfl)) ?_
 rintro _ _ ⟨rfl, rfl⟩
 try simp only [St.put]
 repeat (first | rw [KN] | rw [KO])
 refine CH.nil ?_
 try simp only [KP, KR]
 repeat (refine stp ?_; intros)
 refine EC.aZ 12 [0, 1, 2, 3, 4, 5, 6, 7, 8, 9] [10, 11] [] _ (by kernel_rfl) (by kernel_rfl) rfl ?_
 simp only [au, KW, KY, KT, KU]
 repeat
  (first
   | (apply bV; exact hz2; rfl; (first | exact I0 | exact I1 | exact I2 | exact I3 | exact I4 | exact I5); iterate 5 rfl) | (refine sth ?_; intros))
 refine EM.nil ?_
 repeat (first | rw [KN] | rw [KO])
 refine CH.mut (os := []) (rest := []) rfl rfl (dZ rfl rfl) ?_
 rintro _ _ ⟨g7, rfl, rfl⟩
 try simp only [St.put]
 repeat (first | rw [KN] | rw [KO])
 refine CH.mut (os := [_]) (rest := []) rfl rfl (dS (bT rfl rfl rfl rfl rfl)) ?_
 rintro _ _ ⟨rfl, rfl⟩
 try simp only [St.put]
 repeat (first | rw [KN] | rw [KO])
 refine CH.nil ?_
 try simp only [KP, KR]
 repeat (refine stp ?_; intros)
 refine EC.le (Le.pick [4, 3, 0, 1, 2] [_, _, _, _, _] rfl (by decide) rfl) ?_
 refine EC.aZ 14 [0, 1, 2, 3, 4, 5, 6, 7, 8, 9, 10] [11, 12, 13] [_] _ (by kernel_rfl) (by kernel_rfl) rfl ?_
 simp only [au, KW, KY, KT, KU]
 repeat (refine sth ?_; intros)
 refine EM.nil ?_
 repeat (first | rw [KN] | rw [KO])
 refine CH.bC (os := []) (rest := [_]) ha (k := ?_)
 rintro _ _ ⟨⟨L', hL, hLl, hLs, rfl⟩, rfl⟩
 try simp only [St.put]
 repeat (first | rw [KN] | rw [KO])
 refine CH.cut 1 ?_
 simp only [KQ, KX, KP, KR]
 repeat (refine sth ?_; intros)
 refine EM.nil ?_
 repeat (first | rw [KN] | rw [KO])
 refine CH.mut (os := [_]) (rest := []) rfl rfl (dS (qo rfl rfl rfl rfl rfl)) ?_
 rintro _ _ ⟨rfl, rfl⟩
 try simp only [St.put]
 repeat (first | rw [KN] | rw [KO])
 refine CH.nil ?_
 try simp only [KP, KR]
 repeat (refine stp ?_; intros)
 refine EK.le (Le.pick [1, 0, 2, 3, 4] [_, _, _, _, _] rfl (by decide) rfl) ?_
 exact EK.aI [tO g m base, .map m 32 (aU c es id) (aX c es id (dJ par L'))] rfl rfl (by (repeat first | exact KZ _ | apply List.Sublist.cons_cons | apply List.Sublist.cons)) ⟨L', hL, hLl, hLs, rfl, rfl⟩
theorem KE {g m c : Nat} {base id par p : List UInt8} {es : List Ent} {L : List AcL} (ch : List ChL) (h1 : aC es id = none) (h2 : aC es par = some (dJ p L)) (hl : L.length ≤ 1000) (hls : ∀ x ∈ L, x.sl.length ≤ 1000 ∧ x.cd.length ≤ 140737488355328) (hc : ch.length ≤ 100) (hcs : ∀ c ∈ ch, c.sl.length ≤ 1000 ∧ c.cd.length ≤ 140737488355328) :
  FnM 11 [.v (ptr g), .tup [.arr 32 id, .arr 32 par, .sl 56 (ch.map fV)]] [tO g m base, .map m 32 c es] (fun r os' => ∃ L', Canon (dw (dH L) ch) L' ∧ L'.length ≤ 1000000 ∧ (∀ x ∈ L', x.sl.length ≤ 1000000) ∧ r = .val (.v (.int .i64 0)) ∧ os' = [tO g m base, .map m 32 (aU c es id) (aX c es id (dJ par L'))]) :=
 Ik ch h1 h2 hl (fun x hx => ⟨by have := (hls x hx).1; omega, (hls x hx).2⟩) hc hcs
section
variable {g m c : Nat} {base id to : List UInt8} {es : List Ent}
theorem Bf : FnM 41 [.v (ptr g), .arr 32 id, .arr 32 id] [tO g m base, .map m 32 c es] (fun r os' => r = .val (.v (.bool true)) ∧ os' = [tO g m base, .map m 32 c es]) := by
 have hn := (aP id id).2
 rw [bne_self_eq_false] at hn
 refine FnM.walk 23 Tryz.func41 rfl Tryz.ntmps41 (by simp) fun X => ?_
 repeat (refine stp ?_; intros)
 refine EC.Ip 1 (EK.round ?_)
 repeat
  (first
   | (refine bH (hrun := hn) (kk := ?_)) | (refine stp ?_; intros))
 exact EK.aI [tO g m base, .map m 32 c es] rfl rfl (by (repeat first | exact KZ _ | apply List.Sublist.cons_cons | apply List.Sublist.cons)) ⟨rfl, rfl⟩
theorem Bg (h : (base != to) = true) : FnM 41 [.v (ptr g), .arr 32 base, .arr 32 to] [tO g m base, .map m 32 c es] (fun r os' => r = .val (.v (.bool false)) ∧ os' = [tO g m base, .map m 32 c es]) := by
 have hn := (aP base to).2
 rw [h] at hn
 have he := (aP base base).1
 rw [beq_self_eq_true] at he
 refine FnM.walk 23 Tryz.func41 rfl Tryz.ntmps41 (by simp) fun X => ?_
 repeat (refine stp ?_; intros)
 refine EC.Ip 1 (EK.round ?_)
 repeat
  (first
   | (refine bH (hrun := hn) (kk := ?_)) | (refine stp ?_; intros))
 refine EC.draw 6 (by kernel_rfl) ?_
 simp only [KQ, KX, KP, KR]
 repeat
  (first
   | (refine bM (hrun := he) (kk := ?_)) | (refine sth ?_; intros))
 repeat (refine stp ?_; intros)
 exact EK.aI [tO g m base, .map m 32 c es] rfl rfl (by (repeat first | exact KZ _ | apply List.Sublist.cons_cons | apply List.Sublist.cons)) ⟨rfl, rfl⟩
theorem Ij : FnM 24 [.v (ptr g)] [tO g m base, .map m 32 c es] (fun r os' => r = .val (.arr 32 base) ∧ os' = [tO g m base, .map m 32 c es]) := by
 refine FnM.walk 7 Tryz.func24 rfl Tryz.ntmps24 (by simp) fun X => ?_
 repeat (refine stp ?_; intros)
 exact EK.dY 0 [tO g m base, .map m 32 c es] rfl rfl rfl rfl (ah.refl _ _) (by (repeat first | exact KZ _ | apply List.Sublist.cons_cons | apply List.Sublist.cons)) ⟨rfl, rfl⟩
end
end E
end Go.Proofs.YtohlgnfachkmaaaGreat
namespace Go.Proofs.YtohlgnfachkmaaaGreat
set_option linter.unusedVariables false
set_option maxRecDepth 20000
set_option maxHeartbeats 2000000
open Go.RowKit Mono Rlp Go.Sort
open Go.ChangeMaps (setBlock)
namespace E
set_option maxRecDepth 100000 in
theorem AY (n l Bm b : Nat) (hn1 : 1 ≤ n) (es : Array MapEntry) (clock : Nat) (J Jx : List (Ky 32) → World → Prop)
  (hY : ∀ pre x W, J pre W → pre.length < es.size → YieldAt Fence.wide (n - 1) Tryz.prog l #[kv x] W fun e W' => (e = .returned (.bool true) ∧ J (pre ++ [x]) W' ∧ KeepsWalks W W') ∨ (e = .returned (.bool false) ∧ Jx (pre ++ [x]) W'))
  (W : World) (hJ : AbidesFrom W.heap.size J) (hm : W.cell? ⟨Bm, 0, none⟩ = some (.map (some b))) (hb : W.heap[b]? = some (.map es clock)) (hn : (es.toList.map (·.born)).Nodup) (hl : ∀ x ∈ es.toList, x.born < clock) (hkey : ∀ x ∈ es.toList, ∃ k : Ky 32, x.key = kv k) (h0 : J [] W) :
  CallsIn Fence.wide n Tryz.prog 97 #[.func (.yield l) #[] #[], .pointer (some ⟨Bm, 0, none⟩)] W fun e W' => (∃ v, e = .returned v) ∧ ((∃ ss : List (Ky 32), (ss.map kv).Perm (es.toList.map (·.key)) ∧ J ss W') ∨ (∃ pre : List (Ky 32), True ∧ Jx pre W')) := by
 refine callsIn_of_wp Tryz.func97 rfl trivial ?_ rfl
 simp only [Tryz.ntmps97, ND, Me, Ot, Nat.reduceAdd, Nat.reduceSub, Oa, Oc, Oz, Oh, KO, KN]
 have hrg0 := Rng.start hb hl
 have hJ0 := hJ [] W _ none h0 (World.grownBy_alloc W (.mapIter (some b) clock #[] clock) none) (fun r e => by cases e)
 have hlt0 : W.heap.size < (W.alloc (.mapIter (some b) clock #[] clock)).heap.size := by simp
 gi_wp2_with (first
  | (gi_at_range; refine qE rfl _ 91 23 90 rfl Tryz.underlying91 rfl hb ?_)
  | gi_in)
 go_frame
 generalize W.alloc (.mapIter (some b) clock #[] clock) = w0 at hrg0 hJ0 hlt0 ⊢
 gi_loopw [3] (fun _ wr => ∃ (cnt : Nat) (ss : List (Ky 32)), Rng wr b W.heap.size es clock (ss.map kv) cnt ∧ J ss wr)
  (fun _ wr => wr.rangeLeft b W.heap.size)
 case atStart =>
  exact ⟨_, [], hrg0, hJ0⟩
 case round =>
  obtain ⟨cnt, ss, hrg, hJs⟩ := hrel
  gi_wp2_with (first
   | (gi_at_next; refine uJ rfl _ rfl rfl hrg hn ?_ ?_)
   | gi_in)
  ·
   intro hc0 hp
   gi_wp2
   go_end0
   exact ⟨⟨_, rfl⟩, .inl ⟨ss, hp, hJs⟩⟩
  ·
   intro e w2 cnt2 he hrg2 hlt hg2 hs2 hen
   obtain ⟨x, hx⟩ := hkey e (by simpa using he)
   have hlen : ss.length < es.size := by have := hrg.le; simp at this; omega
   have hJ2 : J ss w2 := hJ ss wr w2 (some W.heap.size) hJs hg2 (fun r e => by cases e; exact ⟨LG _, hrg.iter⟩)
   rw [hx] at hen hrg2 ⊢
   clear hs2
   have hlt2 := hrg2.lt
   gi_wp2_with (first
    | (
      guard_target = wpListIn _ _ _ _ _ (Oper.mk _ (Op.store _ _ _) _ _ _ _ :: _) _ _; refine qC (l := x.1) (cs := List.replicate 32 (.int .u8 0)) rfl _ _ _ rfl (by rw [x.2]; rfl) rfl rfl (World.alloc_heap_new w2 _) (by rw [x.2]; rfl) ?_
      intro w4 hb4 hg4 hs4
      have hg24 : w2.grownBy w4 none := ⟨hg4.os.trans rfl, hg4.tape.trans rfl, hg4.output.trans rfl, by rw [hs4]; simp, fun i hi _ => (hg4.block i (by simp; omega) (fun e => by cases e; omega)).trans ((Na w2 _).2 i hi)⟩
      have hJ4 : J ss w4 := hJ ss w2 w4 none hJ2 hg24 (fun r e => by cases e)
      have hrg4 := hrg2.kept (hg24.block b hlt2.1 (by simp)) (hg24.block W.heap.size hlt2.2 (by simp))
      obtain ⟨fn, tmps, assign, body, hy, hR⟩ := hY ss x w4 hJ4 hlen
      rw [show kv x = aT x.1 from rfl] at hy
      have hb4' := Lib.hid hb4
      clear hb4 hs4 hg4 hg24)
    | (guard_target = wpListIn _ _ _ _ _ (Oper.mk _ (Op.load _ _) _ _ _ _ :: _) _ _; refine uK (l := x.1) rfl _ _ rfl (by rw [x.2]; rfl) rfl hb4'.out ?_)
    | gi_in)
   refine hR.mono ?_
   rintro e W3 (⟨rfl, hJ3, hk3⟩ | ⟨rfl, hJx3⟩)
   ·
    gi_wp2
    have hrg3 := hrg4.walks hk3
    go_roundw
    case rel => exact ⟨cnt2, ss ++ [x], by simpa using hrg3, hJ3⟩
    case measure => rw [hrg3.left_eq, hrg.left_eq]; exact hlt
   ·
    gi_wp2
    refine bodyPost_ret (results_none rfl _ _ _) rfl ?_
    exact ⟨⟨_, rfl⟩, .inr ⟨ss ++ [x], trivial, hJx3⟩⟩
theorem yV : ∀ args w, (callFunc 97 args).run Tryz.prog w = .ok (.enter 97 args) w := enters_of Tryz.func97 (by kernel_rfl) rfl
theorem zh (g m c : Nat) (es : List Ent) (hl : es.length * 32 ≤ 140737488355328) : FnM 130 [.v (.slice none 0 0), .v (.func (.func 97) #[] #[.pointer (some ⟨g, 0, none⟩)])] [.var g 91 (.v (.map (some m))), .map m 32 c es] (fun r os' => ∃ v, ∃ ks : List (Ky 32), r = .val (.v v) ∧ (ks.map (·.1)).Perm (es.map (·.2.1)) ∧ os' = [.row v 23 32 (ks.map dK), .var g 91 (.v (.map (some m))), .map m 32 c es]) := by
 constructor
 intro ok w xs hok hown hr
 obtain ⟨x1, _, rfl, hx1, x2, _, rfl, hx2, rfl⟩ := hr
 obtain rfl := (aG.1 hx1).2
 obtain rfl := (aG.1 hx2).2
 obtain ⟨_, cs, hg, hrd⟩ := hown.at_ _ (Ld ..)
 obtain ⟨_, hent, arr, hm, hall⟩ := hown.at_ _ (Lu _ (Ld ..))
 rw [Reads] at hrd
 rw [hrd.2] at hg
 have hglt := (LQ.1 hg).1
 have hmlt := (LQ.1 hm).1
 have hbs : arr.toList.map (·.born) = es.map (·.1) := iI (fun a b h => h.born) hall
 have hks : arr.toList.map (·.key) = es.map fun x => aT x.2.1 := iI (fun a b h => h.key) hall
 have hsz : arr.size = es.length := by rw [← NI, iQ hall]
 have hseq : SeqStopsK Fence.wide 3 Tryz.prog 97 #[.pointer (some ⟨g, 0, none⟩)] (fun x : Ky 32 => #[kv x]) KeepsWalks (fun ss => (ss.map kv).Perm (arr.toList.map (·.key))) (fun _ => True) arr.size w := fun l J Jx W hW hJ _ hY h0 =>
  AY 3 l g m (by omega) arr c J Jx hY W hJ ((hW.cell (p := ⟨g, 0, none⟩) hglt).trans (by rw [cell_of_row w g 0 _ _ _ hg]; rfl)) ((hW.block m hmlt).trans hm) (by rw [hbs]; exact hent.borns)
   (fun x hx => by obtain ⟨y, hy, he⟩ := jv hall hx; rw [he.born]; exact hent.lt y hy)
   (fun x hx => by obtain ⟨y, hy, he⟩ := jv hall hx; exact ⟨⟨y.2.1, he.len⟩, he.key⟩) h0
 refine (callsIn_wide.1 (kN 4 (by omega) 97 #[.pointer (some ⟨g, 0, none⟩)] yV _ _ arr.size (by rw [hsz]; exact hl) w hseq)).mono ?_
 rintro e w' ⟨v, ks, rfl, hp, hrow, hnil, hB⟩
 have hp' : (ks.map (·.1)).Perm (es.map (·.2.1)) := by
  rw [hks] at hp
  have := hp.map unV
  rw [Nc, Nc] at this
  have e1 : ks.map (unV ∘ kv) = ks.map (·.1) := Nu fun k _ => kR k.1
  have e2 : es.map (unV ∘ fun x => aT x.2.1) = es.map (·.2.1) := Nu fun k _ => kR k.2.1
  rwa [e1, e2] at this
 have hnew : ∀ b, v.ownBlock = some b → w.heap.size ≤ b := fun b hb => (hrow.lt b hb).1
 refine ⟨v, .val (.v v), _, rfl, ⟨v, ks, rfl, hp', rfl⟩, ⟨.of hB, .cons (fun p hp b hb e => ?_) hown.apart, fun o ho => ?_⟩, aG.2 ⟨kD hrow, rfl⟩⟩
 ·
  have h1 := hnew b hb
  have h2 := (Obj.bD (hown.at_ p hp) e).2
  omega
 ·
  rcases Lj.1 ho with rfl | ho
  ·
   refine ⟨ks.map kc, ⟨?_, fun b hb => .inr (hnew b hb)⟩, dV ks⟩
   rw [Lc]
   exact kE hrow
  ·
   refine ((hown.at_ o ho).move (fun b hb => ⟨.inl hb, LU (hok b hb) hB.size, fun o' ho' e => ?_⟩) (fun p hp => hB.cell (hok _ hp)) fun b hb => hB.block b (Obj.bD (hown.at_ o ho) hb).2).iw fun b hb => .inl ⟨o, ho, hb⟩
   rcases Lj.1 ho' with rfl | ho'
   ·
    have := hnew b e
    have := hok b hb
    omega
   · exact hown.off b ⟨o', ho', e⟩ hb
theorem DJ (m : Nat) : FnM 49 [.v (.map (some m))] [] (fun r os' => ∃ g, r = .val (.v (.func (.func 97) #[] #[.pointer (some ⟨g, 0, none⟩)])) ∧ os' = [.var g 91 (.v (.map (some m)))]) := by
 refine FnM.walk 4 Tryz.func49 rfl Tryz.ntmps49 (by simp) fun X => ?_
 repeat (refine stp ?_; intros)
 rename_i g
 exact EK.aI [.var g 91 (.v (.map (some m)))] rfl rfl (by (repeat first | exact KZ _ | apply List.Sublist.cons_cons | apply List.Sublist.cons)) ⟨g, rfl, rfl⟩
theorem xJ (g m c : Nat) (es : List Ent) (hl : es.length * 32 ≤ 140737488355328) : FnM 96 [.v (.func (.func 97) #[] #[.pointer (some ⟨g, 0, none⟩)])] [.var g 91 (.v (.map (some m))), .map m 32 c es] (fun r os' => ∃ v, ∃ ks : List (Ky 32), r = .val (.v v) ∧ (ks.map (·.1)).Perm (es.map (·.2.1)) ∧ os' = [.row v 23 32 (ks.map dK), .var g 91 (.v (.map (some m))), .map m 32 c es]) := by
 have h1 := zh g m c es hl
 refine FnM.walk 5 Tryz.func96 rfl Tryz.ntmps96 (by simp) fun X => ?_
 repeat
  (first
   | (refine aH (os := [.var g 91 (.v (.map (some m))), .map m 32 c es]) h1 (kk := ?_); rintro _ _ ⟨v, ks, rfl, hp, rfl⟩)
   | (refine stp ?_; intros))
 exact EK.aI [.row v 23 32 (ks.map dK), .var g 91 (.v (.map (some m))), .map m 32 c es] rfl rfl (by (repeat first | exact KZ _ | apply List.Sublist.cons_cons | apply List.Sublist.cons)) ⟨v, ks, rfl, hp, rfl⟩
theorem yw (cf : FuncId) (hc : ∀ l m : List UInt8, l.length = 32 → m.length = 32 → ∀ w, Calls Tryz.prog cf #[aT l, aT m] w fun e w' => e = .returned (.int .i64 (dA l m)) ∧ ∃ q os', w' = grow (w.drewN q) os') (ec : ∀ args w, (callFunc cf args).run Tryz.prog w = .ok (.enter cf args) w)
  (g m c : Nat) (es : List Ent) (hl : es.length * 32 ≤ 140737488355328) : FnM 48 [.v (.func (.func 97) #[] #[.pointer (some ⟨g, 0, none⟩)]), .v (.func (.func cf) #[] #[])] [.var g 91 (.v (.map (some m))), .map m 32 c es] (fun r os' => ∃ v, r = .val (.v v) ∧ os' = [.row v 23 32 ((sortL (es.map (·.2.1))).map (D.arr 32)), .var g 91 (.v (.map (some m))), .map m 32 c es]) := by
 have h1 := xJ g m c es hl
 refine FnM.walk 12 Tryz.func48 rfl Tryz.ntmps48 (by simp) fun X => ?_
 repeat
  (first
   | (refine aH (os := [.var g 91 (.v (.map (some m))), .map m 32 c es]) h1 (kk := ?_); rintro _ _ ⟨v, ks, rfl, hp, rfl⟩)
   | (refine stp ?_; intros))
 have hkl : ks.length = es.length := by simpa using hp.length_eq
 have h2 := ni cf hc ec v ks (by omega)
 repeat
  (first
   | (refine aH (os := [.row v 23 32 (ks.map dK)]) h2 (kk := ?_); rintro _ _ ⟨rfl, rfl⟩)
   | (refine stp ?_; intros))
 have hs : (ks.mergeSort fun x y => decide (x.1 ≤ y.1)).map (·.1) = sortL (es.map (·.2.1)) := by
  refine gu (((Oi ks _).map (·.1)).trans hp) ?_
  have h := NT (le := fun x y : Ky 32 => decide (x.1 ≤ y.1)) (fun a b c h1 h2 => by simp only [decide_eq_true_eq] at h1 h2 ⊢; exact Om h1 h2) (fun a b => by simp only [NH, decide_eq_true_eq]; exact OI a.1 b.1) ks
  rw [MQ]
  exact h.imp fun h => by simpa using h
 exact EK.aI [.row v 23 32 ((ks.mergeSort fun x y => decide (x.1 ≤ y.1)).map dK), .var g 91 (.v (.map (some m))), .map m 32 c es] rfl rfl (by (repeat first | exact KZ _ | apply List.Sublist.cons_cons | apply List.Sublist.cons)) ⟨v, rfl, by rw [pK, hs]⟩
end E
end Go.Proofs.YtohlgnfachkmaaaGreat
namespace Go.Proofs.YtohlgnfachkmaaaGreat
set_option linter.unusedVariables false
set_option maxRecDepth 20000
set_option maxHeartbeats 8000000
open Go.RowKit Mono Rlp Wd Go.Sort
namespace E
theorem EC.mapOf {N : Nat} {X : Cx N} {S : St} {Q : Exit → Act → World → Prop} {cd : Code} {g n c : Nat} {es : List Ent} (i : Nat) (hi : S.objs[i]? = some (.map g n c es)) (k : ng c es → (∀ e ∈ es, e.2.1.length = n) → EC X Q cd S) : EC X Q cd S := ⟨fun a w ha => by
 obtain ⟨_, hE, arr, _, h4⟩ := ha.mem.at_ _ (LC hi)
 exact (k hE fun e he => by obtain ⟨y, _, h5⟩ := h4.right e he; exact h5.len).go a w ha⟩
theorem key_inj {α β : Type} {f : α → β} : ∀ {l : List α}, (l.map f).Nodup → ∀ a ∈ l, ∀ b ∈ l, f a = f b → a = b
 | [], _, a, ha, _, _, _ => by cases ha
 | x :: l, h, a, ha, b, hb, e => by
  rw [LV, MR] at h
  rcases Lj.1 ha with ha1 | ha1
  ·
   rcases Lj.1 hb with hb1 | hb1
   · rw [ha1, hb1]
   · exact absurd (Ll.2 ⟨b, hb1, by rw [← e, ha1]⟩) h.1
  ·
   rcases Lj.1 hb with hb1 | hb1
   · exact absurd (Ll.2 ⟨a, ha1, by rw [e, hb1]⟩) h.1
   · exact key_inj h.2 a ha1 b hb1 e
theorem jD {α β : Type} {f : α → β} {l : List α} (h : (l.map f).Nodup) : l.Nodup := by
 unfold List.Nodup at h ⊢
 rw [MQ] at h
 exact h.imp fun h e => h (by rw [e])
theorem Di {es xs : List Ent} (hE : (es.map (·.1)).Nodup) (h1 : ∀ e ∈ xs, e ∈ es) (h2 : (xs.map (·.1)).Nodup) (h3 : ∀ e ∈ es, e.1 ∈ (xs.map (·.1)).toArray) : xs.Perm es :=
 (List.perm_ext_iff_of_nodup (jD h2) (jD hE)).2 fun e => ⟨h1 e, fun he => by
  have := h3 e he
  simp only [List.mem_toArray, Ll] at this
  obtain ⟨y, hy, h4⟩ := this
  rw [← key_inj hE y (h1 y hy) e he h4]
  exact hy⟩
theorem vW {es xs : List Ent} (h1 : ∀ e ∈ xs, e ∈ es) (h2 : (xs.map (·.1)).Nodup) : xs.length ≤ es.length := (jD h2).length_le_of_subset h1
theorem Iq {n : Nat} : ∀ (l : List (List UInt8)), (∀ k ∈ l, k.length = n) → ∃ ks : List (Ky n), ks.map (·.1) = l
 | [], _ => ⟨[], rfl⟩
 | k :: l, h => by
  obtain ⟨ks, e⟩ := Iq l fun x hx => h x (Lu _ hx)
  exact ⟨⟨k, h k Ld⟩ :: ks, by rw [LV, e]⟩
theorem oP : ∀ (es : List Ent) (l : List UInt8), (es.map (·.2.1)).Nodup → fC es l = es.filter fun e => !(e.2.1 == l)
 | [], _, _ => rfl
 | x :: es, l, h => by
  rw [LV, MR] at h
  rw [fC]
  cases hx : x.2.1 == l with
  | true =>
   have : es.filter (fun e => !(e.2.1 == l)) = es := NU.2 fun e he => by
    have hne : ¬ e.2.1 = l := fun e' => h.1 (by rw [eq_of_beq hx, ← e']; exact Ll.2 ⟨e, he, rfl⟩)
    simpa using hne
   simp [hx, this]
  | false => simp [hx, oP es l h.2]
theorem qN : ∀ (ks : List (List UInt8)) (es : List Ent), (es.map (·.2.1)).Nodup → ks.foldl fC es = es.filter fun e => !ks.contains e.2.1
 | [], es, _ => (NU.2 fun e he => by simp).symm
 | k :: ks, es, h => by
  rw [N7, oP es k h, qN ks _ (List.Nodup.sublist (OL.map _) h), List.filter_filter]
  refine List.filter_congr fun e he => ?_
  rw [List.contains_cons, Bool.not_or, Bool.and_comm]
theorem Ii {g m c : Nat} {base id p : List UInt8} {es : List Ent} {L : List AcL} (F : List UInt8 → Bool) (hF : ∀ e ∈ es, FnM 41 [.v (ptr g), .arr 32 e.2.1, .arr 32 id] [tO g m base, .map m 32 c es] (fun r os' => r = .val (.v (.bool (F e.2.1))) ∧ os' = [tO g m base, .map m 32 c es])) (hid : aC es id = some (dJ p L)) (hl : es.length ≤ 1000000) :
  FnM 13 [.v (ptr g), .arr 32 id] [tO g m base, .map m 32 c es] (fun r os' => r = .tpl [.sl 32 ((sortL ((es.filter fun e => !F e.2.1).map (·.2.1))).map (D.arr 32)), .v (.int .i64 0)] ∧ os' = [tO g m id, .map m 32 c (es.filter fun e => F e.2.1)]) := by
 have hz1 : (aC es id).getD (.tup [.arr 32 zero32, .v dn]) = .tup [.arr 32 p, .sl 55 (L.map ak)] ∧ (aC es id).isSome = true := by rw [hid]; exact ⟨rfl, rfl⟩
 refine FnM.walk 60 Tryz.func13 rfl Tryz.ntmps13 (by simp) fun X => ?_
 refine EC.mapOf 1 rfl fun hE hlen => ?_
 repeat (refine stp ?_; intros)
 rename_i g3
 refine EC.aZ 11 [0, 1, 2, 3, 4, 5, 6, 7, 8] [9, 10] [] _ (by kernel_rfl) (by kernel_rfl) rfl ?_
 simp only [au, KW, KY, KT, KU]
 repeat
  (first
   | (apply bV; exact hz1; rfl; (first | exact I0 | exact I1 | exact I2 | exact I3 | exact I4 | exact I5); iterate 5 rfl) | (refine sth ?_; intros))
 refine EM.nil ?_
 repeat (first | rw [KN] | rw [KO])
 refine CH.mut (os := []) (rest := []) rfl rfl (dZ rfl rfl) ?_
 rintro _ _ ⟨g6, rfl, rfl⟩
 try simp only [St.put]
 repeat (first | rw [KN] | rw [KO])
 refine CH.mut (os := [_]) (rest := []) rfl rfl (dS (bT rfl rfl rfl rfl rfl)) ?_
 rintro _ _ ⟨rfl, rfl⟩
 try simp only [St.put]
 repeat (first | rw [KN] | rw [KO])
 refine CH.nil ?_
 try simp only [KP, KR]
 repeat
  (first
   | (apply Ho; rfl; (first | exact I0 | exact I1 | exact I2 | exact I3 | exact I4 | exact I5); (iterate 3 rfl); intro _) | (refine stp ?_; intros))
 rename_i gi
 refine EC.le (Le.row 23 32) ?_
 refine EC.le (Le.pick [1, 5, 0, 3, 4, 2] [_, _, _, _, _, _] rfl (by decide) rfl) ?_
 refine EC.loop (ι := {x : List Ent × Value // (∀ e ∈ x.1, e ∈ es) ∧ (x.1.map (·.1)).Nodup})
  (fun x => ⟨[(27, .val (.v (ptr gi))), (8, .val (.v x.1.2)), (3, .val (.v (ptr g3))), (0, .val (.v (ptr g)))], [itO gi m c (x.1.1.map (·.1)).toArray, .map m 32 c es, .row x.1.2 23 32 (((x.1.1.filter fun e => !F e.2.1).map (·.2.1)).map (D.arr 32)), .var g3 23 (.arr 32 id), tO g m base], []⟩)
  (fun x => es.length - x.1.1.length) ⟨([], dn), fun e he => by simp at he, .nil⟩ ?_ ?_
 · exact Le.kp
 rintro ⟨⟨xs, v⟩, hsub, hnod⟩
 dsimp only at hsub hnod ⊢
 have hxl := vW hsub hnod
 repeat (refine stp ?_; intros)
 refine Ju rfl rfl rfl (fun hall => ?_) (fun e he hne => ?_)
 ·
  have hperm := Di hE.borns hsub hnod hall
  obtain ⟨K, hK⟩ : ∃ K, (xs.filter fun e => !F e.2.1).map (·.2.1) = K := ⟨_, rfl⟩
  have hKp : K.Perm ((es.filter fun e => !F e.2.1).map (·.2.1)) := hK ▸ (hperm.filter _).map _
  obtain ⟨ks, hks⟩ := Iq (n := 32) K fun k hk => by
   obtain ⟨e, he, h1⟩ := Ll.1 (hKp.mem_iff.1 hk)
   rw [← h1]
   exact hlen e (Np.1 he).1
  have hkl : ks.length ≤ es.length := by
   have h1 : ks.length = K.length := by rw [← hks, Lc]
   have h2 := hKp.length_eq
   have h3 := MN (fun e : Ent => !F e.2.1) es
   rw [Lc] at h2
   omega
  have hrow : K.map (D.arr 32) = ks.map dK := by rw [pK, hks]
  have hs : (ks.mergeSort fun x y => decide (x.1 ≤ y.1)).map (·.1) = sortL ((es.filter fun e => !F e.2.1).map (·.2.1)) := by
   refine gu (((Oi ks _).map (·.1)).trans (by rw [hks]; exact hKp)) ?_
   have h := NT (le := fun x y : Ky 32 => decide (x.1 ≤ y.1)) (fun a b c h1 h2 => by simp only [decide_eq_true_eq] at h1 h2 ⊢; exact Om h1 h2) (fun a b => by simp only [NH, decide_eq_true_eq]; exact OI a.1 b.1) ks
   rw [MQ]
   exact h.imp fun h => by simpa using h
  have hso := ni 43 qO nO v ks (by omega)
  rw [pK (ks.mergeSort _), hs] at hso
  have hGl : (sortL ((es.filter fun e => !F e.2.1).map (·.2.1))).length ≤ es.length := by rw [(aW _).length_eq, Lc]; exact MN _ _
  have hGm : ∀ k, k ∈ sortL ((es.filter fun e => !F e.2.1).map (·.2.1)) ↔ ∃ e ∈ es, e.2.1 = k ∧ F k = false := fun k => by
   rw [(aW _).mem_iff, Ll]
   constructor
   ·
    rintro ⟨e, he, rfl⟩
    obtain ⟨h1, h2⟩ := Np.1 he
    exact ⟨e, h1, rfl, by simpa using h2⟩
   ·
    rintro ⟨e, he, rfl, h1⟩
    exact ⟨e, Np.2 ⟨he, by simpa using h1⟩, rfl⟩
  rw [hK, hrow]
  generalize sortL ((es.filter fun e => !F e.2.1).map (·.2.1)) = G at hso hGl hGm ⊢
  have hml : (G.map (D.arr 32)).length = G.length := Lc _
  repeat (refine stp ?_; intros)
  refine EL.le (Le.pick [2, 0, 1, 3, 4] [_, _, _, _, _] rfl (by decide) rfl) ?_
  repeat
   (first
    | (refine aH (os := [_]) hso (kk := ?_); rintro _ _ ⟨rfl, rfl⟩; refine EL.le (Le.freeze (pre := []) rfl) ?_; refine EL.le (Le.refine (t := 8) (d' := .sl 32 (G.map (D.arr 32))) rfl (Rf.fact (by simp) rfl)) ?_; simp only [KO])
    | (refine stp ?_; intros))
  refine EC.loop (ι := {j : Nat // j ≤ G.length})
   (fun j => ⟨[(45, .val (.v (.int .i64 (j.1 : Int)))), (44, .val (.v (.int .i64 (G.map (D.arr 32)).length))), (43, .val (.sl 32 (G.map (D.arr 32)))), (8, .val (.sl 32 (G.map (D.arr 32)))), (3, .val (.v (ptr g3))), (0, .val (.v (ptr g)))], [.map m 32 c ((G.take j.1).foldl fC es), .var g3 23 (.arr 32 id), tO g m base], []⟩)
   (fun j => G.length - j.1) ⟨0, LH _⟩ ?_ ?_
  · exact Le.kp
  rintro ⟨j, hj⟩
  dsimp only at hj ⊢
  by_cases hlt : j < G.length
  ·
   have hd : (G.map (D.arr 32))[j]? = some (.arr 32 G[j]) := by rw [Ls, La hlt]; rfl
   have htk : (G.take (j + 1)).foldl fC es = fC ((G.take j).foldl fC es) G[j] := by rw [Lm hlt, List.foldl_append]; rfl
   generalize G[j] = k at hd htk
   repeat (refine stp ?_; intros)
   refine EC.draw 5 (by kernel_rfl) ?_
   simp only [KQ, KX, KP, KR]
   repeat (refine sth ?_; intros)
   repeat (refine stp ?_; intros)
   refine EK.again ⟨j + 1, hlt⟩ (by dsimp only; omega) ?_
   dsimp only
   rw [htk]
   simp only [LK]
   exact Le.kp
  ·
   have hjE : j = G.length := by omega
   subst hjE
   rw [L9, qN _ _ hE.keys, show (es.filter fun e => !G.contains e.2.1) = es.filter fun e => F e.2.1 from List.filter_congr fun e he => by
    cases hFe : F e.2.1 with
    | true =>
     have hn : e.2.1 ∉ G := fun h => by
      obtain ⟨_, _, _, h1⟩ := (hGm _).1 h
      rw [hFe] at h1
      cases h1
     simpa using hn
    | false =>
     have hn : e.2.1 ∈ G := (hGm _).2 ⟨e, he, rfl, hFe⟩
     simpa using hn]
   repeat (refine stp ?_; intros)
   refine EK.le (Le.pick [2, 0, 1] [_, _, _] rfl (by decide) rfl) ?_
   refine EK.le (S' := ⟨[(4, .val (.sl 32 (G.map (D.arr 32)))), (5, .val (.v (.int .i64 0)))], [tO g m id, .map m 32 c (es.filter fun e => F e.2.1)], []⟩) Le.kp ?_
   exact EK.Dk rfl rfl rfl (ah.refl _ _) ⟨rfl, rfl⟩
 ·
  have hfe := hF e he
  have hpush : ((xs.map (·.1)).toArray).push e.1 = ((xs ++ [e]).map (·.1)).toArray := by simp
  have hsub2 : ∀ y ∈ xs ++ [e], y ∈ es := fun y hy => by
   rcases LP.1 hy with hy | hy
   · exact hsub y hy
   ·
    obtain rfl : y = e := by simpa using hy
    exact he
  have hnod2 : ((xs ++ [e]).map (·.1)).Nodup := by
   rw [MC, LV, MW]
   refine MX.2 ⟨hnod, by simp, fun a ha b hb hab => hne ?_⟩
   obtain rfl : b = e.1 := by simpa using hb
   rw [← hab]
   simpa using ha
  have hlen2 := vW hsub2 hnod2
  rw [List.length_append, List.length_singleton] at hlen2
  cases hFe : F e.2.1 with
  | true =>
   rw [hFe] at hfe
   have hK : ((xs ++ [e]).filter fun e => !F e.2.1) = xs.filter fun e => !F e.2.1 := by simp [hFe]
   repeat
    (first
     | (apply Ae (e := e) he; rfl; (first | exact I0 | exact I1); (first | exact I1 | exact I2); iterate 2 rfl)
     | (apply pF hfe [5, 2, 0, 1, 3, 4] [_, _, _, _] rfl (by decide) rfl rfl (ah.refl _ _) (by intro _ _; simp [go_sem]) rfl rfl) | (refine stp ?_; intros))
   refine EK.again ⟨(xs ++ [e], v), hsub2, hnod2⟩ (by dsimp only; rw [List.length_append, List.length_singleton]; omega) ?_
   dsimp only
   rw [hK, ← hpush]
   exact Le.kp
  | false =>
   rw [hFe] at hfe
   have hK : (((xs ++ [e]).filter fun e => !F e.2.1).map (·.2.1)).map (D.arr 32) = ((xs.filter fun e => !F e.2.1).map (·.2.1)).map (D.arr 32) ++ [.arr 32 e.2.1] := by simp [hFe]
   have hKl : (((xs.filter fun e => !F e.2.1).map (·.2.1)).map (D.arr 32)).length ≤ xs.length := by
    rw [Lc, Lc]
    exact MN _ _
   obtain ⟨K, hK0⟩ : ∃ K, ((xs.filter fun e => !F e.2.1).map (·.2.1)).map (D.arr 32) = K := ⟨_, rfl⟩
   rw [hK0] at hK hKl ⊢
   repeat
    (first
     | (apply Ae (e := e) he; rfl; (first | exact I0 | exact I1); (first | exact I1 | exact I2); iterate 2 rfl)
     | (apply pF hfe [5, 2, 0, 1, 3, 4] [_, _, _, _] rfl (by decide) rfl rfl (ah.refl _ _) (by intro _ _; simp [go_sem]) rfl rfl) | (refine stp ?_; intros))
   rename_i v'
   refine EK.again ⟨(xs ++ [e], v'), hsub2, hnod2⟩ (by dsimp only; rw [List.length_append, List.length_singleton]; omega) ?_
   dsimp only
   rw [hK, ← hpush]
   exact Le.kp
theorem rZ : ∀ (l : List AcL) (A : As) (a : List UInt8), l.foldl (fun A x => A.upd x.a x.take) A a = A a ∨ ∃ y ∈ l, l.foldl (fun A x => A.upd x.a x.take) A a = y.take
 | [], A, a => .inl rfl
 | x :: l, A, a => by
  rw [N7]
  rcases rZ l (A.upd x.a x.take) a with h | ⟨y, hy, h⟩
  ·
   rw [h]
   unfold As.upd
   split
   · exact .inr ⟨x, Ld, rfl⟩
   · exact .inl rfl
  · exact .inr ⟨y, Lu _ hy, h⟩
theorem AO (l : List AcL) (a : List UInt8) : dH l a = Ac.zero ∨ ∃ y ∈ l, dH l a = y.take := rZ l _ a
theorem Gp {M : Nat} (l : List AcL) (h : ∀ x ∈ l, x.cd.length ≤ M) (a : List UInt8) : (dH l a).cd.length ≤ M := by
 rcases AO l a with e | ⟨y, hy, e⟩
 ·
  rw [e]
  exact LH _
 ·
  rw [e]
  exact h y hy
end E
end Go.Proofs.YtohlgnfachkmaaaGreat
