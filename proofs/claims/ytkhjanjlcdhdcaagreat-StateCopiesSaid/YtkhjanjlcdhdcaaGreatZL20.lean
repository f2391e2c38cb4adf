/-
 Merged: lemmas of this claim.
 Conditions: none.
-/
import Derived.Test.YtkhjanjlcdhdcaaGreatZL16
import Derived.Test.YtkhjanjlcdhdcaaGreatZL17
import Derived.Test.YtkhjanjlcdhdcaaGreatZL0
namespace Go.Proofs.YtkhjanjlcdhdcaaGreat
set_option linter.unusedVariables false
set_option maxRecDepth 20000
set_option maxHeartbeats 8000000
open Go.RowKit Mono Rlp Wd
namespace E
mutual
theorem au.rows {ok : Nat → Prop} {w : World} {F : List (Value × D)} (hF : ∀ f ∈ F, Reads ok w f.2 [f.1]) {z : Nat} : ∀ (ds ds' : List D) (rows : List (List Value)), au F ds ds' → ay ok w z ds rows → ay ok w z ds' rows
 | [], l, rows, h, hr => by rw [au] at h; subst h; exact hr
 | d :: ds, l, rows, h, hr => by
  rw [au] at h
  obtain ⟨d', ds', rfl, h1, h2⟩ := h
  rw [ay] at hr ⊢
  obtain ⟨r, rest, rfl, h3, h4, h5⟩ := hr
  exact ⟨r, rest, rfl, h3, (Refine.reads hF d d' r h1 h4).1, au.rows hF ds ds' rest h2 h5⟩
end
theorem au.length {F : List (Value × D)} : ∀ {ds ds' : List D}, au F ds ds' → ds'.length = ds.length
 | [], l, h => by rw [au] at h; subst h; rfl
 | d :: ds, l, h => by
  rw [au] at h
  obtain ⟨d', ds', rfl, h1, h2⟩ := h
  rw [LM, LM, au.length h2]
theorem RL.append {F : List (Value × D)} : ∀ {ds ds' es es' : List D}, au F ds ds' → au F es es' → au F (ds ++ es) (ds' ++ es')
 | [], l, es, es', h, k => by rw [au] at h; subst h; exact k
 | d :: ds, l, es, es', h, k => by
  rw [au] at h
  obtain ⟨d', ds', rfl, h1, h2⟩ := h
  exact RL.cons h1 (RL.append h2 k)
theorem Le.Ei {N : Nat} {X : Cx N} {rs : List (Tmp × R)} {os : List Obj} {fs : List (Value × D)} {v : Value} {e z : Nat} {ds ds' : List D} (h : au fs ds ds') : Le X ⟨rs, .row v e z ds :: os, fs⟩ ⟨rs, .row v e z ds' :: os, fs⟩ := fun a w ha => by
 have hok : ∀ b, X.ok (.row v e z ds :: os) w b ↔ X.ok (.row v e z ds' :: os) w b := fun b => ⟨fun hb => ⟨hb.1, hb.2.1, fun o ho => by
   rcases KI.1 ho with rfl | ho
   · exact hb.2.2 (.row v e z ds) KH
   · exact hb.2.2 o (KT _ ho)⟩, fun hb => ⟨hb.1, hb.2.1, fun o ho => by
   rcases KI.1 ho with rfl | ho
   · exact hb.2.2 (.row v e z ds') KH
   · exact hb.2.2 o (KT _ ho)⟩⟩
 have hap := LJ.1 ha.mem.apart
 have hf : ∀ f ∈ fs, Reads (X.ok (.row v e z ds' :: os) w) w f.2 [f.1] := fun f hf => Reads.mono (fun b hb => (hok b).1 hb) (fun _ _ => rfl) _ _ (ha.mem.fact f hf)
 refine ⟨⟨ha.mem.gr, LJ.2 ⟨fun p hp b e => hap.1 p hp b e, hap.2⟩, fun o ho => ?_, hf⟩, fun t' r hr => (ha.regs t' r hr).mono (fun b hb => (hok b).1 hb) fun _ _ => rfl, ha.size, ha.defers⟩
 rcases KI.1 ho with rfl | ho
 ·
  obtain ⟨rows, h1, h2⟩ := ha.mem.at_ (.row v e z ds) KH
  refine ⟨rows, by rw [au.length h]; exact h1, au.rows hf _ _ _ h (ay.mono (fun b hb => (hok b).1 hb) (fun _ _ => rfl) _ _ _ h2)⟩
 · exact (ha.mem.at_ o (KT _ ho)).move (fun b hb => (hok b).1 hb) (fun _ _ => rfl) fun _ _ => rfl
abbrev raA (L : Value) (l : List AcL) : Obj := .row L 51 55 (l.map aI)
def AcL.none (a : List UInt8) : AcL := ⟨a, 0, zero32, [], []⟩
theorem IZ {g : Nat} {L k : Value} {n : Int} (l : List AcL) (a : List UInt8) (hll : l.length < 1099511627776) (kk : Nat) (hkk : kk < l.length) (hlo : ∀ j (hj : j < l.length), j < kk → Op.bytesLess l[j].a a = true) (he : l[kk].a = a) : FnM 49 [.v (ptr g), .arr 20 a] [rsO g L k n, raA L l] (fun r os' => r = .val (.v (bf L ((kk : Int).toNat * 55))) ∧ os' = [rsO g L k n, raA L l]) := by
 have hml : (l.map aI).length = l.length := KG _
 refine FnM.walk 78 Tryz.func49 rfl Tryz.ntmps49 (by simp) fun X => ?_
 repeat
  (first
   | (apply ak; iterate 3 rfl) | (apply aV; rfl; rfl; rfl; intro _) | apply EL.nil
   | (with_reducible first | apply EK.nc | apply EC.seq | apply EC.r0 | apply EC.k0 | apply EC.label | apply EC.b0 | apply EC.x0 | apply EC.ret | apply EK.n0 | apply EK.s0 | apply EK.aA | apply EK.aj | apply EK.ah))
 rename_i g3
 refine EC.loop (ι := {i : Nat // i ≤ kk})
  (fun i => ⟨[(5, .val (.v (.int .i64 (i.1 : Int)))), (3, .val (.v (.pointer (some ⟨g3, 0, none⟩)))), (0, .val (.v (ptr g)))], [.var g3 32 (.arr 20 a), rsO g L k n, raA L l], []⟩)
  (fun i => kk - i.1) ⟨0, by omega⟩ ?_ ?_
 · exact Le.kp
 rintro ⟨i, hi⟩
 dsimp only at hi ⊢
 have hil : i < l.length := by omega
 have hd : (l.map aI)[i]? = some (aI l[i]) := by rw [List.getElem?_map, KA hil]; rfl
 have hb := nU l[i].a a
 by_cases hlt : i < kk
 ·
  rw [hlo i hil hlt] at hb
  repeat
   (first
    | (with_reducible first | apply EC.seq | apply EC.r0 | apply EC.k0 | apply EC.label | apply EC.b0 | apply EC.x0 | apply EC.ret | apply EK.n0 | apply EK.s0 | apply EK.aA | apply EK.aj | apply EK.ah))
  refine EC.draw 21 (by kernel_rfl) ?_
  simp only [Kv, Kz, Ku, Kw]
  repeat
   (first
    | (apply rP; exact jL; rfl; exact I2; (rw [hml]; omega); iterate 2 rfl)
    | (apply qc (k := i) (off := 0) (d := aI l[i]); rfl; exact I2; exact ⟨by simp, hd⟩; iterate 4 rfl) | (apply qg; exact jL; iterate 3 rfl)
    | (apply kN; rfl; exact I0; iterate 4 rfl) | (apply fQ; (iterate 2 rfl); exact hb; iterate 2 rfl) | (apply aJ; iterate 3 rfl)
    | (apply aW; iterate 6 rfl) | (apply iy; iterate 4 rfl) | (apply aG; rfl; exact I.a; iterate 4 rfl)
    | (apply fP (b := true); (iterate 2 rfl); exact aN; iterate 2 rfl) | (apply iJ; rfl; exact I.a; iterate 3 rfl) | (apply bg; iterate 3 rfl)
    | (apply dA; rfl; exact I.a; (focus (first | omega | (simp; done) | (simp; omega))); iterate 5 rfl)
    | (apply jh; rfl; exact I.a; (iterate 2 rfl); (focus (first | assumption | omega | (constructor <;> (first | (simp; done) | (simp; omega))))); iterate 2 rfl)
    | ((with_reducible apply EH.nil); rfl))
  repeat
   (first
    | (apply aB; iterate 3 rfl) | (apply ak; iterate 3 rfl) | (apply dQ; (iterate 3 rfl); (focus omega); (focus omega); iterate 2 rfl) | apply EL.nil
    | (apply EC.t0; rfl)
    | (with_reducible first | apply EK.nc | apply EC.seq | apply EC.r0 | apply EC.k0 | apply EC.label | apply EC.b0 | apply EC.x0 | apply EC.ret | apply EK.n0 | apply EK.s0 | apply EK.aA | apply EK.aj | apply EK.ah))
  refine EK.again ⟨i + 1, by omega⟩ (by dsimp only; omega) ?_
  simp only [Ls]
  exact Le.kp
 ·
  obtain rfl : i = kk := by omega
  rw [show Op.bytesLess l[i].a a = false by rw [he]; exact Bf _] at hb
  have hne := (kJ l[i].a a).2
  rw [show (l[i].a != a) = false by rw [he]; simp] at hne
  repeat
   (first
    | (with_reducible first | apply EC.seq | apply EC.r0 | apply EC.k0 | apply EC.label | apply EC.b0 | apply EC.x0 | apply EC.ret | apply EK.n0 | apply EK.s0 | apply EK.aA | apply EK.aj | apply EK.ah))
  refine EC.draw 21 (by kernel_rfl) ?_
  simp only [Kv, Kz, Ku, Kw]
  repeat
   (first
    | (apply rP; exact jL; rfl; exact I2; (rw [hml]; omega); iterate 2 rfl)
    | (apply qc (k := i) (off := 0) (d := aI l[i]); rfl; exact I2; exact ⟨by simp, hd⟩; iterate 4 rfl) | (apply qg; exact jL; iterate 3 rfl)
    | (apply kN; rfl; exact I0; iterate 4 rfl) | (apply fQ; (iterate 2 rfl); exact hb; iterate 2 rfl) | (apply aJ; iterate 3 rfl)
    | (apply aW; iterate 6 rfl) | (apply iy; iterate 4 rfl) | (apply aG; rfl; exact I.a; iterate 4 rfl)
    | (apply fP (b := true); (iterate 2 rfl); exact aN; iterate 2 rfl) | (apply iJ; rfl; exact I.a; iterate 3 rfl) | (apply bg; iterate 3 rfl)
    | (apply dA; rfl; exact I.a; (focus (first | omega | (simp; done) | (simp; omega))); iterate 5 rfl)
    | (apply jh; rfl; exact I.a; (iterate 2 rfl); (focus (first | assumption | omega | (constructor <;> (first | (simp; done) | (simp; omega))))); iterate 2 rfl)
    | ((with_reducible apply EH.nil); rfl))
  repeat
   (first
    | apply EL.nil | (apply EC.f0; rfl)
    | (with_reducible first | apply EK.nc | apply EC.seq | apply EC.r0 | apply EC.k0 | apply EC.label | apply EC.b0 | apply EC.x0 | apply EC.ret | apply EK.n0 | apply EK.s0 | apply EK.aA | apply EK.aj | apply EK.ah))
  refine EC.draw 19 (by kernel_rfl) ?_
  simp only [Kv, Kz, Ku, Kw]
  repeat
   (first
    | (apply fC (k := i) (off := 0) (d := aI l[i]); rfl; exact I2; exact ⟨by simp, hd⟩; iterate 4 rfl) | (apply fQ; (iterate 2 rfl); exact hne; iterate 2 rfl)
    | (apply aJ; iterate 3 rfl) | (apply aW; iterate 6 rfl) | (apply iy; iterate 4 rfl) | (apply aG; rfl; exact I.a; iterate 4 rfl)
    | (apply fP (b := false); (iterate 2 rfl); exact aN; iterate 2 rfl) | (apply iJ; rfl; exact I.a; iterate 3 rfl) | (apply bg; iterate 3 rfl)
    | (apply dA; rfl; exact I.a; (focus (first | omega | (simp; done) | (simp; omega))); iterate 5 rfl)
    | (apply jh; rfl; exact I.a; (iterate 2 rfl); (focus (first | assumption | omega | (constructor <;> (first | (simp; done) | (simp; omega))))); iterate 2 rfl)
    | ((with_reducible apply EH.nil); rfl))
  repeat
   (first
    | (apply aB; iterate 3 rfl) | (apply ak; iterate 3 rfl) | (apply aH; iterate 6 rfl) | (apply aF; rfl; exact I.a; iterate 4 rfl)
    | (apply aY; iterate 3 rfl)
    | (apply bY; rfl; exact I.a; (iterate 2 rfl); (focus (first | assumption | omega | (constructor <;> (first | (simp; done) | (simp; omega))))); iterate 2 rfl) | apply EL.nil
    | (apply EC.f0; rfl)
    | (with_reducible first | apply EK.nc | apply EC.seq | apply EC.r0 | apply EC.k0 | apply EC.label | apply EC.b0 | apply EC.x0 | apply EC.ret | apply EK.n0 | apply EK.s0 | apply EK.aA | apply EK.aj | apply EK.ah))
  exact EK.bn [rsO g L k n, raA L l] rfl rfl (by (repeat first | exact KE _ | apply List.Sublist.cons_cons | apply List.Sublist.cons)) ⟨rfl, rfl⟩
theorem Gx {g : Nat} {L k : Value} {n : Int} (l : List AcL) (a : List UInt8) (hll : l.length < 1099511627) (kk : Nat) (hkk : kk ≤ l.length) (hlo : ∀ j (hj : j < l.length), j < kk → Op.bytesLess l[j].a a = true) (hhi : ∀ hj : kk < l.length, Op.bytesLess l[kk].a a = false ∧ (l[kk].a != a) = true) : FnM 49 [.v (ptr g), .arr 20 a] [rsO g L k n, raA L l] (fun r os' => ∃ L', r = .val (.v (bf L' ((kk : Int).toNat * 55))) ∧ os' = [rsO g L' k n, raA L' (l.take kk ++ AcL.none a :: l.drop kk)]) := by
 have hml : (l.map aI).length = l.length := KG _
 refine FnM.walk 78 Tryz.func49 rfl Tryz.ntmps49 (by simp) fun X => ?_
 repeat
  (first
   | (apply ak; iterate 3 rfl) | (apply aV; rfl; rfl; rfl; intro _) | apply EL.nil
   | (with_reducible first | apply EK.nc | apply EC.seq | apply EC.r0 | apply EC.k0 | apply EC.label | apply EC.b0 | apply EC.x0 | apply EC.ret | apply EK.n0 | apply EK.s0 | apply EK.aA | apply EK.aj | apply EK.ah))
 rename_i g3
 refine EC.loop (ι := {i : Nat // i ≤ kk})
  (fun i => ⟨[(5, .val (.v (.int .i64 (i.1 : Int)))), (3, .val (.v (.pointer (some ⟨g3, 0, none⟩)))), (0, .val (.v (ptr g)))], [.var g3 32 (.arr 20 a), rsO g L k n, raA L l], []⟩)
  (fun i => kk - i.1) ⟨0, by omega⟩ ?_ ?_
 · exact Le.kp
 rintro ⟨i, hi⟩
 dsimp only at hi ⊢
 by_cases hlt : i < kk
 ·
  have hil : i < l.length := by omega
  have hd : (l.map aI)[i]? = some (aI l[i]) := by rw [List.getElem?_map, KA hil]; rfl
  have hb := nU l[i].a a
  rw [hlo i hil hlt] at hb
  repeat
   (first
    | (with_reducible first | apply EC.seq | apply EC.r0 | apply EC.k0 | apply EC.label | apply EC.b0 | apply EC.x0 | apply EC.ret | apply EK.n0 | apply EK.s0 | apply EK.aA | apply EK.aj | apply EK.ah))
  refine EC.draw 21 (by kernel_rfl) ?_
  simp only [Kv, Kz, Ku, Kw]
  repeat
   (first
    | (apply rP; exact jL; rfl; exact I2; (rw [hml]; omega); iterate 2 rfl)
    | (apply qc (k := i) (off := 0) (d := aI l[i]); rfl; exact I2; exact ⟨by simp, hd⟩; iterate 4 rfl) | (apply qg; exact jL; iterate 3 rfl)
    | (apply kN; rfl; exact I0; iterate 4 rfl) | (apply fQ; (iterate 2 rfl); exact hb; iterate 2 rfl) | (apply aJ; iterate 3 rfl)
    | (apply aW; iterate 6 rfl) | (apply iy; iterate 4 rfl) | (apply aG; rfl; exact I.a; iterate 4 rfl)
    | (apply fP (b := true); (iterate 2 rfl); exact aN; iterate 2 rfl) | (apply iJ; rfl; exact I.a; iterate 3 rfl) | (apply bg; iterate 3 rfl)
    | (apply dA; rfl; exact I.a; (focus (first | omega | (simp; done) | (simp; omega))); iterate 5 rfl)
    | (apply jh; rfl; exact I.a; (iterate 2 rfl); (focus (first | assumption | omega | (constructor <;> (first | (simp; done) | (simp; omega))))); iterate 2 rfl)
    | ((with_reducible apply EH.nil); rfl))
  repeat
   (first
    | (apply aB; iterate 3 rfl) | (apply ak; iterate 3 rfl) | (apply dQ; (iterate 3 rfl); (focus omega); (focus omega); iterate 2 rfl) | apply EL.nil
    | (apply EC.t0; rfl)
    | (with_reducible first | apply EK.nc | apply EC.seq | apply EC.r0 | apply EC.k0 | apply EC.label | apply EC.b0 | apply EC.x0 | apply EC.ret | apply EK.n0 | apply EK.s0 | apply EK.aA | apply EK.aj | apply EK.ah))
  refine EK.again ⟨i + 1, by omega⟩ (by dsimp only; omega) ?_
  simp only [Ls]
  exact Le.kp
 ·
  obtain rfl : i = kk := by omega
  have hFr : ∀ F : List (Value × D), (L, D.sl 55 (l.map aI)) ∈ F → Refine F (.v L) (.sl 55 (l.map aI)) := fun F h => Rf.fact h rfl
  have hlen1 : ((l.map aI).drop i).length ≤ l.length := by rw [Oq, hml]; omega
  have hlen2 : ((l.map aI).take i).length ≤ l.length := by rw [LD, hml]; omega
  have hres : [] ++ (l.map aI).take i ++ [aI (AcL.none a)] ++ (l.map aI).drop i = (l.take i ++ AcL.none a :: l.drop i).map aI := by simp
  have hilen : i < ([] ++ (l.map aI).take i ++ [aI (AcL.none a)] ++ (l.map aI).drop i).length := by simp; omega
  by_cases hil : i < l.length
  ·
   have hd : (l.map aI)[i]? = some (aI l[i]) := by rw [List.getElem?_map, KA hil]; rfl
   have hb := nU l[i].a a
   rw [(hhi hil).1] at hb
   have hne := (kJ l[i].a a).2
   rw [(hhi hil).2] at hne
   repeat
    (first
     | (with_reducible first | apply EC.seq | apply EC.r0 | apply EC.k0 | apply EC.label | apply EC.b0 | apply EC.x0 | apply EC.ret | apply EK.n0 | apply EK.s0 | apply EK.aA | apply EK.aj | apply EK.ah))
   refine EC.draw 21 (by kernel_rfl) ?_
   simp only [Kv, Kz, Ku, Kw]
   repeat
    (first
     | (apply rP; exact jL; rfl; exact I2; (rw [hml]; omega); iterate 2 rfl)
     | (apply qc (k := i) (off := 0) (d := aI l[i]); rfl; exact I2; exact ⟨by simp, hd⟩; iterate 4 rfl) | (apply qg; exact jL; iterate 3 rfl)
     | (apply kN; rfl; exact I0; iterate 4 rfl) | (apply fQ; (iterate 2 rfl); exact hb; iterate 2 rfl) | (apply aJ; iterate 3 rfl)
     | (apply aW; iterate 6 rfl) | (apply iy; iterate 4 rfl) | (apply aG; rfl; exact I.a; iterate 4 rfl)
     | (apply fP (b := true); (iterate 2 rfl); exact aN; iterate 2 rfl) | (apply iJ; rfl; exact I.a; iterate 3 rfl) | (apply bg; iterate 3 rfl)
     | (apply dA; rfl; exact I.a; (focus (first | omega | (simp; done) | (simp; omega))); iterate 5 rfl)
     | (apply jh; rfl; exact I.a; (iterate 2 rfl); (focus (first | assumption | omega | (constructor <;> (first | (simp; done) | (simp; omega))))); iterate 2 rfl)
     | ((with_reducible apply EH.nil); rfl))
   repeat
    (first
     | apply EL.nil | (apply EC.f0; rfl)
     | (with_reducible first | apply EK.nc | apply EC.seq | apply EC.r0 | apply EC.k0 | apply EC.label | apply EC.b0 | apply EC.x0 | apply EC.ret | apply EK.n0 | apply EK.s0 | apply EK.aA | apply EK.aj | apply EK.ah))
   refine EC.draw 19 (by kernel_rfl) ?_
   simp only [Kv, Kz, Ku, Kw]
   repeat
    (first
     | (apply fC (k := i) (off := 0) (d := aI l[i]); rfl; exact I2; exact ⟨by simp, hd⟩; iterate 4 rfl) | (apply fQ; (iterate 2 rfl); exact hne; iterate 2 rfl)
     | (apply aJ; iterate 3 rfl) | (apply aW; iterate 6 rfl) | (apply iy; iterate 4 rfl) | (apply aG; rfl; exact I.a; iterate 4 rfl)
     | (apply fP (b := false); (iterate 2 rfl); exact aN; iterate 2 rfl) | (apply iJ; rfl; exact I.a; iterate 3 rfl) | (apply bg; iterate 3 rfl)
     | (apply dA; rfl; exact I.a; (focus (first | omega | (simp; done) | (simp; omega))); iterate 5 rfl)
     | (apply jh; rfl; exact I.a; (iterate 2 rfl); (focus (first | assumption | omega | (constructor <;> (first | (simp; done) | (simp; omega))))); iterate 2 rfl)
     | ((with_reducible apply EH.nil); rfl))
   repeat
    (first
     | (apply aB; iterate 3 rfl) | (apply aH; iterate 6 rfl) | (apply aF; rfl; exact I.a; iterate 4 rfl) | (apply aY; iterate 3 rfl) | apply EL.nil
     | (apply EC.t0; rfl)
     | (with_reducible first | apply EK.nc | apply EC.seq | apply EC.r0 | apply EC.k0 | apply EC.label | apply EC.b0 | apply EC.x0 | apply EC.ret | apply EK.n0 | apply EK.s0 | apply EK.aA | apply EK.aj | apply EK.ah))
   refine EL.le (Le.freeze (pre := [_, _]) rfl) ?_
   refine EL.le (Le.pick [1, 0] [_, _] rfl (by decide) rfl) ?_
   refine EL.le (Le.Aa (d' := .tup [.sl 55 (l.map aI), .v k, .v (.int .i64 n)]) (Rf.tup (RL.cons (hFr _ KH) RL.a))) ?_
   refine EL.le (Le.refine (t := 52) rfl (hFr _ KH)) ?_
   refine EL.le (Le.row 51 55) ?_
   repeat
    (first
     | (apply je; (iterate 3 rfl); exact ⟨by omega, by rw [hml, LP]; omega⟩; iterate 2 rfl) | (apply ak; iterate 3 rfl)
     | ((apply dP; rfl; exact saA; (iterate 5 rfl); (focus (constructor <;> (first | (simp; done) | (simp; omega))))); intro _)
     | apply EL.nil | ((with_reducible apply EK.h0); apply EK.code))
   rename_i v1
   dsimp only
   refine EC.le (Le.freeze (pre := []) rfl) ?_
   refine EC.le (Le.refine (t := 6) rfl (Rf.fact KH rfl)) ?_
   refine EC.le (Le.row 51 55) ?_
   dsimp only
   refine EC.dL 14 [0, 1, 2, 3, 4, 5, 6, 8, 9, 10, 12] [7, 11, 13] [_] _ (by kernel_rfl) (by kernel_rfl) rfl ?_
   simp only [aQ, KJ, KN, KD, KF]
   repeat
    (first
     | (apply F9; (iterate 3 rfl); exact ⟨by omega, by rw [hml, LP]; omega⟩; iterate 2 rfl) | (apply aJ; iterate 3 rfl) | (apply aW; iterate 6 rfl)
     | (apply aG; rfl; exact I.a; iterate 4 rfl) | (apply dR; iterate 7 rfl) | (apply CS; iterate 9 rfl) | (apply bg; iterate 3 rfl))
   refine EM.nil ?_
   repeat (first | rw [Kr] | rw [Kt])
   refine CH.mut (os := [_]) (rest := []) rfl rfl (jc rfl rfl rfl rfl rfl ⟨by simp; omega, by simp; omega⟩) ?_
   rintro _ _ ⟨v2, rfl, rfl⟩
   try simp only [St.put]
   repeat (first | rw [Kr] | rw [Kt])
   refine CH.mut (os := [_]) (rest := []) rfl rfl (jc rfl rfl rfl rfl rfl ⟨by simp; omega, by simp; omega⟩) ?_
   rintro _ _ ⟨v3, rfl, rfl⟩
   try simp only [St.put]
   repeat (first | rw [Kr] | rw [Kt])
   refine CH.mut (os := [_]) (rest := []) rfl rfl (jc rfl rfl rfl rfl rfl ⟨by simp; omega, by simp; omega⟩) ?_
   rintro _ _ ⟨v4, rfl, rfl⟩
   try simp only [St.put]
   repeat (first | rw [Kr] | rw [Kt])
   refine CH.nil ?_
   try simp only [Ku, Kw]
   repeat
    (first
     | (apply aB; iterate 3 rfl) | (apply ak; iterate 3 rfl) | (apply aH; iterate 6 rfl) | (apply aF; rfl; exact I.a; iterate 4 rfl)
     | (apply aY; iterate 3 rfl)
     | (apply bY; rfl; exact I.a; (iterate 2 rfl); (focus (first | assumption | omega | (constructor <;> (first | (simp; done) | (simp; omega))))); iterate 2 rfl)
     | (apply aO; rfl; exact saA; iterate 4 rfl) | apply EL.nil
     | (with_reducible first | apply EK.nc | apply EC.seq | apply EC.r0 | apply EC.k0 | apply EC.label | apply EC.b0 | apply EC.x0 | apply EC.ret | apply EK.n0 | apply EK.s0 | apply EK.aA | apply EK.aj | apply EK.ah))
   refine EK.le (Le.Ei (ds' := [] ++ (l.map aI).take i ++ [aI (AcL.none a)] ++ (l.map aI).drop i) (RL.append (RL.append (au.refl _ _) (RL.cons (Rf.tup (RL.cons Rf.same (RL.cons Rf.same (RL.cons Rf.same (RL.cons Rf.bs0 (RL.cons Rf.sl0 RL.nil)))))) RL.nil)) (au.refl _ _))) ?_
   refine EK.le (Le.pick [1, 0, 2] [_, _, _] rfl (by decide) rfl) ?_
   exact EK.bn [rsO g v4 k n, .row v4 51 55 ([] ++ (l.map aI).take i ++ [aI (AcL.none a)] ++ (l.map aI).drop i)] rfl rfl (by (repeat first | exact KE _ | apply List.Sublist.cons_cons | apply List.Sublist.cons)) ⟨v4, rfl, by rw [hres]⟩
  ·
   skip
   repeat
    (first
     | (with_reducible first | apply EC.seq | apply EC.r0 | apply EC.k0 | apply EC.label | apply EC.b0 | apply EC.x0 | apply EC.ret | apply EK.n0 | apply EK.s0 | apply EK.aA | apply EK.aj | apply EK.ah))
   refine EC.draw 21 (by kernel_rfl) ?_
   simp only [Kv, Kz, Ku, Kw]
   repeat
    (first
     | (apply xX; iterate 2 rfl) | (apply aJ; iterate 3 rfl) | (apply aW; iterate 6 rfl) | (apply iy; iterate 4 rfl)
     | (apply aG; rfl; exact I.a; iterate 4 rfl) | (apply fP (b := false); (iterate 2 rfl); exact aN; iterate 2 rfl)
     | (apply iJ; rfl; exact I.a; iterate 3 rfl) | (apply bg; iterate 3 rfl) | ((with_reducible apply EH.nil); rfl))
   repeat
    (first
     | apply EL.nil | (apply EC.f0; rfl)
     | (with_reducible first | apply EK.nc | apply EC.seq | apply EC.r0 | apply EC.k0 | apply EC.label | apply EC.b0 | apply EC.x0 | apply EC.ret | apply EK.n0 | apply EK.s0 | apply EK.aA | apply EK.aj | apply EK.ah))
   refine EC.draw 19 (by kernel_rfl) ?_
   simp only [Kv, Kz, Ku, Kw]
   repeat
    (first
     | (apply xX; iterate 2 rfl) | (apply aJ; iterate 3 rfl) | (apply aW; iterate 6 rfl) | (apply iy; iterate 4 rfl)
     | (apply aG; rfl; exact I.a; iterate 4 rfl) | (apply fP (b := true); (iterate 2 rfl); exact aN; iterate 2 rfl)
     | (apply iJ; rfl; exact I.a; iterate 3 rfl) | (apply bg; iterate 3 rfl) | ((with_reducible apply EH.nil); rfl))
   repeat
    (first
     | (apply aB; iterate 3 rfl) | (apply aH; iterate 6 rfl) | (apply aF; rfl; exact I.a; iterate 4 rfl) | (apply aY; iterate 3 rfl) | apply EL.nil
     | (apply EC.t0; rfl)
     | (with_reducible first | apply EK.nc | apply EC.seq | apply EC.r0 | apply EC.k0 | apply EC.label | apply EC.b0 | apply EC.x0 | apply EC.ret | apply EK.n0 | apply EK.s0 | apply EK.aA | apply EK.aj | apply EK.ah))
   refine EL.le (Le.freeze (pre := [_, _]) rfl) ?_
   refine EL.le (Le.pick [1, 0] [_, _] rfl (by decide) rfl) ?_
   refine EL.le (Le.Aa (d' := .tup [.sl 55 (l.map aI), .v k, .v (.int .i64 n)]) (Rf.tup (RL.cons (hFr _ KH) RL.a))) ?_
   refine EL.le (Le.refine (t := 52) rfl (hFr _ KH)) ?_
   refine EL.le (Le.row 51 55) ?_
   repeat
    (first
     | (apply je; (iterate 3 rfl); exact ⟨by omega, by rw [hml, LP]; omega⟩; iterate 2 rfl) | (apply ak; iterate 3 rfl)
     | ((apply dP; rfl; exact saA; (iterate 5 rfl); (focus (constructor <;> (first | (simp; done) | (simp; omega))))); intro _)
     | apply EL.nil | ((with_reducible apply EK.h0); apply EK.code))
   rename_i v1
   dsimp only
   refine EC.le (Le.freeze (pre := []) rfl) ?_
   refine EC.le (Le.refine (t := 6) rfl (Rf.fact KH rfl)) ?_
   refine EC.le (Le.row 51 55) ?_
   dsimp only
   refine EC.dL 14 [0, 1, 2, 3, 4, 5, 6, 8, 9, 10, 12] [7, 11, 13] [_] _ (by kernel_rfl) (by kernel_rfl) rfl ?_
   simp only [aQ, KJ, KN, KD, KF]
   repeat
    (first
     | (apply F9; (iterate 3 rfl); exact ⟨by omega, by rw [hml, LP]; omega⟩; iterate 2 rfl) | (apply aJ; iterate 3 rfl) | (apply aW; iterate 6 rfl)
     | (apply aG; rfl; exact I.a; iterate 4 rfl) | (apply dR; iterate 7 rfl) | (apply CS; iterate 9 rfl) | (apply bg; iterate 3 rfl))
   refine EM.nil ?_
   repeat (first | rw [Kr] | rw [Kt])
   refine CH.mut (os := [_]) (rest := []) rfl rfl (jc rfl rfl rfl rfl rfl ⟨by simp; omega, by simp; omega⟩) ?_
   rintro _ _ ⟨v2, rfl, rfl⟩
   try simp only [St.put]
   repeat (first | rw [Kr] | rw [Kt])
   refine CH.mut (os := [_]) (rest := []) rfl rfl (jc rfl rfl rfl rfl rfl ⟨by simp; omega, by simp; omega⟩) ?_
   rintro _ _ ⟨v3, rfl, rfl⟩
   try simp only [St.put]
   repeat (first | rw [Kr] | rw [Kt])
   refine CH.mut (os := [_]) (rest := []) rfl rfl (jc rfl rfl rfl rfl rfl ⟨by simp; omega, by simp; omega⟩) ?_
   rintro _ _ ⟨v4, rfl, rfl⟩
   try simp only [St.put]
   repeat (first | rw [Kr] | rw [Kt])
   refine CH.nil ?_
   try simp only [Ku, Kw]
   repeat
    (first
     | (apply aB; iterate 3 rfl) | (apply ak; iterate 3 rfl) | (apply aH; iterate 6 rfl) | (apply aF; rfl; exact I.a; iterate 4 rfl)
     | (apply aY; iterate 3 rfl)
     | (apply bY; rfl; exact I.a; (iterate 2 rfl); (focus (first | assumption | omega | (constructor <;> (first | (simp; done) | (simp; omega))))); iterate 2 rfl)
     | (apply aO; rfl; exact saA; iterate 4 rfl) | apply EL.nil
     | (with_reducible first | apply EK.nc | apply EC.seq | apply EC.r0 | apply EC.k0 | apply EC.label | apply EC.b0 | apply EC.x0 | apply EC.ret | apply EK.n0 | apply EK.s0 | apply EK.aA | apply EK.aj | apply EK.ah))
   refine EK.le (Le.Ei (ds' := [] ++ (l.map aI).take i ++ [aI (AcL.none a)] ++ (l.map aI).drop i) (RL.append (RL.append (au.refl _ _) (RL.cons (Rf.tup (RL.cons Rf.same (RL.cons Rf.same (RL.cons Rf.same (RL.cons Rf.bs0 (RL.cons Rf.sl0 RL.nil)))))) RL.nil)) (au.refl _ _))) ?_
   refine EK.le (Le.pick [1, 0, 2] [_, _, _] rfl (by decide) rfl) ?_
   exact EK.bn [rsO g v4 k n, .row v4 51 55 ([] ++ (l.map aI).take i ++ [aI (AcL.none a)] ++ (l.map aI).drop i)] rfl rfl (by (repeat first | exact KE _ | apply List.Sublist.cons_cons | apply List.Sublist.cons)) ⟨v4, rfl, by rw [hres]⟩
end E
end Go.Proofs.YtkhjanjlcdhdcaaGreat
namespace Go.Proofs.YtkhjanjlcdhdcaaGreat
set_option linter.unusedVariables false
open Go.RowKit Mono Rlp Wd Go.Sort
namespace E
section
variable {N : Nat} {X : Cx N} {ops : Array Oper} {Q : Exit → Act → World → Prop}
theorem nX {l' : List Oper} {t ty f : Nat} {pos : String} {af : Array Edge} {gd : Option (Nat × Bool)} {args : Array Operand} {tys : Array TypeId} {ds ds' : List D} {Φ : R → List Obj → Prop} {rs : List (Tmp × R)} {os os0 : List Obj} {fs : List (Value × D)} (hF : FnM f ds' os Φ) (l1 : List Obj) (hos : os0 = l1 ++ os)
  (hx : evs (⟨rs, l1, fs⟩ : St) args.toList = some ds) (hR : au fs ds ds') (hf : Enters f) (hg : guardOf ops ⟨rs, os ++ l1, fs⟩ ⟨some t, .call { callee := .value (.func f), args := args, argTypes := tys }, ty, pos, af, gd⟩ = some true) (hN : Nat.blt t N = true) (k : ∀ r os', Φ r os' → EL X ops Q l' ⟨(t, r) :: rs, l1 ++ os', fs⟩) : EL X ops Q (⟨some t, .call { callee := .value (.func f), args := args, argTypes := tys }, ty, pos, af, gd⟩ :: l') ⟨rs, os0, fs⟩ := by
 subst hos
 exact EL.le (Le.perm KY) (dM hF rfl hx hR hf hg hN fun r os' h => EL.le (Le.perm KY) (k r os' h))
end
theorem PA.Is.mono {p : PA} {x : Ac} {N M : Nat} (h : p.Is x N) (hm : N ≤ M) : p.Is x M := ⟨h.n, h.w, h.cd, h.sl, h.ent, h.nod, Ll h.len hm, h.cl⟩
theorem PSt.mono {g N M : Nat} {A : As} {os : List Obj} (h : PSt g A N os) (hm : N ≤ M) : PSt g A M os := by
 obtain ⟨m, c, es, u, k, n, us, ps, h1, hi, hu⟩ := h
 exact ⟨m, c, es, u, k, n, us, ps, h1, ⟨hi.out, fun a d h => by obtain ⟨p, h1, h2, h3⟩ := hi.inn a d h; exact ⟨p, h1, h2, h3.mono hm⟩, hi.inj, hi.nod, Ll hi.len hm⟩, hu⟩
structure ChL where
 a : List UInt8
 gone : Bool
 n : Int
 w : List UInt8
 cd : List UInt8
 sl : List (List UInt8 × List UInt8)
def ChL.base (c : ChL) (A : As) : As :=
 let A1 := if c.gone = true then A.upd c.a Ac.zero else A
 let A2 := A1.upd c.a {A1 c.a with n := if c.n > 0 then c.n else 0}
 let A3 := A2.upd c.a {A2 c.a with w := c.w}
 A3.upd c.a {A3 c.a with cd := c.cd}
def jC (a : List UInt8) (sl : List (List UInt8 × List UInt8)) (A : As) : As := sl.foldl (fun A p => A.upd a ((A a).slot p.1 p.2)) A
def ChL.of (c : ChL) (A : As) : As := jC c.a c.sl (c.base A)
theorem yA (a : List UInt8) (sl : List (List UInt8 × List UInt8)) (p : List UInt8 × List UInt8) (A : As) : jC a (sl ++ [p]) A = (jC a sl A).upd a ((jC a sl A a).slot p.1 p.2) := by unfold jC; rw [List.foldl_append]; rfl
end E
end Go.Proofs.YtkhjanjlcdhdcaaGreat
namespace Go.Proofs.YtkhjanjlcdhdcaaGreat
set_option linter.unusedVariables false
set_option maxRecDepth 20000
set_option maxHeartbeats 8000000
open Go.RowKit Mono Rlp Wd
namespace E
def AcL.Small (N : Nat) (x : AcL) : Prop := x.sl.length ≤ N ∧ x.cd.length ≤ 140737488355328
theorem AcL.Small.mono {N M : Nat} {x : AcL} (h : x.Small N) (hm : N ≤ M) : x.Small M := ⟨Ll h.1 hm, h.2⟩
structure RL (A : As) (N : Nat) (l : List AcL) : Prop where
 bd : ∀ x ∈ l, x.Small N
 ord : l.Pairwise fun x y => x.a < y.a
 mem : ∀ x ∈ l, x.Is (A x.a)
 out : ∀ a, a ∉ l.map AcL.a → A a = Ac.zero
theorem AcL.wX (a : List UInt8) : (AcL.none a).Is Ac.zero := ⟨rfl, rfl, rfl, .nil, fun p hp => by simp [AcL.none] at hp, fun k hk => absurd rfl hk⟩
theorem Io {a b : List UInt8} (h : a < b) : Op.bytesLess a b = true := by rw [Bg]; simpa using h
theorem Ip {a b : List UInt8} (h : ¬ a < b) : Op.bytesLess a b = false := by rw [Bg]; simpa using h
theorem place (a : List UInt8) : ∀ (l : List AcL), l.Pairwise (fun x y => x.a < y.a) → ∃ l1 l2, (∀ x ∈ l1, x.a < a) ∧ ((∃ x, l = l1 ++ x :: l2 ∧ x.a = a ∧ ∀ y ∈ l2, a < y.a) ∨ (l = l1 ++ l2 ∧ ∀ y ∈ l2, a < y.a))
 | [], _ => ⟨[], [], fun x hx => by simp at hx, .inr ⟨rfl, fun y hy => by simp at hy⟩⟩
 | x :: l, h => by
  obtain ⟨h1, h2⟩ := LJ.1 h
  by_cases hlt : x.a < a
  ·
   obtain ⟨l1, l2, h3, h4⟩ := place a l h2
   refine ⟨x :: l1, l2, fun y hy => ?_, ?_⟩
   ·
    rcases KI.1 hy with rfl | hy
    · exact hlt
    · exact h3 y hy
   ·
    rcases h4 with ⟨y, rfl, hy, hz⟩ | ⟨rfl, hz⟩
    · exact .inl ⟨y, rfl, hy, hz⟩
    · exact .inr ⟨rfl, hz⟩
  ·
   by_cases he : x.a = a
   · exact ⟨[], l, fun y hy => by simp at hy, .inl ⟨x, rfl, he, fun y hy => he ▸ h1 y hy⟩⟩
   ·
    refine ⟨[], x :: l, fun y hy => by simp at hy, .inr ⟨rfl, fun y hy => ?_⟩⟩
    have hxa : a < x.a := LU fun hn => he (NC (NG.1 hn) (NG.1 hlt))
    rcases KI.1 hy with rfl | hy
    · exact hxa
    · exact NJ hxa (h1 y hy)
structure Ig (A : As) (N : Nat) (a : List UInt8) (l1 : List AcL) (x : AcL) (l2 : List AcL) : Prop where
 ad : x.a = a
 lo : ∀ y ∈ l1, y.a < a
 hi : ∀ y ∈ l2, a < y.a
 o1 : l1.Pairwise fun x y => x.a < y.a
 o2 : l2.Pairwise fun x y => x.a < y.a
 m1 : ∀ y ∈ l1, y.Is (A y.a)
 m2 : ∀ y ∈ l2, y.Is (A y.a)
 is : x.Is (A a)
 b1 : ∀ y ∈ l1, y.Small N
 b2 : ∀ y ∈ l2, y.Small N
 bx : x.Small N
 out : ∀ b, b ∉ l1.map AcL.a → b ∉ l2.map AcL.a → b ≠ a → A b = Ac.zero
theorem Ig.upd {A : As} {N M : Nat} {a : List UInt8} {l1 l2 : List AcL} {x x' : AcL} {y : Ac} (h : Ig A N a l1 x l2) (hx : x'.a = a) (hi : x'.Is y) (hs : x'.Small M) (hm : N ≤ M) : RL (A.upd a y) M (l1 ++ x' :: l2) := by
 refine ⟨fun u hu => ?_, LC.2 ⟨h.o1, LJ.2 ⟨fun z hz => hx ▸ h.hi z hz, h.o2⟩, fun u hu z hz => ?_⟩, fun u hu => ?_, fun b hb => ?_⟩
 ·
  rcases Lm.1 hu with hu | hu
  · exact (h.b1 u hu).mono hm
  ·
   rcases KI.1 hu with rfl | hu
   · exact hs
   · exact (h.b2 u hu).mono hm
 ·
  rcases KI.1 hz with rfl | hz
  · exact hx ▸ h.lo u hu
  · exact NJ (h.lo u hu) (h.hi z hz)
 ·
  unfold As.upd
  rcases Lm.1 hu with hu | hu
  ·
   rw [if_neg fun e => L9 a (by have := h.lo u hu; rwa [← e] at this)]
   exact h.m1 u hu
  ·
   rcases KI.1 hu with rfl | hu
   ·
    rw [if_pos hx.symm]
    exact hi
   ·
    rw [if_neg fun e => L9 a (by have := h.hi u hu; rwa [← e] at this)]
    exact h.m2 u hu
 ·
  unfold As.upd
  simp only [L8, Lc, Lm, KI, not_or] at hb
  rw [if_neg fun e => hb.2.1 (hx.trans e).symm]
  exact h.out b hb.1 hb.2.2 fun e => hb.2.1 (e.trans hx.symm)
theorem rat {g N : Nat} {L k : Value} {n : Int} {A : As} {l : List AcL} (h : RL A N l) (a : List UInt8) (hll : l.length < 1099511627) : FnM 49 [.v (ptr g), .arr 20 a] [rsO g L k n, raA L l] (fun r os' => ∃ L' l1 x l2, Ig A N a l1 x l2 ∧ l1.length + 1 + l2.length ≤ l.length + 1 ∧ r = .val (.v (bf L' ((l1.length : Int).toNat * 55))) ∧ os' = [rsO g L' k n, raA L' (l1 ++ x :: l2)]) := by
 obtain ⟨l1, l2, h1, h2⟩ := place a l h.ord
 have hlo : ∀ j (hj : j < l.length), j < l1.length → Op.bytesLess l[j].a a = true := fun j hj hjl => by
  have e : l[j] = l1[j] := by rcases h2 with ⟨x, rfl, _⟩ | ⟨rfl, _⟩ <;> rw [List.getElem_append_left hjl]
  rw [e]
  exact Io (h1 _ (LH hjl))
 rcases h2 with ⟨x, rfl, hx, h3⟩ | ⟨rfl, h3⟩
 ·
  have hkk : l1.length < (l1 ++ x :: l2).length := by simp
  have he : (l1 ++ x :: l2)[l1.length].a = a := by rw [NQ (KW _)]; simpa using hx
  refine FnM.mono (IZ (g := g) (L := L) (k := k) (n := n) (l1 ++ x :: l2) a (by omega) l1.length hkk hlo he) ?_
  rintro r _ ⟨rfl, rfl⟩
  have ho := LC.1 h.ord
  refine ⟨L, l1, x, l2, ⟨hx, h1, h3, ho.1, (LJ.1 ho.2.1).2, fun y hy => h.mem y (KX _ hy), fun y hy => h.mem y (KZ _ (KT _ hy)), hx ▸ h.mem x (by simp), fun y hy => h.bd y (KX _ hy), fun y hy => h.bd y (KZ _ (KT _ hy)), h.bd x (by simp), fun b hb1 hb2 hb => h.out b ?_⟩, by simp; omega, rfl, rfl⟩
  simp only [L8, Lc, Lm, KI, not_or]
  exact ⟨hb1, fun e => hb (e.trans hx), hb2⟩
 ·
  refine FnM.mono (Gx (g := g) (L := L) (k := k) (n := n) (l1 ++ l2) a hll l1.length (by simp) hlo fun hj => ?_) ?_
  ·
   have hj2 : 0 < l2.length := by simp at hj; exact hj
   have e : (l1 ++ l2)[l1.length] = l2[0] := by rw [NQ (KW _)]; simp
   rw [e]
   have h4 := h3 _ (LH hj2)
   refine ⟨Ip fun h5 => L9 _ (NJ h4 h5), ?_⟩
   simp only [bne_iff_ne, ne_eq]
   exact fun e => L9 a (by rwa [e] at h4)
  ·
   rintro r _ ⟨L', rfl, rfl⟩
   have ho := LC.1 h.ord
   have hnl : a ∉ (l1 ++ l2).map AcL.a := fun hm => by
    obtain ⟨y, hy, e⟩ := Lh.1 hm
    rcases Lm.1 hy with hy | hy
    · exact L9 a (by have := h1 y hy; rwa [e] at this)
    · exact L9 a (by have := h3 y hy; rwa [e] at this)
   refine ⟨L', l1, AcL.none a, l2, ⟨rfl, h1, h3, ho.1, ho.2.1, fun y hy => h.mem y (KX _ hy), fun y hy => h.mem y (KZ _ hy), by rw [h.out a hnl]; exact AcL.wX a, fun y hy => h.bd y (KX _ hy), fun y hy => h.bd y (KZ _ hy), ⟨Lj _, Lj _⟩, fun b hb1 hb2 hb => h.out b ?_⟩, by simp; omega, rfl, by simp⟩
   simp only [L8, Lm, not_or]
   exact ⟨hb1, hb2⟩
def RSt (g : Nat) (A : As) (N : Nat) (os : List Obj) : Prop := ∃ L k n l, os = [rsO g L k n, raA L l] ∧ RL A N l ∧ l.length ≤ N
theorem gW (l1 l2 : List AcL) (x x' : AcL) : ((l1 ++ x :: l2).map aI).set l1.length (aI x') = (l1 ++ x' :: l2).map aI := by simp
theorem kH (l1 l2 : List AcL) (x : AcL) : ((l1 ++ x :: l2).map aI)[l1.length]? = some (aI x) := by simp
variable {g N : Nat} {A : As} {os : List Obj} {a : List UInt8}
theorem RSt.of {L k : Value} {n : Int} {l1 l2 : List AcL} {x x' : AcL} {y : Ac} (h : Ig A N a l1 x l2) (hl : l1.length + 1 + l2.length ≤ N + 1) (hx : x'.a = a) (hs : x'.Small (N + 1)) (hi : x'.Is y) : RSt g (A.upd a y) (N + 1) [rsO g L k n, raA L (l1 ++ x' :: l2)] := ⟨L, k, n, _, rfl, h.upd hx hi hs (Nat.le_succ _), by simp; omega⟩
theorem iT (h : RSt g A N os) (hN : N ≤ 1000000) (w : List UInt8) : FnM 22 [.v (ptr g), .arr 20 a, .arr 32 w] os (fun r os' => r = .tpl [] ∧ RSt g (A.upd a {A a with w := w}) (N + 1) os') := by
 obtain ⟨L, k, n, l, rfl, hR, hlN⟩ := h
 have h1 := rat (g := g) (L := L) (k := k) (n := n) hR a (by omega)
 refine FnM.walk 12 Tryz.func22 rfl Tryz.ntmps22 (by simp) fun X => ?_
 repeat
  (first
   | (apply aV; rfl; rfl; rfl; intro _) | apply EL.nil
   | (with_reducible first | apply EK.nc | apply EC.seq | apply EC.r0 | apply EC.k0 | apply EC.label | apply EC.b0 | apply EC.x0 | apply EC.ret | apply EK.n0 | apply EK.s0 | apply EK.aA | apply EK.aj | apply EK.ah))
 refine EC.le (Le.pick [2, 3, 0, 1] [_, _, _, _] rfl (by decide) rfl) ?_
 refine EC.dL 4 [0, 1, 3] [2] [_, _] _ (by kernel_rfl) (by kernel_rfl) rfl ?_
 simp only [aQ, KJ, KN, KD, KF]
 repeat
  (first
   | (apply aJ; iterate 3 rfl) | (apply aG; rfl; exact I.a; iterate 4 rfl))
 refine EM.nil ?_
 repeat (first | rw [Kr] | rw [Kt])
 refine CH.dS (rest := []) h1 rfl rfl (au.refl _ _) (by intro _ _; simp [go_sem]) rfl rfl ?_
 rintro _ _ ⟨L', l1, x, l2, ha, hll, rfl, rfl⟩
 try simp only [St.put]
 repeat (first | rw [Kr] | rw [Kt])
 refine CH.nil ?_
 try simp only [Ku, Kw]
 have hd := kH l1 l2 x
 obtain ⟨xa, xn, xw, xc, xs⟩ := x
 repeat
  (first
   | (apply dw (k := l1.length) (off := 21) (d := aI ⟨xa, xn, xw, xc, xs⟩) (d'' := aI ⟨xa, xn, w, xc, xs⟩); rfl; exact .s .z; exact ⟨by simp, hd⟩; iterate 4 rfl)
   | (apply eY; rfl; exact I.a; (focus (first | omega | (simp; done) | (simp; omega))); iterate 2 rfl)
   | (apply bI; rfl; exact I.a; (focus (first | omega | (simp; done) | (simp; omega))); iterate 5 rfl) | apply EL.nil)
 have hs := ha.is
 exact EK.eH [rsO g L' k n, .row L' 51 55 (((l1 ++ ⟨xa, xn, xw, xc, xs⟩ :: l2).map aI).set l1.length (aI ⟨xa, xn, w, xc, xs⟩))] rfl (by (repeat first | exact KE _ | apply List.Sublist.cons_cons | apply List.Sublist.cons)) ⟨rfl, by rw [gW]; exact RSt.of ha (by omega) ha.ad (ha.bx.mono (Nat.le_succ _)) ⟨hs.n, rfl, hs.cd, hs.ord, hs.val, hs.all⟩⟩
theorem qO (h : RSt g A N os) (hN : N ≤ 1000000) (v : Int) : FnM 21 [.v (ptr g), .arr 20 a, .v (.int .i64 v)] os (fun r os' => r = .tpl [] ∧ RSt g (A.upd a {A a with n := if v > 0 then v else 0}) (N + 1) os') := by
 obtain ⟨L, k, n, l, rfl, hR, hlN⟩ := h
 have h1 := rat (g := g) (L := L) (k := k) (n := n) hR a (by omega)
 refine FnM.walk 14 Tryz.func21 rfl Tryz.ntmps21 (by simp) fun X => ?_
 by_cases hv : v < 0
 ·
  rw [show (if v > 0 then v else 0) = 0 by rw [if_neg (by omega)]]
  repeat
   (first
    | (apply nX h1 [_] rfl rfl (au.refl _ _) (by intro _ _; simp [go_sem]) rfl rfl; rintro _ _ ⟨L', l1, x, l2, ha, hll, rfl, rfl⟩; simp only [Kr, Kt]; have hd := kH l1 l2 x; obtain ⟨xa, xn, xw, xc, xs⟩ := x)
    | (apply dw (k := l1.length) (off := 20) (d := aI ⟨xa, xn, xw, xc, xs⟩) (d'' := aI ⟨xa, 0, xw, xc, xs⟩); rfl; exact .s (.s .z); exact ⟨by simp, hd⟩; iterate 4 rfl)
    | (apply aB; iterate 3 rfl) | (apply ak; iterate 3 rfl) | (apply aF; rfl; exact I.a; iterate 4 rfl)
    | (apply aC (b := true); (iterate 2 rfl); exact aN; iterate 2 rfl)
    | (apply eY; rfl; exact I.a; (focus (first | omega | (simp; done) | (simp; omega))); iterate 2 rfl)
    | (apply bI; rfl; exact I.a; (focus (first | omega | (simp; done) | (simp; omega))); iterate 5 rfl) | (apply aV; rfl; rfl; rfl; intro _) | apply EL.nil
    | (apply EC.t0; rfl)
    | (with_reducible first | apply EK.nc | apply EC.seq | apply EC.r0 | apply EC.k0 | apply EC.label | apply EC.b0 | apply EC.x0 | apply EC.ret | apply EK.n0 | apply EK.s0 | apply EK.aA | apply EK.aj | apply EK.ah))
  have hs := ha.is
  exact EK.eH [rsO g L' k n, .row L' 51 55 (((l1 ++ ⟨xa, xn, xw, xc, xs⟩ :: l2).map aI).set l1.length (aI ⟨xa, 0, xw, xc, xs⟩))] rfl (by (repeat first | exact KE _ | apply List.Sublist.cons_cons | apply List.Sublist.cons)) ⟨rfl, by rw [gW]; exact RSt.of ha (by omega) ha.ad (ha.bx.mono (Nat.le_succ _)) ⟨rfl, hs.w, hs.cd, hs.ord, hs.val, hs.all⟩⟩
 ·
  rw [show (if v > 0 then v else 0) = v by split <;> omega]
  repeat
   (first
    | (apply nX h1 [_] rfl rfl (au.refl _ _) (by intro _ _; simp [go_sem]) rfl rfl; rintro _ _ ⟨L', l1, x, l2, ha, hll, rfl, rfl⟩; simp only [Kr, Kt]; have hd := kH l1 l2 x; obtain ⟨xa, xn, xw, xc, xs⟩ := x)
    | (apply dw (k := l1.length) (off := 20) (d := aI ⟨xa, xn, xw, xc, xs⟩) (d'' := aI ⟨xa, v, xw, xc, xs⟩); rfl; exact .s (.s .z); exact ⟨by simp, hd⟩; iterate 4 rfl)
    | (apply aB; iterate 3 rfl) | (apply aF; rfl; exact I.a; iterate 4 rfl) | (apply aC (b := false); (iterate 2 rfl); exact aN; iterate 2 rfl)
    | (apply eY; rfl; exact I.a; (focus (first | omega | (simp; done) | (simp; omega))); iterate 2 rfl)
    | (apply bI; rfl; exact I.a; (focus (first | omega | (simp; done) | (simp; omega))); iterate 5 rfl) | (apply aV; rfl; rfl; rfl; intro _) | apply EL.nil
    | (apply EC.f0; rfl)
    | (with_reducible first | apply EK.nc | apply EC.seq | apply EC.r0 | apply EC.k0 | apply EC.label | apply EC.b0 | apply EC.x0 | apply EC.ret | apply EK.n0 | apply EK.s0 | apply EK.aA | apply EK.aj | apply EK.ah))
  have hs := ha.is
  exact EK.eH [rsO g L' k n, .row L' 51 55 (((l1 ++ ⟨xa, xn, xw, xc, xs⟩ :: l2).map aI).set l1.length (aI ⟨xa, v, xw, xc, xs⟩))] rfl (by (repeat first | exact KE _ | apply List.Sublist.cons_cons | apply List.Sublist.cons)) ⟨rfl, by rw [gW]; exact RSt.of ha (by omega) ha.ad (ha.bx.mono (Nat.le_succ _)) ⟨rfl, hs.w, hs.cd, hs.ord, hs.val, hs.all⟩⟩
theorem sN (h : RSt g A N os) (hN : N ≤ 1000000) (v : List UInt8) (hv : v.length ≤ 140737488355328) : FnM 23 [.v (ptr g), .arr 20 a, .bs v] os (fun r os' => r = .tpl [] ∧ RSt g (A.upd a {A a with cd := v}) (N + 1) os') := by
 obtain ⟨L, k, n, l, rfl, hR, hlN⟩ := h
 have h1 := rat (g := g) (L := L) (k := k) (n := n) hR a (by omega)
 refine FnM.walk 13 Tryz.func23 rfl Tryz.ntmps23 (by simp) fun X => ?_
 repeat
  (first
   | (apply nX h1 [_] rfl rfl (au.refl _ _) (by intro _ _; simp [go_sem]) rfl rfl; rintro _ _ ⟨L', l1, x, l2, ha, hll, rfl, rfl⟩; simp only [Kr, Kt]; have hd := kH l1 l2 x; obtain ⟨xa, xn, xw, xc, xs⟩ := x)
   | (apply xR hv; iterate 3 rfl)
   | (apply dw (k := l1.length) (off := 53) (d := aI ⟨xa, xn, xw, xc, xs⟩) (d'' := aI ⟨xa, xn, xw, v, xs⟩); rfl; exact .s (.s .z); exact ⟨by simp, hd⟩; iterate 4 rfl)
   | (apply aB; iterate 3 rfl) | (apply aF; rfl; exact I.a; iterate 4 rfl)
   | (apply eY; rfl; exact I.a; (focus (first | omega | (simp; done) | (simp; omega))); iterate 2 rfl)
   | (apply bI; rfl; exact I.a; (focus (first | omega | (simp; done) | (simp; omega))); iterate 5 rfl) | (apply aV; rfl; rfl; rfl; intro _) | apply EL.nil
   | (with_reducible first | apply EK.nc | apply EC.seq | apply EC.r0 | apply EC.k0 | apply EC.label | apply EC.b0 | apply EC.x0 | apply EC.ret | apply EK.n0 | apply EK.s0 | apply EK.aA | apply EK.aj | apply EK.ah))
 have hs := ha.is
 exact EK.eH [rsO g L' k n, .row L' 51 55 (((l1 ++ ⟨xa, xn, xw, xc, xs⟩ :: l2).map aI).set l1.length (aI ⟨xa, xn, xw, v, xs⟩))] rfl (by (repeat first | exact KE _ | apply List.Sublist.cons_cons | apply List.Sublist.cons)) ⟨rfl, by rw [gW]; exact RSt.of ha (by omega) ha.ad ⟨Ll ha.bx.1 (Nat.le_succ _), hv⟩ ⟨hs.n, hs.w, rfl, hs.ord, hs.val, hs.all⟩⟩
theorem BA (h : RSt g A N os) (hN : N ≤ 1000000) : FnM 20 [.v (ptr g), .arr 20 a] os (fun r os' => r = .tpl [] ∧ RSt g (A.upd a Ac.zero) (N + 1) os') := by
 obtain ⟨L, k, n, l, rfl, hR, hlN⟩ := h
 have h1 := rat (g := g) (L := L) (k := k) (n := n) hR a (by omega)
 refine FnM.walk 10 Tryz.func20 rfl Tryz.ntmps20 (by simp) fun X => ?_
 repeat
  (first
   | (apply aV; rfl; rfl; rfl; intro _) | apply EL.nil
   | (with_reducible first | apply EK.nc | apply EC.seq | apply EC.r0 | apply EC.k0 | apply EC.label | apply EC.b0 | apply EC.x0 | apply EC.ret | apply EK.n0 | apply EK.s0 | apply EK.aA | apply EK.aj | apply EK.ah))
 refine EC.le (Le.pick [1, 2, 0] [_, _, _] rfl (by decide) rfl) ?_
 refine EC.dL 5 [0, 1, 3, 4] [2] [_, _] _ (by kernel_rfl) (by kernel_rfl) rfl ?_
 simp only [aQ, KJ, KN, KD, KF]
 repeat
  (first
   | (apply aJ; iterate 3 rfl) | (apply aG; rfl; exact I.a; iterate 4 rfl) | (apply dR; iterate 7 rfl))
 refine EM.nil ?_
 repeat (first | rw [Kr] | rw [Kt])
 refine CH.dS (rest := []) h1 rfl rfl (au.refl _ _) (by intro _ _; simp [go_sem]) rfl rfl ?_
 rintro _ _ ⟨L', l1, x, l2, ha, hll, rfl, rfl⟩
 try simp only [St.put]
 repeat (first | rw [Kr] | rw [Kt])
 refine CH.nil ?_
 try simp only [Ku, Kw]
 have hd := kH l1 l2 x
 repeat
  (first
   | (apply dw (k := l1.length) (off := 0) (d := aI x) (d'' := .tup [.arr 20 a, .v (.int .i64 0), .arr 32 zero32, .v dF, .v dF]); rfl; exact .s .z; exact ⟨by simp, hd⟩; iterate 4 rfl)
   | (apply eY; rfl; exact I.a; (focus (first | omega | (simp; done) | (simp; omega))); iterate 2 rfl) | apply EL.nil)
 have hR2 : ∀ F : List (Value × D), au F (((l1 ++ x :: l2).map aI).set l1.length (.tup [.arr 20 a, .v (.int .i64 0), .arr 32 zero32, .v dF, .v dF])) ((l1 ++ AcL.none a :: l2).map aI) := fun F => by
  rw [show (((l1 ++ x :: l2).map aI).set l1.length (D.tup [.arr 20 a, .v (.int .i64 0), .arr 32 zero32, .v dF, .v dF])) = l1.map aI ++ ([D.tup [.arr 20 a, .v (.int .i64 0), .arr 32 zero32, .v dF, .v dF]] ++ l2.map aI) by simp, show (l1 ++ AcL.none a :: l2).map aI = l1.map aI ++ ([aI (AcL.none a)] ++ l2.map aI) by simp]
  exact RL.append (au.refl _ _) (RL.append (RL.cons (Rf.tup (RL.cons Rf.same (RL.cons Rf.same (RL.cons Rf.same (RL.cons Rf.bs0 (RL.cons Rf.sl0 RL.nil)))))) RL.nil) (au.refl _ _))
 refine EK.le (Le.pick [1, 0, 2] [_, _, _] rfl (by decide) rfl) ?_
 refine EK.le (Le.Ei (hR2 _)) ?_
 refine EK.le (Le.pick [1, 0, 2] [_, _, _] rfl (by decide) rfl) ?_
 exact EK.eH [rsO g L' k n, raA L' (l1 ++ AcL.none a :: l2)] rfl (by (repeat first | exact KE _ | apply List.Sublist.cons_cons | apply List.Sublist.cons)) ⟨rfl, RSt.of ha (by omega) rfl ⟨Lj _, Lj _⟩ (AcL.wX a)⟩
end E
end Go.Proofs.YtkhjanjlcdhdcaaGreat
