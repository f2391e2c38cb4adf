/-
 Merged: lemmas of this claim.
 Conditions: none.
-/
import Derived.Test.YtelbhdobjdnglaaGreatZT15
import Derived.Test.YtelbhdobjdnglaaGreatZT23
import Derived.Test.YtelbhdobjdnglaaGreatZT14
import Derived.Test.YtelbhdobjdnglaaGreatZT0
namespace Go.Proofs.YtelbhdobjdnglaaGreat
set_option linter.unusedVariables false
set_option maxRecDepth 20000
set_option maxHeartbeats 8000000
open Go.RowKit Mono Rlp
def nK : Value := .agg #[.bool false, .slice none 0 0, .slice none 0 0]
def bY (B m : Nat) (b : List UInt8) : VP := fun v w => match parse m b with
 | .ok (x, n) => ∃ vi, v = .tuple #[vi, .int .i64 (n : Int), .int .i64 0] ∧ jv (fun k => B ≤ k ∧ k < w.heap.size) w vi x
 | .error e => v = .tuple #[nK, .int .i64 0, .int .i64 (e : Int)]
theorem nS {B m : Nat} {b : List UInt8} {x : Raw} {n : Nat} {v vi : Value} {w : World} (h : parse m b = .ok (x, n)) (hv : v = .tuple #[vi, .int .i64 (n : Int), .int .i64 0]) (hi : jv (fun k => B ≤ k ∧ k < w.heap.size) w vi x) : bY B m b v w := by unfold bY; rw [h]; exact ⟨vi, hv, hi⟩
theorem kL {B m : Nat} {b : List UInt8} {e : Nat} {v : Value} {w : World} (h : parse m b = .error e) (hv : v = .tuple #[nK, .int .i64 0, .int .i64 (e : Int)]) : bY B m b v w := by unfold bY; rw [h]; exact hv
theorem aN {fn : Func} {p u s : Tmp} (h : fn.results = #[.cell p 138, .tmp u, .tmp s]) (tmps : Array Value) (w : World) (g : Nat) (cs : Array Value)
  (hp : tmps.getD p undef = .pointer (some ⟨g, 0, none⟩)) (hg : w.heap[g]? = some (.cells cs 138 (0, 0))) (hs : cs.size = 3) :
  (results fn tmps).run Tryz.prog w = .ok (.tuple #[.agg cs, tmps.getD u undef, tmps.getD s undef]) w := by
 have hp' : tmps[p]?.getD undef = .pointer (some ⟨g, 0, none⟩) := by simpa using hp
 have hr := run_loadVar_row w g 138 138 cs (0, 0) _ hg Tryz.underlying138 rfl (dD cs hs)
 simp [results, h, hp', asAddr, hr]
theorem gV {fn : Func} {p u : Tmp} (h : fn.results = #[.cell p 138, .tmp u]) (tmps : Array Value) (w : World) (g : Nat) (cs : Array Value)
  (hp : tmps.getD p undef = .pointer (some ⟨g, 0, none⟩)) (hg : w.heap[g]? = some (.cells cs 138 (0, 0))) (hs : cs.size = 3) :
  (results fn tmps).run Tryz.prog w = .ok (.tuple #[.agg cs, tmps.getD u undef]) w := by
 have hp' : tmps[p]?.getD undef = .pointer (some ⟨g, 0, none⟩) := by simpa using hp
 have hr := run_loadVar_row w g 138 138 cs (0, 0) _ hg Tryz.underlying138 rfl (dD cs hs)
 simp [results, h, hp', asAddr, hr]
theorem OQ (m d : Nat) (v : Value) (w : World) (h : IsB w v []) : Calls Tryz.prog 158 #[v, .int .i64 d] w (Ret (bY w.heap.size m []) w) := by
 obtain ⟨A, cp, rfl, hc1, hc2, hr⟩ := h
 clear hr
 have HP := Lib.hid (show parse m [] = .error 4 by cases m <;> rfl)
 go_enter Tryz.func158, Tryz.ntmps158
 go_wp2_with fail
 exact bodyPost_ret (aN rfl _ _ w.heap.size #[.bool false, .slice none 0 0, .slice none 0 0] rfl (heap_alloc_new w _) rfl) rfl ⟨_, rfl, ay w _, kL HP.out rfl⟩
theorem LQ (m d : Nat) (v : Value) (c : UInt8) (t : List UInt8) (w : World) (h : IsB w v (c :: t)) (h1 : c < 128) : Calls Tryz.prog 158 #[v, .int .i64 d] w (Ret (bY w.heap.size m (c :: t)) w) := by
 obtain ⟨A, cp, rfl, hc1, hc2, hr⟩ := h
 obtain ⟨bl, o, rfl, hbl, hcell⟩ := hr (by simp [bvs])
 have e0 := hcell 0 (bv c) rfl
 rw [Yk] at e0
 unfold bv at e0
 have h3 : c.toNat < 128 := XH.1 h1
 have HP := Lib.hid (show parse m (c :: t) = .ok (.mk false [c] [], 1) by
  obtain ⟨p, hp, _⟩ := kN m
  rw [hp, fG, if_pos h1])
 unfold maxLen at hc2
 simp only [List.length_cons] at hc1 ⊢
 clear hcell hr h1
 go_enter Tryz.func158, Tryz.ntmps158
 go_wp2_with fail
 refine bodyPost_ret (aN rfl _ _ w.heap.size #[.bool false, .slice (some ⟨w.heap.size + 1, 0, none⟩) 1 1, .slice none 0 0] rfl ((cu _ _ _ (by simp)).trans (heap_alloc_new w _)) rfl) rfl ⟨_, rfl, (ay w _).trans (ay _ _), nS HP.out rfl ?_⟩
 refine gQ ⟨_, 1, rfl, Nat.le_refl _, by simp [maxLen], fun _ => ⟨w.heap.size + 1, 0, rfl, ⟨by omega, by simp⟩, fun j u hu => ?_⟩⟩
 rw [XU, cell_of_row _ _ _ _ _ (0, 0) (su _ _ _ (by simp)), ← hu]
 simp [bvs, bv]
theorem qx (w : World) (bl o : Nat) (b : List UInt8) (h n cp : Nat) (hr : Rd w w.heap.size (some ⟨bl, o, none⟩) (bvs b)) (hle : h + n ≤ b.length) (hc : b.length ≤ cp) (hm : cp ≤ maxLen) (hne : cp ≠ h) :
  IsB w (.slice (some ⟨bl, o + h, none⟩) n (cp - h)) ((b.drop h).take n) := by
 refine ⟨_, cp - h, by rw [List.length_take, Xx, Zb (by omega)], by rw [List.length_take, Xx]; omega, by omega, ?_⟩
 obtain ⟨A, c, e, _, _, h3⟩ := qK h hr rfl hc hm (by omega) hne
 injection e with e1 _ _
 subst e1
 rw [GH]
 exact h3.take n
theorem LK (m d : Nat) (v : Value) (c : UInt8) (t : List UInt8) (w : World) (h : IsB w v (c :: t)) (hl : t.length ≤ 16777216) (h1 : ¬ c < 128) (h2 : c < 192) : Calls Tryz.prog 158 #[v, .int .i64 d] w (Ret (bY w.heap.size m (c :: t)) w) := by
 have hlen := fun w0 hg => yK v c t 128 w0 (h.gr hg) (by omega) (by omega) (Y3.1 fun e => h1 (XH.2 e)) (by have := XH.1 h2; have h192 : (192 : UInt8).toNat = 192 := rfl; omega)
 have HL := Lib.hid hlen
 obtain ⟨A, cp, rfl, hc1, hc2, hr⟩ := h
 obtain ⟨bl, o, rfl, hbl, hcell⟩ := hr (by simp [bvs])
 have HR := Lib.hid hr
 have e0 := hcell 0 (bv c) rfl
 rw [Yk] at e0
 unfold bv at e0
 have HC : Hid (∀ j (hj : j < (c :: t).length), w.cell? ⟨bl, o + j, none⟩ = some (.int .u8 ((c :: t)[j].toNat : Int))) := Lib.hid fun j hj => hcell j _ (jH (c :: t) j hj)
 have h3 : 128 ≤ c.toNat := Y3.1 fun e => h1 (XH.2 e)
 have h4 : c.toNat < 192 := XH.1 h2
 have HP : Hid (parse m (c :: t) = match Rlp.hdr (c :: t) 128 with
   | none => .error 4
   | some (h, n) => if n = 1 ∧ (c :: t).getD h 0 < 128 then .error 4 else .ok (.mk false (((c :: t).drop h).take n) [], h + n)) := by
  refine Lib.hid ?_
  obtain ⟨p, hp, _⟩ := kN m
  rw [hp, fG, if_neg h1, if_pos h2]
  cases Rlp.hdr (c :: t) 128 <;> rfl
 have hspec := fun (h n : Nat) (hh : Rlp.hdr (c :: t) 128 = some (h, n)) => uQ hh (by simp) (by simpa using h3) (by omega) (by simp; omega)
 have HS := Lib.hid hspec
 have hcm := Lib.hid hc2
 unfold maxLen at hc2
 simp only [List.length_cons] at hc1 HL ⊢
 clear hcell hr h1 h2 hlen hspec
 go_enter Tryz.func158, Tryz.ntmps158
 go_wp2_with fail
 refine (HL.out _ (ay w _)).mono ?_
 rintro e _ ⟨rfl, v1, rfl, hv1⟩
 unfold Jl at hv1
 clear HL
 cases hh : Rlp.hdr (c :: t) 128 with
 | none =>
  rw [hh] at hv1 HP
  obtain ⟨x, y, rfl⟩ := hv1
  clear hh HS
  go_wp2_with fail
  exact bodyPost_ret (aN rfl _ _ w.heap.size #[.bool false, .slice none 0 0, .slice none 0 0] rfl (heap_alloc_new w _) rfl) rfl ⟨_, rfl, ay w _, kL HP.out rfl⟩
 | some hn =>
  obtain ⟨h, n⟩ := hn
  rw [hh] at hv1 HP
  dsimp only at hv1
  subst hv1
  obtain ⟨_, s1, s2, s3⟩ := HS.out h n hh
  simp only [List.length_cons] at s1 s3
  clear hh HS
  by_cases hn1 : n = 1
  ·
   subst hn1
   have hx := HC.out h (by simp; omega)
   have hxl := jP ((c :: t)[h]'(by simp; omega))
   have hgd : (c :: t).getD h 0 = (c :: t)[h]'(by simp; omega) := by rw [List.getD_eq_getElem?_getD, List.getElem?_eq_getElem (by simp; omega)]; rfl
   have hch : cp ≠ h := by omega
   by_cases hb128 : (c :: t)[h]'(by simp; omega) < 128
   ·
    have HP2 := Lib.hid (show parse m (c :: t) = .error 4 by rw [HP.out]; dsimp only; rw [if_pos ⟨rfl, by rw [hgd]; exact hb128⟩])
    have h5 := XH.1 hb128
    have h128 : (128 : UInt8).toNat = 128 := rfl
    rw [h128] at h5
    clear HP hgd hb128 h128
    generalize ((c :: t)[h]'(by simp; omega)).toNat = x at hx hxl h5
    go_wp2_with fail
    exact bodyPost_ret (aN rfl _ _ w.heap.size #[.bool false, .slice none 0 0, .slice none 0 0] rfl (heap_alloc_new w _) rfl) rfl ⟨_, rfl, ay w _, kL HP2.out rfl⟩
   ·
    have HP2 := Lib.hid (show parse m (c :: t) = .ok (.mk false (((c :: t).drop h).take 1) [], h + 1) by rw [HP.out]; dsimp only; rw [if_neg (fun e => hb128 (by rw [← hgd]; exact e.2))])
    have h5 : 128 ≤ ((c :: t)[h]'(by simp; omega)).toNat := Y3.1 fun e => hb128 (XH.2 e)
    clear HP hgd hb128
    generalize ((c :: t)[h]'(by simp; omega)).toNat = x at hx hxl h5
    have hcut := qx w bl o (c :: t) h 1 cp HR.out s1 hc1 hcm.out hch
    have HCUT := Lib.hid (hcut.gr (ay w (.cells #[.bool false, .slice none 0 0, .slice none 0 0] 138)))
    clear hcut
    have hLn : (((c :: t).drop h).take 1).length ≤ 16777217 := by rw [List.length_take, Xx]; simp only [List.length_cons]; omega
    generalize ((c :: t).drop h).take 1 = L at HCUT HP2 hLn
    go_wp2_with fail
    refine (qQ _ _ _ HCUT.out (by omega)).mono ?_
    rintro e w1 ⟨v1, rfl, hg1, ho1⟩
    obtain ⟨A1, c1, rfl, f1, f2⟩ := cZ ho1
    have HG1 := Lib.hid ((ay w _).trans hg1)
    have HO1 := Lib.hid ho1
    have hz := (hg1.block w.heap.size (by simp)).trans (heap_alloc_new w _)
    clear hg1 ho1
    go_wp2_with (refine wpList_store_row rfl 138 (.tmp 4) (.tmp 65) rfl w.heap.size #[.bool false, .slice A1 L.length c1, .slice none 0 0] rfl rfl 138 _ hz (dD _ rfl) rfl (by simp [Value.oneCell']) ?_)
    refine bodyPost_ret (aN rfl _ _ w.heap.size _ rfl (aU _ _ _ _ _ hz) rfl) rfl ⟨_, rfl, dQ HG1.out _ _ (Nat.le_refl _), nS HP2.out rfl ?_⟩
    refine gQ ((nI HO1.out).mono (fun b hb => ⟨?_, ?_⟩) (fun p hp => dV ?_))
    ·
     have := hb.1
     simp at this
     omega
    ·
     have := hb.2
     simpa using this
    ·
     have := hp.1
     simp at this
     omega
  ·
   have hn2 : ((n : Int) == 1) = false := by simp; omega
   have HP2 := Lib.hid (show parse m (c :: t) = .ok (.mk false (((c :: t).drop h).take n) [], h + n) by rw [HP.out]; dsimp only; rw [if_neg (fun e => hn1 e.1)])
   clear HP hn1
   by_cases hch : cp = h
   ·
    have hn0 : n = 0 := by omega
    subst hn0
    subst hch
    have HCUT : Hid (IsB (w.alloc (.cells #[.bool false, .slice none 0 0, .slice none 0 0] 138)) (.slice (some ⟨bl, o, none⟩) 0 0) (((c :: t).drop cp).take 0)) := by
     rw [Xu]
     exact Lib.hid ⟨_, 0, rfl, Nat.le_refl _, by simp [maxLen], Rd.nil⟩
    have hLn : (((c :: t).drop cp).take 0).length ≤ 16777217 := by rw [List.length_take, Xx]; simp only [List.length_cons]; omega
    generalize ((c :: t).drop cp).take 0 = L at HCUT HP2 hLn
    go_wp2_with fail
    refine (qQ _ _ _ HCUT.out (by omega)).mono ?_
    rintro e w1 ⟨v1, rfl, hg1, ho1⟩
    obtain ⟨A1, c1, rfl, f1, f2⟩ := cZ ho1
    have HG1 := Lib.hid ((ay w _).trans hg1)
    have HO1 := Lib.hid ho1
    have hz := (hg1.block w.heap.size (by simp)).trans (heap_alloc_new w _)
    clear hg1 ho1
    go_wp2_with (refine wpList_store_row rfl 138 (.tmp 4) (.tmp 65) rfl w.heap.size #[.bool false, .slice A1 L.length c1, .slice none 0 0] rfl rfl 138 _ hz (dD _ rfl) rfl (by simp [Value.oneCell']) ?_)
    refine bodyPost_ret (aN rfl _ _ w.heap.size _ rfl (aU _ _ _ _ _ hz) rfl) rfl ⟨_, rfl, dQ HG1.out _ _ (Nat.le_refl _), nS HP2.out rfl ?_⟩
    refine gQ ((nI HO1.out).mono (fun b hb => ⟨?_, ?_⟩) (fun p hp => dV ?_))
    ·
     have := hb.1
     simp at this
     omega
    ·
     have := hb.2
     simpa using this
    ·
     have := hp.1
     simp at this
     omega
   ·
    have hcut := qx w bl o (c :: t) h n cp HR.out s1 hc1 hcm.out hch
    have HCUT := Lib.hid (hcut.gr (ay w (.cells #[.bool false, .slice none 0 0, .slice none 0 0] 138)))
    clear hcut
    have hLn : (((c :: t).drop h).take n).length ≤ 16777217 := by rw [List.length_take, Xx]; simp only [List.length_cons]; omega
    generalize ((c :: t).drop h).take n = L at HCUT HP2 hLn
    go_wp2_with fail
    refine (qQ _ _ _ HCUT.out (by omega)).mono ?_
    rintro e w1 ⟨v1, rfl, hg1, ho1⟩
    obtain ⟨A1, c1, rfl, f1, f2⟩ := cZ ho1
    have HG1 := Lib.hid ((ay w _).trans hg1)
    have HO1 := Lib.hid ho1
    have hz := (hg1.block w.heap.size (by simp)).trans (heap_alloc_new w _)
    clear hg1 ho1
    go_wp2_with (refine wpList_store_row rfl 138 (.tmp 4) (.tmp 65) rfl w.heap.size #[.bool false, .slice A1 L.length c1, .slice none 0 0] rfl rfl 138 _ hz (dD _ rfl) rfl (by simp [Value.oneCell']) ?_)
    refine bodyPost_ret (aN rfl _ _ w.heap.size _ rfl (aU _ _ _ _ _ hz) rfl) rfl ⟨_, rfl, dQ HG1.out _ _ (Nat.le_refl _), nS HP2.out rfl ?_⟩
    refine gQ ((nI HO1.out).mono (fun b hb => ⟨?_, ?_⟩) (fun p hp => dV ?_))
    ·
     have := hb.1
     simp at this
     omega
    ·
     have := hb.2
     simpa using this
    ·
     have := hp.1
     simp at this
     omega
def okL (B gOut : Nat) (v : Value) (sz : Nat) : Nat → Prop := fun b => B ≤ b ∧ b < sz ∧ b ≠ gOut ∧ v.ownBlock ≠ some b
theorem kP : ∀ (m : Nat) (b : List UInt8) (e : Nat), parse m b = .error e → e = 3 ∨ e = 4 := by
 have hL : ∀ (p : List UInt8 → Except Nat (Raw × Nat)), (∀ b e, p b = .error e → e = 3 ∨ e = 4) → ∀ (f : Nat) (b : List UInt8) (e : Nat), bF p f b = .error e → e = 3 ∨ e = 4 := by
  intro p hp f
  induction f with
  | zero =>
   intro b e h
   cases b with
   | nil => unfold bF at h; cases h
   | cons c b => unfold bF at h; cases h; exact .inr rfl
  | succ f ih =>
   intro b e h
   cases b with
   | nil => unfold bF at h; cases h
   | cons c b =>
    unfold bF at h
    split at h
    ·
     rename_i e' he
     cases h
     exact hp _ _ he
    ·
     split at h
     ·
      rename_i e' he
      cases h
      exact ih _ _ he
     · cases h
 have hS : ∀ (p : Option (List UInt8 → Except Nat (Raw × Nat))), (∀ q, p = some q → ∀ b e, q b = .error e → e = 3 ∨ e = 4) → ∀ (b : List UInt8) (e : Nat), pY p b = .error e → e = 3 ∨ e = 4 := by
  intro p hp b e h
  cases b with
  | nil => cases h; exact .inr rfl
  | cons c t =>
   rw [fG] at h
   split at h
   · cases h
   ·
    split at h
    ·
     split at h
     · cases h; exact .inr rfl
     ·
      split at h
      · cases h; exact .inr rfl
      · cases h
    ·
     cases p with
     | none => cases h; exact .inl rfl
     | some p =>
      dsimp only at h
      split at h
      · cases h; exact .inr rfl
      ·
       split at h
       ·
        rename_i e' he
        cases h
        exact hL p (hp p rfl) _ _ _ he
       · cases h
 intro m
 induction m with
 | zero => exact hS none (fun q e => by cases e)
 | succ m ih => exact hS (some (parse m)) (fun q e => by cases e; exact ih)
theorem jW {B0 : Nat} {w0 wr w1 w5 : World} {done : List Raw} {x : Raw} {A' A5 : Option Addr} {c' c5 : Nat} {rows : List (List Value)} {r : List Value} {a b : Obj} (hsz : B0 + 2 ≤ wr.heap.size) (hg1 : Gr wr w1)
  (hown : wr.ownsRow (B0 + 2) 138 3 (.slice A' done.length c') done.length rows.flatten) (hit : bf (okL (B0 + 2) (B0 + 1) (.slice A' done.length c') wr.heap.size) wr done rows)
  (hix : eU (fun k => wr.heap.size ≤ k ∧ k < w1.heap.size) w1 x r) (hg5 : ((w1.alloc a).alloc b).grownBy w5 (Value.slice A' done.length c').ownBlock)
  (hown5 : w5.ownsRow (B0 + 2) 138 3 (.slice A5 (done.length + 1) c5) (done.length + 1) (rows.flatten ++ r))
  (hbk5 : (Value.slice A5 (done.length + 1) c5).ownBlock = (Value.slice A' done.length c').ownBlock ∨ (Value.slice A5 (done.length + 1) c5).ownBlock = some ((w1.alloc a).alloc b).heap.size)
  (ho5 : w5.heap[B0 + 1]? = some (.cells #[.bool true, .slice none 0 0, .slice A' done.length c'] 138 (0, 0))) (hb : Below (B0 + 1) w0 wr) :
  (w5.setCell ⟨B0 + 1, 2, none⟩ (.slice A5 (done.length + 1) c5)).heap[B0 + 1]? = some (.cells #[.bool true, .slice none 0 0, .slice A5 (done ++ [x]).length c5] 138 (0, 0)) ∧
  (w5.setCell ⟨B0 + 1, 2, none⟩ (.slice A5 (done.length + 1) c5)).ownsRow (B0 + 2) 138 3 (.slice A5 (done ++ [x]).length c5) (done ++ [x]).length (rows ++ [r]).flatten ∧
  bf (okL (B0 + 2) (B0 + 1) (.slice A5 (done ++ [x]).length c5) (w5.setCell ⟨B0 + 1, 2, none⟩ (.slice A5 (done.length + 1) c5)).heap.size) (w5.setCell ⟨B0 + 1, 2, none⟩ (.slice A5 (done.length + 1) c5)) (done ++ [x]) (rows ++ [r]) ∧
  B0 + 2 ≤ (w5.setCell ⟨B0 + 1, 2, none⟩ (.slice A5 (done.length + 1) c5)).heap.size ∧
  Below (B0 + 1) w0 (w5.setCell ⟨B0 + 1, 2, none⟩ (.slice A5 (done.length + 1) c5)) := by
 have hln : (done ++ [x]).length = done.length + 1 := by simp
 have hs1 := hg1.size
 have hs5 := hg5.size
 rw [dF, dF] at hs5
 rw [dF, dF] at hbk5
 have hnb : (Value.slice A5 (done.length + 1) c5).ownBlock ≠ some (B0 + 1) := fun e => by
  have := bI hown5 _ e
  omega
 have hcell : ∀ p : Addr, p.block < w1.heap.size → p.block ≠ B0 + 1 → (Value.slice A' done.length c').ownBlock ≠ some p.block → (w5.setCell ⟨B0 + 1, 2, none⟩ (.slice A5 (done.length + 1) c5)).cell? p = w1.cell? p := fun p h1 h2 h3 => by
  rw [World.cell?_setCell_other w5 ⟨B0 + 1, 2, none⟩ p _ (fun e => h2 (by rw [← e]))]
  rw [World.cell?_of_block (hg5.block p.block (by rw [dF, dF]; omega) (fun e => h3 e.symm))]
  rw [ZB _ _ _ (by rw [dF]; omega), ZB _ _ _ h1]
 have hsz5 : (w5.setCell ⟨B0 + 1, 2, none⟩ (.slice A5 (done.length + 1) c5)).heap.size = w5.heap.size := by simp
 rw [hln, hsz5]
 refine ⟨?_, ?_, ?_, by omega, ?_⟩
 · exact heap_setCell_same w5 (B0 + 1) 2 _ _ _ ho5
 ·
  rw [Yz]
  simp only [X8, List.flatten_nil, X9]
  exact Ry hown5 hnb _
 ·
  refine bf.append done [x] rows [r] (bf.mono (fun k hk => ?_) (fun p hp => ?_) _ _ hit) ?_
  ·
   obtain ⟨h1, h2, h3, h4⟩ := hk
   refine ⟨h1, by omega, h3, fun e => ?_⟩
   rcases hbk5 with h5 | h5
   · exact h4 (h5 ▸ e)
   ·
    rw [h5] at e
    injection e with e
    omega
  ·
   obtain ⟨h1, h2, h3, h4⟩ := hp
   rw [hcell p (by omega) h3 h4]
   exact hg1.cell h2
  ·
   rw [bf]
   refine ⟨r, [], rfl, eU.mono (fun k hk => ?_) (fun p hp => ?_) _ _ hix, by rw [bf]⟩
   ·
    obtain ⟨h1, h2⟩ := hk
    refine ⟨by omega, by omega, by omega, fun e => ?_⟩
    rcases hbk5 with h5 | h5
    ·
     rw [h5] at e
     have := (hown.lt k e).2
     omega
    ·
     rw [h5] at e
     injection e with e
     omega
   ·
    obtain ⟨h1, h2⟩ := hp
    refine hcell p h2 (by omega) fun e => ?_
    have := (hown.lt _ e).2
    omega
 ·
  refine Below.setCell ?_ (by dsimp only; omega) _
  refine (((hb.trans (hg1.mono (by omega))).alloc (by have := hb.size; omega) a).alloc (by rw [dF]; have := hb.size; omega) b).grown hg5 (by rw [dF, dF]; omega) fun j hj => ?_
  have := bI hown j hj
  omega
theorem LM (m d : Nat) (hd : d + (m + 1) = 32) (ih : ∀ (b : List UInt8) (v : Value) (w : World), IsB w v b → b.length ≤ 16777216 → Calls Tryz.prog 158 #[v, .int .i64 ((d : Int) + 1)] w (Ret (bY w.heap.size m b) w))
  (v : Value) (c : UInt8) (t : List UInt8) (w : World) (h : IsB w v (c :: t)) (hl : t.length ≤ 16777215) (h1 : ¬ c < 128) (h2 : ¬ c < 192) : Calls Tryz.prog 158 #[v, .int .i64 d] w (Ret (bY w.heap.size (m + 1) (c :: t)) w) := by
 have IH := Lib.hid ih
 have h3 : 192 ≤ c.toNat := Y3.1 fun e => h2 (XH.2 e)
 have hcl := jP c
 have hlen := fun w0 hg => yK v c t 192 w0 (h.gr hg) (by omega) (by omega) h3 (by omega)
 have HL := Lib.hid hlen
 obtain ⟨A, cp, rfl, hc1, hc2, hr⟩ := h
 obtain ⟨bl, o, rfl, hbl, hcell⟩ := hr (by simp [bvs])
 have HR := Lib.hid hr
 have e0 := hcell 0 (bv c) rfl
 rw [Yk] at e0
 unfold bv at e0
 have HP : Hid (parse (m + 1) (c :: t) = match Rlp.hdr (c :: t) 192 with
   | none => .error 4
   | some (h, n) => match bF (parse m) n (((c :: t).drop h).take n) with
    | .error e => .error e
    | .ok xs => .ok (.mk true [] xs, h + n)) := by
  refine Lib.hid ?_
  rw [show parse (m + 1) = pY (some (parse m)) from rfl, fG, if_neg h1, if_neg h2]
  cases Rlp.hdr (c :: t) 192 <;> rfl
 have hspec := fun (h n : Nat) (hh : Rlp.hdr (c :: t) 192 = some (h, n)) => uQ hh (by simp) (by simpa using h3) (by omega) (by simp; omega)
 have HS := Lib.hid hspec
 have hcm := Lib.hid hc2
 have hdd : ((d : Int) == 32) = false := by simp; omega
 have k1 : decide ((c.toNat : Int) < 128) = false := by simp; omega
 have k2 : decide ((c.toNat : Int) < 192) = false := by simp; omega
 unfold maxLen at hc2
 simp only [List.length_cons] at hc1 HL ⊢
 clear hcell hr h1 h2 hlen hspec ih
 go_enter Tryz.func158, Tryz.ntmps158
 go_wp2_with fail
 refine (HL.out _ (ay w _)).mono ?_
 rintro e _ ⟨rfl, v1, rfl, hv1⟩
 unfold Jl at hv1
 clear HL
 cases hh : Rlp.hdr (c :: t) 192 with
 | none =>
  rw [hh] at hv1 HP
  obtain ⟨x, y, rfl⟩ := hv1
  clear hh HS
  go_wp2_with fail
  exact bodyPost_ret (aN rfl _ _ w.heap.size #[.bool false, .slice none 0 0, .slice none 0 0] rfl (heap_alloc_new w _) rfl) rfl ⟨_, rfl, ay w _, kL HP.out rfl⟩
 | some hn =>
  obtain ⟨h, n⟩ := hn
  rw [hh] at hv1 HP
  dsimp only at hv1
  subst hv1
  obtain ⟨_, s1, s2, s3⟩ := HS.out h n hh
  simp only [List.length_cons] at s1 s3
  clear hh HS
  obtain ⟨L, hL⟩ : ∃ L : List UInt8, L = ((c :: t).drop h).take n := ⟨_, rfl⟩
  have hLn : L.length = n := by rw [hL, List.length_take, Xx]; simp only [List.length_cons]; omega
  have HP2 := Lib.hid (show parse (m + 1) (c :: t) = match bF (parse m) n L with | .error e => .error e | .ok xs => .ok (.mk true [] xs, h + n) by rw [HP.out, hL])
  clear HP
  have HLN := Lib.hid hLn
  have HLL := Lib.hid hL
  clear hL hLn
  have hLc : L.length ≤ 16777216 := by have := HLN.out; omega
  have hcase : (∃ hch : cp = h, Hid (IsB w (.slice (some ⟨bl, o, none⟩) n 0) L)) ∨ (∃ hch : cp ≠ h, Hid (IsB w (.slice (some ⟨bl, o + h, none⟩) n (cp - h)) L)) := by
   by_cases hch : cp = h
   ·
    refine .inl ⟨hch, Lib.hid ?_⟩
    have hn0 : n = 0 := by omega
    have h5 : L = [] := X5 (by rw [HLN.out, hn0])
    rw [h5, hn0]
    exact ⟨_, 0, rfl, Nat.le_refl _, by simp [maxLen], Rd.nil⟩
   ·
    refine .inr ⟨hch, Lib.hid ?_⟩
    rw [HLL.out]
    exact qx w bl o (c :: t) h n cp HR.out s1 hc1 hcm.out hch
  rcases hcase with ⟨hch, HCUT⟩ | ⟨hch, HCUT⟩
  ·
   go_wp2_with fail
   simp only [Yp]
   generalize Value.slice (some ⟨bl, o, none⟩) n 0 = v14 at HCUT ⊢
   clear hch
   go_loopw [14] (fun rv wr => ∃ (done : List Raw) (rest : List UInt8) (f : Nat) (A' : Option Addr) (c' : Nat) (rows : List (List Value)), IsB w rv rest ∧ rest.length ≤ f ∧ rest.length ≤ 16777216 ∧ done.length + rest.length ≤ 16777216 ∧
    bF (parse m) n L = (match bF (parse m) f rest with | .error e => .error e | .ok ys => .ok (done ++ ys)) ∧
    wr.heap[w.heap.size + 1]? = some (.cells #[.bool true, .slice none 0 0, .slice A' done.length c'] 138 (0, 0)) ∧
    wr.ownsRow (w.heap.size + 2) 138 3 (.slice A' done.length c') done.length rows.flatten ∧
    bf (okL (w.heap.size + 2) (w.heap.size + 1) (.slice A' done.length c') wr.heap.size) wr done rows ∧
    w.heap.size + 2 ≤ wr.heap.size ∧ Below (w.heap.size + 1) (w.alloc (.cells #[.bool false, .slice none 0 0, .slice none 0 0] 138)) wr)
    (fun rv _ => match rv with | .slice _ k _ => k | _ => 0)
   case atStart =>
    refine ⟨[], L, n, none, 0, [], HCUT.out, by rw [HLN.out]; exact Nat.le_refl _, hLc, by simpa using hLc, ?_, su _ _ _ (by simp), World.ownsRow_nil _ _ _ _, by rw [bf], by simp, (Below.refl _ _).alloc (by simp) _⟩
    cases bF (parse m) n L <;> rfl
   case round =>
    clear HCUT
    obtain ⟨done, rest, f, A', c', rows, hrb, hrf, hrl, hdl, hpl, hout, hown, hit, hsz, hb⟩ := hrel
    have hrb2 := hrb
    obtain ⟨Ar, cr, rfl, hr1, hr2, hrr⟩ := hrb
    have HRB := Lib.hid hrb2
    have HPL := Lib.hid hpl
    have HOUT := Lib.hid hout
    have HOWN := Lib.hid hown
    have HIT := Lib.hid hit
    have HB := Lib.hid hb
    have HRR := Lib.hid hrr
    have hr2' := Lib.hid hr2
    unfold maxLen at hr2
    have hGw := Lib.hid ((ay w _).trans (hb.mono (by simp) : Gr _ _))
    clear hrb2 hpl hout hown hit hb hrr
    cases rest with
    | nil =>
     have hz : wr.heap[w.heap.size]? = some (.cells #[.bool false, .slice none 0 0, .slice none 0 0] 138 (0, 0)) := (HB.out.block w.heap.size (by omega)).trans (heap_alloc_new w _)
     have hload := HOUT.out
     have HDONE := Lib.hid (show parse (m + 1) (c :: t) = .ok (.mk true [] done, h + n) by
      have e1 : bF (parse m) f [] = .ok [] := by unfold bF; rfl
      have e2 := HPL.out
      rw [e1] at e2
      dsimp only at e2
      rw [X9] at e2
      rw [HP2.out, e2])
     simp only [List.length_nil] at hr1 ⊢
     go_wp2_with first
      | refine wpList_load_row rfl 138 (.tmp 13) rfl (w.heap.size + 1) rfl 138 _ (0, 0) _ hload Tryz.underlying138 rfl (dD _ rfl) ?_
      | refine wpList_store_row rfl 138 (.tmp 4) (.tmp 113) rfl w.heap.size #[.bool true, .slice none 0 0, .slice A' done.length c'] rfl rfl 138 _ hz (dD _ rfl) rfl (by simp [Value.oneCell']) ?_
     refine bodyPost_ret (aN rfl _ _ w.heap.size _ rfl (aU _ _ _ _ _ hz) rfl) rfl ⟨_, rfl, dQ hGw.out _ _ (Nat.le_refl _), nS HDONE.out rfl ?_⟩
     refine ⟨[.bool true, .slice none 0 0, .slice A' done.length c'], rfl, ?_⟩
     obtain ⟨_, _, he, hcc1, hcc2⟩ := cZ HOWN.out
     injection he with _ _ he2
     subst he2
     rw [eU]
     refine ⟨_, A', c', rows, rfl, ⟨none, 0, rfl, Nat.le_refl _, by simp [maxLen], fun hn => absurd rfl hn⟩, hcc1, hcc2, fun e => ?_, (rV HOWN.out).mono (fun b hb => ?_) (fun p hp => dV ?_), bf.mono (fun b hb => ?_) (fun p hp => dV ?_) _ _ HIT.out⟩
     ·
      subst e
      exact oh HOWN.out
     ·
      have h1 := hb.1
      have h2 := hb.2
      rw [size_setRow]
      omega
     ·
      have := hp.1
      omega
     ·
      have h1 := hb.1
      have h2 := hb.2.1
      rw [size_setRow]
      omega
     ·
      have := hp.1
      omega
    | cons c1 t1 =>
     simp only [List.length_cons] at hrf hrl hdl hr1 ⊢
     go_wp2_with fail
     refine (IH.out (c1 :: t1) _ _ (HRB.out.gr hGw.out) hrl).mono ?_
     rintro e w1 ⟨v1, rfl, hg1, hv1⟩
     unfold bY nK at hv1
     obtain ⟨f, rfl⟩ : ∃ f', f = f' + 1 := ⟨f - 1, by omega⟩
     have hz1 : w1.heap[w.heap.size]? = some (.cells #[.bool false, .slice none 0 0, .slice none 0 0] 138 (0, 0)) := (hg1.block _ (by omega)).trans ((HB.out.block w.heap.size (by omega)).trans (heap_alloc_new w _))
     have ho1 : w1.heap[w.heap.size + 1]? = some (.cells #[.bool true, .slice none 0 0, .slice A' done.length c'] 138 (0, 0)) := (hg1.block _ (by omega)).trans HOUT.out
     have HG1 := Lib.hid (hGw.out.trans hg1)
     have hsz1 := hg1.size
     have hPL1 : bF (parse m) (f + 1) (c1 :: t1) = match parse m (c1 :: t1) with
       | .error e => .error e
       | .ok (x, k) => match bF (parse m) f ((c1 :: t1).drop k) with
        | .error e => .error e
        | .ok xs => .ok (x :: xs) := by
      conv => lhs; unfold bF
      cases parse m (c1 :: t1) <;> rfl
     have HPL1 := Lib.hid hPL1
     have Hg1 := Lib.hid hg1
     clear hPL1 hg1
     cases hp1 : parse m (c1 :: t1) with
     | error e =>
      rw [hp1] at hv1 HPL1
      dsimp only at hv1
      subst hv1
      have he := kP _ _ _ hp1
      have hne : ((e : Int) != 0) = true := by simp; omega
      have HF := Lib.hid (show parse (m + 1) (c :: t) = .error e by
       have e1 := HPL1.out
       dsimp only at e1
       rw [HP2.out, HPL.out, e1])
      clear hp1 HPL1 HPL HP2
      go_wp2_with refine wpList_store_row rfl 138 (.tmp 4) (.tmp 102) rfl w.heap.size #[.bool false, .slice none 0 0, .slice none 0 0] rfl rfl 138 _ ((cu w1 _ _ (by omega)).trans hz1) (dD _ rfl) rfl (by simp [Value.oneCell']) ?_
      refine bodyPost_ret (aN rfl _ _ w.heap.size _ rfl (aU _ _ _ _ _ ((cu w1 _ _ (by omega)).trans hz1)) rfl) rfl ⟨_, rfl, dQ (HG1.out.trans (ay _ _)) _ _ (Nat.le_refl _), kL HF.out rfl⟩
     | ok p =>
      obtain ⟨x, k⟩ := p
      rw [hp1] at hv1 HPL1
      obtain ⟨vi, rfl, csx, rfl, hix⟩ := hv1
      obtain ⟨fx, Ax, nx, cx, Ay, ny, cy, rfl⟩ := hix.len
      obtain ⟨_, hk1, hk2⟩ := mW _ _ _ _ hp1
      simp only [List.length_cons] at hk1
      have HIX := Lib.hid hix
      clear hp1 hix
      obtain ⟨br, orr, rfl, hbr, _⟩ := HRR.out (by simp [bvs])
      have hq1 : (w1.alloc (.cells #[.bool fx, .slice Ax nx cx, .slice Ay ny cy] 138)).cell? ⟨w.heap.size + 1, 2, none⟩ = some (.slice A' done.length c') := by rw [cell_of_row _ _ _ _ _ (0, 0) ((cu w1 _ _ (by omega)).trans ho1)]; rfl
      have HOW := Lib.hid (((nH HOWN.out Hg1.out).alloc (.cells #[.bool fx, .slice Ax nx cx, .slice Ay ny cy] 138)).alloc (.cells #[.bool fx, .slice Ax nx cx, .slice Ay ny cy] 138))
      have HRD : Hid (Rd ((w1.alloc (.cells #[.bool fx, .slice Ax nx cx, .slice Ay ny cy] 138)).alloc (.cells #[.bool fx, .slice Ax nx cx, .slice Ay ny cy] 138)) (w1.heap.size + 2) (some ⟨w1.heap.size + 1, 0, none⟩) [.bool fx, .slice Ax nx cx, .slice Ay ny cy]) := by
       have := Rd.new (w1.alloc (.cells #[.bool fx, .slice Ax nx cx, .slice Ay ny cy] 138)) #[.bool fx, .slice Ax nx cx, .slice Ay ny cy] 138
       rw [dF] at this
       exact Lib.hid this
      have HO2 := Lib.hid ((cu (w1.alloc (.cells #[.bool fx, .slice Ax nx cx, .slice Ay ny cy] 138)) (.cells #[.bool fx, .slice Ax nx cx, .slice Ay ny cy] 138) (w.heap.size + 1) (by rw [dF]; omega)).trans ((cu w1 _ _ (by omega)).trans ho1))
      by_cases hck : cr = k
      ·
       have HCUT1 : Hid (IsB w (.slice (some ⟨br, orr, none⟩) (t1.length + 1 - k) 0) ((c1 :: t1).drop k)) := by
        have h6 : t1.length + 1 - k = 0 := by omega
        have h7 : (c1 :: t1).drop k = [] := XP (by rw [List.length_cons]; omega)
        rw [h6, h7]
        exact Lib.hid ⟨_, 0, rfl, by simp, by simp [maxLen], Rd.nil⟩
       go_wp2_with (at_builtin; refine aV (.tmp 105) (.tmp 107) 136 jV (base := w.heap.size + 2) _ done.length rows.flatten _ 1 1 (w1.heap.size + 2) [.bool fx, .slice Ax nx cx, .slice Ay ny cy] rfl rfl rfl rfl HOW.out HRD.out rfl (by simp [Value.oneCell']) (by simp only [maxLen]; omega) (by omega) (by simp; omega) ?_; intro A5 c5 w5 hown5 hg5 hbk5; have ho5 : w5.heap[w.heap.size + 1]? = some (.cells #[.bool true, .slice none 0 0, .slice A' done.length c'] 138 (0, 0)) := (hg5.block _ (by simp; omega) (fun e => by have := bI HOWN.out _ e.symm; omega)).trans HO2.out; have e5 : w5.cell? ⟨w.heap.size + 1, 2, none⟩ = some (.slice A' done.length c') := (by rw [cell_of_row w5 _ _ _ _ (0, 0) ho5]; rfl); have f5 := frozen_of_row w5 (w.heap.size + 1) 2 _ _ ho5; have HOWN5 := Lib.hid hown5; have HG5 := Lib.hid hg5; have HBK5 := Lib.hid hbk5; have HO5 := Lib.hid ho5; clear hown5 hg5 hbk5 ho5)
       go_roundw
       case rel =>
        obtain ⟨r1, r2, r3, r4, r5⟩ := jW (x := x) hsz Hg1.out HOWN.out HIT.out HIX.out HG5.out HOWN5.out HBK5.out HO5.out HB.out
        refine ⟨done ++ [x], (c1 :: t1).drop k, f, A5, c5, rows ++ [[.bool fx, .slice Ax nx cx, .slice Ay ny cy]], HCUT1.out, by rw [Xx, List.length_cons]; omega, by rw [Xx, List.length_cons]; omega, by rw [Xx, List.length_cons, List.length_append, Ym]; omega, ?_, r1, r2, r3, r4, r5⟩
        rw [HPL.out, HPL1.out]
        cases bF (parse m) f ((c1 :: t1).drop k) with
        | error e => rfl
        | ok ys => simp
       case measure => simp; omega
      ·
       have HCUT1 : Hid (IsB w (.slice (some ⟨br, orr + k, none⟩) (t1.length + 1 - k) (cr - k)) ((c1 :: t1).drop k)) := Lib.hid (qK k HRR.out (by rw [List.length_cons]) hr1 hr2'.out hk1 hck)
       go_wp2_with (at_builtin; refine aV (.tmp 105) (.tmp 107) 136 jV (base := w.heap.size + 2) _ done.length rows.flatten _ 1 1 (w1.heap.size + 2) [.bool fx, .slice Ax nx cx, .slice Ay ny cy] rfl rfl rfl rfl HOW.out HRD.out rfl (by simp [Value.oneCell']) (by simp only [maxLen]; omega) (by omega) (by simp; omega) ?_; intro A5 c5 w5 hown5 hg5 hbk5; have ho5 : w5.heap[w.heap.size + 1]? = some (.cells #[.bool true, .slice none 0 0, .slice A' done.length c'] 138 (0, 0)) := (hg5.block _ (by simp; omega) (fun e => by have := bI HOWN.out _ e.symm; omega)).trans HO2.out; have e5 : w5.cell? ⟨w.heap.size + 1, 2, none⟩ = some (.slice A' done.length c') := (by rw [cell_of_row w5 _ _ _ _ (0, 0) ho5]; rfl); have f5 := frozen_of_row w5 (w.heap.size + 1) 2 _ _ ho5; have HOWN5 := Lib.hid hown5; have HG5 := Lib.hid hg5; have HBK5 := Lib.hid hbk5; have HO5 := Lib.hid ho5; clear hown5 hg5 hbk5 ho5)
       go_roundw
       case rel =>
        obtain ⟨r1, r2, r3, r4, r5⟩ := jW (x := x) hsz Hg1.out HOWN.out HIT.out HIX.out HG5.out HOWN5.out HBK5.out HO5.out HB.out
        refine ⟨done ++ [x], (c1 :: t1).drop k, f, A5, c5, rows ++ [[.bool fx, .slice Ax nx cx, .slice Ay ny cy]], HCUT1.out, by rw [Xx, List.length_cons]; omega, by rw [Xx, List.length_cons]; omega, by rw [Xx, List.length_cons, List.length_append, Ym]; omega, ?_, r1, r2, r3, r4, r5⟩
        rw [HPL.out, HPL1.out]
        cases bF (parse m) f ((c1 :: t1).drop k) with
        | error e => rfl
        | ok ys => simp
       case measure => simp; omega
  ·
   go_wp2_with fail
   simp only [Yp]
   generalize Value.slice (some ⟨bl, o + h, none⟩) n (cp - h) = v14 at HCUT ⊢
   go_loopw [14] (fun rv wr => ∃ (done : List Raw) (rest : List UInt8) (f : Nat) (A' : Option Addr) (c' : Nat) (rows : List (List Value)), IsB w rv rest ∧ rest.length ≤ f ∧ rest.length ≤ 16777216 ∧ done.length + rest.length ≤ 16777216 ∧
    bF (parse m) n L = (match bF (parse m) f rest with | .error e => .error e | .ok ys => .ok (done ++ ys)) ∧
    wr.heap[w.heap.size + 1]? = some (.cells #[.bool true, .slice none 0 0, .slice A' done.length c'] 138 (0, 0)) ∧
    wr.ownsRow (w.heap.size + 2) 138 3 (.slice A' done.length c') done.length rows.flatten ∧
    bf (okL (w.heap.size + 2) (w.heap.size + 1) (.slice A' done.length c') wr.heap.size) wr done rows ∧
    w.heap.size + 2 ≤ wr.heap.size ∧ Below (w.heap.size + 1) (w.alloc (.cells #[.bool false, .slice none 0 0, .slice none 0 0] 138)) wr)
    (fun rv _ => match rv with | .slice _ k _ => k | _ => 0)
   case atStart =>
    refine ⟨[], L, n, none, 0, [], HCUT.out, by rw [HLN.out]; exact Nat.le_refl _, hLc, by simpa using hLc, ?_, su _ _ _ (by simp), World.ownsRow_nil _ _ _ _, by rw [bf], by simp, (Below.refl _ _).alloc (by simp) _⟩
    cases bF (parse m) n L <;> rfl
   case round =>
    clear HCUT
    obtain ⟨done, rest, f, A', c', rows, hrb, hrf, hrl, hdl, hpl, hout, hown, hit, hsz, hb⟩ := hrel
    have hrb2 := hrb
    obtain ⟨Ar, cr, rfl, hr1, hr2, hrr⟩ := hrb
    have HRB := Lib.hid hrb2
    have HPL := Lib.hid hpl
    have HOUT := Lib.hid hout
    have HOWN := Lib.hid hown
    have HIT := Lib.hid hit
    have HB := Lib.hid hb
    have HRR := Lib.hid hrr
    have hr2' := Lib.hid hr2
    unfold maxLen at hr2
    have hGw := Lib.hid ((ay w _).trans (hb.mono (by simp) : Gr _ _))
    clear hrb2 hpl hout hown hit hb hrr
    cases rest with
    | nil =>
     have hz : wr.heap[w.heap.size]? = some (.cells #[.bool false, .slice none 0 0, .slice none 0 0] 138 (0, 0)) := (HB.out.block w.heap.size (by omega)).trans (heap_alloc_new w _)
     have hload := HOUT.out
     have HDONE := Lib.hid (show parse (m + 1) (c :: t) = .ok (.mk true [] done, h + n) by
      have e1 : bF (parse m) f [] = .ok [] := by unfold bF; rfl
      have e2 := HPL.out
      rw [e1] at e2
      dsimp only at e2
      rw [X9] at e2
      rw [HP2.out, e2])
     simp only [List.length_nil] at hr1 ⊢
     go_wp2_with first
      | refine wpList_load_row rfl 138 (.tmp 13) rfl (w.heap.size + 1) rfl 138 _ (0, 0) _ hload Tryz.underlying138 rfl (dD _ rfl) ?_
      | refine wpList_store_row rfl 138 (.tmp 4) (.tmp 113) rfl w.heap.size #[.bool true, .slice none 0 0, .slice A' done.length c'] rfl rfl 138 _ hz (dD _ rfl) rfl (by simp [Value.oneCell']) ?_
     refine bodyPost_ret (aN rfl _ _ w.heap.size _ rfl (aU _ _ _ _ _ hz) rfl) rfl ⟨_, rfl, dQ hGw.out _ _ (Nat.le_refl _), nS HDONE.out rfl ?_⟩
     refine ⟨[.bool true, .slice none 0 0, .slice A' done.length c'], rfl, ?_⟩
     obtain ⟨_, _, he, hcc1, hcc2⟩ := cZ HOWN.out
     injection he with _ _ he2
     subst he2
     rw [eU]
     refine ⟨_, A', c', rows, rfl, ⟨none, 0, rfl, Nat.le_refl _, by simp [maxLen], fun hn => absurd rfl hn⟩, hcc1, hcc2, fun e => ?_, (rV HOWN.out).mono (fun b hb => ?_) (fun p hp => dV ?_), bf.mono (fun b hb => ?_) (fun p hp => dV ?_) _ _ HIT.out⟩
     ·
      subst e
      exact oh HOWN.out
     ·
      have h1 := hb.1
      have h2 := hb.2
      rw [size_setRow]
      omega
     ·
      have := hp.1
      omega
     ·
      have h1 := hb.1
      have h2 := hb.2.1
      rw [size_setRow]
      omega
     ·
      have := hp.1
      omega
    | cons c1 t1 =>
     simp only [List.length_cons] at hrf hrl hdl hr1 ⊢
     go_wp2_with fail
     refine (IH.out (c1 :: t1) _ _ (HRB.out.gr hGw.out) hrl).mono ?_
     rintro e w1 ⟨v1, rfl, hg1, hv1⟩
     unfold bY nK at hv1
     obtain ⟨f, rfl⟩ : ∃ f', f = f' + 1 := ⟨f - 1, by omega⟩
     have hz1 : w1.heap[w.heap.size]? = some (.cells #[.bool false, .slice none 0 0, .slice none 0 0] 138 (0, 0)) := (hg1.block _ (by omega)).trans ((HB.out.block w.heap.size (by omega)).trans (heap_alloc_new w _))
     have ho1 : w1.heap[w.heap.size + 1]? = some (.cells #[.bool true, .slice none 0 0, .slice A' done.length c'] 138 (0, 0)) := (hg1.block _ (by omega)).trans HOUT.out
     have HG1 := Lib.hid (hGw.out.trans hg1)
     have hsz1 := hg1.size
     have hPL1 : bF (parse m) (f + 1) (c1 :: t1) = match parse m (c1 :: t1) with
       | .error e => .error e
       | .ok (x, k) => match bF (parse m) f ((c1 :: t1).drop k) with
        | .error e => .error e
        | .ok xs => .ok (x :: xs) := by
      conv => lhs; unfold bF
      cases parse m (c1 :: t1) <;> rfl
     have HPL1 := Lib.hid hPL1
     have Hg1 := Lib.hid hg1
     clear hPL1 hg1
     cases hp1 : parse m (c1 :: t1) with
     | error e =>
      rw [hp1] at hv1 HPL1
      dsimp only at hv1
      subst hv1
      have he := kP _ _ _ hp1
      have hne : ((e : Int) != 0) = true := by simp; omega
      have HF := Lib.hid (show parse (m + 1) (c :: t) = .error e by
       have e1 := HPL1.out
       dsimp only at e1
       rw [HP2.out, HPL.out, e1])
      clear hp1 HPL1 HPL HP2
      go_wp2_with refine wpList_store_row rfl 138 (.tmp 4) (.tmp 102) rfl w.heap.size #[.bool false, .slice none 0 0, .slice none 0 0] rfl rfl 138 _ ((cu w1 _ _ (by omega)).trans hz1) (dD _ rfl) rfl (by simp [Value.oneCell']) ?_
      refine bodyPost_ret (aN rfl _ _ w.heap.size _ rfl (aU _ _ _ _ _ ((cu w1 _ _ (by omega)).trans hz1)) rfl) rfl ⟨_, rfl, dQ (HG1.out.trans (ay _ _)) _ _ (Nat.le_refl _), kL HF.out rfl⟩
     | ok p =>
      obtain ⟨x, k⟩ := p
      rw [hp1] at hv1 HPL1
      obtain ⟨vi, rfl, csx, rfl, hix⟩ := hv1
      obtain ⟨fx, Ax, nx, cx, Ay, ny, cy, rfl⟩ := hix.len
      obtain ⟨_, hk1, hk2⟩ := mW _ _ _ _ hp1
      simp only [List.length_cons] at hk1
      have HIX := Lib.hid hix
      clear hp1 hix
      obtain ⟨br, orr, rfl, hbr, _⟩ := HRR.out (by simp [bvs])
      have hq1 : (w1.alloc (.cells #[.bool fx, .slice Ax nx cx, .slice Ay ny cy] 138)).cell? ⟨w.heap.size + 1, 2, none⟩ = some (.slice A' done.length c') := by rw [cell_of_row _ _ _ _ _ (0, 0) ((cu w1 _ _ (by omega)).trans ho1)]; rfl
      have HOW := Lib.hid (((nH HOWN.out Hg1.out).alloc (.cells #[.bool fx, .slice Ax nx cx, .slice Ay ny cy] 138)).alloc (.cells #[.bool fx, .slice Ax nx cx, .slice Ay ny cy] 138))
      have HRD : Hid (Rd ((w1.alloc (.cells #[.bool fx, .slice Ax nx cx, .slice Ay ny cy] 138)).alloc (.cells #[.bool fx, .slice Ax nx cx, .slice Ay ny cy] 138)) (w1.heap.size + 2) (some ⟨w1.heap.size + 1, 0, none⟩) [.bool fx, .slice Ax nx cx, .slice Ay ny cy]) := by
       have := Rd.new (w1.alloc (.cells #[.bool fx, .slice Ax nx cx, .slice Ay ny cy] 138)) #[.bool fx, .slice Ax nx cx, .slice Ay ny cy] 138
       rw [dF] at this
       exact Lib.hid this
      have HO2 := Lib.hid ((cu (w1.alloc (.cells #[.bool fx, .slice Ax nx cx, .slice Ay ny cy] 138)) (.cells #[.bool fx, .slice Ax nx cx, .slice Ay ny cy] 138) (w.heap.size + 1) (by rw [dF]; omega)).trans ((cu w1 _ _ (by omega)).trans ho1))
      by_cases hck : cr = k
      ·
       have HCUT1 : Hid (IsB w (.slice (some ⟨br, orr, none⟩) (t1.length + 1 - k) 0) ((c1 :: t1).drop k)) := by
        have h6 : t1.length + 1 - k = 0 := by omega
        have h7 : (c1 :: t1).drop k = [] := XP (by rw [List.length_cons]; omega)
        rw [h6, h7]
        exact Lib.hid ⟨_, 0, rfl, by simp, by simp [maxLen], Rd.nil⟩
       go_wp2_with (at_builtin; refine aV (.tmp 105) (.tmp 107) 136 jV (base := w.heap.size + 2) _ done.length rows.flatten _ 1 1 (w1.heap.size + 2) [.bool fx, .slice Ax nx cx, .slice Ay ny cy] rfl rfl rfl rfl HOW.out HRD.out rfl (by simp [Value.oneCell']) (by simp only [maxLen]; omega) (by omega) (by simp; omega) ?_; intro A5 c5 w5 hown5 hg5 hbk5; have ho5 : w5.heap[w.heap.size + 1]? = some (.cells #[.bool true, .slice none 0 0, .slice A' done.length c'] 138 (0, 0)) := (hg5.block _ (by simp; omega) (fun e => by have := bI HOWN.out _ e.symm; omega)).trans HO2.out; have e5 : w5.cell? ⟨w.heap.size + 1, 2, none⟩ = some (.slice A' done.length c') := (by rw [cell_of_row w5 _ _ _ _ (0, 0) ho5]; rfl); have f5 := frozen_of_row w5 (w.heap.size + 1) 2 _ _ ho5; have HOWN5 := Lib.hid hown5; have HG5 := Lib.hid hg5; have HBK5 := Lib.hid hbk5; have HO5 := Lib.hid ho5; clear hown5 hg5 hbk5 ho5)
       go_roundw
       case rel =>
        obtain ⟨r1, r2, r3, r4, r5⟩ := jW (x := x) hsz Hg1.out HOWN.out HIT.out HIX.out HG5.out HOWN5.out HBK5.out HO5.out HB.out
        refine ⟨done ++ [x], (c1 :: t1).drop k, f, A5, c5, rows ++ [[.bool fx, .slice Ax nx cx, .slice Ay ny cy]], HCUT1.out, by rw [Xx, List.length_cons]; omega, by rw [Xx, List.length_cons]; omega, by rw [Xx, List.length_cons, List.length_append, Ym]; omega, ?_, r1, r2, r3, r4, r5⟩
        rw [HPL.out, HPL1.out]
        cases bF (parse m) f ((c1 :: t1).drop k) with
        | error e => rfl
        | ok ys => simp
       case measure => simp; omega
      ·
       have HCUT1 : Hid (IsB w (.slice (some ⟨br, orr + k, none⟩) (t1.length + 1 - k) (cr - k)) ((c1 :: t1).drop k)) := Lib.hid (qK k HRR.out (by rw [List.length_cons]) hr1 hr2'.out hk1 hck)
       go_wp2_with (at_builtin; refine aV (.tmp 105) (.tmp 107) 136 jV (base := w.heap.size + 2) _ done.length rows.flatten _ 1 1 (w1.heap.size + 2) [.bool fx, .slice Ax nx cx, .slice Ay ny cy] rfl rfl rfl rfl HOW.out HRD.out rfl (by simp [Value.oneCell']) (by simp only [maxLen]; omega) (by omega) (by simp; omega) ?_; intro A5 c5 w5 hown5 hg5 hbk5; have ho5 : w5.heap[w.heap.size + 1]? = some (.cells #[.bool true, .slice none 0 0, .slice A' done.length c'] 138 (0, 0)) := (hg5.block _ (by simp; omega) (fun e => by have := bI HOWN.out _ e.symm; omega)).trans HO2.out; have e5 : w5.cell? ⟨w.heap.size + 1, 2, none⟩ = some (.slice A' done.length c') := (by rw [cell_of_row w5 _ _ _ _ (0, 0) ho5]; rfl); have f5 := frozen_of_row w5 (w.heap.size + 1) 2 _ _ ho5; have HOWN5 := Lib.hid hown5; have HG5 := Lib.hid hg5; have HBK5 := Lib.hid hbk5; have HO5 := Lib.hid ho5; clear hown5 hg5 hbk5 ho5)
       go_roundw
       case rel =>
        obtain ⟨r1, r2, r3, r4, r5⟩ := jW (x := x) hsz Hg1.out HOWN.out HIT.out HIX.out HG5.out HOWN5.out HBK5.out HO5.out HB.out
        refine ⟨done ++ [x], (c1 :: t1).drop k, f, A5, c5, rows ++ [[.bool fx, .slice Ax nx cx, .slice Ay ny cy]], HCUT1.out, by rw [Xx, List.length_cons]; omega, by rw [Xx, List.length_cons]; omega, by rw [Xx, List.length_cons, List.length_append, Ym]; omega, ?_, r1, r2, r3, r4, r5⟩
        rw [HPL.out, HPL1.out]
        cases bF (parse m) f ((c1 :: t1).drop k) with
        | error e => rfl
        | ok ys => simp
       case measure => simp; omega
theorem LP (v : Value) (c : UInt8) (t : List UInt8) (w : World) (h : IsB w v (c :: t)) (h1 : ¬ c < 128) (h2 : ¬ c < 192) : Calls Tryz.prog 158 #[v, .int .i64 32] w (Ret (bY w.heap.size 0 (c :: t)) w) := by
 have h3 : 192 ≤ c.toNat := Y3.1 fun e => h2 (XH.2 e)
 obtain ⟨A, cp, rfl, hc1, hc2, hr⟩ := h
 obtain ⟨bl, o, rfl, hbl, hcell⟩ := hr (by simp [bvs])
 have e0 := hcell 0 (bv c) rfl
 rw [Yk] at e0
 unfold bv at e0
 have HP := Lib.hid (show parse 0 (c :: t) = .error 3 by rw [show parse 0 = pY none from rfl, fG, if_neg h1, if_neg h2])
 unfold maxLen at hc2
 simp only [List.length_cons] at hc1 ⊢
 clear hcell hr h1 h2
 go_enter Tryz.func158, Tryz.ntmps158
 go_wp2_with fail
 exact bodyPost_ret (aN rfl _ _ w.heap.size #[.bool false, .slice none 0 0, .slice none 0 0] rfl (heap_alloc_new w _) rfl) rfl ⟨_, rfl, ay w _, kL HP.out rfl⟩
theorem ED : ∀ (m d : Nat), d + m = 32 → ∀ (b : List UInt8) (v : Value) (w : World), IsB w v b → b.length ≤ 16777216 → Calls Tryz.prog 158 #[v, .int .i64 d] w (Ret (bY w.heap.size m b) w)
 | m, d, hd, [], v, w, h, hl => OQ m d v w h
 | m, d, hd, c :: t, v, w, h, hl => by
  by_cases h1 : c < 128
  · exact LQ m d v c t w h h1
  ·
   by_cases h2 : c < 192
   · exact LK m d v c t w h (by simp at hl; omega) h1 h2
   ·
    match m, hd with
    | 0, hd =>
     obtain rfl : d = 32 := by omega
     exact LP v c t w h h1 h2
    | m + 1, hd =>
     refine LM m d hd (fun b v w hb hl => ?_) v c t w h (by simp at hl; omega) h1 h2
     have := ED m (d + 1) (by omega) b v w hb hl
     exact this
end Go.Proofs.YtelbhdobjdnglaaGreat
