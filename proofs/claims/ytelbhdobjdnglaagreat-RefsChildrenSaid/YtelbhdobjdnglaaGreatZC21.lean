/-
 Merged: lemmas of this claim.
 Conditions: none.
-/
import Derived.Test.YtelbhdobjdnglaaGreatZC20
import Derived.Deep.DeepCutAuto
import Derived.Test.YtelbhdobjdnglaaGreatZC0
namespace Go.Proofs.YtelbhdobjdnglaaGreat
set_option linter.unusedVariables false
set_option maxRecDepth 20000
set_option maxHeartbeats 8000000
open Go.RowKit Mono Rlp
def okL (B gOut : Nat) (v : Value) (sz : Nat) : Nat → Prop := fun b => B ≤ b ∧ b < sz ∧ b ≠ gOut ∧ v.ownBlock ≠ some b
theorem kE : ∀ (m : Nat) (b : List UInt8) (e : Nat), parse m b = .error e → e = 3 ∨ e = 4 := by
 have hL : ∀ (p : List UInt8 → Except Nat (Raw × Nat)), (∀ b e, p b = .error e → e = 3 ∨ e = 4) → ∀ (f : Nat) (b : List UInt8) (e : Nat), bI p f b = .error e → e = 3 ∨ e = 4 := by
  intro p hp f
  induction f with
  | zero =>
   intro b e h
   cases b with
   | nil => unfold bI at h; cases h
   | cons c b => unfold bI at h; cases h; exact .inr rfl
  | succ f ih =>
   intro b e h
   cases b with
   | nil => unfold bI at h; cases h
   | cons c b =>
    unfold bI at h
    split at h
    ·
     rename_i e' he
     cases h
     exact hp _ _ he
    ·
     split at h
     ·
      rename_i e' he
      cases h
      exact ih _ _ he
     · cases h
 have hS : ∀ (p : Option (List UInt8 → Except Nat (Raw × Nat))), (∀ q, p = some q → ∀ b e, q b = .error e → e = 3 ∨ e = 4) → ∀ (b : List UInt8) (e : Nat), ql p b = .error e → e = 3 ∨ e = 4 := by
  intro p hp b e h
  cases b with
  | nil => cases h; exact .inr rfl
  | cons c t =>
   rw [gI] at h
   split at h
   · cases h
   ·
    split at h
    ·
     split at h
     · cases h; exact .inr rfl
     ·
      split at h
      · cases h; exact .inr rfl
      · cases h
    ·
     cases p with
     | none => cases h; exact .inl rfl
     | some p =>
      dsimp only at h
      split at h
      · cases h; exact .inr rfl
      ·
       split at h
       ·
        rename_i e' he
        cases h
        exact hL p (hp p rfl) _ _ _ he
       · cases h
 intro m
 induction m with
 | zero => exact hS none (fun q e => by cases e)
 | succ m ih => exact hS (some (parse m)) (fun q e => by cases e; exact ih)
theorem jG {B0 : Nat} {w0 wr w1 w5 : World} {done : List Raw} {x : Raw} {A' A5 : Option Addr} {c' c5 : Nat} {rows : List (List Value)} {r : List Value} {a b : Obj} (hsz : B0 + 2 ≤ wr.heap.size) (hg1 : Gr wr w1)
  (hown : wr.ownsRow (B0 + 2) 138 3 (.slice A' done.length c') done.length rows.flatten) (hit : bF (okL (B0 + 2) (B0 + 1) (.slice A' done.length c') wr.heap.size) wr done rows)
  (hix : eU (fun k => wr.heap.size ≤ k ∧ k < w1.heap.size) w1 x r) (hg5 : ((w1.alloc a).alloc b).grownBy w5 (Value.slice A' done.length c').ownBlock)
  (hown5 : w5.ownsRow (B0 + 2) 138 3 (.slice A5 (done.length + 1) c5) (done.length + 1) (rows.flatten ++ r))
  (hbk5 : (Value.slice A5 (done.length + 1) c5).ownBlock = (Value.slice A' done.length c').ownBlock ∨ (Value.slice A5 (done.length + 1) c5).ownBlock = some ((w1.alloc a).alloc b).heap.size)
  (ho5 : w5.heap[B0 + 1]? = some (.cells #[.bool true, .slice none 0 0, .slice A' done.length c'] 138 (0, 0))) (hb : Below (B0 + 1) w0 wr) :
  (w5.setCell ⟨B0 + 1, 2, none⟩ (.slice A5 (done.length + 1) c5)).heap[B0 + 1]? = some (.cells #[.bool true, .slice none 0 0, .slice A5 (done ++ [x]).length c5] 138 (0, 0)) ∧
  (w5.setCell ⟨B0 + 1, 2, none⟩ (.slice A5 (done.length + 1) c5)).ownsRow (B0 + 2) 138 3 (.slice A5 (done ++ [x]).length c5) (done ++ [x]).length (rows ++ [r]).flatten ∧
  bF (okL (B0 + 2) (B0 + 1) (.slice A5 (done ++ [x]).length c5) (w5.setCell ⟨B0 + 1, 2, none⟩ (.slice A5 (done.length + 1) c5)).heap.size) (w5.setCell ⟨B0 + 1, 2, none⟩ (.slice A5 (done.length + 1) c5)) (done ++ [x]) (rows ++ [r]) ∧
  B0 + 2 ≤ (w5.setCell ⟨B0 + 1, 2, none⟩ (.slice A5 (done.length + 1) c5)).heap.size ∧
  Below (B0 + 1) w0 (w5.setCell ⟨B0 + 1, 2, none⟩ (.slice A5 (done.length + 1) c5)) := by
 have hln : (done ++ [x]).length = done.length + 1 := by simp
 have hs1 := hg1.size
 have hs5 := hg5.size
 rw [dA, dA] at hs5
 rw [dA, dA] at hbk5
 have hnb : (Value.slice A5 (done.length + 1) c5).ownBlock ≠ some (B0 + 1) := fun e => by
  have := bP hown5 _ e
  omega
 have hcell : ∀ p : Addr, p.block < w1.heap.size → p.block ≠ B0 + 1 → (Value.slice A' done.length c').ownBlock ≠ some p.block → (w5.setCell ⟨B0 + 1, 2, none⟩ (.slice A5 (done.length + 1) c5)).cell? p = w1.cell? p := fun p h1 h2 h3 => by
  rw [World.cell?_setCell_other w5 ⟨B0 + 1, 2, none⟩ p _ (fun e => h2 (by rw [← e]))]
  rw [World.cell?_of_block (hg5.block p.block (by rw [dA, dA]; omega) (fun e => h3 e.symm))]
  rw [Zg _ _ _ (by rw [dA]; omega), Zg _ _ _ h1]
 have hsz5 : (w5.setCell ⟨B0 + 1, 2, none⟩ (.slice A5 (done.length + 1) c5)).heap.size = w5.heap.size := by simp
 rw [hln, hsz5]
 refine ⟨?_, ?_, ?_, by omega, ?_⟩
 · exact heap_setCell_same w5 (B0 + 1) 2 _ _ _ ho5
 ·
  rw [Yz]
  simp only [Xv, List.flatten_nil, XB]
  exact Rk hown5 hnb _
 ·
  refine bF.append done [x] rows [r] (bF.mono (fun k hk => ?_) (fun p hp => ?_) _ _ hit) ?_
  ·
   obtain ⟨h1, h2, h3, h4⟩ := hk
   refine ⟨h1, by omega, h3, fun e => ?_⟩
   rcases hbk5 with h5 | h5
   · exact h4 (h5 ▸ e)
   ·
    rw [h5] at e
    injection e with e
    omega
  ·
   obtain ⟨h1, h2, h3, h4⟩ := hp
   rw [hcell p (by omega) h3 h4]
   exact hg1.cell h2
  ·
   rw [bF]
   refine ⟨r, [], rfl, eU.mono (fun k hk => ?_) (fun p hp => ?_) _ _ hix, by rw [bF]⟩
   ·
    obtain ⟨h1, h2⟩ := hk
    refine ⟨by omega, by omega, by omega, fun e => ?_⟩
    rcases hbk5 with h5 | h5
    ·
     rw [h5] at e
     have := (hown.lt k e).2
     omega
    ·
     rw [h5] at e
     injection e with e
     omega
   ·
    obtain ⟨h1, h2⟩ := hp
    refine hcell p h2 (by omega) fun e => ?_
    have := (hown.lt _ e).2
    omega
 ·
  refine Below.setCell ?_ (by dsimp only; omega) _
  refine (((hb.trans (hg1.mono (by omega))).alloc (by have := hb.size; omega) a).alloc (by rw [dA]; have := hb.size; omega) b).grown hg5 (by rw [dA, dA]; omega) fun j hj => ?_
  have := bP hown j hj
  omega
theorem Lr (m d : Nat) (hd : d + (m + 1) = 32) (ih : ∀ (b : List UInt8) (v : Value) (w : World), IsB w v b → b.length ≤ 16777216 → Calls Tryz.prog 158 #[v, .int .i64 ((d : Int) + 1)] w (Ret (bW w.heap.size m b) w))
  (v : Value) (c : UInt8) (t : List UInt8) (w : World) (h : IsB w v (c :: t)) (hl : t.length ≤ 16777215) (h1 : ¬ c < 128) (h2 : ¬ c < 192) : Calls Tryz.prog 158 #[v, .int .i64 d] w (Ret (bW w.heap.size (m + 1) (c :: t)) w) := by
 have IH := Lib.hid ih
 have h3 : 192 ≤ c.toNat := Yw.1 fun e => h2 (Xe.2 e)
 have hcl := jh c
 have hlen := fun w0 hg => yI v c t 192 w0 (h.gr hg) (by omega) (by omega) h3 (by omega)
 have HL := Lib.hid hlen
 obtain ⟨A, cp, rfl, hc1, hc2, hr⟩ := h
 obtain ⟨bl, o, rfl, hbl, hcell⟩ := hr (by simp [bvs])
 have HR := Lib.hid hr
 have e0 := hcell 0 (bv c) rfl
 rw [XI] at e0
 unfold bv at e0
 have HP : Hid (parse (m + 1) (c :: t) = match Rlp.hdr (c :: t) 192 with
   | none => .error 4
   | some (h, n) => match bI (parse m) n (((c :: t).drop h).take n) with
    | .error e => .error e
    | .ok xs => .ok (.mk true [] xs, h + n)) := by
  refine Lib.hid ?_
  rw [show parse (m + 1) = ql (some (parse m)) from rfl, gI, if_neg h1, if_neg h2]
  cases Rlp.hdr (c :: t) 192 <;> rfl
 have hspec := fun (h n : Nat) (hh : Rlp.hdr (c :: t) 192 = some (h, n)) => uJ hh (by simp) (by simpa using h3) (by omega) (by simp; omega)
 have HS := Lib.hid hspec
 have hcm := Lib.hid hc2
 have hdd : ((d : Int) == 32) = false := by simp; omega
 have k1 : decide ((c.toNat : Int) < 128) = false := by simp; omega
 have k2 : decide ((c.toNat : Int) < 192) = false := by simp; omega
 unfold maxLen at hc2
 simp only [WS] at hc1 HL ⊢
 clear hcell hr h1 h2 hlen hspec ih
 go_enter Tryz.func158, Tryz.ntmps158
 go_wp2_with fail
 refine (HL.out _ (au w _)).mono ?_
 rintro e _ ⟨rfl, v1, rfl, hv1⟩
 unfold Jr at hv1
 clear HL
 cases hh : Rlp.hdr (c :: t) 192 with
 | none =>
  rw [hh] at hv1 HP
  obtain ⟨x, y, rfl⟩ := hv1
  clear hh HS
  go_wp2_with fail
  exact bodyPost_ret (aN rfl _ _ w.heap.size #[.bool false, .slice none 0 0, .slice none 0 0] rfl (heap_alloc_new w _) rfl) rfl ⟨_, rfl, au w _, kC HP.out rfl⟩
 | some hn =>
  obtain ⟨h, n⟩ := hn
  rw [hh] at hv1 HP
  dsimp only at hv1
  subst hv1
  obtain ⟨_, s1, s2, s3⟩ := HS.out h n hh
  simp only [WS] at s1 s3
  clear hh HS
  obtain ⟨L, hL⟩ : ∃ L : List UInt8, L = ((c :: t).drop h).take n := ⟨_, rfl⟩
  have hLn : L.length = n := by rw [hL, Xi, W9]; simp only [WS]; omega
  have HP2 := Lib.hid (show parse (m + 1) (c :: t) = match bI (parse m) n L with | .error e => .error e | .ok xs => .ok (.mk true [] xs, h + n) by rw [HP.out, hL])
  clear HP
  have HLN := Lib.hid hLn
  have HLL := Lib.hid hL
  clear hL hLn
  have hLc : L.length ≤ 16777216 := by have := HLN.out; omega
  have hcase : (∃ hch : cp = h, Hid (IsB w (.slice (some ⟨bl, o, none⟩) n 0) L)) ∨ (∃ hch : cp ≠ h, Hid (IsB w (.slice (some ⟨bl, o + h, none⟩) n (cp - h)) L)) := by
   by_cases hch : cp = h
   ·
    refine .inl ⟨hch, Lib.hid ?_⟩
    have hn0 : n = 0 := by omega
    have h5 : L = [] := XF (by rw [HLN.out, hn0])
    rw [h5, hn0]
    exact ⟨_, 0, rfl, Nat.le_refl _, by simp [maxLen], Rd.nil⟩
   ·
    refine .inr ⟨hch, Lib.hid ?_⟩
    rw [HLL.out]
    exact qm w bl o (c :: t) h n cp HR.out s1 hc1 hcm.out hch
  rcases hcase with ⟨hch, HCUT⟩ | ⟨hch, HCUT⟩
  ·
   go_wp2_with fail
   simp only [X6]
   generalize Value.slice (some ⟨bl, o, none⟩) n 0 = v14 at HCUT ⊢
   clear hch
   go_loopw [14] (fun rv wr => ∃ (done : List Raw) (rest : List UInt8) (f : Nat) (A' : Option Addr) (c' : Nat) (rows : List (List Value)), IsB w rv rest ∧ rest.length ≤ f ∧ rest.length ≤ 16777216 ∧ done.length + rest.length ≤ 16777216 ∧
    bI (parse m) n L = (match bI (parse m) f rest with | .error e => .error e | .ok ys => .ok (done ++ ys)) ∧
    wr.heap[w.heap.size + 1]? = some (.cells #[.bool true, .slice none 0 0, .slice A' done.length c'] 138 (0, 0)) ∧
    wr.ownsRow (w.heap.size + 2) 138 3 (.slice A' done.length c') done.length rows.flatten ∧
    bF (okL (w.heap.size + 2) (w.heap.size + 1) (.slice A' done.length c') wr.heap.size) wr done rows ∧
    w.heap.size + 2 ≤ wr.heap.size ∧ Below (w.heap.size + 1) (w.alloc (.cells #[.bool false, .slice none 0 0, .slice none 0 0] 138)) wr)
    (fun rv _ => match rv with | .slice _ k _ => k | _ => 0)
   case atStart =>
    refine ⟨[], L, n, none, 0, [], HCUT.out, by rw [HLN.out]; exact Nat.le_refl _, hLc, by simpa using hLc, ?_, rJ _ _ _ (by simp), World.ownsRow_nil _ _ _ _, by rw [bF], by simp, (Below.refl _ _).alloc (by simp) _⟩
    cases bI (parse m) n L <;> rfl
   case round =>
    clear HCUT
    obtain ⟨done, rest, f, A', c', rows, hrb, hrf, hrl, hdl, hpl, hout, hown, hit, hsz, hb⟩ := hrel
    have hrb2 := hrb
    obtain ⟨Ar, cr, rfl, hr1, hr2, hrr⟩ := hrb
    have HRB := Lib.hid hrb2
    have HPL := Lib.hid hpl
    have HOUT := Lib.hid hout
    have HOWN := Lib.hid hown
    have HIT := Lib.hid hit
    have HB := Lib.hid hb
    have HRR := Lib.hid hrr
    have hr2' := Lib.hid hr2
    unfold maxLen at hr2
    have hGw := Lib.hid ((au w _).trans (hb.mono (by simp) : Gr _ _))
    clear hrb2 hpl hout hown hit hb hrr
    cases rest with
    | nil =>
     have hz : wr.heap[w.heap.size]? = some (.cells #[.bool false, .slice none 0 0, .slice none 0 0] 138 (0, 0)) := (HB.out.block w.heap.size (by omega)).trans (heap_alloc_new w _)
     have hload := HOUT.out
     have HDONE := Lib.hid (show parse (m + 1) (c :: t) = .ok (.mk true [] done, h + n) by
      have e1 : bI (parse m) f [] = .ok [] := by unfold bI; rfl
      have e2 := HPL.out
      rw [e1] at e2
      dsimp only at e2
      rw [XB] at e2
      rw [HP2.out, e2])
     simp only [XP] at hr1 ⊢
     go_wp2_with first
      | refine wpList_load_row rfl 138 (.tmp 13) rfl (w.heap.size + 1) rfl 138 _ (0, 0) _ hload Tryz.underlying138 rfl (dw _ rfl) ?_
      | refine wpList_store_row rfl 138 (.tmp 4) (.tmp 113) rfl w.heap.size #[.bool true, .slice none 0 0, .slice A' done.length c'] rfl rfl 138 _ hz (dw _ rfl) rfl (by simp [Value.oneCell']) ?_
     refine bodyPost_ret (aN rfl _ _ w.heap.size _ rfl (aS _ _ _ _ _ hz) rfl) rfl ⟨_, rfl, bQ hGw.out _ _ (Nat.le_refl _), nY HDONE.out rfl ?_⟩
     refine ⟨[.bool true, .slice none 0 0, .slice A' done.length c'], rfl, ?_⟩
     obtain ⟨_, _, he, hcc1, hcc2⟩ := dB HOWN.out
     injection he with _ _ he2
     subst he2
     rw [eU]
     refine ⟨_, A', c', rows, rfl, ⟨none, 0, rfl, Nat.le_refl _, by simp [maxLen], fun hn => absurd rfl hn⟩, hcc1, hcc2, fun e => ?_, (uy HOWN.out).mono (fun b hb => ?_) (fun p hp => dU ?_), bF.mono (fun b hb => ?_) (fun p hp => dU ?_) _ _ HIT.out⟩
     ·
      subst e
      exact qH HOWN.out
     ·
      have h1 := hb.1
      have h2 := hb.2
      rw [size_setRow]
      omega
     ·
      have := hp.1
      omega
     ·
      have h1 := hb.1
      have h2 := hb.2.1
      rw [size_setRow]
      omega
     ·
      have := hp.1
      omega
    | cons c1 t1 =>
     simp only [WS] at hrf hrl hdl hr1 ⊢
     go_wp2_with fail
     refine (IH.out (c1 :: t1) _ _ (HRB.out.gr hGw.out) hrl).mono ?_
     rintro e w1 ⟨v1, rfl, hg1, hv1⟩
     unfold bW nN at hv1
     obtain ⟨f, rfl⟩ : ∃ f', f = f' + 1 := ⟨f - 1, by omega⟩
     have hz1 : w1.heap[w.heap.size]? = some (.cells #[.bool false, .slice none 0 0, .slice none 0 0] 138 (0, 0)) := (hg1.block _ (by omega)).trans ((HB.out.block w.heap.size (by omega)).trans (heap_alloc_new w _))
     have ho1 : w1.heap[w.heap.size + 1]? = some (.cells #[.bool true, .slice none 0 0, .slice A' done.length c'] 138 (0, 0)) := (hg1.block _ (by omega)).trans HOUT.out
     have HG1 := Lib.hid (hGw.out.trans hg1)
     have hsz1 := hg1.size
     have hPL1 : bI (parse m) (f + 1) (c1 :: t1) = match parse m (c1 :: t1) with
       | .error e => .error e
       | .ok (x, k) => match bI (parse m) f ((c1 :: t1).drop k) with
        | .error e => .error e
        | .ok xs => .ok (x :: xs) := by
      conv => lhs; unfold bI
      cases parse m (c1 :: t1) <;> rfl
     have HPL1 := Lib.hid hPL1
     have Hg1 := Lib.hid hg1
     clear hPL1 hg1
     cases hp1 : parse m (c1 :: t1) with
     | error e =>
      rw [hp1] at hv1 HPL1
      dsimp only at hv1
      subst hv1
      have he := kE _ _ _ hp1
      have hne : ((e : Int) != 0) = true := by simp; omega
      have HF := Lib.hid (show parse (m + 1) (c :: t) = .error e by
       have e1 := HPL1.out
       dsimp only at e1
       rw [HP2.out, HPL.out, e1])
      clear hp1 HPL1 HPL HP2
      go_wp2_with refine wpList_store_row rfl 138 (.tmp 4) (.tmp 102) rfl w.heap.size #[.bool false, .slice none 0 0, .slice none 0 0] rfl rfl 138 _ ((bT w1 _ _ (by omega)).trans hz1) (dw _ rfl) rfl (by simp [Value.oneCell']) ?_
      refine bodyPost_ret (aN rfl _ _ w.heap.size _ rfl (aS _ _ _ _ _ ((bT w1 _ _ (by omega)).trans hz1)) rfl) rfl ⟨_, rfl, bQ (HG1.out.trans (au _ _)) _ _ (Nat.le_refl _), kC HF.out rfl⟩
     | ok p =>
      obtain ⟨x, k⟩ := p
      rw [hp1] at hv1 HPL1
      obtain ⟨vi, rfl, csx, rfl, hix⟩ := hv1
      obtain ⟨fx, Ax, nx, cx, Ay, ny, cy, rfl⟩ := hix.len
      obtain ⟨_, hk1, hk2⟩ := mP _ _ _ _ hp1
      simp only [WS] at hk1
      have HIX := Lib.hid hix
      clear hp1 hix
      obtain ⟨br, orr, rfl, hbr, _⟩ := HRR.out (by simp [bvs])
      have hq1 : (w1.alloc (.cells #[.bool fx, .slice Ax nx cx, .slice Ay ny cy] 138)).cell? ⟨w.heap.size + 1, 2, none⟩ = some (.slice A' done.length c') := by rw [cell_of_row _ _ _ _ _ (0, 0) ((bT w1 _ _ (by omega)).trans ho1)]; rfl
      have HOW := Lib.hid (((o7 HOWN.out Hg1.out).alloc (.cells #[.bool fx, .slice Ax nx cx, .slice Ay ny cy] 138)).alloc (.cells #[.bool fx, .slice Ax nx cx, .slice Ay ny cy] 138))
      have HRD : Hid (Rd ((w1.alloc (.cells #[.bool fx, .slice Ax nx cx, .slice Ay ny cy] 138)).alloc (.cells #[.bool fx, .slice Ax nx cx, .slice Ay ny cy] 138)) (w1.heap.size + 2) (some ⟨w1.heap.size + 1, 0, none⟩) [.bool fx, .slice Ax nx cx, .slice Ay ny cy]) := by
       have := Rd.new (w1.alloc (.cells #[.bool fx, .slice Ax nx cx, .slice Ay ny cy] 138)) #[.bool fx, .slice Ax nx cx, .slice Ay ny cy] 138
       rw [dA] at this
       exact Lib.hid this
      have HO2 := Lib.hid ((bT (w1.alloc (.cells #[.bool fx, .slice Ax nx cx, .slice Ay ny cy] 138)) (.cells #[.bool fx, .slice Ax nx cx, .slice Ay ny cy] 138) (w.heap.size + 1) (by rw [dA]; omega)).trans ((bT w1 _ _ (by omega)).trans ho1))
      by_cases hck : cr = k
      ·
       have HCUT1 : Hid (IsB w (.slice (some ⟨br, orr, none⟩) (t1.length + 1 - k) 0) ((c1 :: t1).drop k)) := by
        have h6 : t1.length + 1 - k = 0 := by omega
        have h7 : (c1 :: t1).drop k = [] := Xt (by rw [WS]; omega)
        rw [h6, h7]
        exact Lib.hid ⟨_, 0, rfl, by simp, by simp [maxLen], Rd.nil⟩
       go_wp2_with (at_builtin; refine bn (.tmp 105) (.tmp 107) 136 jF (base := w.heap.size + 2) _ done.length rows.flatten _ 1 1 (w1.heap.size + 2) [.bool fx, .slice Ax nx cx, .slice Ay ny cy] rfl rfl rfl rfl HOW.out HRD.out rfl (by simp [Value.oneCell']) (by simp only [maxLen]; omega) (by omega) (by simp; omega) ?_; intro A5 c5 w5 hown5 hg5 hbk5; have ho5 : w5.heap[w.heap.size + 1]? = some (.cells #[.bool true, .slice none 0 0, .slice A' done.length c'] 138 (0, 0)) := (hg5.block _ (by simp; omega) (fun e => by have := bP HOWN.out _ e.symm; omega)).trans HO2.out; have e5 : w5.cell? ⟨w.heap.size + 1, 2, none⟩ = some (.slice A' done.length c') := (by rw [cell_of_row w5 _ _ _ _ (0, 0) ho5]; rfl); have f5 := frozen_of_row w5 (w.heap.size + 1) 2 _ _ ho5; have HOWN5 := Lib.hid hown5; have HG5 := Lib.hid hg5; have HBK5 := Lib.hid hbk5; have HO5 := Lib.hid ho5; clear hown5 hg5 hbk5 ho5)
       go_roundw
       case rel =>
        obtain ⟨r1, r2, r3, r4, r5⟩ := jG (x := x) hsz Hg1.out HOWN.out HIT.out HIX.out HG5.out HOWN5.out HBK5.out HO5.out HB.out
        refine ⟨done ++ [x], (c1 :: t1).drop k, f, A5, c5, rows ++ [[.bool fx, .slice Ax nx cx, .slice Ay ny cy]], HCUT1.out, by rw [W9, WS]; omega, by rw [W9, WS]; omega, by rw [W9, WS, List.length_append, List.length_singleton]; omega, ?_, r1, r2, r3, r4, r5⟩
        rw [HPL.out, HPL1.out]
        cases bI (parse m) f ((c1 :: t1).drop k) with
        | error e => rfl
        | ok ys => simp
       case measure => simp; omega
      ·
       have HCUT1 : Hid (IsB w (.slice (some ⟨br, orr + k, none⟩) (t1.length + 1 - k) (cr - k)) ((c1 :: t1).drop k)) := Lib.hid (qI k HRR.out (by rw [WS]) hr1 hr2'.out hk1 hck)
       go_wp2_with (at_builtin; refine bn (.tmp 105) (.tmp 107) 136 jF (base := w.heap.size + 2) _ done.length rows.flatten _ 1 1 (w1.heap.size + 2) [.bool fx, .slice Ax nx cx, .slice Ay ny cy] rfl rfl rfl rfl HOW.out HRD.out rfl (by simp [Value.oneCell']) (by simp only [maxLen]; omega) (by omega) (by simp; omega) ?_; intro A5 c5 w5 hown5 hg5 hbk5; have ho5 : w5.heap[w.heap.size + 1]? = some (.cells #[.bool true, .slice none 0 0, .slice A' done.length c'] 138 (0, 0)) := (hg5.block _ (by simp; omega) (fun e => by have := bP HOWN.out _ e.symm; omega)).trans HO2.out; have e5 : w5.cell? ⟨w.heap.size + 1, 2, none⟩ = some (.slice A' done.length c') := (by rw [cell_of_row w5 _ _ _ _ (0, 0) ho5]; rfl); have f5 := frozen_of_row w5 (w.heap.size + 1) 2 _ _ ho5; have HOWN5 := Lib.hid hown5; have HG5 := Lib.hid hg5; have HBK5 := Lib.hid hbk5; have HO5 := Lib.hid ho5; clear hown5 hg5 hbk5 ho5)
       go_roundw
       case rel =>
        obtain ⟨r1, r2, r3, r4, r5⟩ := jG (x := x) hsz Hg1.out HOWN.out HIT.out HIX.out HG5.out HOWN5.out HBK5.out HO5.out HB.out
        refine ⟨done ++ [x], (c1 :: t1).drop k, f, A5, c5, rows ++ [[.bool fx, .slice Ax nx cx, .slice Ay ny cy]], HCUT1.out, by rw [W9, WS]; omega, by rw [W9, WS]; omega, by rw [W9, WS, List.length_append, List.length_singleton]; omega, ?_, r1, r2, r3, r4, r5⟩
        rw [HPL.out, HPL1.out]
        cases bI (parse m) f ((c1 :: t1).drop k) with
        | error e => rfl
        | ok ys => simp
       case measure => simp; omega
  ·
   go_wp2_with fail
   simp only [X6]
   generalize Value.slice (some ⟨bl, o + h, none⟩) n (cp - h) = v14 at HCUT ⊢
   go_loopw [14] (fun rv wr => ∃ (done : List Raw) (rest : List UInt8) (f : Nat) (A' : Option Addr) (c' : Nat) (rows : List (List Value)), IsB w rv rest ∧ rest.length ≤ f ∧ rest.length ≤ 16777216 ∧ done.length + rest.length ≤ 16777216 ∧
    bI (parse m) n L = (match bI (parse m) f rest with | .error e => .error e | .ok ys => .ok (done ++ ys)) ∧
    wr.heap[w.heap.size + 1]? = some (.cells #[.bool true, .slice none 0 0, .slice A' done.length c'] 138 (0, 0)) ∧
    wr.ownsRow (w.heap.size + 2) 138 3 (.slice A' done.length c') done.length rows.flatten ∧
    bF (okL (w.heap.size + 2) (w.heap.size + 1) (.slice A' done.length c') wr.heap.size) wr done rows ∧
    w.heap.size + 2 ≤ wr.heap.size ∧ Below (w.heap.size + 1) (w.alloc (.cells #[.bool false, .slice none 0 0, .slice none 0 0] 138)) wr)
    (fun rv _ => match rv with | .slice _ k _ => k | _ => 0)
   case atStart =>
    refine ⟨[], L, n, none, 0, [], HCUT.out, by rw [HLN.out]; exact Nat.le_refl _, hLc, by simpa using hLc, ?_, rJ _ _ _ (by simp), World.ownsRow_nil _ _ _ _, by rw [bF], by simp, (Below.refl _ _).alloc (by simp) _⟩
    cases bI (parse m) n L <;> rfl
   case round =>
    clear HCUT
    obtain ⟨done, rest, f, A', c', rows, hrb, hrf, hrl, hdl, hpl, hout, hown, hit, hsz, hb⟩ := hrel
    have hrb2 := hrb
    obtain ⟨Ar, cr, rfl, hr1, hr2, hrr⟩ := hrb
    have HRB := Lib.hid hrb2
    have HPL := Lib.hid hpl
    have HOUT := Lib.hid hout
    have HOWN := Lib.hid hown
    have HIT := Lib.hid hit
    have HB := Lib.hid hb
    have HRR := Lib.hid hrr
    have hr2' := Lib.hid hr2
    unfold maxLen at hr2
    have hGw := Lib.hid ((au w _).trans (hb.mono (by simp) : Gr _ _))
    clear hrb2 hpl hout hown hit hb hrr
    cases rest with
    | nil =>
     have hz : wr.heap[w.heap.size]? = some (.cells #[.bool false, .slice none 0 0, .slice none 0 0] 138 (0, 0)) := (HB.out.block w.heap.size (by omega)).trans (heap_alloc_new w _)
     have hload := HOUT.out
     have HDONE := Lib.hid (show parse (m + 1) (c :: t) = .ok (.mk true [] done, h + n) by
      have e1 : bI (parse m) f [] = .ok [] := by unfold bI; rfl
      have e2 := HPL.out
      rw [e1] at e2
      dsimp only at e2
      rw [XB] at e2
      rw [HP2.out, e2])
     simp only [XP] at hr1 ⊢
     go_wp2_with first
      | refine wpList_load_row rfl 138 (.tmp 13) rfl (w.heap.size + 1) rfl 138 _ (0, 0) _ hload Tryz.underlying138 rfl (dw _ rfl) ?_
      | refine wpList_store_row rfl 138 (.tmp 4) (.tmp 113) rfl w.heap.size #[.bool true, .slice none 0 0, .slice A' done.length c'] rfl rfl 138 _ hz (dw _ rfl) rfl (by simp [Value.oneCell']) ?_
     refine bodyPost_ret (aN rfl _ _ w.heap.size _ rfl (aS _ _ _ _ _ hz) rfl) rfl ⟨_, rfl, bQ hGw.out _ _ (Nat.le_refl _), nY HDONE.out rfl ?_⟩
     refine ⟨[.bool true, .slice none 0 0, .slice A' done.length c'], rfl, ?_⟩
     obtain ⟨_, _, he, hcc1, hcc2⟩ := dB HOWN.out
     injection he with _ _ he2
     subst he2
     rw [eU]
     refine ⟨_, A', c', rows, rfl, ⟨none, 0, rfl, Nat.le_refl _, by simp [maxLen], fun hn => absurd rfl hn⟩, hcc1, hcc2, fun e => ?_, (uy HOWN.out).mono (fun b hb => ?_) (fun p hp => dU ?_), bF.mono (fun b hb => ?_) (fun p hp => dU ?_) _ _ HIT.out⟩
     ·
      subst e
      exact qH HOWN.out
     ·
      have h1 := hb.1
      have h2 := hb.2
      rw [size_setRow]
      omega
     ·
      have := hp.1
      omega
     ·
      have h1 := hb.1
      have h2 := hb.2.1
      rw [size_setRow]
      omega
     ·
      have := hp.1
      omega
    | cons c1 t1 =>
     simp only [WS] at hrf hrl hdl hr1 ⊢
     go_wp2_with fail
     refine (IH.out (c1 :: t1) _ _ (HRB.out.gr hGw.out) hrl).mono ?_
     rintro e w1 ⟨v1, rfl, hg1, hv1⟩
     unfold bW nN at hv1
     obtain ⟨f, rfl⟩ : ∃ f', f = f' + 1 := ⟨f - 1, by omega⟩
     have hz1 : w1.heap[w.heap.size]? = some (.cells #[.bool false, .slice none 0 0, .slice none 0 0] 138 (0, 0)) := (hg1.block _ (by omega)).trans ((HB.out.block w.heap.size (by omega)).trans (heap_alloc_new w _))
     have ho1 : w1.heap[w.heap.size + 1]? = some (.cells #[.bool true, .slice none 0 0, .slice A' done.length c'] 138 (0, 0)) := (hg1.block _ (by omega)).trans HOUT.out
     have HG1 := Lib.hid (hGw.out.trans hg1)
     have hsz1 := hg1.size
     have hPL1 : bI (parse m) (f + 1) (c1 :: t1) = match parse m (c1 :: t1) with
       | .error e => .error e
       | .ok (x, k) => match bI (parse m) f ((c1 :: t1).drop k) with
        | .error e => .error e
        | .ok xs => .ok (x :: xs) := by
      conv => lhs; unfold bI
      cases parse m (c1 :: t1) <;> rfl
     have HPL1 := Lib.hid hPL1
     have Hg1 := Lib.hid hg1
     clear hPL1 hg1
     cases hp1 : parse m (c1 :: t1) with
     | error e =>
      rw [hp1] at hv1 HPL1
      dsimp only at hv1
      subst hv1
      have he := kE _ _ _ hp1
      have hne : ((e : Int) != 0) = true := by simp; omega
      have HF := Lib.hid (show parse (m + 1) (c :: t) = .error e by
       have e1 := HPL1.out
       dsimp only at e1
       rw [HP2.out, HPL.out, e1])
      clear hp1 HPL1 HPL HP2
      go_wp2_with refine wpList_store_row rfl 138 (.tmp 4) (.tmp 102) rfl w.heap.size #[.bool false, .slice none 0 0, .slice none 0 0] rfl rfl 138 _ ((bT w1 _ _ (by omega)).trans hz1) (dw _ rfl) rfl (by simp [Value.oneCell']) ?_
      refine bodyPost_ret (aN rfl _ _ w.heap.size _ rfl (aS _ _ _ _ _ ((bT w1 _ _ (by omega)).trans hz1)) rfl) rfl ⟨_, rfl, bQ (HG1.out.trans (au _ _)) _ _ (Nat.le_refl _), kC HF.out rfl⟩
     | ok p =>
      obtain ⟨x, k⟩ := p
      rw [hp1] at hv1 HPL1
      obtain ⟨vi, rfl, csx, rfl, hix⟩ := hv1
      obtain ⟨fx, Ax, nx, cx, Ay, ny, cy, rfl⟩ := hix.len
      obtain ⟨_, hk1, hk2⟩ := mP _ _ _ _ hp1
      simp only [WS] at hk1
      have HIX := Lib.hid hix
      clear hp1 hix
      obtain ⟨br, orr, rfl, hbr, _⟩ := HRR.out (by simp [bvs])
      have hq1 : (w1.alloc (.cells #[.bool fx, .slice Ax nx cx, .slice Ay ny cy] 138)).cell? ⟨w.heap.size + 1, 2, none⟩ = some (.slice A' done.length c') := by rw [cell_of_row _ _ _ _ _ (0, 0) ((bT w1 _ _ (by omega)).trans ho1)]; rfl
      have HOW := Lib.hid (((o7 HOWN.out Hg1.out).alloc (.cells #[.bool fx, .slice Ax nx cx, .slice Ay ny cy] 138)).alloc (.cells #[.bool fx, .slice Ax nx cx, .slice Ay ny cy] 138))
      have HRD : Hid (Rd ((w1.alloc (.cells #[.bool fx, .slice Ax nx cx, .slice Ay ny cy] 138)).alloc (.cells #[.bool fx, .slice Ax nx cx, .slice Ay ny cy] 138)) (w1.heap.size + 2) (some ⟨w1.heap.size + 1, 0, none⟩) [.bool fx, .slice Ax nx cx, .slice Ay ny cy]) := by
       have := Rd.new (w1.alloc (.cells #[.bool fx, .slice Ax nx cx, .slice Ay ny cy] 138)) #[.bool fx, .slice Ax nx cx, .slice Ay ny cy] 138
       rw [dA] at this
       exact Lib.hid this
      have HO2 := Lib.hid ((bT (w1.alloc (.cells #[.bool fx, .slice Ax nx cx, .slice Ay ny cy] 138)) (.cells #[.bool fx, .slice Ax nx cx, .slice Ay ny cy] 138) (w.heap.size + 1) (by rw [dA]; omega)).trans ((bT w1 _ _ (by omega)).trans ho1))
      by_cases hck : cr = k
      ·
       have HCUT1 : Hid (IsB w (.slice (some ⟨br, orr, none⟩) (t1.length + 1 - k) 0) ((c1 :: t1).drop k)) := by
        have h6 : t1.length + 1 - k = 0 := by omega
        have h7 : (c1 :: t1).drop k = [] := Xt (by rw [WS]; omega)
        rw [h6, h7]
        exact Lib.hid ⟨_, 0, rfl, by simp, by simp [maxLen], Rd.nil⟩
       go_wp2_with (at_builtin; refine bn (.tmp 105) (.tmp 107) 136 jF (base := w.heap.size + 2) _ done.length rows.flatten _ 1 1 (w1.heap.size + 2) [.bool fx, .slice Ax nx cx, .slice Ay ny cy] rfl rfl rfl rfl HOW.out HRD.out rfl (by simp [Value.oneCell']) (by simp only [maxLen]; omega) (by omega) (by simp; omega) ?_; intro A5 c5 w5 hown5 hg5 hbk5; have ho5 : w5.heap[w.heap.size + 1]? = some (.cells #[.bool true, .slice none 0 0, .slice A' done.length c'] 138 (0, 0)) := (hg5.block _ (by simp; omega) (fun e => by have := bP HOWN.out _ e.symm; omega)).trans HO2.out; have e5 : w5.cell? ⟨w.heap.size + 1, 2, none⟩ = some (.slice A' done.length c') := (by rw [cell_of_row w5 _ _ _ _ (0, 0) ho5]; rfl); have f5 := frozen_of_row w5 (w.heap.size + 1) 2 _ _ ho5; have HOWN5 := Lib.hid hown5; have HG5 := Lib.hid hg5; have HBK5 := Lib.hid hbk5; have HO5 := Lib.hid ho5; clear hown5 hg5 hbk5 ho5)
       go_roundw
       case rel =>
        obtain ⟨r1, r2, r3, r4, r5⟩ := jG (x := x) hsz Hg1.out HOWN.out HIT.out HIX.out HG5.out HOWN5.out HBK5.out HO5.out HB.out
        refine ⟨done ++ [x], (c1 :: t1).drop k, f, A5, c5, rows ++ [[.bool fx, .slice Ax nx cx, .slice Ay ny cy]], HCUT1.out, by rw [W9, WS]; omega, by rw [W9, WS]; omega, by rw [W9, WS, List.length_append, List.length_singleton]; omega, ?_, r1, r2, r3, r4, r5⟩
        rw [HPL.out, HPL1.out]
        cases bI (parse m) f ((c1 :: t1).drop k) with
        | error e => rfl
        | ok ys => simp
       case measure => simp; omega
      ·
       have HCUT1 : Hid (IsB w (.slice (some ⟨br, orr + k, none⟩) (t1.length + 1 - k) (cr - k)) ((c1 :: t1).drop k)) := Lib.hid (qI k HRR.out (by rw [WS]) hr1 hr2'.out hk1 hck)
       go_wp2_with (at_builtin; refine bn (.tmp 105) (.tmp 107) 136 jF (base := w.heap.size + 2) _ done.length rows.flatten _ 1 1 (w1.heap.size + 2) [.bool fx, .slice Ax nx cx, .slice Ay ny cy] rfl rfl rfl rfl HOW.out HRD.out rfl (by simp [Value.oneCell']) (by simp only [maxLen]; omega) (by omega) (by simp; omega) ?_; intro A5 c5 w5 hown5 hg5 hbk5; have ho5 : w5.heap[w.heap.size + 1]? = some (.cells #[.bool true, .slice none 0 0, .slice A' done.length c'] 138 (0, 0)) := (hg5.block _ (by simp; omega) (fun e => by have := bP HOWN.out _ e.symm; omega)).trans HO2.out; have e5 : w5.cell? ⟨w.heap.size + 1, 2, none⟩ = some (.slice A' done.length c') := (by rw [cell_of_row w5 _ _ _ _ (0, 0) ho5]; rfl); have f5 := frozen_of_row w5 (w.heap.size + 1) 2 _ _ ho5; have HOWN5 := Lib.hid hown5; have HG5 := Lib.hid hg5; have HBK5 := Lib.hid hbk5; have HO5 := Lib.hid ho5; clear hown5 hg5 hbk5 ho5)
       go_roundw
       case rel =>
        obtain ⟨r1, r2, r3, r4, r5⟩ := jG (x := x) hsz Hg1.out HOWN.out HIT.out HIX.out HG5.out HOWN5.out HBK5.out HO5.out HB.out
        refine ⟨done ++ [x], (c1 :: t1).drop k, f, A5, c5, rows ++ [[.bool fx, .slice Ax nx cx, .slice Ay ny cy]], HCUT1.out, by rw [W9, WS]; omega, by rw [W9, WS]; omega, by rw [W9, WS, List.length_append, List.length_singleton]; omega, ?_, r1, r2, r3, r4, r5⟩
        rw [HPL.out, HPL1.out]
        cases bI (parse m) f ((c1 :: t1).drop k) with
        | error e => rfl
        | ok ys => simp
       case measure => simp; omega
theorem Ls (v : Value) (c : UInt8) (t : List UInt8) (w : World) (h : IsB w v (c :: t)) (h1 : ¬ c < 128) (h2 : ¬ c < 192) : Calls Tryz.prog 158 #[v, .int .i64 32] w (Ret (bW w.heap.size 0 (c :: t)) w) := by
 have h3 : 192 ≤ c.toNat := Yw.1 fun e => h2 (Xe.2 e)
 obtain ⟨A, cp, rfl, hc1, hc2, hr⟩ := h
 obtain ⟨bl, o, rfl, hbl, hcell⟩ := hr (by simp [bvs])
 have e0 := hcell 0 (bv c) rfl
 rw [XI] at e0
 unfold bv at e0
 have HP := Lib.hid (show parse 0 (c :: t) = .error 3 by rw [show parse 0 = ql none from rfl, gI, if_neg h1, if_neg h2])
 unfold maxLen at hc2
 simp only [WS] at hc1 ⊢
 clear hcell hr h1 h2
 go_enter Tryz.func158, Tryz.ntmps158
 go_wp2_with fail
 exact bodyPost_ret (aN rfl _ _ w.heap.size #[.bool false, .slice none 0 0, .slice none 0 0] rfl (heap_alloc_new w _) rfl) rfl ⟨_, rfl, au w _, kC HP.out rfl⟩
theorem EW : ∀ (m d : Nat), d + m = 32 → ∀ (b : List UInt8) (v : Value) (w : World), IsB w v b → b.length ≤ 16777216 → Calls Tryz.prog 158 #[v, .int .i64 d] w (Ret (bW w.heap.size m b) w)
 | m, d, hd, [], v, w, h, hl => OC m d v w h
 | m, d, hd, c :: t, v, w, h, hl => by
  by_cases h1 : c < 128
  · exact Lu m d v c t w h h1
  ·
   by_cases h2 : c < 192
   · exact Lp m d v c t w h (by simp at hl; omega) h1 h2
   ·
    match m, hd with
    | 0, hd =>
     obtain rfl : d = 32 := by omega
     exact Ls v c t w h h1 h2
    | m + 1, hd =>
     refine Lr m d hd (fun b v w hb hl => ?_) v c t w h (by simp at hl; omega) h1 h2
     have := EW m (d + 1) (by omega) b v w hb hl
     exact this
def ni (B m : Nat) (b : List UInt8) : VP := fun v w => match parse m b with
 | .ok (x, n) => ∃ vi, v = .tuple #[vi, .int .i64 (n : Int), .int .i64 0] ∧ jk (fun k => B ≤ k ∧ k < w.heap.size) w vi x
 | .error e => v = .tuple #[nN, .int .i64 0, .int .i64 (e : Int)]
theorem ou {B m : Nat} {b : List UInt8} {x : Raw} {n : Nat} {v vi : Value} {w : World} (h : parse m b = .ok (x, n)) (hv : v = .tuple #[vi, .int .i64 (n : Int), .int .i64 0]) (hi : jk (fun k => B ≤ k ∧ k < w.heap.size) w vi x) : ni B m b v w := by unfold ni; rw [h]; exact ⟨vi, hv, hi⟩
theorem fG {B m : Nat} {b : List UInt8} {e : Nat} {v : Value} {w : World} (h : parse m b = .error e) (hv : v = .tuple #[nN, .int .i64 0, .int .i64 (e : Int)]) : ni B m b v w := by unfold ni; rw [h]; exact hv
abbrev dY : Array Value := #[.bool false, .slice none 0 0, .slice none 0 0]
theorem DY (c : UInt8) (t : List UInt8) (base k : Nat) (hk : c.toNat = base + k) : Rlp.hdr (c :: t) base = if k ≤ 55 then (if k ≤ t.length then some (1, k) else none)
   else if t.length + 1 < 1 + (k - 55) ∨ t.getD 0 0 = 0 then none
   else if val (t.take (k - 55)) > most then none
   else if 55 < val (t.take (k - 55)) ∧ val (t.take (k - 55)) ≤ t.length - (k - 55) then some (1 + (k - 55), val (t.take (k - 55))) else none := by
 unfold Rlp.hdr
 simp only [List.getD_cons_zero, WS, List.getD_cons_succ, WG, WM, Y2, hk, X6]
theorem OJ (m : Nat) (d : Int) (v : Value) (w : World) (h : IsB w v []) : Calls Tryz.prog 114 #[v, .int .i64 d] w (Ret (ni w.heap.size m []) w) := by
 obtain ⟨A, cp, rfl, hc1, hc2, hr⟩ := h
 clear hr
 have HP := Lib.hid (show parse m [] = .error 4 by cases m <;> rfl)
 go_enter Tryz.func114, Tryz.ntmps114
 go_wp2_with fail
 exact bodyPost_ret (aN rfl _ _ w.heap.size dY rfl (heap_alloc_new w _) rfl) rfl ⟨_, rfl, au w _, fG HP.out rfl⟩
theorem LZ (m : Nat) (d : Int) (v : Value) (c : UInt8) (t : List UInt8) (w : World) (h : IsB w v (c :: t)) (h1 : c < 128) : Calls Tryz.prog 114 #[v, .int .i64 d] w (Ret (ni w.heap.size m (c :: t)) w) := by
 obtain ⟨A, cp, rfl, hc1, hc2, hr⟩ := h
 obtain ⟨bl, o, rfl, hbl, hcell⟩ := hr (by simp [bvs])
 have e0 := hcell 0 (bv c) rfl
 rw [XI] at e0
 unfold bv at e0
 have h3 : c.toNat < 128 := Xe.1 h1
 have HP := Lib.hid (show parse m (c :: t) = .ok (.mk false [c] [], 1) by
  obtain ⟨p, hp, _⟩ := oZ m
  rw [hp, gI, if_pos h1])
 unfold maxLen at hc2
 simp only [WS] at hc1 ⊢
 clear hcell hr h1
 go_enter Tryz.func114, Tryz.ntmps114
 go_wp2_with fail
 refine bodyPost_ret (aN rfl _ _ w.heap.size #[.bool false, .slice (some ⟨w.heap.size + 1, 0, none⟩) 1 1, .slice none 0 0] rfl ((bT _ _ _ (by simp)).trans (heap_alloc_new w _)) rfl) rfl ⟨_, rfl, (au w _).trans (au _ _), ou HP.out rfl ?_⟩
 refine fZ ⟨_, 1, rfl, Nat.le_refl _, by simp [maxLen], fun _ => ⟨w.heap.size + 1, 0, rfl, ⟨by omega, by simp⟩, fun j u hu => ?_⟩⟩
 rw [Xj, cell_of_row _ _ _ _ _ (0, 0) (rJ _ _ _ (by simp)), ← hu]
 simp [bvs, bv]
theorem LW (m : Nat) (v : Value) (c : UInt8) (t : List UInt8) (w : World) (h : IsB w v (c :: t)) (hl : t.length ≤ 16777215) (k : Nat) (hk : c.toNat = 128 + k) (hk2 : k < 64) (hm : m ≤ 32) : Calls Tryz.prog 114 #[v, .int .i64 m] w (Ret (ni w.heap.size m (c :: t)) w) := by
 obtain ⟨A, cp, rfl, hc1, hc2, hr⟩ := h
 obtain ⟨bl, o, rfl, hbl, hcell⟩ := hr (by simp [bvs])
 have HR := Lib.hid hr
 have e0 := hcell 0 (bv c) rfl
 rw [XI] at e0
 unfold bv at e0
 rw [show (c.toNat : Int) = 128 + (k : Int) by omega] at e0
 have HC : Hid (∀ j (hj : j < (c :: t).length), w.cell? ⟨bl, o + j, none⟩ = some (.int .u8 ((c :: t)[j].toNat : Int))) := Lib.hid fun j hj => hcell j _ (mg (c :: t) j hj)
 have hand : bits .and .i64 (128 + (k : Int)) 63 = (k : Int) := by rw [BX]; omega
 have HP : Hid (parse m (c :: t) = match Rlp.hdr (c :: t) 128 with
   | none => .error 4
   | some (h, n) => if n = 1 ∧ (c :: t).getD h 0 < 128 then .error 4 else .ok (.mk false (((c :: t).drop h).take n) [], h + n)) := by
  refine Lib.hid ?_
  obtain ⟨p, hp, _⟩ := oZ m
  rw [hp, gI, if_neg (fun e => by have := Xe.1 e; have h128 : (128 : UInt8).toNat = 128 := rfl; omega), if_pos (Xe.2 (by have h192 : (192 : UInt8).toNat = 192 := rfl; omega))]
  cases Rlp.hdr (c :: t) 128 <;> rfl
 have HN : Hid (Rlp.hdr (c :: t) 128 = none → parse m (c :: t) = .error 4) := Lib.hid fun e => by rw [HP.out, e]
 have hcm := Lib.hid hc2
 unfold maxLen at hc2
 simp only [WS] at hc1 ⊢
 clear hcell hr
 go_enter Tryz.func114, Tryz.ntmps114
 go_upto_if 44 with (fail)
 go_cut [9, 10] (fun s9 s10 wx => ∃ h n : Nat, s9 = .int .i64 n ∧ s10 = .int .i64 h ∧ 0 < h ∧ h ≤ t.length + 1 ∧ n ≤ 4294967551 ∧ wx = w.alloc (.cells dY 138) ∧ ((h + n ≤ t.length + 1 ∧ Rlp.hdr (c :: t) 128 = some (h, n)) ∨ (t.length + 1 < h + n ∧ Rlp.hdr (c :: t) 128 = none)))
 case first =>
  by_cases h55 : k ≤ 55
  ·
   have HH : Hid ((1 + k ≤ t.length + 1 ∧ Rlp.hdr (c :: t) 128 = some (1, k)) ∨ (t.length + 1 < 1 + k ∧ Rlp.hdr (c :: t) 128 = none)) := by
    refine Lib.hid ?_
    rw [DY c t 128 k hk, if_pos h55]
    by_cases h6 : k ≤ t.length
    · rw [if_pos h6]; exact .inl ⟨by omega, rfl⟩
    · rw [if_neg h6]; exact .inr ⟨by omega, rfl⟩
   go_wp2_with fail
   go_meet
   exact ⟨1, k, rfl, rfl, by omega, by omega, by omega, rfl, HH.out⟩
  ·
   obtain ⟨q, rfl⟩ : ∃ q : Nat, k = 55 + q := ⟨k - 55, by omega⟩
   have hq1 : 1 ≤ q := by omega
   have hkk : ((55 + q : Nat) : Int) = 55 + (q : Int) := by simp
   rw [hkk] at e0 hand ⊢
   have HD := Lib.hid (DY c t 128 (55 + q) hk)
   simp only [X6] at HD
   have hqq : (55 : Int) + q - 55 = q := by omega
   clear hkk h55 hk
   by_cases h4 : t.length < q
   ·
    have HE := Lib.hid (HN.out (by rw [HD.out, if_neg (by omega), if_pos (.inl (by omega))]))
    go_wp2_with fail
    exact bodyPost_ret (aN rfl _ _ w.heap.size dY rfl (heap_alloc_new w _) rfl) rfl ⟨_, rfl, au w _, fG HE.out rfl⟩
   ·
    have h0t : 0 < t.length := by omega
    have e1 := HC.out 1 (by simp; omega)
    have hx0 := jh (t[0]'h0t)
    have he1 : (c :: t)[1]'(by simp; omega) = t[0]'h0t := rfl
    rw [he1] at e1
    have hgd : t.getD 0 0 = t[0]'h0t := by rw [List.getD_eq_getElem?_getD, List.getElem?_eq_getElem h0t]; rfl
    clear he1
    by_cases h5 : t[0]'h0t = 0
    ·
     have HE := Lib.hid (HN.out (by rw [HD.out, if_neg (by omega), if_pos (.inr (by rw [hgd, h5]))]))
     rw [h5] at e1
     have e1' : w.cell? ⟨bl, o + 1, none⟩ = some (.int .u8 0) := e1
     clear e1 hgd h5 hx0
     go_wp2_with fail
     exact bodyPost_ret (aN rfl _ _ w.heap.size dY rfl (heap_alloc_new w _) rfl) rfl ⟨_, rfl, au w _, fG HE.out rfl⟩
    ·
     have h7 : 0 < (t[0]'h0t).toNat := by
      rcases Ya (t[0]'h0t).toNat with h0 | h0
      · exact absurd (XR.1 (by rw [h0]; rfl)) h5
      · exact h0
     have h8 : (((t[0]'h0t).toNat : Int) == 0) = false := by simp; omega
     have HH : Hid (Rlp.hdr (c :: t) 128 = if val (t.take q) > most then none else if 55 < val (t.take q) ∧ val (t.take q) ≤ t.length - q then some (1 + q, val (t.take q)) else none) := by
      refine Lib.hid ?_
      rw [HD.out, if_neg (by omega), if_neg ?_]
      rintro (h | h)
      · omega
      ·
       rw [hgd] at h
       exact h5 h
     clear HD h5 hgd
     generalize (t[0]'h0t).toNat = x0 at e1 hx0 h7 h8
     go_wp2_with fail
     clear e1 h8
     try simp only [hqq]
     go_loopw [9, 12] (fun nv i wr => ∃ j : Nat, j ≤ q ∧ i = .int .i64 j ∧ nv = .int .i64 (val (t.take j) : Nat) ∧ val (t.take j) ≤ 4294967551 ∧ wr = w.alloc (.cells dY 138)) (fun _ i _ => q - (intOf i).toNat)
     case atStart => exact ⟨0, by omega, rfl, rfl, by simp [val], rfl⟩
     case round =>
      obtain ⟨j, hj, rfl, rfl, hv, rfl⟩ := hrel
      by_cases h9 : j < q
      ·
       have hmm := xZ t j q (by omega)
       by_cases h10 : val (t.take j) ≤ 16777216
       ·
        have e2 := HC.out (1 + j) (by simp; omega)
        have hjt : j < t.length := by omega
        have he2 : (c :: t)[1 + j]'(by simp; omega) = t[j]'hjt := by simp [Nat.add_comm 1 j]
        rw [he2] at e2
        have hxl := jh (t[j]'hjt)
        have HV := Lib.hid (nO t j hjt)
        clear he2
        generalize (t[j]'hjt).toNat = x at e2 hxl HV
        have hjj := zx (val (t.take j)) x h10 hxl
        generalize val (t.take j) = n at HV hjj hmm hv h10 ⊢
        go_wp2_with fail
        go_roundw
        case rel => exact ⟨j + 1, by omega, by go_num, by rw [HV.out]; go_num, by rw [HV.out]; omega, trivial⟩
        case measure => simp [intOf]; omega
       ·
        have HE := Lib.hid (HN.out (by rw [HH.out, if_pos (by simp only [most]; omega)]))
        have h11 : 16777216 < val (t.take j) := by omega
        generalize val (t.take j) = n at hmm hv h11 ⊢
        clear h10
        go_wp2_with fail
        exact bodyPost_ret (aN rfl _ _ w.heap.size dY rfl (heap_alloc_new w _) rfl) rfl ⟨_, rfl, au w _, fG HE.out rfl⟩
      ·
       have h10 : q ≤ j := by omega
       have h11 : t.take j = t.take q := by rw [show j = q by omega]
       rw [h11] at hv ⊢
       generalize val (t.take q) = n at HH hv ⊢
       clear h9 h11
       by_cases h12 : n < 56
       ·
        have HE := Lib.hid (HN.out (by rw [HH.out, if_neg (by simp only [most]; omega), if_neg (by omega)]))
        go_wp2_with fail
        exact bodyPost_ret (aN rfl _ _ w.heap.size dY rfl (heap_alloc_new w _) rfl) rfl ⟨_, rfl, au w _, fG HE.out rfl⟩
       ·
        have h13 : 56 ≤ n := by omega
        clear h12
        go_wp2_with fail
        go_meet
        refine ⟨1 + q, n, rfl, by go_num, by omega, by omega, by omega, rfl, ?_⟩
        by_cases h14 : 1 + q + n ≤ t.length + 1
        · exact .inl ⟨h14, by rw [HH.out, if_neg (by simp only [most]; omega), if_pos ⟨by omega, by omega⟩]⟩
        ·
         refine .inr ⟨by omega, ?_⟩
         rw [HH.out]
         split
         · rfl
         · rw [if_neg (by omega)]
 case rest =>
  obtain ⟨h, n, rfl, rfl, hh0, hh1, hn, rfl, hcase⟩ := hcut
  rcases hcase with ⟨hle, HS⟩ | ⟨hgt, HS⟩
  ·
   obtain ⟨L, hL⟩ : ∃ L : List UInt8, L = ((c :: t).drop h).take n := ⟨_, rfl⟩
   have hLn : L.length = n := by rw [hL, Xi, W9]; simp only [WS]; omega
   have HP2 := Lib.hid (show parse m (c :: t) = if n = 1 ∧ (c :: t).getD h 0 < 128 then .error 4 else .ok (.mk false L [], h + n) by rw [HP.out, HS, hL])
   have hcase : (∃ hch : cp = h, Hid (IsB w (.slice (some ⟨bl, o, none⟩) n 0) L)) ∨ (∃ hch : cp ≠ h, Hid (IsB w (.slice (some ⟨bl, o + h, none⟩) n (cp - h)) L)) := by
    by_cases hch : cp = h
    ·
     refine .inl ⟨hch, Lib.hid ?_⟩
     have hn0 : n = 0 := by omega
     have h5 : L = [] := XF (by rw [hLn, hn0])
     rw [h5, hn0]
     exact ⟨_, 0, rfl, Nat.le_refl _, by simp [maxLen], Rd.nil⟩
    ·
     refine .inr ⟨hch, Lib.hid ?_⟩
     rw [hL]
     exact qm w bl o (c :: t) h n cp HR.out (by simpa using hle) (by simpa using hc1) hcm.out hch
   clear HP HS HN hL
   subst hLn
   have hnn : h + L.length - h = L.length := by omega
   have hnn2 : (h : Int) + (L.length : Int) - h = L.length := by omega
   by_cases hn1 : L.length = 1
   ·
    have hn2 : ((L.length : Int) == 1) = true := by simp; omega
    obtain ⟨hch, HCUT⟩ := hcase.resolve_left (fun hx => by obtain ⟨h1, _⟩ := hx; omega)
    obtain ⟨_, _, hv, _, _, hrd⟩ := HCUT.out
    injection hv with hv1 _ hv2
    subst hv1 hv2
    obtain ⟨_, _, hv3, _, hcx⟩ := hrd (fun e => by have := congrArg List.length e; rw [bJ] at this; simp at this; rw [this] at hn1; simp at hn1)
    injection hv3 with hv3
    injection hv3 with hv4 hv5
    subst hv4 hv5
    have h0L : 0 < L.length := by omega
    have ex := hcx 0 (bv L[0]) (mg L 0 h0L)
    rw [XI] at ex
    unfold bv at ex
    have hxl := jh L[0]
    have hgx : (c :: t).getD h 0 = L[0] := by
     have h1 := HC.out h (by simp; omega)
     rw [h1] at ex
     injection ex with ex
     injection ex with _ ex
     rw [List.getD_eq_getElem?_getD, List.getElem?_eq_getElem (by simp; omega)]
     exact XR.1 (by exact_mod_cast ex)
    rw [hgx] at HP2
    have HRC := Lib.hid (hrd.below ((Below.refl _ w).alloc (Nat.le_refl _) (.cells dY 138)))
    clear hcx hrd hgx hcase
    have HN1 := Lib.hid hn1
    by_cases h128 : L[0] < 128
    ·
     have HE := Lib.hid (show parse m (c :: t) = .error 4 by rw [HP2.out, if_pos ⟨hn1, h128⟩])
     have h5 : (L[0]).toNat < 128 := Xe.1 h128
     clear HP2 h128 hn1
     generalize (L[0]).toNat = xn at ex hxl h5
     go_wp2_with fail
     exact bodyPost_ret (aN rfl _ _ w.heap.size dY rfl (heap_alloc_new w _) rfl) rfl ⟨_, rfl, au w _, fG HE.out rfl⟩
    ·
     have HP3 := Lib.hid (show parse m (c :: t) = .ok (.mk false L [], h + L.length) by rw [HP2.out, if_neg (fun e => h128 e.2)])
     have h5 : 128 ≤ (L[0]).toNat := Yw.1 fun e => h128 (Xe.2 e)
     clear HP2 h128 hn1
     generalize (L[0]).toNat = xn at ex hxl h5
     go_wp2_with first
      | (at_builtin; rw [hnn]; refine bn (.const (.slice none 0 0)) (.tmp 105) 38 cu (base := w.heap.size + 1) _ 0 [] _ L.length _ _ (bvs L) rfl rfl rfl rfl (OwnB.nil _ _) HRC.out (by simp [bvs]) (dR _) (by simp only [maxLen]; omega) (by omega) (by simp) ?_; intro A2 c2 w2 hown2 hg2 _; rw [Xj, WJ] at hown2; rw [Xj]; have hgg : Below (w.heap.size + 1) (w.alloc (.cells dY 138)) w2 := (Below.refl _ _).grown hg2 (by simp) (fun j hj => by cases hj); have hz : w2.heap[w.heap.size]? = some (.cells dY 138 (0, 0)) := (hgg.block _ (by omega)).trans (heap_alloc_new w _); have HO2 := Lib.hid hown2; have HG2 := Lib.hid hgg; have HZ := Lib.hid hz; clear hown2 hg2 hgg hz)
      | refine wpList_store_row rfl 138 (.tmp 4) (.tmp 107) rfl w.heap.size #[.bool false, .slice A2 L.length c2, .slice none 0 0] rfl rfl 138 _ HZ.out (dw _ rfl) rfl (by simp [Value.oneCell']) ?_
     refine bodyPost_ret (aN rfl _ _ w.heap.size _ rfl (aS _ _ _ _ _ HZ.out) rfl) rfl ⟨_, rfl, bQ ((au w _).trans (HG2.out.mono (by simp))) _ _ (Nat.le_refl _), ou (vi := .agg #[.bool false, .slice A2 L.length c2, .slice none 0 0]) HP3.out (by simp) ?_⟩
     refine fZ ((nI (l := L) (base := w.heap.size + 1) HO2.out).mono (fun b hb => ⟨?_, ?_⟩) (fun p hp => dU ?_))
     ·
      have := hb.1
      omega
     ·
      have := hb.2
      rw [size_setRow]
      exact this
     ·
      have := hp.1
      omega
   ·
    have HP3 := Lib.hid (show parse m (c :: t) = .ok (.mk false L [], h + L.length) by rw [HP2.out, if_neg (fun e => hn1 e.1)])
    have hn2 : ((L.length : Int) == 1) = false := by simp; omega
    clear HP2 hn1
    rcases hcase with ⟨hch, HCUT⟩ | ⟨hch, HCUT⟩
    ·
     obtain ⟨_, _, hv, _, _, hrd⟩ := HCUT.out
     injection hv with hv1 _ hv2
     subst hv1 hv2
     have HRC := Lib.hid (hrd.below ((Below.refl _ w).alloc (Nat.le_refl _) (.cells dY 138)))
     clear hrd
     go_wp2_with first
      | (at_builtin; rw [hnn]; refine bn (.const (.slice none 0 0)) (.tmp 105) 38 cu (base := w.heap.size + 1) _ 0 [] _ L.length _ _ (bvs L) rfl rfl rfl rfl (OwnB.nil _ _) HRC.out (by simp [bvs]) (dR _) (by simp only [maxLen]; omega) (by omega) (by simp) ?_; intro A2 c2 w2 hown2 hg2 _; rw [Xj, WJ] at hown2; rw [Xj]; have hgg : Below (w.heap.size + 1) (w.alloc (.cells dY 138)) w2 := (Below.refl _ _).grown hg2 (by simp) (fun j hj => by cases hj); have hz : w2.heap[w.heap.size]? = some (.cells dY 138 (0, 0)) := (hgg.block _ (by omega)).trans (heap_alloc_new w _); have HO2 := Lib.hid hown2; have HG2 := Lib.hid hgg; have HZ := Lib.hid hz; clear hown2 hg2 hgg hz)
      | refine wpList_store_row rfl 138 (.tmp 4) (.tmp 107) rfl w.heap.size #[.bool false, .slice A2 L.length c2, .slice none 0 0] rfl rfl 138 _ HZ.out (dw _ rfl) rfl (by simp [Value.oneCell']) ?_
     refine bodyPost_ret (aN rfl _ _ w.heap.size _ rfl (aS _ _ _ _ _ HZ.out) rfl) rfl ⟨_, rfl, bQ ((au w _).trans (HG2.out.mono (by simp))) _ _ (Nat.le_refl _), ou (vi := .agg #[.bool false, .slice A2 L.length c2, .slice none 0 0]) HP3.out (by simp) ?_⟩
     refine fZ ((nI (l := L) (base := w.heap.size + 1) HO2.out).mono (fun b hb => ⟨?_, ?_⟩) (fun p hp => dU ?_))
     ·
      have := hb.1
      omega
     ·
      have := hb.2
      rw [size_setRow]
      exact this
     ·
      have := hp.1
      omega
    ·
     obtain ⟨_, _, hv, _, _, hrd⟩ := HCUT.out
     injection hv with hv1 _ hv2
     subst hv1 hv2
     have HRC := Lib.hid (hrd.below ((Below.refl _ w).alloc (Nat.le_refl _) (.cells dY 138)))
     clear hrd
     go_wp2_with first
      | (at_builtin; rw [hnn]; refine bn (.const (.slice none 0 0)) (.tmp 105) 38 cu (base := w.heap.size + 1) _ 0 [] _ L.length _ _ (bvs L) rfl rfl rfl rfl (OwnB.nil _ _) HRC.out (by simp [bvs]) (dR _) (by simp only [maxLen]; omega) (by omega) (by simp) ?_; intro A2 c2 w2 hown2 hg2 _; rw [Xj, WJ] at hown2; rw [Xj]; have hgg : Below (w.heap.size + 1) (w.alloc (.cells dY 138)) w2 := (Below.refl _ _).grown hg2 (by simp) (fun j hj => by cases hj); have hz : w2.heap[w.heap.size]? = some (.cells dY 138 (0, 0)) := (hgg.block _ (by omega)).trans (heap_alloc_new w _); have HO2 := Lib.hid hown2; have HG2 := Lib.hid hgg; have HZ := Lib.hid hz; clear hown2 hg2 hgg hz)
      | refine wpList_store_row rfl 138 (.tmp 4) (.tmp 107) rfl w.heap.size #[.bool false, .slice A2 L.length c2, .slice none 0 0] rfl rfl 138 _ HZ.out (dw _ rfl) rfl (by simp [Value.oneCell']) ?_
     refine bodyPost_ret (aN rfl _ _ w.heap.size _ rfl (aS _ _ _ _ _ HZ.out) rfl) rfl ⟨_, rfl, bQ ((au w _).trans (HG2.out.mono (by simp))) _ _ (Nat.le_refl _), ou (vi := .agg #[.bool false, .slice A2 L.length c2, .slice none 0 0]) HP3.out (by simp) ?_⟩
     refine fZ ((nI (l := L) (base := w.heap.size + 1) HO2.out).mono (fun b hb => ⟨?_, ?_⟩) (fun p hp => dU ?_))
     ·
      have := hb.1
      omega
     ·
      have := hb.2
      rw [size_setRow]
      exact this
     ·
      have := hp.1
      omega
  ·
   have HE := Lib.hid (HN.out HS)
   clear HP
   go_wp2_with fail
   exact bodyPost_ret (aN rfl _ _ w.heap.size dY rfl (heap_alloc_new w _) rfl) rfl ⟨_, rfl, au w _, fG HE.out rfl⟩
end Go.Proofs.YtelbhdobjdnglaaGreat
