/-
 Merged (wip/tools/merge.py): RlpReadL, RefPart, RefPartL, Reads, EItR.
 Conditions: none.
-/
import Derived.Test.YtiledgojbpmoiaaGreatZR21
import Derived.Deep.DeepCutAuto
import Derived.Test.YtiledgojbpmoiaaGreatZR14
namespace Go.Proofs.YtiledgojbpmoiaaGreat
set_option linter.unusedVariables false
set_option maxRecDepth 20000
set_option maxHeartbeats 8000000
open Go.RowKit Mono Rlp
def okL (B gOut : Nat) (v : Value) (sz : Nat) : Nat → Prop := fun b => B ≤ b ∧ b < sz ∧ b ≠ gOut ∧ v.ownBlock ≠ some b
theorem vk : ∀ (m : Nat) (b : List UInt8) (e : Nat), parse m b = .error e → e = 3 ∨ e = 4 := by
 have hL : ∀ (p : List UInt8 → Except Nat (Raw × Nat)), (∀ b e, p b = .error e → e = 3 ∨ e = 4) → ∀ (f : Nat) (b : List UInt8) (e : Nat), dK p f b = .error e → e = 3 ∨ e = 4 := by
  intro p hp f
  induction f with
  | zero =>
   intro b e h
   cases b with
   | nil => unfold dK at h; cases h
   | cons c b => unfold dK at h; cases h; exact .inr rfl
  | succ f ih =>
   intro b e h
   cases b with
   | nil => unfold dK at h; cases h
   | cons c b =>
    unfold dK at h
    split at h
    ·
     rename_i e' he
     cases h
     exact hp _ _ he
    ·
     split at h
     ·
      rename_i e' he
      cases h
      exact ih _ _ he
     · cases h
 have hS : ∀ (p : Option (List UInt8 → Except Nat (Raw × Nat))), (∀ q, p = some q → ∀ b e, q b = .error e → e = 3 ∨ e = 4) → ∀ (b : List UInt8) (e : Nat), rM p b = .error e → e = 3 ∨ e = 4 := by
  intro p hp b e h
  cases b with
  | nil => cases h; exact .inr rfl
  | cons c t =>
   rw [iH] at h
   split at h
   · cases h
   ·
    split at h
    ·
     split at h
     · cases h; exact .inr rfl
     ·
      split at h
      · cases h; exact .inr rfl
      · cases h
    ·
     cases p with
     | none => cases h; exact .inl rfl
     | some p =>
      dsimp only at h
      split at h
      · cases h; exact .inr rfl
      ·
       split at h
       ·
        rename_i e' he
        cases h
        exact hL p (hp p rfl) _ _ _ he
       · cases h
 intro m
 induction m with
 | zero => exact hS none (fun q e => by cases e)
 | succ m ih => exact hS (some (parse m)) (fun q e => by cases e; exact ih)
theorem qY {B0 : Nat} {w0 wr w1 w5 : World} {done : List Raw} {x : Raw} {A' A5 : Option Addr} {c' c5 : Nat} {rows : List (List Value)} {r : List Value} {a b : Obj} (hsz : B0 + 2 ≤ wr.heap.size) (hg1 : Gr wr w1)
  (hown : wr.ownsRow (B0 + 2) 157 3 (.slice A' done.length c') done.length rows.flatten) (hit : bI (okL (B0 + 2) (B0 + 1) (.slice A' done.length c') wr.heap.size) wr done rows)
  (hix : fJ (fun k => wr.heap.size ≤ k ∧ k < w1.heap.size) w1 x r) (hg5 : ((w1.alloc a).alloc b).grownBy w5 (Value.slice A' done.length c').ownBlock)
  (hown5 : w5.ownsRow (B0 + 2) 157 3 (.slice A5 (done.length + 1) c5) (done.length + 1) (rows.flatten ++ r))
  (hbk5 : (Value.slice A5 (done.length + 1) c5).ownBlock = (Value.slice A' done.length c').ownBlock ∨ (Value.slice A5 (done.length + 1) c5).ownBlock = some ((w1.alloc a).alloc b).heap.size)
  (ho5 : w5.heap[B0 + 1]? = some (.cells #[.bool true, .slice none 0 0, .slice A' done.length c'] 157 (0, 0))) (hb : Below (B0 + 1) w0 wr) :
  (w5.setCell ⟨B0 + 1, 2, none⟩ (.slice A5 (done.length + 1) c5)).heap[B0 + 1]? = some (.cells #[.bool true, .slice none 0 0, .slice A5 (done ++ [x]).length c5] 157 (0, 0)) ∧
  (w5.setCell ⟨B0 + 1, 2, none⟩ (.slice A5 (done.length + 1) c5)).ownsRow (B0 + 2) 157 3 (.slice A5 (done ++ [x]).length c5) (done ++ [x]).length (rows ++ [r]).flatten ∧
  bI (okL (B0 + 2) (B0 + 1) (.slice A5 (done ++ [x]).length c5) (w5.setCell ⟨B0 + 1, 2, none⟩ (.slice A5 (done.length + 1) c5)).heap.size) (w5.setCell ⟨B0 + 1, 2, none⟩ (.slice A5 (done.length + 1) c5)) (done ++ [x]) (rows ++ [r]) ∧
  B0 + 2 ≤ (w5.setCell ⟨B0 + 1, 2, none⟩ (.slice A5 (done.length + 1) c5)).heap.size ∧
  Below (B0 + 1) w0 (w5.setCell ⟨B0 + 1, 2, none⟩ (.slice A5 (done.length + 1) c5)) := by
 have hln : (done ++ [x]).length = done.length + 1 := by simp
 have hs1 := hg1.size
 have hs5 := hg5.size
 rw [eH, eH] at hs5
 rw [eH, eH] at hbk5
 have hnb : (Value.slice A5 (done.length + 1) c5).ownBlock ≠ some (B0 + 1) := fun e => by
  have := bZ hown5 _ e
  omega
 have hcell : ∀ p : Addr, p.block < w1.heap.size → p.block ≠ B0 + 1 → (Value.slice A' done.length c').ownBlock ≠ some p.block → (w5.setCell ⟨B0 + 1, 2, none⟩ (.slice A5 (done.length + 1) c5)).cell? p = w1.cell? p := fun p h1 h2 h3 => by
  rw [World.cell?_setCell_other w5 ⟨B0 + 1, 2, none⟩ p _ (fun e => h2 (by rw [← e]))]
  rw [World.cell?_of_block (hg5.block p.block (by rw [eH, eH]; omega) (fun e => h3 e.symm))]
  rw [World.cell?_alloc_lt _ _ _ (by rw [eH]; omega), World.cell?_alloc_lt _ _ _ h1]
 have hsz5 : (w5.setCell ⟨B0 + 1, 2, none⟩ (.slice A5 (done.length + 1) c5)).heap.size = w5.heap.size := by simp
 rw [hln, hsz5]
 refine ⟨?_, ?_, ?_, by omega, ?_⟩
 · exact heap_setCell_same w5 (B0 + 1) 2 _ _ _ ho5
 ·
  rw [List.flatten_append]
  simp only [List.flatten_cons, List.flatten_nil, List.append_nil]
  exact Ru hown5 hnb _
 ·
  refine bI.append done [x] rows [r] (bI.mono (fun k hk => ?_) (fun p hp => ?_) _ _ hit) ?_
  ·
   obtain ⟨h1, h2, h3, h4⟩ := hk
   refine ⟨h1, by omega, h3, fun e => ?_⟩
   rcases hbk5 with h5 | h5
   · exact h4 (h5 ▸ e)
   ·
    rw [h5] at e
    injection e with e
    omega
  ·
   obtain ⟨h1, h2, h3, h4⟩ := hp
   rw [hcell p (by omega) h3 h4]
   exact hg1.cell h2
  ·
   rw [bI]
   refine ⟨r, [], rfl, fJ.mono (fun k hk => ?_) (fun p hp => ?_) _ _ hix, by rw [bI]⟩
   ·
    obtain ⟨h1, h2⟩ := hk
    refine ⟨by omega, by omega, by omega, fun e => ?_⟩
    rcases hbk5 with h5 | h5
    ·
     rw [h5] at e
     have := (hown.lt k e).2
     omega
    ·
     rw [h5] at e
     injection e with e
     omega
   ·
    obtain ⟨h1, h2⟩ := hp
    refine hcell p h2 (by omega) fun e => ?_
    have := (hown.lt _ e).2
    omega
 ·
  refine Below.setCell ?_ (by dsimp only; omega) _
  refine (((hb.trans (hg1.mono (by omega))).alloc (by have := hb.size; omega) a).alloc (by rw [eH]; have := hb.size; omega) b).grown hg5 (by rw [eH, eH]; omega) fun j hj => ?_
  have := bZ hown j hj
  omega
theorem LU (m d : Nat) (hd : d + (m + 1) = 32) (ih : ∀ (b : List UInt8) (v : Value) (w : World), IsB w v b → b.length ≤ 16777216 → Calls Tryz.prog 177 #[v, .int .i64 ((d : Int) + 1)] w (Ret (bW w.heap.size m b) w))
  (v : Value) (c : UInt8) (t : List UInt8) (w : World) (h : IsB w v (c :: t)) (hl : t.length ≤ 16777215) (h1 : ¬ c < 128) (h2 : ¬ c < 192) : Calls Tryz.prog 177 #[v, .int .i64 d] w (Ret (bW w.heap.size (m + 1) (c :: t)) w) := by
 have IH := Lib.hid ih
 have h3 : 192 ≤ c.toNat := Nat.not_lt.1 fun e => h2 (UInt8.lt_iff_toNat_lt.2 e)
 have hcl := lC c
 have hlen := fun w0 hg => yE v c t 192 w0 (h.gr hg) (by omega) (by omega) h3 (by omega)
 have HL := Lib.hid hlen
 obtain ⟨A, cp, rfl, hc1, hc2, hr⟩ := h
 obtain ⟨bl, o, rfl, hbl, hcell⟩ := hr (by simp [bvs])
 have HR := Lib.hid hr
 have e0 := hcell 0 (bv c) rfl
 rw [Nat.add_zero] at e0
 unfold bv at e0
 have HP : Hid (parse (m + 1) (c :: t) = match Rlp.hdr (c :: t) 192 with
   | none => .error 4
   | some (h, n) => match dK (parse m) n (((c :: t).drop h).take n) with
    | .error e => .error e
    | .ok xs => .ok (.mk true [] xs, h + n)) := by
  refine Lib.hid ?_
  rw [show parse (m + 1) = rM (some (parse m)) from rfl, iH, if_neg h1, if_neg h2]
  cases Rlp.hdr (c :: t) 192 <;> rfl
 have hspec := fun (h n : Nat) (hh : Rlp.hdr (c :: t) 192 = some (h, n)) => uG hh (by simp) (by simpa using h3) (by omega) (by simp; omega)
 have HS := Lib.hid hspec
 have hcm := Lib.hid hc2
 have hdd : ((d : Int) == 32) = false := by simp; omega
 have k1 : decide ((c.toNat : Int) < 128) = false := by simp; omega
 have k2 : decide ((c.toNat : Int) < 192) = false := by simp; omega
 unfold maxLen at hc2
 simp only [List.length_cons] at hc1 HL ⊢
 clear hcell hr h1 h2 hlen hspec ih
 go_enter Tryz.func177, Tryz.ntmps177
 go_wp2_with fail
 refine (HL.out _ (aB w _)).mono ?_
 rintro e _ ⟨rfl, v1, rfl, hv1⟩
 unfold Jq at hv1
 clear HL
 cases hh : Rlp.hdr (c :: t) 192 with
 | none =>
  rw [hh] at hv1 HP
  obtain ⟨x, y, rfl⟩ := hv1
  clear hh HS
  go_wp2_with fail
  exact bodyPost_ret (dU rfl _ _ w.heap.size #[.bool false, .slice none 0 0, .slice none 0 0] rfl (heap_alloc_new w _) rfl) rfl ⟨_, rfl, aB w _, kH HP.out rfl⟩
 | some hn =>
  obtain ⟨h, n⟩ := hn
  rw [hh] at hv1 HP
  dsimp only at hv1
  subst hv1
  obtain ⟨_, s1, s2, s3⟩ := HS.out h n hh
  simp only [List.length_cons] at s1 s3
  clear hh HS
  obtain ⟨L, hL⟩ : ∃ L : List UInt8, L = ((c :: t).drop h).take n := ⟨_, rfl⟩
  have hLn : L.length = n := by rw [hL, List.length_take, List.length_drop]; simp only [List.length_cons]; omega
  have HP2 := Lib.hid (show parse (m + 1) (c :: t) = match dK (parse m) n L with | .error e => .error e | .ok xs => .ok (.mk true [] xs, h + n) by rw [HP.out, hL])
  clear HP
  have HLN := Lib.hid hLn
  have HLL := Lib.hid hL
  clear hL hLn
  have hLc : L.length ≤ 16777216 := by have := HLN.out; omega
  have hcase : (∃ hch : cp = h, Hid (IsB w (.slice (some ⟨bl, o, none⟩) n 0) L)) ∨ (∃ hch : cp ≠ h, Hid (IsB w (.slice (some ⟨bl, o + h, none⟩) n (cp - h)) L)) := by
   by_cases hch : cp = h
   ·
    refine .inl ⟨hch, Lib.hid ?_⟩
    have hn0 : n = 0 := by omega
    have h5 : L = [] := List.eq_nil_of_length_eq_zero (by rw [HLN.out, hn0])
    rw [h5, hn0]
    exact ⟨_, 0, rfl, Nat.le_refl _, by simp [maxLen], Rd.nil⟩
   ·
    refine .inr ⟨hch, Lib.hid ?_⟩
    rw [HLL.out]
    exact yu w bl o (c :: t) h n cp HR.out s1 hc1 hcm.out hch
  rcases hcase with ⟨hch, HCUT⟩ | ⟨hch, HCUT⟩
  ·
   go_wp2_with fail
   simp only [Nat.add_sub_cancel_left]
   generalize Value.slice (some ⟨bl, o, none⟩) n 0 = v14 at HCUT ⊢
   clear hch
   go_loopw [14] (fun rv wr => ∃ (done : List Raw) (rest : List UInt8) (f : Nat) (A' : Option Addr) (c' : Nat) (rows : List (List Value)), IsB w rv rest ∧ rest.length ≤ f ∧ rest.length ≤ 16777216 ∧ done.length + rest.length ≤ 16777216 ∧
    dK (parse m) n L = (match dK (parse m) f rest with | .error e => .error e | .ok ys => .ok (done ++ ys)) ∧
    wr.heap[w.heap.size + 1]? = some (.cells #[.bool true, .slice none 0 0, .slice A' done.length c'] 157 (0, 0)) ∧
    wr.ownsRow (w.heap.size + 2) 157 3 (.slice A' done.length c') done.length rows.flatten ∧
    bI (okL (w.heap.size + 2) (w.heap.size + 1) (.slice A' done.length c') wr.heap.size) wr done rows ∧
    w.heap.size + 2 ≤ wr.heap.size ∧ Below (w.heap.size + 1) (w.alloc (.cells #[.bool false, .slice none 0 0, .slice none 0 0] 157)) wr)
    (fun rv _ => match rv with | .slice _ k _ => k | _ => 0)
   case atStart =>
    refine ⟨[], L, n, none, 0, [], HCUT.out, by rw [HLN.out]; exact Nat.le_refl _, hLc, by simpa using hLc, ?_, Dv _ _ _ (by simp), World.ownsRow_nil _ _ _ _, by rw [bI], by simp, (Below.refl _ _).alloc (by simp) _⟩
    cases dK (parse m) n L <;> rfl
   case round =>
    clear HCUT
    obtain ⟨done, rest, f, A', c', rows, hrb, hrf, hrl, hdl, hpl, hout, hown, hit, hsz, hb⟩ := hrel
    have hrb2 := hrb
    obtain ⟨Ar, cr, rfl, hr1, hr2, hrr⟩ := hrb
    have HRB := Lib.hid hrb2
    have HPL := Lib.hid hpl
    have HOUT := Lib.hid hout
    have HOWN := Lib.hid hown
    have HIT := Lib.hid hit
    have HB := Lib.hid hb
    have HRR := Lib.hid hrr
    have hr2' := Lib.hid hr2
    unfold maxLen at hr2
    have hGw := Lib.hid ((aB w _).trans (hb.mono (by simp) : Gr _ _))
    clear hrb2 hpl hout hown hit hb hrr
    cases rest with
    | nil =>
     have hz : wr.heap[w.heap.size]? = some (.cells #[.bool false, .slice none 0 0, .slice none 0 0] 157 (0, 0)) := (HB.out.block w.heap.size (by omega)).trans (heap_alloc_new w _)
     have hload := HOUT.out
     have HDONE := Lib.hid (show parse (m + 1) (c :: t) = .ok (.mk true [] done, h + n) by
      have e1 : dK (parse m) f [] = .ok [] := by unfold dK; rfl
      have e2 := HPL.out
      rw [e1] at e2
      dsimp only at e2
      rw [List.append_nil] at e2
      rw [HP2.out, e2])
     simp only [List.length_nil] at hr1 ⊢
     go_wp2_with first
      | refine wpList_load_row rfl 157 (.tmp 13) rfl (w.heap.size + 1) rfl 157 _ (0, 0) _ hload Tryz.underlying157 rfl (gG _ rfl) ?_
      | refine wpList_store_row rfl 157 (.tmp 4) (.tmp 113) rfl w.heap.size #[.bool true, .slice none 0 0, .slice A' done.length c'] rfl rfl 157 _ hz (gG _ rfl) rfl (by simp [Value.oneCell']) ?_
     refine bodyPost_ret (dU rfl _ _ w.heap.size _ rfl (dD _ _ _ _ _ hz) rfl) rfl ⟨_, rfl, iE hGw.out _ _ (Nat.le_refl _), nI HDONE.out rfl ?_⟩
     refine ⟨[.bool true, .slice none 0 0, .slice A' done.length c'], rfl, ?_⟩
     obtain ⟨_, _, he, hcc1, hcc2⟩ := dw HOWN.out
     injection he with _ _ he2
     subst he2
     rw [fJ]
     refine ⟨_, A', c', rows, rfl, ⟨none, 0, rfl, Nat.le_refl _, by simp [maxLen], fun hn => absurd rfl hn⟩, hcc1, hcc2, fun e => ?_, (xH HOWN.out).mono (fun b hb => ?_) (fun p hp => iT ?_), bI.mono (fun b hb => ?_) (fun p hp => iT ?_) _ _ HIT.out⟩
     ·
      subst e
      exact uj HOWN.out
     ·
      have h1 := hb.1
      have h2 := hb.2
      rw [size_setRow]
      omega
     ·
      have := hp.1
      omega
     ·
      have h1 := hb.1
      have h2 := hb.2.1
      rw [size_setRow]
      omega
     ·
      have := hp.1
      omega
    | cons c1 t1 =>
     simp only [List.length_cons] at hrf hrl hdl hr1 ⊢
     go_wp2_with fail
     refine (IH.out (c1 :: t1) _ _ (HRB.out.gr hGw.out) hrl).mono ?_
     rintro e w1 ⟨v1, rfl, hg1, hv1⟩
     unfold bW vY at hv1
     obtain ⟨f, rfl⟩ : ∃ f', f = f' + 1 := ⟨f - 1, by omega⟩
     have hz1 : w1.heap[w.heap.size]? = some (.cells #[.bool false, .slice none 0 0, .slice none 0 0] 157 (0, 0)) := (hg1.block _ (by omega)).trans ((HB.out.block w.heap.size (by omega)).trans (heap_alloc_new w _))
     have ho1 : w1.heap[w.heap.size + 1]? = some (.cells #[.bool true, .slice none 0 0, .slice A' done.length c'] 157 (0, 0)) := (hg1.block _ (by omega)).trans HOUT.out
     have HG1 := Lib.hid (hGw.out.trans hg1)
     have hsz1 := hg1.size
     have hPL1 : dK (parse m) (f + 1) (c1 :: t1) = match parse m (c1 :: t1) with
       | .error e => .error e
       | .ok (x, k) => match dK (parse m) f ((c1 :: t1).drop k) with
        | .error e => .error e
        | .ok xs => .ok (x :: xs) := by
      conv => lhs; unfold dK
      cases parse m (c1 :: t1) <;> rfl
     have HPL1 := Lib.hid hPL1
     have Hg1 := Lib.hid hg1
     clear hPL1 hg1
     cases hp1 : parse m (c1 :: t1) with
     | error e =>
      rw [hp1] at hv1 HPL1
      dsimp only at hv1
      subst hv1
      have he := vk _ _ _ hp1
      have hne : ((e : Int) != 0) = true := by simp; omega
      have HF := Lib.hid (show parse (m + 1) (c :: t) = .error e by
       have e1 := HPL1.out
       dsimp only at e1
       rw [HP2.out, HPL.out, e1])
      clear hp1 HPL1 HPL HP2
      go_wp2_with refine wpList_store_row rfl 157 (.tmp 4) (.tmp 102) rfl w.heap.size #[.bool false, .slice none 0 0, .slice none 0 0] rfl rfl 157 _ ((gq w1 _ _ (by omega)).trans hz1) (gG _ rfl) rfl (by simp [Value.oneCell']) ?_
      refine bodyPost_ret (dU rfl _ _ w.heap.size _ rfl (dD _ _ _ _ _ ((gq w1 _ _ (by omega)).trans hz1)) rfl) rfl ⟨_, rfl, iE (HG1.out.trans (aB _ _)) _ _ (Nat.le_refl _), kH HF.out rfl⟩
     | ok p =>
      obtain ⟨x, k⟩ := p
      rw [hp1] at hv1 HPL1
      obtain ⟨vi, rfl, csx, rfl, hix⟩ := hv1
      obtain ⟨fx, Ax, nx, cx, Ay, ny, cy, rfl⟩ := hix.len
      obtain ⟨_, hk1, hk2⟩ := ug _ _ _ _ hp1
      simp only [List.length_cons] at hk1
      have HIX := Lib.hid hix
      clear hp1 hix
      obtain ⟨br, orr, rfl, hbr, _⟩ := HRR.out (by simp [bvs])
      have hq1 : (w1.alloc (.cells #[.bool fx, .slice Ax nx cx, .slice Ay ny cy] 157)).cell? ⟨w.heap.size + 1, 2, none⟩ = some (.slice A' done.length c') := by rw [cell_of_row _ _ _ _ _ (0, 0) ((gq w1 _ _ (by omega)).trans ho1)]; rfl
      have HOW := Lib.hid (((ql HOWN.out Hg1.out).alloc (.cells #[.bool fx, .slice Ax nx cx, .slice Ay ny cy] 157)).alloc (.cells #[.bool fx, .slice Ax nx cx, .slice Ay ny cy] 157))
      have HRD : Hid (Rd ((w1.alloc (.cells #[.bool fx, .slice Ax nx cx, .slice Ay ny cy] 157)).alloc (.cells #[.bool fx, .slice Ax nx cx, .slice Ay ny cy] 157)) (w1.heap.size + 2) (some ⟨w1.heap.size + 1, 0, none⟩) [.bool fx, .slice Ax nx cx, .slice Ay ny cy]) := by
       have := Rd.new (w1.alloc (.cells #[.bool fx, .slice Ax nx cx, .slice Ay ny cy] 157)) #[.bool fx, .slice Ax nx cx, .slice Ay ny cy] 157
       rw [eH] at this
       exact Lib.hid this
      have HO2 := Lib.hid ((gq (w1.alloc (.cells #[.bool fx, .slice Ax nx cx, .slice Ay ny cy] 157)) (.cells #[.bool fx, .slice Ax nx cx, .slice Ay ny cy] 157) (w.heap.size + 1) (by rw [eH]; omega)).trans ((gq w1 _ _ (by omega)).trans ho1))
      by_cases hck : cr = k
      ·
       have HCUT1 : Hid (IsB w (.slice (some ⟨br, orr, none⟩) (t1.length + 1 - k) 0) ((c1 :: t1).drop k)) := by
        have h6 : t1.length + 1 - k = 0 := by omega
        have h7 : (c1 :: t1).drop k = [] := List.drop_eq_nil_of_le (by rw [List.length_cons]; omega)
        rw [h6, h7]
        exact Lib.hid ⟨_, 0, rfl, by simp, by simp [maxLen], Rd.nil⟩
       go_wp2_with (at_builtin; refine bg (.tmp 105) (.tmp 107) 155 qP (base := w.heap.size + 2) _ done.length rows.flatten _ 1 1 (w1.heap.size + 2) [.bool fx, .slice Ax nx cx, .slice Ay ny cy] rfl rfl rfl rfl HOW.out HRD.out rfl (by simp [Value.oneCell']) (by simp only [maxLen]; omega) (by omega) (by simp; omega) ?_; intro A5 c5 w5 hown5 hg5 hbk5; have ho5 : w5.heap[w.heap.size + 1]? = some (.cells #[.bool true, .slice none 0 0, .slice A' done.length c'] 157 (0, 0)) := (hg5.block _ (by simp; omega) (fun e => by have := bZ HOWN.out _ e.symm; omega)).trans HO2.out; have e5 : w5.cell? ⟨w.heap.size + 1, 2, none⟩ = some (.slice A' done.length c') := (by rw [cell_of_row w5 _ _ _ _ (0, 0) ho5]; rfl); have f5 := frozen_of_row w5 (w.heap.size + 1) 2 _ _ ho5; have HOWN5 := Lib.hid hown5; have HG5 := Lib.hid hg5; have HBK5 := Lib.hid hbk5; have HO5 := Lib.hid ho5; clear hown5 hg5 hbk5 ho5)
       go_roundw
       case rel =>
        obtain ⟨r1, r2, r3, r4, r5⟩ := qY (x := x) hsz Hg1.out HOWN.out HIT.out HIX.out HG5.out HOWN5.out HBK5.out HO5.out HB.out
        refine ⟨done ++ [x], (c1 :: t1).drop k, f, A5, c5, rows ++ [[.bool fx, .slice Ax nx cx, .slice Ay ny cy]], HCUT1.out, by rw [List.length_drop, List.length_cons]; omega, by rw [List.length_drop, List.length_cons]; omega, by rw [List.length_drop, List.length_cons, List.length_append, List.length_singleton]; omega, ?_, r1, r2, r3, r4, r5⟩
        rw [HPL.out, HPL1.out]
        cases dK (parse m) f ((c1 :: t1).drop k) with
        | error e => rfl
        | ok ys => simp
       case measure => simp; omega
      ·
       have HCUT1 : Hid (IsB w (.slice (some ⟨br, orr + k, none⟩) (t1.length + 1 - k) (cr - k)) ((c1 :: t1).drop k)) := Lib.hid (zk k HRR.out (by rw [List.length_cons]) hr1 hr2'.out hk1 hck)
       go_wp2_with (at_builtin; refine bg (.tmp 105) (.tmp 107) 155 qP (base := w.heap.size + 2) _ done.length rows.flatten _ 1 1 (w1.heap.size + 2) [.bool fx, .slice Ax nx cx, .slice Ay ny cy] rfl rfl rfl rfl HOW.out HRD.out rfl (by simp [Value.oneCell']) (by simp only [maxLen]; omega) (by omega) (by simp; omega) ?_; intro A5 c5 w5 hown5 hg5 hbk5; have ho5 : w5.heap[w.heap.size + 1]? = some (.cells #[.bool true, .slice none 0 0, .slice A' done.length c'] 157 (0, 0)) := (hg5.block _ (by simp; omega) (fun e => by have := bZ HOWN.out _ e.symm; omega)).trans HO2.out; have e5 : w5.cell? ⟨w.heap.size + 1, 2, none⟩ = some (.slice A' done.length c') := (by rw [cell_of_row w5 _ _ _ _ (0, 0) ho5]; rfl); have f5 := frozen_of_row w5 (w.heap.size + 1) 2 _ _ ho5; have HOWN5 := Lib.hid hown5; have HG5 := Lib.hid hg5; have HBK5 := Lib.hid hbk5; have HO5 := Lib.hid ho5; clear hown5 hg5 hbk5 ho5)
       go_roundw
       case rel =>
        obtain ⟨r1, r2, r3, r4, r5⟩ := qY (x := x) hsz Hg1.out HOWN.out HIT.out HIX.out HG5.out HOWN5.out HBK5.out HO5.out HB.out
        refine ⟨done ++ [x], (c1 :: t1).drop k, f, A5, c5, rows ++ [[.bool fx, .slice Ax nx cx, .slice Ay ny cy]], HCUT1.out, by rw [List.length_drop, List.length_cons]; omega, by rw [List.length_drop, List.length_cons]; omega, by rw [List.length_drop, List.length_cons, List.length_append, List.length_singleton]; omega, ?_, r1, r2, r3, r4, r5⟩
        rw [HPL.out, HPL1.out]
        cases dK (parse m) f ((c1 :: t1).drop k) with
        | error e => rfl
        | ok ys => simp
       case measure => simp; omega
  ·
   go_wp2_with fail
   simp only [Nat.add_sub_cancel_left]
   generalize Value.slice (some ⟨bl, o + h, none⟩) n (cp - h) = v14 at HCUT ⊢
   go_loopw [14] (fun rv wr => ∃ (done : List Raw) (rest : List UInt8) (f : Nat) (A' : Option Addr) (c' : Nat) (rows : List (List Value)), IsB w rv rest ∧ rest.length ≤ f ∧ rest.length ≤ 16777216 ∧ done.length + rest.length ≤ 16777216 ∧
    dK (parse m) n L = (match dK (parse m) f rest with | .error e => .error e | .ok ys => .ok (done ++ ys)) ∧
    wr.heap[w.heap.size + 1]? = some (.cells #[.bool true, .slice none 0 0, .slice A' done.length c'] 157 (0, 0)) ∧
    wr.ownsRow (w.heap.size + 2) 157 3 (.slice A' done.length c') done.length rows.flatten ∧
    bI (okL (w.heap.size + 2) (w.heap.size + 1) (.slice A' done.length c') wr.heap.size) wr done rows ∧
    w.heap.size + 2 ≤ wr.heap.size ∧ Below (w.heap.size + 1) (w.alloc (.cells #[.bool false, .slice none 0 0, .slice none 0 0] 157)) wr)
    (fun rv _ => match rv with | .slice _ k _ => k | _ => 0)
   case atStart =>
    refine ⟨[], L, n, none, 0, [], HCUT.out, by rw [HLN.out]; exact Nat.le_refl _, hLc, by simpa using hLc, ?_, Dv _ _ _ (by simp), World.ownsRow_nil _ _ _ _, by rw [bI], by simp, (Below.refl _ _).alloc (by simp) _⟩
    cases dK (parse m) n L <;> rfl
   case round =>
    clear HCUT
    obtain ⟨done, rest, f, A', c', rows, hrb, hrf, hrl, hdl, hpl, hout, hown, hit, hsz, hb⟩ := hrel
    have hrb2 := hrb
    obtain ⟨Ar, cr, rfl, hr1, hr2, hrr⟩ := hrb
    have HRB := Lib.hid hrb2
    have HPL := Lib.hid hpl
    have HOUT := Lib.hid hout
    have HOWN := Lib.hid hown
    have HIT := Lib.hid hit
    have HB := Lib.hid hb
    have HRR := Lib.hid hrr
    have hr2' := Lib.hid hr2
    unfold maxLen at hr2
    have hGw := Lib.hid ((aB w _).trans (hb.mono (by simp) : Gr _ _))
    clear hrb2 hpl hout hown hit hb hrr
    cases rest with
    | nil =>
     have hz : wr.heap[w.heap.size]? = some (.cells #[.bool false, .slice none 0 0, .slice none 0 0] 157 (0, 0)) := (HB.out.block w.heap.size (by omega)).trans (heap_alloc_new w _)
     have hload := HOUT.out
     have HDONE := Lib.hid (show parse (m + 1) (c :: t) = .ok (.mk true [] done, h + n) by
      have e1 : dK (parse m) f [] = .ok [] := by unfold dK; rfl
      have e2 := HPL.out
      rw [e1] at e2
      dsimp only at e2
      rw [List.append_nil] at e2
      rw [HP2.out, e2])
     simp only [List.length_nil] at hr1 ⊢
     go_wp2_with first
      | refine wpList_load_row rfl 157 (.tmp 13) rfl (w.heap.size + 1) rfl 157 _ (0, 0) _ hload Tryz.underlying157 rfl (gG _ rfl) ?_
      | refine wpList_store_row rfl 157 (.tmp 4) (.tmp 113) rfl w.heap.size #[.bool true, .slice none 0 0, .slice A' done.length c'] rfl rfl 157 _ hz (gG _ rfl) rfl (by simp [Value.oneCell']) ?_
     refine bodyPost_ret (dU rfl _ _ w.heap.size _ rfl (dD _ _ _ _ _ hz) rfl) rfl ⟨_, rfl, iE hGw.out _ _ (Nat.le_refl _), nI HDONE.out rfl ?_⟩
     refine ⟨[.bool true, .slice none 0 0, .slice A' done.length c'], rfl, ?_⟩
     obtain ⟨_, _, he, hcc1, hcc2⟩ := dw HOWN.out
     injection he with _ _ he2
     subst he2
     rw [fJ]
     refine ⟨_, A', c', rows, rfl, ⟨none, 0, rfl, Nat.le_refl _, by simp [maxLen], fun hn => absurd rfl hn⟩, hcc1, hcc2, fun e => ?_, (xH HOWN.out).mono (fun b hb => ?_) (fun p hp => iT ?_), bI.mono (fun b hb => ?_) (fun p hp => iT ?_) _ _ HIT.out⟩
     ·
      subst e
      exact uj HOWN.out
     ·
      have h1 := hb.1
      have h2 := hb.2
      rw [size_setRow]
      omega
     ·
      have := hp.1
      omega
     ·
      have h1 := hb.1
      have h2 := hb.2.1
      rw [size_setRow]
      omega
     ·
      have := hp.1
      omega
    | cons c1 t1 =>
     simp only [List.length_cons] at hrf hrl hdl hr1 ⊢
     go_wp2_with fail
     refine (IH.out (c1 :: t1) _ _ (HRB.out.gr hGw.out) hrl).mono ?_
     rintro e w1 ⟨v1, rfl, hg1, hv1⟩
     unfold bW vY at hv1
     obtain ⟨f, rfl⟩ : ∃ f', f = f' + 1 := ⟨f - 1, by omega⟩
     have hz1 : w1.heap[w.heap.size]? = some (.cells #[.bool false, .slice none 0 0, .slice none 0 0] 157 (0, 0)) := (hg1.block _ (by omega)).trans ((HB.out.block w.heap.size (by omega)).trans (heap_alloc_new w _))
     have ho1 : w1.heap[w.heap.size + 1]? = some (.cells #[.bool true, .slice none 0 0, .slice A' done.length c'] 157 (0, 0)) := (hg1.block _ (by omega)).trans HOUT.out
     have HG1 := Lib.hid (hGw.out.trans hg1)
     have hsz1 := hg1.size
     have hPL1 : dK (parse m) (f + 1) (c1 :: t1) = match parse m (c1 :: t1) with
       | .error e => .error e
       | .ok (x, k) => match dK (parse m) f ((c1 :: t1).drop k) with
        | .error e => .error e
        | .ok xs => .ok (x :: xs) := by
      conv => lhs; unfold dK
      cases parse m (c1 :: t1) <;> rfl
     have HPL1 := Lib.hid hPL1
     have Hg1 := Lib.hid hg1
     clear hPL1 hg1
     cases hp1 : parse m (c1 :: t1) with
     | error e =>
      rw [hp1] at hv1 HPL1
      dsimp only at hv1
      subst hv1
      have he := vk _ _ _ hp1
      have hne : ((e : Int) != 0) = true := by simp; omega
      have HF := Lib.hid (show parse (m + 1) (c :: t) = .error e by
       have e1 := HPL1.out
       dsimp only at e1
       rw [HP2.out, HPL.out, e1])
      clear hp1 HPL1 HPL HP2
      go_wp2_with refine wpList_store_row rfl 157 (.tmp 4) (.tmp 102) rfl w.heap.size #[.bool false, .slice none 0 0, .slice none 0 0] rfl rfl 157 _ ((gq w1 _ _ (by omega)).trans hz1) (gG _ rfl) rfl (by simp [Value.oneCell']) ?_
      refine bodyPost_ret (dU rfl _ _ w.heap.size _ rfl (dD _ _ _ _ _ ((gq w1 _ _ (by omega)).trans hz1)) rfl) rfl ⟨_, rfl, iE (HG1.out.trans (aB _ _)) _ _ (Nat.le_refl _), kH HF.out rfl⟩
     | ok p =>
      obtain ⟨x, k⟩ := p
      rw [hp1] at hv1 HPL1
      obtain ⟨vi, rfl, csx, rfl, hix⟩ := hv1
      obtain ⟨fx, Ax, nx, cx, Ay, ny, cy, rfl⟩ := hix.len
      obtain ⟨_, hk1, hk2⟩ := ug _ _ _ _ hp1
      simp only [List.length_cons] at hk1
      have HIX := Lib.hid hix
      clear hp1 hix
      obtain ⟨br, orr, rfl, hbr, _⟩ := HRR.out (by simp [bvs])
      have hq1 : (w1.alloc (.cells #[.bool fx, .slice Ax nx cx, .slice Ay ny cy] 157)).cell? ⟨w.heap.size + 1, 2, none⟩ = some (.slice A' done.length c') := by rw [cell_of_row _ _ _ _ _ (0, 0) ((gq w1 _ _ (by omega)).trans ho1)]; rfl
      have HOW := Lib.hid (((ql HOWN.out Hg1.out).alloc (.cells #[.bool fx, .slice Ax nx cx, .slice Ay ny cy] 157)).alloc (.cells #[.bool fx, .slice Ax nx cx, .slice Ay ny cy] 157))
      have HRD : Hid (Rd ((w1.alloc (.cells #[.bool fx, .slice Ax nx cx, .slice Ay ny cy] 157)).alloc (.cells #[.bool fx, .slice Ax nx cx, .slice Ay ny cy] 157)) (w1.heap.size + 2) (some ⟨w1.heap.size + 1, 0, none⟩) [.bool fx, .slice Ax nx cx, .slice Ay ny cy]) := by
       have := Rd.new (w1.alloc (.cells #[.bool fx, .slice Ax nx cx, .slice Ay ny cy] 157)) #[.bool fx, .slice Ax nx cx, .slice Ay ny cy] 157
       rw [eH] at this
       exact Lib.hid this
      have HO2 := Lib.hid ((gq (w1.alloc (.cells #[.bool fx, .slice Ax nx cx, .slice Ay ny cy] 157)) (.cells #[.bool fx, .slice Ax nx cx, .slice Ay ny cy] 157) (w.heap.size + 1) (by rw [eH]; omega)).trans ((gq w1 _ _ (by omega)).trans ho1))
      by_cases hck : cr = k
      ·
       have HCUT1 : Hid (IsB w (.slice (some ⟨br, orr, none⟩) (t1.length + 1 - k) 0) ((c1 :: t1).drop k)) := by
        have h6 : t1.length + 1 - k = 0 := by omega
        have h7 : (c1 :: t1).drop k = [] := List.drop_eq_nil_of_le (by rw [List.length_cons]; omega)
        rw [h6, h7]
        exact Lib.hid ⟨_, 0, rfl, by simp, by simp [maxLen], Rd.nil⟩
       go_wp2_with (at_builtin; refine bg (.tmp 105) (.tmp 107) 155 qP (base := w.heap.size + 2) _ done.length rows.flatten _ 1 1 (w1.heap.size + 2) [.bool fx, .slice Ax nx cx, .slice Ay ny cy] rfl rfl rfl rfl HOW.out HRD.out rfl (by simp [Value.oneCell']) (by simp only [maxLen]; omega) (by omega) (by simp; omega) ?_; intro A5 c5 w5 hown5 hg5 hbk5; have ho5 : w5.heap[w.heap.size + 1]? = some (.cells #[.bool true, .slice none 0 0, .slice A' done.length c'] 157 (0, 0)) := (hg5.block _ (by simp; omega) (fun e => by have := bZ HOWN.out _ e.symm; omega)).trans HO2.out; have e5 : w5.cell? ⟨w.heap.size + 1, 2, none⟩ = some (.slice A' done.length c') := (by rw [cell_of_row w5 _ _ _ _ (0, 0) ho5]; rfl); have f5 := frozen_of_row w5 (w.heap.size + 1) 2 _ _ ho5; have HOWN5 := Lib.hid hown5; have HG5 := Lib.hid hg5; have HBK5 := Lib.hid hbk5; have HO5 := Lib.hid ho5; clear hown5 hg5 hbk5 ho5)
       go_roundw
       case rel =>
        obtain ⟨r1, r2, r3, r4, r5⟩ := qY (x := x) hsz Hg1.out HOWN.out HIT.out HIX.out HG5.out HOWN5.out HBK5.out HO5.out HB.out
        refine ⟨done ++ [x], (c1 :: t1).drop k, f, A5, c5, rows ++ [[.bool fx, .slice Ax nx cx, .slice Ay ny cy]], HCUT1.out, by rw [List.length_drop, List.length_cons]; omega, by rw [List.length_drop, List.length_cons]; omega, by rw [List.length_drop, List.length_cons, List.length_append, List.length_singleton]; omega, ?_, r1, r2, r3, r4, r5⟩
        rw [HPL.out, HPL1.out]
        cases dK (parse m) f ((c1 :: t1).drop k) with
        | error e => rfl
        | ok ys => simp
       case measure => simp; omega
      ·
       have HCUT1 : Hid (IsB w (.slice (some ⟨br, orr + k, none⟩) (t1.length + 1 - k) (cr - k)) ((c1 :: t1).drop k)) := Lib.hid (zk k HRR.out (by rw [List.length_cons]) hr1 hr2'.out hk1 hck)
       go_wp2_with (at_builtin; refine bg (.tmp 105) (.tmp 107) 155 qP (base := w.heap.size + 2) _ done.length rows.flatten _ 1 1 (w1.heap.size + 2) [.bool fx, .slice Ax nx cx, .slice Ay ny cy] rfl rfl rfl rfl HOW.out HRD.out rfl (by simp [Value.oneCell']) (by simp only [maxLen]; omega) (by omega) (by simp; omega) ?_; intro A5 c5 w5 hown5 hg5 hbk5; have ho5 : w5.heap[w.heap.size + 1]? = some (.cells #[.bool true, .slice none 0 0, .slice A' done.length c'] 157 (0, 0)) := (hg5.block _ (by simp; omega) (fun e => by have := bZ HOWN.out _ e.symm; omega)).trans HO2.out; have e5 : w5.cell? ⟨w.heap.size + 1, 2, none⟩ = some (.slice A' done.length c') := (by rw [cell_of_row w5 _ _ _ _ (0, 0) ho5]; rfl); have f5 := frozen_of_row w5 (w.heap.size + 1) 2 _ _ ho5; have HOWN5 := Lib.hid hown5; have HG5 := Lib.hid hg5; have HBK5 := Lib.hid hbk5; have HO5 := Lib.hid ho5; clear hown5 hg5 hbk5 ho5)
       go_roundw
       case rel =>
        obtain ⟨r1, r2, r3, r4, r5⟩ := qY (x := x) hsz Hg1.out HOWN.out HIT.out HIX.out HG5.out HOWN5.out HBK5.out HO5.out HB.out
        refine ⟨done ++ [x], (c1 :: t1).drop k, f, A5, c5, rows ++ [[.bool fx, .slice Ax nx cx, .slice Ay ny cy]], HCUT1.out, by rw [List.length_drop, List.length_cons]; omega, by rw [List.length_drop, List.length_cons]; omega, by rw [List.length_drop, List.length_cons, List.length_append, List.length_singleton]; omega, ?_, r1, r2, r3, r4, r5⟩
        rw [HPL.out, HPL1.out]
        cases dK (parse m) f ((c1 :: t1).drop k) with
        | error e => rfl
        | ok ys => simp
       case measure => simp; omega
theorem LV (v : Value) (c : UInt8) (t : List UInt8) (w : World) (h : IsB w v (c :: t)) (h1 : ¬ c < 128) (h2 : ¬ c < 192) : Calls Tryz.prog 177 #[v, .int .i64 32] w (Ret (bW w.heap.size 0 (c :: t)) w) := by
 have h3 : 192 ≤ c.toNat := Nat.not_lt.1 fun e => h2 (UInt8.lt_iff_toNat_lt.2 e)
 obtain ⟨A, cp, rfl, hc1, hc2, hr⟩ := h
 obtain ⟨bl, o, rfl, hbl, hcell⟩ := hr (by simp [bvs])
 have e0 := hcell 0 (bv c) rfl
 rw [Nat.add_zero] at e0
 unfold bv at e0
 have HP := Lib.hid (show parse 0 (c :: t) = .error 3 by rw [show parse 0 = rM none from rfl, iH, if_neg h1, if_neg h2])
 unfold maxLen at hc2
 simp only [List.length_cons] at hc1 ⊢
 clear hcell hr h1 h2
 go_enter Tryz.func177, Tryz.ntmps177
 go_wp2_with fail
 exact bodyPost_ret (dU rfl _ _ w.heap.size #[.bool false, .slice none 0 0, .slice none 0 0] rfl (heap_alloc_new w _) rfl) rfl ⟨_, rfl, aB w _, kH HP.out rfl⟩
theorem Es : ∀ (m d : Nat), d + m = 32 → ∀ (b : List UInt8) (v : Value) (w : World), IsB w v b → b.length ≤ 16777216 → Calls Tryz.prog 177 #[v, .int .i64 d] w (Ret (bW w.heap.size m b) w)
 | m, d, hd, [], v, w, h, hl => OW m d v w h
 | m, d, hd, c :: t, v, w, h, hl => by
  by_cases h1 : c < 128
  · exact LW m d v c t w h h1
  ·
   by_cases h2 : c < 192
   · exact LQ m d v c t w h (by simp at hl; omega) h1 h2
   ·
    match m, hd with
    | 0, hd =>
     obtain rfl : d = 32 := by omega
     exact LV v c t w h h1 h2
    | m + 1, hd =>
     refine LU m d hd (fun b v w hb hl => ?_) v c t w h (by simp at hl; omega) h1 h2
     have := Es m (d + 1) (by omega) b v w hb hl
     exact this
abbrev xR : Array Value := #[.bool false, .slice none 0 0, .slice none 0 0]

def tH (B : Nat) (b : List UInt8) : VP := fun v w => match jC b with
 | .ok x => ∃ vi, v = .tuple #[vi, .int .i64 0] ∧ jY (fun k => B ≤ k ∧ k < w.heap.size) w vi x
 | .error e => v = .tuple #[vY, .int .i64 (e : Int)]
theorem LX {B : Nat} {b : List UInt8} {x : Raw} {v vi : Value} {w : World} (h : jC b = .ok x) (hv : v = .tuple #[vi, .int .i64 0]) (hi : jY (fun k => B ≤ k ∧ k < w.heap.size) w vi x) : tH B b v w := by unfold tH; rw [h]; exact ⟨vi, hv, hi⟩
theorem sJ {B : Nat} {b : List UInt8} {e : Nat} {v : Value} {w : World} (h : jC b = .error e) (hv : v = .tuple #[vY, .int .i64 (e : Int)]) : tH B b v w := by unfold tH; rw [h]; exact hv
theorem OL (v : Value) (b : List UInt8) (w : World) (h : IsB w v b) : Calls Tryz.prog 133 #[v] w (Ret (tH w.heap.size b) w) := by
 have h0 := h
 obtain ⟨A, cp, rfl, hc1, hc2, _⟩ := h
 have H := Lib.hid (h0.gr (aB w (.cells xR 157)))
 unfold maxLen at hc2
 clear h0
 by_cases hl : b.length > most
 ·
  have HR := Lib.hid (show jC b = .error 3 by unfold jC; rw [if_pos hl])
  simp only [most] at hl
  go_enter Tryz.func133, Tryz.ntmps133
  go_wp2_with fail
  exact bodyPost_ret (kR rfl _ _ w.heap.size xR rfl (heap_alloc_new w _) rfl) rfl ⟨_, rfl, aB w _, sJ HR.out rfl⟩
 ·
  have HR : Hid (jC b = match parse 32 b with | .error e => .error e | .ok (x, n) => if n = b.length then .ok x else .error 4) := by
   refine Lib.hid ?_
   unfold jC
   rw [if_neg hl]
   cases parse 32 b <;> rfl
  have hl2 : b.length ≤ 16777216 := by simp only [most] at hl; omega
  clear hl
  go_enter Tryz.func133, Tryz.ntmps133
  go_wp2_with fail
  refine (Es 32 0 rfl b _ _ H.out hl2).mono ?_
  rintro e w1 ⟨v1, rfl, hg1, hv1⟩
  unfold bW vY at hv1
  have hs1 := hg1.size
  simp only [eH] at hs1
  have HZ1 : Hid (w1.heap[w.heap.size]? = some (.cells xR 157 (0, 0))) := Lib.hid ((hg1.block _ (by simp)).trans (heap_alloc_new w _))
  have HG1 := Lib.hid ((aB w _).trans hg1)
  clear hg1 H
  cases hp : parse 32 b with
  | error e =>
   rw [hp] at hv1 HR
   dsimp only at hv1
   subst hv1
   have he := vk _ _ _ hp
   have hne : ((e : Int) != 0) = true := by simp; omega
   have hne2 : ((e : Int) == 0) = false := by simp; omega
   have HE := Lib.hid (show jC b = .error e from HR.out)
   clear hp HR
   go_wp2_with refine wpList_store_row rfl 157 (.tmp 2) (.tmp 27) rfl w.heap.size xR rfl rfl 157 _ ((gq w1 _ _ (by omega)).trans HZ1.out) (gG _ rfl) rfl (by simp [Value.oneCell']) ?_
   exact bodyPost_ret (kR rfl _ _ w.heap.size _ rfl (dD _ _ _ _ _ ((gq w1 _ _ (by omega)).trans HZ1.out)) rfl) rfl ⟨_, rfl, iE (HG1.out.trans (aB _ _)) _ _ (Nat.le_refl _), sJ HE.out rfl⟩
  | ok p =>
   obtain ⟨x, n⟩ := p
   rw [hp] at hv1 HR
   obtain ⟨vi, rfl, csx, rfl, hix⟩ := hv1
   obtain ⟨fx, Ax, nx, cx, Ay, ny, cy, rfl⟩ := hix.len
   have hn := (ug _ _ _ _ hp).2.1
   have HIX := Lib.hid hix
   clear hp hix
   by_cases hnb : n = b.length
   ·
    have HO := Lib.hid (show jC b = .ok x by rw [HR.out]; exact if_pos hnb)
    have hnn : ((n : Int) != (b.length : Int)) = false := by simp; omega
    clear HR hnb
    go_wp2_with refine wpList_store_row rfl 157 (.tmp 2) (.tmp 29) rfl w.heap.size #[.bool fx, .slice Ax nx cx, .slice Ay ny cy] rfl rfl 157 _ ((gq w1 _ _ (by omega)).trans HZ1.out) (gG _ rfl) rfl (by simp [Value.oneCell']) ?_
    refine bodyPost_ret (kR rfl _ _ w.heap.size _ rfl (dD _ _ _ _ _ ((gq w1 _ _ (by omega)).trans HZ1.out)) rfl) rfl ⟨_, rfl, iE (HG1.out.trans (aB _ _)) _ _ (Nat.le_refl _), LX HO.out rfl ⟨_, rfl, fJ.mono (fun k hk => ?_) (fun p hp => ?_) _ _ HIX.out⟩⟩
    ·
     have h1 := hk.1
     have h2 := hk.2
     simp only [eH] at h1
     rw [size_setRow, eH]
     omega
    ·
     have h1 := hp.1
     have h2 := hp.2
     simp only [eH] at h1
     rw [iT (by omega)]
     exact World.cell?_alloc_lt _ _ _ h2
   ·
    have HE := Lib.hid (show jC b = .error 4 by rw [HR.out]; exact if_neg hnb)
    have hnn : ((n : Int) != (b.length : Int)) = true := by simp; omega
    clear HR hnb
    go_wp2_with refine wpList_store_row rfl 157 (.tmp 2) (.tmp 27) rfl w.heap.size xR rfl rfl 157 _ ((gq w1 _ _ (by omega)).trans HZ1.out) (gG _ rfl) rfl (by simp [Value.oneCell']) ?_
    exact bodyPost_ret (kR rfl _ _ w.heap.size _ rfl (dD _ _ _ _ _ ((gq w1 _ _ (by omega)).trans HZ1.out)) rfl) rfl ⟨_, rfl, iE (HG1.out.trans (aB _ _)) _ _ (Nat.le_refl _), sJ HE.out rfl⟩
end Go.Proofs.YtiledgojbpmoiaaGreat
namespace Go.Proofs.YtiledgojbpmoiaaGreat
set_option linter.unusedVariables false
open Go.RowKit Mono Rlp
namespace E
def rdE (b : List UInt8) : Nat := match jC b with | .ok _ => 0 | .error e => e
def rdX (b : List UInt8) : Raw := match jC b with | .ok x => x | .error _ => .mk false [] []
theorem Ro {B : Nat} {b : List UInt8} {v : Value} {w : World} (h : tH B b v w) : ∃ vi, v = .tuple #[vi, .int .i64 (rdE b : Int)] ∧ jY (fun k => B ≤ k ∧ k < w.heap.size) w vi (rdX b) := by
 unfold tH at h
 unfold rdE rdX
 cases hr : jC b with
 | ok x => rw [hr] at h; exact h
 | error e =>
  rw [hr] at h
  exact ⟨vY, h, jS (l := []) ⟨none, 0, rfl, Nat.le_refl _, by simp [maxLen], fun hn => absurd rfl hn⟩⟩
def OX (b : List UInt8) : R := .tpl [aW (rdX b), .v (.int .i64 (rdE b : Int))]
theorem U6 (b : List UInt8) : Fn 133 [.bs b] (· = OX b) := ⟨fun ok w xs hok hr => by
 obtain ⟨v, rfl, h⟩ := um hr
 refine (OL v b w (jT hok h)).mono ?_
 rintro e w' ⟨v', rfl, hg, hv⟩
 obtain ⟨vi, rfl, hi⟩ := Ro hv
 exact ⟨hg, _, _, rfl, rfl, Uh (yJ.2 (jY.mono hi (fun b hb => FC b hb) fun _ _ => rfl)) (jG rfl)⟩⟩
end E
end Go.Proofs.YtiledgojbpmoiaaGreat
