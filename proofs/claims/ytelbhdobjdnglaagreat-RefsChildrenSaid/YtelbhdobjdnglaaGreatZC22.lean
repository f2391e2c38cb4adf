/-
 Merged: lemmas of this claim.
 Conditions: none.
-/
import Derived.Test.YtelbhdobjdnglaaGreatZC21
import Derived.Test.YtelbhdobjdnglaaGreatZC15
import Derived.Test.YtelbhdobjdnglaaGreatZC0
namespace Go.Proofs.YtelbhdobjdnglaaGreat
set_option linter.unusedVariables false
set_option maxRecDepth 20000
set_option maxHeartbeats 16000000
open Go.RowKit Mono Rlp
theorem LX (m : Nat) (ih : ∀ (b : List UInt8) (v : Value) (w : World), IsB w v b → b.length ≤ 16777216 → Calls Tryz.prog 114 #[v, .int .i64 m] w (Ret (ni w.heap.size m b) w))
  (v : Value) (c : UInt8) (t : List UInt8) (w : World) (h : IsB w v (c :: t)) (hl : t.length ≤ 16777215) (k : Nat) (hk : c.toNat = 192 + k) (hk2 : k < 64) (hm : m < 32) : Calls Tryz.prog 114 #[v, .int .i64 ((m : Int) + 1)] w (Ret (ni w.heap.size (m + 1) (c :: t)) w) := by
 have IH := Lib.hid ih
 obtain ⟨A, cp, rfl, hc1, hc2, hr⟩ := h
 obtain ⟨bl, o, rfl, hbl, hcell⟩ := hr (by simp [bvs])
 have HR := Lib.hid hr
 have e0 := hcell 0 (bv c) rfl
 rw [XI] at e0
 unfold bv at e0
 rw [show (c.toNat : Int) = 192 + (k : Int) by omega] at e0
 have HC : Hid (∀ j (hj : j < (c :: t).length), w.cell? ⟨bl, o + j, none⟩ = some (.int .u8 ((c :: t)[j].toNat : Int))) := Lib.hid fun j hj => hcell j _ (mg (c :: t) j hj)
 have hand : bits .and .i64 (192 + (k : Int)) 63 = (k : Int) := by rw [BX]; omega
 have hdd : (((m : Int) + 1) == 0) = false := by simp; omega
 have HP : Hid (parse (m + 1) (c :: t) = match Rlp.hdr (c :: t) 192 with
   | none => .error 4
   | some (h, n) => match bI (parse m) n (((c :: t).drop h).take n) with
    | .error e => .error e
    | .ok xs => .ok (.mk true [] xs, h + n)) := by
  refine Lib.hid ?_
  rw [show parse (m + 1) = ql (some (parse m)) from rfl, gI, if_neg (fun e => by have := Xe.1 e; have h128 : (128 : UInt8).toNat = 128 := rfl; omega), if_neg (fun e => by have := Xe.1 e; have h192 : (192 : UInt8).toNat = 192 := rfl; omega)]
  cases Rlp.hdr (c :: t) 192 <;> rfl
 have HN : Hid (Rlp.hdr (c :: t) 192 = none → parse (m + 1) (c :: t) = .error 4) := Lib.hid fun e => by rw [HP.out, e]
 have hcm := Lib.hid hc2
 unfold maxLen at hc2
 simp only [WS] at hc1 ⊢
 clear hcell hr ih
 go_enter Tryz.func114, Tryz.ntmps114
 go_upto_if 44 with (fail)
 go_cut [9, 10] (fun s9 s10 wx => ∃ h n : Nat, s9 = .int .i64 n ∧ s10 = .int .i64 h ∧ 0 < h ∧ h ≤ t.length + 1 ∧ n ≤ 4294967551 ∧ wx = w.alloc (.cells dY 138) ∧ ((h + n ≤ t.length + 1 ∧ Rlp.hdr (c :: t) 192 = some (h, n)) ∨ (t.length + 1 < h + n ∧ Rlp.hdr (c :: t) 192 = none)))
 case first =>
  by_cases h55 : k ≤ 55
  ·
   have HH : Hid ((1 + k ≤ t.length + 1 ∧ Rlp.hdr (c :: t) 192 = some (1, k)) ∨ (t.length + 1 < 1 + k ∧ Rlp.hdr (c :: t) 192 = none)) := by
    refine Lib.hid ?_
    rw [DY c t 192 k hk, if_pos h55]
    by_cases h6 : k ≤ t.length
    · rw [if_pos h6]; exact .inl ⟨by omega, rfl⟩
    · rw [if_neg h6]; exact .inr ⟨by omega, rfl⟩
   go_wp2_with fail
   go_meet
   exact ⟨1, k, rfl, rfl, by omega, by omega, by omega, rfl, HH.out⟩
  ·
   obtain ⟨q, rfl⟩ : ∃ q : Nat, k = 55 + q := ⟨k - 55, by omega⟩
   have hq1 : 1 ≤ q := by omega
   have hkk : ((55 + q : Nat) : Int) = 55 + (q : Int) := by simp
   rw [hkk] at e0 hand ⊢
   have HD := Lib.hid (DY c t 192 (55 + q) hk)
   simp only [X6] at HD
   have hqq : (55 : Int) + q - 55 = q := by omega
   clear hkk h55 hk
   by_cases h4 : t.length < q
   ·
    have HE := Lib.hid (HN.out (by rw [HD.out, if_neg (by omega), if_pos (.inl (by omega))]))
    go_wp2_with fail
    exact bodyPost_ret (aN rfl _ _ w.heap.size dY rfl (heap_alloc_new w _) rfl) rfl ⟨_, rfl, au w _, fG HE.out rfl⟩
   ·
    have h0t : 0 < t.length := by omega
    have e1 := HC.out 1 (by simp; omega)
    have hx0 := jh (t[0]'h0t)
    have he1 : (c :: t)[1]'(by simp; omega) = t[0]'h0t := rfl
    rw [he1] at e1
    have hgd : t.getD 0 0 = t[0]'h0t := by rw [List.getD_eq_getElem?_getD, List.getElem?_eq_getElem h0t]; rfl
    clear he1
    by_cases h5 : t[0]'h0t = 0
    ·
     have HE := Lib.hid (HN.out (by rw [HD.out, if_neg (by omega), if_pos (.inr (by rw [hgd, h5]))]))
     rw [h5] at e1
     have e1' : w.cell? ⟨bl, o + 1, none⟩ = some (.int .u8 0) := e1
     clear e1 hgd h5 hx0
     go_wp2_with fail
     exact bodyPost_ret (aN rfl _ _ w.heap.size dY rfl (heap_alloc_new w _) rfl) rfl ⟨_, rfl, au w _, fG HE.out rfl⟩
    ·
     have h7 : 0 < (t[0]'h0t).toNat := by
      rcases Ya (t[0]'h0t).toNat with h0 | h0
      · exact absurd (XR.1 (by rw [h0]; rfl)) h5
      · exact h0
     have h8 : (((t[0]'h0t).toNat : Int) == 0) = false := by simp; omega
     have HH : Hid (Rlp.hdr (c :: t) 192 = if val (t.take q) > most then none else if 55 < val (t.take q) ∧ val (t.take q) ≤ t.length - q then some (1 + q, val (t.take q)) else none) := by
      refine Lib.hid ?_
      rw [HD.out, if_neg (by omega), if_neg ?_]
      rintro (h | h)
      · omega
      ·
       rw [hgd] at h
       exact h5 h
     clear HD h5 hgd
     generalize (t[0]'h0t).toNat = x0 at e1 hx0 h7 h8
     go_wp2_with fail
     clear e1 h8
     try simp only [hqq]
     go_loopw [9, 12] (fun nv i wr => ∃ j : Nat, j ≤ q ∧ i = .int .i64 j ∧ nv = .int .i64 (val (t.take j) : Nat) ∧ val (t.take j) ≤ 4294967551 ∧ wr = w.alloc (.cells dY 138)) (fun _ i _ => q - (intOf i).toNat)
     case atStart => exact ⟨0, by omega, rfl, rfl, by simp [val], rfl⟩
     case round =>
      obtain ⟨j, hj, rfl, rfl, hv, rfl⟩ := hrel
      by_cases h9 : j < q
      ·
       have hmm := xZ t j q (by omega)
       by_cases h10 : val (t.take j) ≤ 16777216
       ·
        have e2 := HC.out (1 + j) (by simp; omega)
        have hjt : j < t.length := by omega
        have he2 : (c :: t)[1 + j]'(by simp; omega) = t[j]'hjt := by simp [Nat.add_comm 1 j]
        rw [he2] at e2
        have hxl := jh (t[j]'hjt)
        have HV := Lib.hid (nO t j hjt)
        clear he2
        generalize (t[j]'hjt).toNat = x at e2 hxl HV
        have hjj := zx (val (t.take j)) x h10 hxl
        generalize val (t.take j) = n at HV hjj hmm hv h10 ⊢
        go_wp2_with fail
        go_roundw
        case rel => exact ⟨j + 1, by omega, by go_num, by rw [HV.out]; go_num, by rw [HV.out]; omega, trivial⟩
        case measure => simp [intOf]; omega
       ·
        have HE := Lib.hid (HN.out (by rw [HH.out, if_pos (by simp only [most]; omega)]))
        have h11 : 16777216 < val (t.take j) := by omega
        generalize val (t.take j) = n at hmm hv h11 ⊢
        clear h10
        go_wp2_with fail
        exact bodyPost_ret (aN rfl _ _ w.heap.size dY rfl (heap_alloc_new w _) rfl) rfl ⟨_, rfl, au w _, fG HE.out rfl⟩
      ·
       have h10 : q ≤ j := by omega
       have h11 : t.take j = t.take q := by rw [show j = q by omega]
       rw [h11] at hv ⊢
       generalize val (t.take q) = n at HH hv ⊢
       clear h9 h11
       by_cases h12 : n < 56
       ·
        have HE := Lib.hid (HN.out (by rw [HH.out, if_neg (by simp only [most]; omega), if_neg (by omega)]))
        go_wp2_with fail
        exact bodyPost_ret (aN rfl _ _ w.heap.size dY rfl (heap_alloc_new w _) rfl) rfl ⟨_, rfl, au w _, fG HE.out rfl⟩
       ·
        have h13 : 56 ≤ n := by omega
        clear h12
        go_wp2_with fail
        go_meet
        refine ⟨1 + q, n, rfl, by go_num, by omega, by omega, by omega, rfl, ?_⟩
        by_cases h14 : 1 + q + n ≤ t.length + 1
        · exact .inl ⟨h14, by rw [HH.out, if_neg (by simp only [most]; omega), if_pos ⟨by omega, by omega⟩]⟩
        ·
         refine .inr ⟨by omega, ?_⟩
         rw [HH.out]
         split
         · rfl
         · rw [if_neg (by omega)]
 case rest =>
  obtain ⟨h, n, rfl, rfl, hh0, hh1, hn, rfl, hcase⟩ := hcut
  rcases hcase with ⟨hle, HS⟩ | ⟨hgt, HS⟩
  ·
   obtain ⟨L, hL⟩ : ∃ L : List UInt8, L = ((c :: t).drop h).take n := ⟨_, rfl⟩
   have hLn : L.length = n := by rw [hL, Xi, W9]; simp only [WS]; omega
   have HP2 := Lib.hid (show parse (m + 1) (c :: t) = match bI (parse m) n L with | .error e => .error e | .ok xs => .ok (.mk true [] xs, h + n) by rw [HP.out, HS, hL])
   have hcase : (∃ hch : cp = h, Hid (IsB w (.slice (some ⟨bl, o, none⟩) n 0) L)) ∨ (∃ hch : cp ≠ h, Hid (IsB w (.slice (some ⟨bl, o + h, none⟩) n (cp - h)) L)) := by
    by_cases hch : cp = h
    ·
     refine .inl ⟨hch, Lib.hid ?_⟩
     have hn0 : n = 0 := by omega
     have h5 : L = [] := XF (by rw [hLn, hn0])
     rw [h5, hn0]
     exact ⟨_, 0, rfl, Nat.le_refl _, by simp [maxLen], Rd.nil⟩
    ·
     refine .inr ⟨hch, Lib.hid ?_⟩
     rw [hL]
     exact qm w bl o (c :: t) h n cp HR.out (by simpa using hle) (by simpa using hc1) hcm.out hch
   have HLN := Lib.hid hLn
   have hLc : L.length ≤ 16777216 := by omega
   clear HP HS HN hL hLn hand
   rcases hcase with ⟨hch, HCUT⟩ | ⟨hch, HCUT⟩
   ·
    go_wp2_with fail
    try simp only [X6]
    generalize Value.slice (some ⟨bl, o, none⟩) n 0 = v14 at HCUT ⊢
    clear hch
    go_loopw [13] (fun rv wr => ∃ (done : List Raw) (rest : List UInt8) (f : Nat) (A' : Option Addr) (c' : Nat) (rows : List (List Value)), IsB w rv rest ∧ rest.length ≤ f ∧ rest.length ≤ 16777216 ∧ done.length + rest.length ≤ 16777216 ∧
     bI (parse m) n L = (match bI (parse m) f rest with | .error e => .error e | .ok ys => .ok (done ++ ys)) ∧
     wr.heap[w.heap.size + 1]? = some (.cells #[.bool true, .slice none 0 0, .slice A' done.length c'] 138 (0, 0)) ∧
     wr.ownsRow (w.heap.size + 2) 138 3 (.slice A' done.length c') done.length rows.flatten ∧
     bF (okL (w.heap.size + 2) (w.heap.size + 1) (.slice A' done.length c') wr.heap.size) wr done rows ∧
     w.heap.size + 2 ≤ wr.heap.size ∧ Below (w.heap.size + 1) (w.alloc (.cells #[.bool false, .slice none 0 0, .slice none 0 0] 138)) wr)
     (fun rv _ => match rv with | .slice _ k _ => k | _ => 0)
    case atStart =>
     refine ⟨[], L, n, none, 0, [], HCUT.out, by rw [HLN.out]; exact Nat.le_refl _, hLc, by simpa using hLc, ?_, rJ _ _ _ (by simp), World.ownsRow_nil _ _ _ _, by rw [bF], by simp, (Below.refl _ _).alloc (by simp) _⟩
     cases bI (parse m) n L <;> rfl
    case round =>
     clear HCUT
     obtain ⟨done, rest, f, A', c', rows, hrb, hrf, hrl, hdl, hpl, hout, hown, hit, hsz, hb⟩ := hrel
     have hrb2 := hrb
     obtain ⟨Ar, cr, rfl, hr1, hr2, hrr⟩ := hrb
     have HRB := Lib.hid hrb2
     have HPL := Lib.hid hpl
     have HOUT := Lib.hid hout
     have HOWN := Lib.hid hown
     have HIT := Lib.hid hit
     have HB := Lib.hid hb
     have HRR := Lib.hid hrr
     have hr2' := Lib.hid hr2
     unfold maxLen at hr2
     have hGw := Lib.hid ((au w _).trans (hb.mono (by simp) : Gr _ _))
     clear hrb2 hpl hout hown hit hb hrr
     cases rest with
     | nil =>
      have hz : wr.heap[w.heap.size]? = some (.cells #[.bool false, .slice none 0 0, .slice none 0 0] 138 (0, 0)) := (HB.out.block w.heap.size (by omega)).trans (heap_alloc_new w _)
      have hload := HOUT.out
      have HDONE := Lib.hid (show parse (m + 1) (c :: t) = .ok (.mk true [] done, h + n) by
       have e1 : bI (parse m) f [] = .ok [] := by unfold bI; rfl
       have e2 := HPL.out
       rw [e1] at e2
       dsimp only at e2
       rw [XB] at e2
       rw [HP2.out, e2])
      simp only [XP] at hr1 ⊢
      go_wp2_with first
       | refine wpList_load_row rfl 138 (.tmp 14) rfl (w.heap.size + 1) rfl 138 _ (0, 0) _ hload Tryz.underlying138 rfl (dw _ rfl) ?_
       | refine wpList_store_row rfl 138 (.tmp 4) (.tmp 136) rfl w.heap.size #[.bool true, .slice none 0 0, .slice A' done.length c'] rfl rfl 138 _ hz (dw _ rfl) rfl (by simp [Value.oneCell']) ?_
      refine bodyPost_ret (aN rfl _ _ w.heap.size _ rfl (aS _ _ _ _ _ hz) rfl) rfl ⟨_, rfl, bQ hGw.out _ _ (Nat.le_refl _), ou HDONE.out rfl ?_⟩
      refine ⟨[.bool true, .slice none 0 0, .slice A' done.length c'], rfl, ?_⟩
      obtain ⟨_, _, he, hcc1, hcc2⟩ := dB HOWN.out
      injection he with _ _ he2
      subst he2
      rw [eU]
      refine ⟨_, A', c', rows, rfl, ⟨none, 0, rfl, Nat.le_refl _, by simp [maxLen], fun hn => absurd rfl hn⟩, hcc1, hcc2, fun e => ?_, (uy HOWN.out).mono (fun b hb => ?_) (fun p hp => dU ?_), bF.mono (fun b hb => ?_) (fun p hp => dU ?_) _ _ HIT.out⟩
      ·
       subst e
       exact qH HOWN.out
      ·
       have h1 := hb.1
       have h2 := hb.2
       rw [size_setRow]
       omega
      ·
       have := hp.1
       omega
      ·
       have h1 := hb.1
       have h2 := hb.2.1
       rw [size_setRow]
       omega
      ·
       have := hp.1
       omega
     | cons c1 t1 =>
      simp only [WS] at hrf hrl hdl hr1 ⊢
      go_wp2_with fail
      refine (IH.out (c1 :: t1) _ _ (HRB.out.gr hGw.out) hrl).mono ?_
      rintro e w1 ⟨v1, rfl, hg1, hv1⟩
      unfold ni nN at hv1
      obtain ⟨f, rfl⟩ : ∃ f', f = f' + 1 := ⟨f - 1, by omega⟩
      have hz1 : w1.heap[w.heap.size]? = some (.cells #[.bool false, .slice none 0 0, .slice none 0 0] 138 (0, 0)) := (hg1.block _ (by omega)).trans ((HB.out.block w.heap.size (by omega)).trans (heap_alloc_new w _))
      have ho1 : w1.heap[w.heap.size + 1]? = some (.cells #[.bool true, .slice none 0 0, .slice A' done.length c'] 138 (0, 0)) := (hg1.block _ (by omega)).trans HOUT.out
      have HG1 := Lib.hid (hGw.out.trans hg1)
      have hsz1 := hg1.size
      have hPL1 : bI (parse m) (f + 1) (c1 :: t1) = match parse m (c1 :: t1) with
        | .error e => .error e
        | .ok (x, k) => match bI (parse m) f ((c1 :: t1).drop k) with
         | .error e => .error e
         | .ok xs => .ok (x :: xs) := by
       conv => lhs; unfold bI
       cases parse m (c1 :: t1) <;> rfl
      have HPL1 := Lib.hid hPL1
      have Hg1 := Lib.hid hg1
      clear hPL1 hg1
      cases hp1 : parse m (c1 :: t1) with
      | error e =>
       rw [hp1] at hv1 HPL1
       dsimp only at hv1
       subst hv1
       have he := kE _ _ _ hp1
       have hne : ((e : Int) != 0) = true := by simp; omega
       have HF := Lib.hid (show parse (m + 1) (c :: t) = .error e by
        have e1 := HPL1.out
        dsimp only at e1
        rw [HP2.out, HPL.out, e1])
       clear hp1 HPL1 HPL HP2
       go_wp2_with refine wpList_store_row rfl 138 (.tmp 4) (.tmp 125) rfl w.heap.size #[.bool false, .slice none 0 0, .slice none 0 0] rfl rfl 138 _ ((bT w1 _ _ (by omega)).trans hz1) (dw _ rfl) rfl (by simp [Value.oneCell']) ?_
       refine bodyPost_ret (aN rfl _ _ w.heap.size _ rfl (aS _ _ _ _ _ ((bT w1 _ _ (by omega)).trans hz1)) rfl) rfl ⟨_, rfl, bQ (HG1.out.trans (au _ _)) _ _ (Nat.le_refl _), fG HF.out rfl⟩
      | ok p =>
       obtain ⟨x, k⟩ := p
       rw [hp1] at hv1 HPL1
       obtain ⟨vi, rfl, csx, rfl, hix⟩ := hv1
       obtain ⟨fx, Ax, nx, cx, Ay, ny, cy, rfl⟩ := hix.len
       obtain ⟨_, hk1, hk2⟩ := mP _ _ _ _ hp1
       simp only [WS] at hk1
       have HIX := Lib.hid hix
       clear hp1 hix
       obtain ⟨br, orr, rfl, hbr, _⟩ := HRR.out (by simp [bvs])
       have hq1 : (w1.alloc (.cells #[.bool fx, .slice Ax nx cx, .slice Ay ny cy] 138)).cell? ⟨w.heap.size + 1, 2, none⟩ = some (.slice A' done.length c') := by rw [cell_of_row _ _ _ _ _ (0, 0) ((bT w1 _ _ (by omega)).trans ho1)]; rfl
       have HOW := Lib.hid (((o7 HOWN.out Hg1.out).alloc (.cells #[.bool fx, .slice Ax nx cx, .slice Ay ny cy] 138)).alloc (.cells #[.bool fx, .slice Ax nx cx, .slice Ay ny cy] 138))
       have HRD : Hid (Rd ((w1.alloc (.cells #[.bool fx, .slice Ax nx cx, .slice Ay ny cy] 138)).alloc (.cells #[.bool fx, .slice Ax nx cx, .slice Ay ny cy] 138)) (w1.heap.size + 2) (some ⟨w1.heap.size + 1, 0, none⟩) [.bool fx, .slice Ax nx cx, .slice Ay ny cy]) := by
        have := Rd.new (w1.alloc (.cells #[.bool fx, .slice Ax nx cx, .slice Ay ny cy] 138)) #[.bool fx, .slice Ax nx cx, .slice Ay ny cy] 138
        rw [dA] at this
        exact Lib.hid this
       have HO2 := Lib.hid ((bT (w1.alloc (.cells #[.bool fx, .slice Ax nx cx, .slice Ay ny cy] 138)) (.cells #[.bool fx, .slice Ax nx cx, .slice Ay ny cy] 138) (w.heap.size + 1) (by rw [dA]; omega)).trans ((bT w1 _ _ (by omega)).trans ho1))
       by_cases hck : cr = k
       ·
        have HCUT1 : Hid (IsB w (.slice (some ⟨br, orr, none⟩) (t1.length + 1 - k) 0) ((c1 :: t1).drop k)) := by
         have h6 : t1.length + 1 - k = 0 := by omega
         have h7 : (c1 :: t1).drop k = [] := Xt (by rw [WS]; omega)
         rw [h6, h7]
         exact Lib.hid ⟨_, 0, rfl, by simp, by simp [maxLen], Rd.nil⟩
        go_wp2_with (at_builtin; refine bn (.tmp 128) (.tmp 130) 136 jF (base := w.heap.size + 2) _ done.length rows.flatten _ 1 1 (w1.heap.size + 2) [.bool fx, .slice Ax nx cx, .slice Ay ny cy] rfl rfl rfl rfl HOW.out HRD.out rfl (by simp [Value.oneCell']) (by simp only [maxLen]; omega) (by omega) (by simp; omega) ?_; intro A5 c5 w5 hown5 hg5 hbk5; have ho5 : w5.heap[w.heap.size + 1]? = some (.cells #[.bool true, .slice none 0 0, .slice A' done.length c'] 138 (0, 0)) := (hg5.block _ (by simp; omega) (fun e => by have := bP HOWN.out _ e.symm; omega)).trans HO2.out; have e5 : w5.cell? ⟨w.heap.size + 1, 2, none⟩ = some (.slice A' done.length c') := (by rw [cell_of_row w5 _ _ _ _ (0, 0) ho5]; rfl); have f5 := frozen_of_row w5 (w.heap.size + 1) 2 _ _ ho5; have HOWN5 := Lib.hid hown5; have HG5 := Lib.hid hg5; have HBK5 := Lib.hid hbk5; have HO5 := Lib.hid ho5; clear hown5 hg5 hbk5 ho5)
        go_roundw
        case rel =>
         obtain ⟨r1, r2, r3, r4, r5⟩ := jG (x := x) hsz Hg1.out HOWN.out HIT.out HIX.out HG5.out HOWN5.out HBK5.out HO5.out HB.out
         refine ⟨done ++ [x], (c1 :: t1).drop k, f, A5, c5, rows ++ [[.bool fx, .slice Ax nx cx, .slice Ay ny cy]], HCUT1.out, by rw [W9, WS]; omega, by rw [W9, WS]; omega, by rw [W9, WS, List.length_append, List.length_singleton]; omega, ?_, r1, r2, r3, r4, r5⟩
         rw [HPL.out, HPL1.out]
         cases bI (parse m) f ((c1 :: t1).drop k) with
         | error e => rfl
         | ok ys => simp
        case measure => simp; omega
       ·
        have HCUT1 : Hid (IsB w (.slice (some ⟨br, orr + k, none⟩) (t1.length + 1 - k) (cr - k)) ((c1 :: t1).drop k)) := Lib.hid (qI k HRR.out (by rw [WS]) hr1 hr2'.out hk1 hck)
        go_wp2_with (at_builtin; refine bn (.tmp 128) (.tmp 130) 136 jF (base := w.heap.size + 2) _ done.length rows.flatten _ 1 1 (w1.heap.size + 2) [.bool fx, .slice Ax nx cx, .slice Ay ny cy] rfl rfl rfl rfl HOW.out HRD.out rfl (by simp [Value.oneCell']) (by simp only [maxLen]; omega) (by omega) (by simp; omega) ?_; intro A5 c5 w5 hown5 hg5 hbk5; have ho5 : w5.heap[w.heap.size + 1]? = some (.cells #[.bool true, .slice none 0 0, .slice A' done.length c'] 138 (0, 0)) := (hg5.block _ (by simp; omega) (fun e => by have := bP HOWN.out _ e.symm; omega)).trans HO2.out; have e5 : w5.cell? ⟨w.heap.size + 1, 2, none⟩ = some (.slice A' done.length c') := (by rw [cell_of_row w5 _ _ _ _ (0, 0) ho5]; rfl); have f5 := frozen_of_row w5 (w.heap.size + 1) 2 _ _ ho5; have HOWN5 := Lib.hid hown5; have HG5 := Lib.hid hg5; have HBK5 := Lib.hid hbk5; have HO5 := Lib.hid ho5; clear hown5 hg5 hbk5 ho5)
        go_roundw
        case rel =>
         obtain ⟨r1, r2, r3, r4, r5⟩ := jG (x := x) hsz Hg1.out HOWN.out HIT.out HIX.out HG5.out HOWN5.out HBK5.out HO5.out HB.out
         refine ⟨done ++ [x], (c1 :: t1).drop k, f, A5, c5, rows ++ [[.bool fx, .slice Ax nx cx, .slice Ay ny cy]], HCUT1.out, by rw [W9, WS]; omega, by rw [W9, WS]; omega, by rw [W9, WS, List.length_append, List.length_singleton]; omega, ?_, r1, r2, r3, r4, r5⟩
         rw [HPL.out, HPL1.out]
         cases bI (parse m) f ((c1 :: t1).drop k) with
         | error e => rfl
         | ok ys => simp
        case measure => simp; omega
   ·
    go_wp2_with fail
    try simp only [X6]
    generalize Value.slice (some ⟨bl, o + h, none⟩) n (cp - h) = v14 at HCUT ⊢
    go_loopw [13] (fun rv wr => ∃ (done : List Raw) (rest : List UInt8) (f : Nat) (A' : Option Addr) (c' : Nat) (rows : List (List Value)), IsB w rv rest ∧ rest.length ≤ f ∧ rest.length ≤ 16777216 ∧ done.length + rest.length ≤ 16777216 ∧
     bI (parse m) n L = (match bI (parse m) f rest with | .error e => .error e | .ok ys => .ok (done ++ ys)) ∧
     wr.heap[w.heap.size + 1]? = some (.cells #[.bool true, .slice none 0 0, .slice A' done.length c'] 138 (0, 0)) ∧
     wr.ownsRow (w.heap.size + 2) 138 3 (.slice A' done.length c') done.length rows.flatten ∧
     bF (okL (w.heap.size + 2) (w.heap.size + 1) (.slice A' done.length c') wr.heap.size) wr done rows ∧
     w.heap.size + 2 ≤ wr.heap.size ∧ Below (w.heap.size + 1) (w.alloc (.cells #[.bool false, .slice none 0 0, .slice none 0 0] 138)) wr)
     (fun rv _ => match rv with | .slice _ k _ => k | _ => 0)
    case atStart =>
     refine ⟨[], L, n, none, 0, [], HCUT.out, by rw [HLN.out]; exact Nat.le_refl _, hLc, by simpa using hLc, ?_, rJ _ _ _ (by simp), World.ownsRow_nil _ _ _ _, by rw [bF], by simp, (Below.refl _ _).alloc (by simp) _⟩
     cases bI (parse m) n L <;> rfl
    case round =>
     clear HCUT
     obtain ⟨done, rest, f, A', c', rows, hrb, hrf, hrl, hdl, hpl, hout, hown, hit, hsz, hb⟩ := hrel
     have hrb2 := hrb
     obtain ⟨Ar, cr, rfl, hr1, hr2, hrr⟩ := hrb
     have HRB := Lib.hid hrb2
     have HPL := Lib.hid hpl
     have HOUT := Lib.hid hout
     have HOWN := Lib.hid hown
     have HIT := Lib.hid hit
     have HB := Lib.hid hb
     have HRR := Lib.hid hrr
     have hr2' := Lib.hid hr2
     unfold maxLen at hr2
     have hGw := Lib.hid ((au w _).trans (hb.mono (by simp) : Gr _ _))
     clear hrb2 hpl hout hown hit hb hrr
     cases rest with
     | nil =>
      have hz : wr.heap[w.heap.size]? = some (.cells #[.bool false, .slice none 0 0, .slice none 0 0] 138 (0, 0)) := (HB.out.block w.heap.size (by omega)).trans (heap_alloc_new w _)
      have hload := HOUT.out
      have HDONE := Lib.hid (show parse (m + 1) (c :: t) = .ok (.mk true [] done, h + n) by
       have e1 : bI (parse m) f [] = .ok [] := by unfold bI; rfl
       have e2 := HPL.out
       rw [e1] at e2
       dsimp only at e2
       rw [XB] at e2
       rw [HP2.out, e2])
      simp only [XP] at hr1 ⊢
      go_wp2_with first
       | refine wpList_load_row rfl 138 (.tmp 14) rfl (w.heap.size + 1) rfl 138 _ (0, 0) _ hload Tryz.underlying138 rfl (dw _ rfl) ?_
       | refine wpList_store_row rfl 138 (.tmp 4) (.tmp 136) rfl w.heap.size #[.bool true, .slice none 0 0, .slice A' done.length c'] rfl rfl 138 _ hz (dw _ rfl) rfl (by simp [Value.oneCell']) ?_
      refine bodyPost_ret (aN rfl _ _ w.heap.size _ rfl (aS _ _ _ _ _ hz) rfl) rfl ⟨_, rfl, bQ hGw.out _ _ (Nat.le_refl _), ou HDONE.out rfl ?_⟩
      refine ⟨[.bool true, .slice none 0 0, .slice A' done.length c'], rfl, ?_⟩
      obtain ⟨_, _, he, hcc1, hcc2⟩ := dB HOWN.out
      injection he with _ _ he2
      subst he2
      rw [eU]
      refine ⟨_, A', c', rows, rfl, ⟨none, 0, rfl, Nat.le_refl _, by simp [maxLen], fun hn => absurd rfl hn⟩, hcc1, hcc2, fun e => ?_, (uy HOWN.out).mono (fun b hb => ?_) (fun p hp => dU ?_), bF.mono (fun b hb => ?_) (fun p hp => dU ?_) _ _ HIT.out⟩
      ·
       subst e
       exact qH HOWN.out
      ·
       have h1 := hb.1
       have h2 := hb.2
       rw [size_setRow]
       omega
      ·
       have := hp.1
       omega
      ·
       have h1 := hb.1
       have h2 := hb.2.1
       rw [size_setRow]
       omega
      ·
       have := hp.1
       omega
     | cons c1 t1 =>
      simp only [WS] at hrf hrl hdl hr1 ⊢
      go_wp2_with fail
      refine (IH.out (c1 :: t1) _ _ (HRB.out.gr hGw.out) hrl).mono ?_
      rintro e w1 ⟨v1, rfl, hg1, hv1⟩
      unfold ni nN at hv1
      obtain ⟨f, rfl⟩ : ∃ f', f = f' + 1 := ⟨f - 1, by omega⟩
      have hz1 : w1.heap[w.heap.size]? = some (.cells #[.bool false, .slice none 0 0, .slice none 0 0] 138 (0, 0)) := (hg1.block _ (by omega)).trans ((HB.out.block w.heap.size (by omega)).trans (heap_alloc_new w _))
      have ho1 : w1.heap[w.heap.size + 1]? = some (.cells #[.bool true, .slice none 0 0, .slice A' done.length c'] 138 (0, 0)) := (hg1.block _ (by omega)).trans HOUT.out
      have HG1 := Lib.hid (hGw.out.trans hg1)
      have hsz1 := hg1.size
      have hPL1 : bI (parse m) (f + 1) (c1 :: t1) = match parse m (c1 :: t1) with
        | .error e => .error e
        | .ok (x, k) => match bI (parse m) f ((c1 :: t1).drop k) with
         | .error e => .error e
         | .ok xs => .ok (x :: xs) := by
       conv => lhs; unfold bI
       cases parse m (c1 :: t1) <;> rfl
      have HPL1 := Lib.hid hPL1
      have Hg1 := Lib.hid hg1
      clear hPL1 hg1
      cases hp1 : parse m (c1 :: t1) with
      | error e =>
       rw [hp1] at hv1 HPL1
       dsimp only at hv1
       subst hv1
       have he := kE _ _ _ hp1
       have hne : ((e : Int) != 0) = true := by simp; omega
       have HF := Lib.hid (show parse (m + 1) (c :: t) = .error e by
        have e1 := HPL1.out
        dsimp only at e1
        rw [HP2.out, HPL.out, e1])
       clear hp1 HPL1 HPL HP2
       go_wp2_with refine wpList_store_row rfl 138 (.tmp 4) (.tmp 125) rfl w.heap.size #[.bool false, .slice none 0 0, .slice none 0 0] rfl rfl 138 _ ((bT w1 _ _ (by omega)).trans hz1) (dw _ rfl) rfl (by simp [Value.oneCell']) ?_
       refine bodyPost_ret (aN rfl _ _ w.heap.size _ rfl (aS _ _ _ _ _ ((bT w1 _ _ (by omega)).trans hz1)) rfl) rfl ⟨_, rfl, bQ (HG1.out.trans (au _ _)) _ _ (Nat.le_refl _), fG HF.out rfl⟩
      | ok p =>
       obtain ⟨x, k⟩ := p
       rw [hp1] at hv1 HPL1
       obtain ⟨vi, rfl, csx, rfl, hix⟩ := hv1
       obtain ⟨fx, Ax, nx, cx, Ay, ny, cy, rfl⟩ := hix.len
       obtain ⟨_, hk1, hk2⟩ := mP _ _ _ _ hp1
       simp only [WS] at hk1
       have HIX := Lib.hid hix
       clear hp1 hix
       obtain ⟨br, orr, rfl, hbr, _⟩ := HRR.out (by simp [bvs])
       have hq1 : (w1.alloc (.cells #[.bool fx, .slice Ax nx cx, .slice Ay ny cy] 138)).cell? ⟨w.heap.size + 1, 2, none⟩ = some (.slice A' done.length c') := by rw [cell_of_row _ _ _ _ _ (0, 0) ((bT w1 _ _ (by omega)).trans ho1)]; rfl
       have HOW := Lib.hid (((o7 HOWN.out Hg1.out).alloc (.cells #[.bool fx, .slice Ax nx cx, .slice Ay ny cy] 138)).alloc (.cells #[.bool fx, .slice Ax nx cx, .slice Ay ny cy] 138))
       have HRD : Hid (Rd ((w1.alloc (.cells #[.bool fx, .slice Ax nx cx, .slice Ay ny cy] 138)).alloc (.cells #[.bool fx, .slice Ax nx cx, .slice Ay ny cy] 138)) (w1.heap.size + 2) (some ⟨w1.heap.size + 1, 0, none⟩) [.bool fx, .slice Ax nx cx, .slice Ay ny cy]) := by
        have := Rd.new (w1.alloc (.cells #[.bool fx, .slice Ax nx cx, .slice Ay ny cy] 138)) #[.bool fx, .slice Ax nx cx, .slice Ay ny cy] 138
        rw [dA] at this
        exact Lib.hid this
       have HO2 := Lib.hid ((bT (w1.alloc (.cells #[.bool fx, .slice Ax nx cx, .slice Ay ny cy] 138)) (.cells #[.bool fx, .slice Ax nx cx, .slice Ay ny cy] 138) (w.heap.size + 1) (by rw [dA]; omega)).trans ((bT w1 _ _ (by omega)).trans ho1))
       by_cases hck : cr = k
       ·
        have HCUT1 : Hid (IsB w (.slice (some ⟨br, orr, none⟩) (t1.length + 1 - k) 0) ((c1 :: t1).drop k)) := by
         have h6 : t1.length + 1 - k = 0 := by omega
         have h7 : (c1 :: t1).drop k = [] := Xt (by rw [WS]; omega)
         rw [h6, h7]
         exact Lib.hid ⟨_, 0, rfl, by simp, by simp [maxLen], Rd.nil⟩
        go_wp2_with (at_builtin; refine bn (.tmp 128) (.tmp 130) 136 jF (base := w.heap.size + 2) _ done.length rows.flatten _ 1 1 (w1.heap.size + 2) [.bool fx, .slice Ax nx cx, .slice Ay ny cy] rfl rfl rfl rfl HOW.out HRD.out rfl (by simp [Value.oneCell']) (by simp only [maxLen]; omega) (by omega) (by simp; omega) ?_; intro A5 c5 w5 hown5 hg5 hbk5; have ho5 : w5.heap[w.heap.size + 1]? = some (.cells #[.bool true, .slice none 0 0, .slice A' done.length c'] 138 (0, 0)) := (hg5.block _ (by simp; omega) (fun e => by have := bP HOWN.out _ e.symm; omega)).trans HO2.out; have e5 : w5.cell? ⟨w.heap.size + 1, 2, none⟩ = some (.slice A' done.length c') := (by rw [cell_of_row w5 _ _ _ _ (0, 0) ho5]; rfl); have f5 := frozen_of_row w5 (w.heap.size + 1) 2 _ _ ho5; have HOWN5 := Lib.hid hown5; have HG5 := Lib.hid hg5; have HBK5 := Lib.hid hbk5; have HO5 := Lib.hid ho5; clear hown5 hg5 hbk5 ho5)
        go_roundw
        case rel =>
         obtain ⟨r1, r2, r3, r4, r5⟩ := jG (x := x) hsz Hg1.out HOWN.out HIT.out HIX.out HG5.out HOWN5.out HBK5.out HO5.out HB.out
         refine ⟨done ++ [x], (c1 :: t1).drop k, f, A5, c5, rows ++ [[.bool fx, .slice Ax nx cx, .slice Ay ny cy]], HCUT1.out, by rw [W9, WS]; omega, by rw [W9, WS]; omega, by rw [W9, WS, List.length_append, List.length_singleton]; omega, ?_, r1, r2, r3, r4, r5⟩
         rw [HPL.out, HPL1.out]
         cases bI (parse m) f ((c1 :: t1).drop k) with
         | error e => rfl
         | ok ys => simp
        case measure => simp; omega
       ·
        have HCUT1 : Hid (IsB w (.slice (some ⟨br, orr + k, none⟩) (t1.length + 1 - k) (cr - k)) ((c1 :: t1).drop k)) := Lib.hid (qI k HRR.out (by rw [WS]) hr1 hr2'.out hk1 hck)
        go_wp2_with (at_builtin; refine bn (.tmp 128) (.tmp 130) 136 jF (base := w.heap.size + 2) _ done.length rows.flatten _ 1 1 (w1.heap.size + 2) [.bool fx, .slice Ax nx cx, .slice Ay ny cy] rfl rfl rfl rfl HOW.out HRD.out rfl (by simp [Value.oneCell']) (by simp only [maxLen]; omega) (by omega) (by simp; omega) ?_; intro A5 c5 w5 hown5 hg5 hbk5; have ho5 : w5.heap[w.heap.size + 1]? = some (.cells #[.bool true, .slice none 0 0, .slice A' done.length c'] 138 (0, 0)) := (hg5.block _ (by simp; omega) (fun e => by have := bP HOWN.out _ e.symm; omega)).trans HO2.out; have e5 : w5.cell? ⟨w.heap.size + 1, 2, none⟩ = some (.slice A' done.length c') := (by rw [cell_of_row w5 _ _ _ _ (0, 0) ho5]; rfl); have f5 := frozen_of_row w5 (w.heap.size + 1) 2 _ _ ho5; have HOWN5 := Lib.hid hown5; have HG5 := Lib.hid hg5; have HBK5 := Lib.hid hbk5; have HO5 := Lib.hid ho5; clear hown5 hg5 hbk5 ho5)
        go_roundw
        case rel =>
         obtain ⟨r1, r2, r3, r4, r5⟩ := jG (x := x) hsz Hg1.out HOWN.out HIT.out HIX.out HG5.out HOWN5.out HBK5.out HO5.out HB.out
         refine ⟨done ++ [x], (c1 :: t1).drop k, f, A5, c5, rows ++ [[.bool fx, .slice Ax nx cx, .slice Ay ny cy]], HCUT1.out, by rw [W9, WS]; omega, by rw [W9, WS]; omega, by rw [W9, WS, List.length_append, List.length_singleton]; omega, ?_, r1, r2, r3, r4, r5⟩
         rw [HPL.out, HPL1.out]
         cases bI (parse m) f ((c1 :: t1).drop k) with
         | error e => rfl
         | ok ys => simp
        case measure => simp; omega
  ·
   have HE := Lib.hid (HN.out HS)
   clear HP
   go_wp2_with fail
   exact bodyPost_ret (aN rfl _ _ w.heap.size dY rfl (heap_alloc_new w _) rfl) rfl ⟨_, rfl, au w _, fG HE.out rfl⟩
theorem LY (v : Value) (c : UInt8) (t : List UInt8) (w : World) (h : IsB w v (c :: t)) (h3 : 192 ≤ c.toNat) : Calls Tryz.prog 114 #[v, .int .i64 0] w (Ret (ni w.heap.size 0 (c :: t)) w) := by
 obtain ⟨A, cp, rfl, hc1, hc2, hr⟩ := h
 obtain ⟨bl, o, rfl, hbl, hcell⟩ := hr (by simp [bvs])
 have e0 := hcell 0 (bv c) rfl
 rw [XI] at e0
 unfold bv at e0
 obtain ⟨k, hk⟩ : ∃ k : Nat, c.toNat = 192 + k := ⟨c.toNat - 192, by omega⟩
 rw [show (c.toNat : Int) = 192 + (k : Int) by omega] at e0
 have HP := Lib.hid (show parse 0 (c :: t) = .error 3 by rw [show parse 0 = ql none from rfl, gI, if_neg (fun e => by have := Xe.1 e; have h128 : (128 : UInt8).toNat = 128 := rfl; omega), if_neg (fun e => by have := Xe.1 e; have h192 : (192 : UInt8).toNat = 192 := rfl; omega)])
 unfold maxLen at hc2
 simp only [WS] at hc1 ⊢
 have hk2 : k < 64 := by have := c.toNat_lt; omega
 clear hcell hr h3 hk
 go_enter Tryz.func114, Tryz.ntmps114
 go_wp2_with fail
 exact bodyPost_ret (aN rfl _ _ w.heap.size dY rfl (heap_alloc_new w _) rfl) rfl ⟨_, rfl, au w _, fG HP.out rfl⟩
theorem EX : ∀ (m : Nat), m ≤ 32 → ∀ (b : List UInt8) (v : Value) (w : World), IsB w v b → b.length ≤ 16777216 → Calls Tryz.prog 114 #[v, .int .i64 m] w (Ret (ni w.heap.size m b) w)
 | m, hm, [], v, w, h, hl => OJ m m v w h
 | m, hm, c :: t, v, w, h, hl => by
  have hcl := c.toNat_lt
  by_cases h1 : c < 128
  · exact LZ m m v c t w h h1
  ·
   have h3 : 128 ≤ c.toNat := Yw.1 fun e => h1 (Xe.2 e)
   by_cases h2 : c.toNat < 192
   · exact LW m v c t w h (by simp at hl; omega) (c.toNat - 128) (by omega) (by omega) hm
   ·
    match m, hm with
    | 0, hm => exact LY v c t w h (by omega)
    | m + 1, hm => exact LX m (EX m (by omega)) v c t w h (by simp at hl; omega) (c.toNat - 192) (by omega) (by omega) (by omega)
def qU (B : Nat) (b : List UInt8) : VP := fun v w => match fU b with
 | .ok x => ∃ vi, v = .tuple #[vi, .int .i64 0] ∧ jk (fun k => B ≤ k ∧ k < w.heap.size) w vi x
 | .error e => v = .tuple #[nN, .int .i64 (e : Int)]
theorem Bv {B : Nat} {b : List UInt8} {x : Raw} {v vi : Value} {w : World} (h : fU b = .ok x) (hv : v = .tuple #[vi, .int .i64 0]) (hi : jk (fun k => B ≤ k ∧ k < w.heap.size) w vi x) : qU B b v w := by unfold qU; rw [h]; exact ⟨vi, hv, hi⟩
theorem kD {B : Nat} {b : List UInt8} {e : Nat} {v : Value} {w : World} (h : fU b = .error e) (hv : v = .tuple #[nN, .int .i64 (e : Int)]) : qU B b v w := by unfold qU; rw [h]; exact hv
theorem rE {b : List UInt8} {e : Nat} (h : fU b = .error e) : e = 3 ∨ e = 4 := by
 unfold fU at h
 split at h
 · cases h; exact .inl rfl
 ·
  split at h
  ·
   rename_i e' he
   cases h
   exact kE _ _ _ he
  ·
   split at h
   · cases h
   · cases h; exact .inr rfl
theorem Oq (v : Value) (b : List UInt8) (w : World) (h : IsB w v b) : Calls Tryz.prog 110 #[v] w (Ret (qU w.heap.size b) w) := by
 have h0 := h
 obtain ⟨A, cp, rfl, hc1, hc2, _⟩ := h
 have H := Lib.hid (h0.gr (au w (.cells dY 138)))
 unfold maxLen at hc2
 clear h0
 by_cases hl : b.length > most
 ·
  have HR := Lib.hid (show fU b = .error 3 by unfold fU; rw [if_pos hl])
  simp only [most] at hl
  go_enter Tryz.func110, Tryz.ntmps110
  go_wp2_with fail
  exact bodyPost_ret (gy rfl _ _ w.heap.size dY rfl (heap_alloc_new w _) rfl) rfl ⟨_, rfl, au w _, kD HR.out rfl⟩
 ·
  have HR : Hid (fU b = match parse 32 b with | .error e => .error e | .ok (x, n) => if n = b.length then .ok x else .error 4) := by
   refine Lib.hid ?_
   unfold fU
   rw [if_neg hl]
   cases parse 32 b <;> rfl
  have hl2 : b.length ≤ 16777216 := by simp only [most] at hl; omega
  clear hl
  go_enter Tryz.func110, Tryz.ntmps110
  go_wp2_with fail
  refine (EW 32 0 rfl b _ _ H.out hl2).mono ?_
  rintro e w1 ⟨v1, rfl, hg1, hv1⟩
  unfold bW nN at hv1
  have hs1 := hg1.size
  simp only [dA] at hs1
  have HZ1 : Hid (w1.heap[w.heap.size]? = some (.cells dY 138 (0, 0))) := Lib.hid ((hg1.block _ (by simp)).trans (heap_alloc_new w _))
  have HG1 := Lib.hid ((au w _).trans hg1)
  clear hg1 H
  cases hp : parse 32 b with
  | error e =>
   rw [hp] at hv1 HR
   dsimp only at hv1
   subst hv1
   have he := kE _ _ _ hp
   have hne : ((e : Int) != 0) = true := by simp; omega
   have hne2 : ((e : Int) == 0) = false := by simp; omega
   have HE := Lib.hid (show fU b = .error e from HR.out)
   clear hp HR
   go_wp2_with refine wpList_store_row rfl 138 (.tmp 2) (.tmp 27) rfl w.heap.size dY rfl rfl 138 _ ((bT w1 _ _ (by omega)).trans HZ1.out) (dw _ rfl) rfl (by simp [Value.oneCell']) ?_
   exact bodyPost_ret (gy rfl _ _ w.heap.size _ rfl (aS _ _ _ _ _ ((bT w1 _ _ (by omega)).trans HZ1.out)) rfl) rfl ⟨_, rfl, bQ (HG1.out.trans (au _ _)) _ _ (Nat.le_refl _), kD HE.out rfl⟩
  | ok p =>
   obtain ⟨x, n⟩ := p
   rw [hp] at hv1 HR
   obtain ⟨vi, rfl, csx, rfl, hix⟩ := hv1
   obtain ⟨fx, Ax, nx, cx, Ay, ny, cy, rfl⟩ := hix.len
   have hn := (mP _ _ _ _ hp).2.1
   have HIX := Lib.hid hix
   clear hp hix
   by_cases hnb : n = b.length
   ·
    have HO := Lib.hid (show fU b = .ok x by rw [HR.out]; exact if_pos hnb)
    have hnn : ((n : Int) != (b.length : Int)) = false := by simp; omega
    clear HR hnb
    go_wp2_with refine wpList_store_row rfl 138 (.tmp 2) (.tmp 29) rfl w.heap.size #[.bool fx, .slice Ax nx cx, .slice Ay ny cy] rfl rfl 138 _ ((bT w1 _ _ (by omega)).trans HZ1.out) (dw _ rfl) rfl (by simp [Value.oneCell']) ?_
    refine bodyPost_ret (gy rfl _ _ w.heap.size _ rfl (aS _ _ _ _ _ ((bT w1 _ _ (by omega)).trans HZ1.out)) rfl) rfl ⟨_, rfl, bQ (HG1.out.trans (au _ _)) _ _ (Nat.le_refl _), Bv HO.out rfl ⟨_, rfl, eU.mono (fun k hk => ?_) (fun p hp => ?_) _ _ HIX.out⟩⟩
    ·
     have h1 := hk.1
     have h2 := hk.2
     simp only [dA] at h1
     rw [size_setRow, dA]
     omega
    ·
     have h1 := hp.1
     have h2 := hp.2
     simp only [dA] at h1
     rw [dU (by omega)]
     exact Zg _ _ _ h2
   ·
    have HE := Lib.hid (show fU b = .error 4 by rw [HR.out]; exact if_neg hnb)
    have hnn : ((n : Int) != (b.length : Int)) = true := by simp; omega
    clear HR hnb
    go_wp2_with refine wpList_store_row rfl 138 (.tmp 2) (.tmp 27) rfl w.heap.size dY rfl rfl 138 _ ((bT w1 _ _ (by omega)).trans HZ1.out) (dw _ rfl) rfl (by simp [Value.oneCell']) ?_
    exact bodyPost_ret (gy rfl _ _ w.heap.size _ rfl (aS _ _ _ _ _ ((bT w1 _ _ (by omega)).trans HZ1.out)) rfl) rfl ⟨_, rfl, bQ (HG1.out.trans (au _ _)) _ _ (Nat.le_refl _), kD HE.out rfl⟩
theorem Oz (v : Value) (b : List UInt8) (w : World) (h : IsB w v b) : Calls Tryz.prog 66 #[v] w (Ret (qU w.heap.size b) w) := by
 have h0 := h
 obtain ⟨A, cp, rfl, hc1, hc2, _⟩ := h
 have H := Lib.hid (h0.gr (au w (.cells dY 138)))
 unfold maxLen at hc2
 clear h0
 by_cases hl : b.length > most
 ·
  have HR := Lib.hid (show fU b = .error 3 by unfold fU; rw [if_pos hl])
  simp only [most] at hl
  go_enter Tryz.func66, Tryz.ntmps66
  go_wp2_with fail
  exact bodyPost_ret (gy rfl _ _ w.heap.size dY rfl (heap_alloc_new w _) rfl) rfl ⟨_, rfl, au w _, kD HR.out rfl⟩
 ·
  have HR : Hid (fU b = match parse 32 b with | .error e => .error e | .ok (x, n) => if n = b.length then .ok x else .error 4) := by
   refine Lib.hid ?_
   unfold fU
   rw [if_neg hl]
   cases parse 32 b <;> rfl
  have hl2 : b.length ≤ 16777216 := by simp only [most] at hl; omega
  clear hl
  go_enter Tryz.func66, Tryz.ntmps66
  go_wp2_with fail
  refine (EX 32 (Nat.le_refl _) b _ _ H.out hl2).mono ?_
  rintro e w1 ⟨v1, rfl, hg1, hv1⟩
  unfold ni nN at hv1
  have hs1 := hg1.size
  simp only [dA] at hs1
  have HZ1 : Hid (w1.heap[w.heap.size]? = some (.cells dY 138 (0, 0))) := Lib.hid ((hg1.block _ (by simp)).trans (heap_alloc_new w _))
  have HG1 := Lib.hid ((au w _).trans hg1)
  clear hg1 H
  cases hp : parse 32 b with
  | error e =>
   rw [hp] at hv1 HR
   dsimp only at hv1
   subst hv1
   have he := kE _ _ _ hp
   have hne : ((e : Int) != 0) = true := by simp; omega
   have HE := Lib.hid (show fU b = .error e from HR.out)
   clear hp HR
   go_wp2_with refine wpList_store_row rfl 138 (.tmp 2) (.tmp 19) rfl w.heap.size dY rfl rfl 138 _ ((bT w1 _ _ (by omega)).trans HZ1.out) (dw _ rfl) rfl (by simp [Value.oneCell']) ?_
   exact bodyPost_ret (gy rfl _ _ w.heap.size _ rfl (aS _ _ _ _ _ ((bT w1 _ _ (by omega)).trans HZ1.out)) rfl) rfl ⟨_, rfl, bQ (HG1.out.trans (au _ _)) _ _ (Nat.le_refl _), kD HE.out rfl⟩
  | ok p =>
   obtain ⟨x, n⟩ := p
   rw [hp] at hv1 HR
   obtain ⟨vi, rfl, csx, rfl, hix⟩ := hv1
   obtain ⟨fx, Ax, nx, cx, Ay, ny, cy, rfl⟩ := hix.len
   have hn := (mP _ _ _ _ hp).2.1
   have HIX := Lib.hid hix
   clear hp hix
   by_cases hnb : n = b.length
   ·
    have HO := Lib.hid (show fU b = .ok x by rw [HR.out]; exact if_pos hnb)
    have hnn : ((n : Int) != (b.length : Int)) = false := by simp; omega
    clear HR hnb
    go_wp2_with refine wpList_store_row rfl 138 (.tmp 2) (.tmp 26) rfl w.heap.size #[.bool fx, .slice Ax nx cx, .slice Ay ny cy] rfl rfl 138 _ ((bT w1 _ _ (by omega)).trans HZ1.out) (dw _ rfl) rfl (by simp [Value.oneCell']) ?_
    refine bodyPost_ret (gy rfl _ _ w.heap.size _ rfl (aS _ _ _ _ _ ((bT w1 _ _ (by omega)).trans HZ1.out)) rfl) rfl ⟨_, rfl, bQ (HG1.out.trans (au _ _)) _ _ (Nat.le_refl _), Bv HO.out rfl ⟨_, rfl, eU.mono (fun k hk => ?_) (fun p hp => ?_) _ _ HIX.out⟩⟩
    ·
     have h1 := hk.1
     have h2 := hk.2
     simp only [dA] at h1
     rw [size_setRow, dA]
     omega
    ·
     have h1 := hp.1
     have h2 := hp.2
     simp only [dA] at h1
     rw [dU (by omega)]
     exact Zg _ _ _ h2
   ·
    have HE := Lib.hid (show fU b = .error 4 by rw [HR.out]; exact if_neg hnb)
    have hnn : ((n : Int) != (b.length : Int)) = true := by simp; omega
    clear HR hnb
    go_wp2_with refine wpList_store_row rfl 138 (.tmp 2) (.tmp 25) rfl w.heap.size dY rfl rfl 138 _ ((bT w1 _ _ (by omega)).trans HZ1.out) (dw _ rfl) rfl (by simp [Value.oneCell']) ?_
    exact bodyPost_ret (gy rfl _ _ w.heap.size _ rfl (aS _ _ _ _ _ ((bT w1 _ _ (by omega)).trans HZ1.out)) rfl) rfl ⟨_, rfl, bQ (HG1.out.trans (au _ _)) _ _ (Nat.le_refl _), kD HE.out rfl⟩
end Go.Proofs.YtelbhdobjdnglaaGreat
namespace Go.Proofs.YtelbhdobjdnglaaGreat
set_option linter.unusedVariables false
open Go.RowKit Mono Rlp
namespace E
def rdE (b : List UInt8) : Nat := match fU b with | .ok _ => 0 | .error e => e
def rdX (b : List UInt8) : Raw := match fU b with | .ok x => x | .error _ => .mk false [] []
theorem JG {B : Nat} {b : List UInt8} {v : Value} {w : World} (h : qU B b v w) : ∃ vi, v = .tuple #[vi, .int .i64 (rdE b : Int)] ∧ jk (fun k => B ≤ k ∧ k < w.heap.size) w vi (rdX b) := by
 unfold qU at h
 unfold rdE rdX
 cases hr : fU b with
 | ok x => rw [hr] at h; exact h
 | error e =>
  rw [hr] at h
  exact ⟨nN, h, fZ (l := []) ⟨none, 0, rfl, Nat.le_refl _, by simp [maxLen], fun hn => absurd rfl hn⟩⟩
def yO (b : List UInt8) : R := .tpl [aX (rdX b), .v (.int .i64 (rdE b : Int))]
theorem PZ (b : List UInt8) : Fn 110 [.bs b] (· = yO b) := ⟨fun ok w xs hok hr => by
 obtain ⟨v, rfl, h⟩ := jQ hr
 refine (Oq v b w (nJ hok h)).mono ?_
 rintro e w' ⟨v', rfl, hg, hv⟩
 obtain ⟨vi, rfl, hi⟩ := JG hv
 exact ⟨hg, _, _, rfl, rfl, Ez (sZ.2 (jk.mono hi (fun b hb => y8 b hb) fun _ _ => rfl)) (iD rfl)⟩⟩
theorem CO (b : List UInt8) : Fn 66 [.bs b] (· = yO b) := ⟨fun ok w xs hok hr => by
 obtain ⟨v, rfl, h⟩ := jQ hr
 refine (Oz v b w (nJ hok h)).mono ?_
 rintro e w' ⟨v', rfl, hg, hv⟩
 obtain ⟨vi, rfl, hi⟩ := JG hv
 exact ⟨hg, _, _, rfl, rfl, Ez (sZ.2 (jk.mono hi (fun b hb => y8 b hb) fun _ _ => rfl)) (iD rfl)⟩⟩
end E
end Go.Proofs.YtelbhdobjdnglaaGreat
