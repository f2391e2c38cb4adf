/-
 Merged: lemmas of this claim.
 Conditions: none.
-/
import Derived.Test.YtelbhdobjdnglaaGreatZC16
import Derived.Test.YtelbhdobjdnglaaGreatZC15
import Derived.Test.YtelbhdobjdnglaaGreatZC0
namespace Go.Proofs.YtelbhdobjdnglaaGreat
set_option linter.unusedVariables false
set_option maxRecDepth 20000
set_option maxHeartbeats 4000000
open Go.RowKit Mono Rlp
theorem zu (a b : Nat) (ha : a < 2 ^ 63) (hb : b < 2 ^ 63) : bits .or .i64 (a : Int) (b : Int) = ((a ||| b : Nat) : Int) := by
 have key : (BitVec.ofInt 64 (a : Int) ||| BitVec.ofInt 64 (b : Int)).toNat = a ||| b := by
  rw [BitVec.toNat_or, Zo, Zo]
  congr 1
  · omega
  · omega
 show IntKind.i64.wrap ((BitVec.ofInt 64 (a : Int) ||| BitVec.ofInt 64 (b : Int)).toNat : Nat) = _
 have hlt := Nat.or_lt_two_pow ha hb
 rw [key, IntKind.wrap_i64]
 omega
theorem zx (n x : Nat) (hn : n ≤ 16777216) (hx : x < 256) : bits .or .i64 ((n : Int) * 256) (x : Int) = ((n * 256 + x : Nat) : Int) := by
 have := zu (n * 256) x (by omega) (by omega)
 rw [nat_join 8 (n * 256) x (by omega) (by omega)] at this
 rw [← this]
 simp
theorem nO (l : List UInt8) (j : Nat) (h : j < l.length) : val (l.take (j + 1)) = val (l.take j) * 256 + l[j].toNat := by
 rw [Xa h, xY]
theorem xZ (l : List UInt8) : ∀ (i j : Nat), i ≤ j → val (l.take i) ≤ val (l.take j) := by
 intro i j h
 induction j with
 | zero =>
      obtain rfl : i = 0 := by omega
      exact Nat.le_refl _
 | succ j ih =>
  rcases Xx i (j + 1) with h1 | h1
  ·
   rcases Xx j l.length with h2 | h2
   ·
    have := ih (by omega)
    rw [nO l j h2]
    omega
   ·
    have h3 := ih (by omega)
    rw [XT (l := l) (i := j) h2] at h3
    rw [XT (l := l) (i := j + 1) (by omega)]
    exact h3
  ·
   obtain rfl : i = j + 1 := by omega
   exact Nat.le_refl _
def Jr (b : List UInt8) (base : Nat) (v : Value) : Prop := match Rlp.hdr b base with
 | some (h, n) => v = .tuple #[.int .i64 (h : Int), .int .i64 (n : Int), .bool true]
 | none => ∃ x y : Int, v = .tuple #[.int .i64 x, .int .i64 y, .bool false]
theorem BQ {b : List UInt8} {base h n : Nat} {v : Value} (hh : Rlp.hdr b base = some (h, n)) (hv : v = .tuple #[.int .i64 (h : Int), .int .i64 (n : Int), .bool true]) : Jr b base v := by unfold Jr; rw [hh]; exact hv
theorem lH {b : List UInt8} {base : Nat} {v : Value} (hh : Rlp.hdr b base = none) (x y : Int) (hv : v = .tuple #[.int .i64 x, .int .i64 y, .bool false]) : Jr b base v := by unfold Jr; rw [hh]; exact ⟨x, y, hv⟩
def WA (V : Value → Prop) (w : World) (e : Ending) (w' : World) : Prop := w' = w ∧ ∃ v, e = .returned v ∧ V v
theorem yI (v : Value) (c : UInt8) (t : List UInt8) (base : Nat) (w : World) (h : IsB w v (c :: t)) (hl : t.length ≤ 70368744177664) (hb : base ≤ 192) (h1 : base ≤ c.toNat) (h2 : c.toNat < base + 64) :
  Calls Tryz.prog 187 #[v, .int .i64 base] w (WA (Jr (c :: t) base) w) := by
 obtain ⟨A, cp, rfl, hc1, hc2, hr⟩ := h
 obtain ⟨bl, o, rfl, hbl, hcell⟩ := hr (by simp [bvs])
 have e0 := hcell 0 (bv c) rfl
 rw [XI] at e0
 unfold bv at e0
 have hcl := jh c
 have HC : Hid (∀ j (hj : j < t.length), w.cell? ⟨bl, o + 1 + j, none⟩ = some (.int .u8 (t[j].toNat : Int))) := by
  refine Lib.hid fun j hj => ?_
  have := hcell (j + 1) (bv t[j]) (by simp [bvs, hj])
  rw [show o + 1 + j = o + (j + 1) by omega]
  exact this
 clear hcell hr
 unfold maxLen at hc2
 simp only [WS] at hc1 ⊢
 have hdr0 : Rlp.hdr (c :: t) base = if c.toNat - base ≤ 55 then (if c.toNat - base ≤ t.length then some (1, c.toNat - base) else none)
   else if t.length + 1 < 1 + (c.toNat - base - 55) ∨ t.getD 0 0 = 0 then none
   else if val (t.take (c.toNat - base - 55)) > most then none
   else if 55 < val (t.take (c.toNat - base - 55)) ∧ val (t.take (c.toNat - base - 55)) ≤ t.length - (c.toNat - base - 55) then some (1 + (c.toNat - base - 55), val (t.take (c.toNat - base - 55))) else none := by
  unfold Rlp.hdr
  simp only [List.getD_cons_zero, WS, List.getD_cons_succ, WG, WM, Y2]
 have HD := Lib.hid hdr0
 clear hdr0
 by_cases h3 : c.toNat - base ≤ 55
 ·
  by_cases h4 : c.toNat - base ≤ t.length
  ·
   have HH := Lib.hid (show Rlp.hdr (c :: t) base = some (1, c.toNat - base) by rw [HD.out, if_pos h3, if_pos h4])
   go_enter Tryz.func187, Tryz.ntmps187
   go_wp2_with fail
   refine bodyPost_ret (results_tmp3 rfl _ _ _) rfl ⟨rfl, _, rfl, BQ HH.out ?_⟩
   simp
   omega
  ·
   have HH := Lib.hid (show Rlp.hdr (c :: t) base = none by rw [HD.out, if_pos h3, if_neg h4])
   go_enter Tryz.func187, Tryz.ntmps187
   go_wp2_with fail
   refine bodyPost_ret (results_tmp3 rfl _ _ _) rfl ⟨rfl, _, rfl, lH HH.out 1 ((c.toNat : Int) - base) ?_⟩
   simp
   omega
 ·
  obtain ⟨m, hm⟩ : ∃ m : Nat, m = c.toNat - base - 55 := ⟨_, rfl⟩
  rw [← hm] at HD
  have hm1 : 1 ≤ m := by omega
  have hm8 : m ≤ 8 := by omega
  have hmc : (c.toNat : Int) = base + 55 + m := by omega
  by_cases h4 : t.length + 1 < 1 + m
  ·
   have HH := Lib.hid (show Rlp.hdr (c :: t) base = none by rw [HD.out, if_neg h3, if_pos (.inl h4)])
   clear HD h3 hm
   rw [hmc] at e0
   clear hmc
   go_enter Tryz.func187, Tryz.ntmps187
   go_wp2_with fail
   refine bodyPost_ret (results_tmp3 rfl _ _ _) rfl ⟨rfl, _, rfl, lH HH.out 0 0 rfl⟩
  ·
   have h0t : 0 < t.length := by omega
   have e1 := HC.out 0 h0t
   rw [XI] at e1
   have hx0 := jh (t[0]'h0t)
   by_cases h5 : t[0]'h0t = 0
   ·
    have HH := Lib.hid (show Rlp.hdr (c :: t) base = none by
     rw [HD.out, if_neg h3, if_pos (.inr (by rw [List.getD_eq_getElem?_getD, List.getElem?_eq_getElem h0t, h5]; rfl))])
    rw [h5] at e1
    rw [hmc] at e0
    have h6 : 1 + m ≤ t.length + 1 := by omega
    have e1' : w.cell? ⟨bl, o + 1, none⟩ = some (.int .u8 0) := e1
    clear HD h3 hm hmc e1 h5 h4
    go_enter Tryz.func187, Tryz.ntmps187
    go_wp2_with fail
    refine bodyPost_ret (results_tmp3 rfl _ _ _) rfl ⟨rfl, _, rfl, lH HH.out 0 0 rfl⟩
   ·
    have h6 : 1 + m ≤ t.length + 1 := by omega
    have h7 : 0 < (t[0]'h0t).toNat := by
     rcases Ya (t[0]'h0t).toNat with h0 | h0
     · exact absurd (XR.1 (by rw [h0]; rfl)) h5
     · exact h0
    have h8 : (((t[0]'h0t).toNat : Int) == 0) = false := by simp; omega
    have HH : Hid (Rlp.hdr (c :: t) base = if val (t.take m) > most then none else if 55 < val (t.take m) ∧ val (t.take m) ≤ t.length - m then some (1 + m, val (t.take m)) else none) := by
     refine Lib.hid ?_
     rw [HD.out, if_neg h3, if_neg ?_]
     rintro (h | h)
     · omega
     ·
      rw [List.getD_eq_getElem?_getD, List.getElem?_eq_getElem h0t] at h
      exact h5 h
    rw [hmc] at e0
    clear HD h3 hm h5 h4 hmc
    generalize (t[0]'h0t).toNat = x0 at e1 hx0 h7 h8
    go_enter Tryz.func187, Tryz.ntmps187
    go_wp2_with fail
    have k1 : ((base : Int) + 55 + m - base - 55) = m := by omega
    have k2 : base + 55 + m - base - 55 = m := by omega
    have k3 : 1 + m - 1 = m := by omega
    have k4 : decide ((t.length : Int) + 1 < 1 + (m : Int)) = false := by simp; omega
    have k5 : decide ((base : Int) + 55 + m - base ≤ 55) = false := by simp; omega
    simp only [k1, k2, k3, k4, k5]
    clear k1 k2 k3 k4 k5 h8 e1
    go_loopw [5, 42] (fun nv i wr => ∃ j : Nat, j ≤ m ∧ i = .int .i64 j ∧ nv = .int .i64 (val (t.take j) : Nat) ∧ val (t.take j) ≤ 16777216 ∧ wr = w) (fun _ i _ => m - (intOf i).toNat)
    case atStart => exact ⟨0, by omega, rfl, rfl, by simp [val], rfl⟩
    case round =>
     obtain ⟨j, hj, rfl, rfl, hv, rfl⟩ := hrel
     by_cases h9 : j < m
     ·
      have e2 := HC.out j (by omega)
      have hxl := jh (t[j]'(by omega))
      have HV := Lib.hid (nO t j (by omega))
      generalize (t[j]'(by omega)).toNat = x at e2 hxl HV
      have HJ := Lib.hid (zx (val (t.take j)) x hv hxl)
      have hmm := xZ t (j + 1) m (by omega)
      rw [HV.out] at hmm
      generalize val (t.take j) = n at HV HJ hmm hv
      have hjj := HJ.out
      by_cases h10 : n * 256 + x ≤ 16777216
      ·
       go_wp2_with fail
       go_round
       case rel => exact ⟨j + 1, by omega, by go_num, by rw [HV.out]; go_num, by rw [HV.out]; exact h10, trivial⟩
       case measure => simp [intOf]; omega
      ·
       have HH2 := Lib.hid (show Rlp.hdr (c :: t) base = none by rw [HH.out, if_pos (by simp only [most]; omega)])
       have h11 : 16777216 < n * 256 + x := by omega
       clear h10 HH
       go_wp2_with fail
       refine bodyPost_ret (results_tmp3 rfl _ _ _) rfl ⟨rfl, _, rfl, lH HH2.out 0 0 rfl⟩
     ·
      have h10 : m ≤ j := by omega
      have h11 : t.take j = t.take m := by rw [show j = m by omega]
      rw [h11] at hv ⊢
      generalize val (t.take m) = n at HH hv ⊢
      clear h9 h11
      by_cases h12 : 55 < n ∧ n ≤ t.length - m
      ·
       have HH2 := Lib.hid (show Rlp.hdr (c :: t) base = some (1 + m, n) by rw [HH.out, if_neg (by simp only [most]; omega), if_pos h12])
       obtain ⟨h13, h14⟩ := h12
       have h15 : n + m ≤ t.length := by omega
       clear HH
       go_wp2_with fail
       refine bodyPost_ret (results_tmp3 rfl _ _ _) rfl ⟨rfl, _, rfl, BQ HH2.out ?_⟩
       simp
       omega
      ·
       have HH2 := Lib.hid (show Rlp.hdr (c :: t) base = none by rw [HH.out, if_neg (by simp only [most]; omega), if_neg h12])
       clear HH
       by_cases h13 : 55 < n
       ·
        have h14 : t.length < n + m := by omega
        clear h12
        go_wp2_with fail
        refine bodyPost_ret (results_tmp3 rfl _ _ _) rfl ⟨rfl, _, rfl, lH HH2.out (1 + m) n ?_⟩
        simp
        omega
       ·
        have h14 : n ≤ 55 := by omega
        clear h12 h13
        go_wp2_with fail
        refine bodyPost_ret (results_tmp3 rfl _ _ _) rfl ⟨rfl, _, rfl, lH HH2.out (1 + m) n ?_⟩
        simp
        try omega
def nN : Value := .agg #[.bool false, .slice none 0 0, .slice none 0 0]
def bW (B m : Nat) (b : List UInt8) : VP := fun v w => match parse m b with
 | .ok (x, n) => ∃ vi, v = .tuple #[vi, .int .i64 (n : Int), .int .i64 0] ∧ jk (fun k => B ≤ k ∧ k < w.heap.size) w vi x
 | .error e => v = .tuple #[nN, .int .i64 0, .int .i64 (e : Int)]
theorem nY {B m : Nat} {b : List UInt8} {x : Raw} {n : Nat} {v vi : Value} {w : World} (h : parse m b = .ok (x, n)) (hv : v = .tuple #[vi, .int .i64 (n : Int), .int .i64 0]) (hi : jk (fun k => B ≤ k ∧ k < w.heap.size) w vi x) : bW B m b v w := by unfold bW; rw [h]; exact ⟨vi, hv, hi⟩
theorem kC {B m : Nat} {b : List UInt8} {e : Nat} {v : Value} {w : World} (h : parse m b = .error e) (hv : v = .tuple #[nN, .int .i64 0, .int .i64 (e : Int)]) : bW B m b v w := by unfold bW; rw [h]; exact hv
theorem aN {fn : Func} {p u s : Tmp} (h : fn.results = #[.cell p 138, .tmp u, .tmp s]) (tmps : Array Value) (w : World) (g : Nat) (cs : Array Value)
  (hp : tmps.getD p undef = .pointer (some ⟨g, 0, none⟩)) (hg : w.heap[g]? = some (.cells cs 138 (0, 0))) (hs : cs.size = 3) :
  (results fn tmps).run Tryz.prog w = .ok (.tuple #[.agg cs, tmps.getD u undef, tmps.getD s undef]) w := by
 have hp' : tmps[p]?.getD undef = .pointer (some ⟨g, 0, none⟩) := by simpa using hp
 have hr := run_loadVar_row w g 138 138 cs (0, 0) _ hg Tryz.underlying138 rfl (dw cs hs)
 simp [results, h, hp', asAddr, hr]
theorem gy {fn : Func} {p u : Tmp} (h : fn.results = #[.cell p 138, .tmp u]) (tmps : Array Value) (w : World) (g : Nat) (cs : Array Value)
  (hp : tmps.getD p undef = .pointer (some ⟨g, 0, none⟩)) (hg : w.heap[g]? = some (.cells cs 138 (0, 0))) (hs : cs.size = 3) :
  (results fn tmps).run Tryz.prog w = .ok (.tuple #[.agg cs, tmps.getD u undef]) w := by
 have hp' : tmps[p]?.getD undef = .pointer (some ⟨g, 0, none⟩) := by simpa using hp
 have hr := run_loadVar_row w g 138 138 cs (0, 0) _ hg Tryz.underlying138 rfl (dw cs hs)
 simp [results, h, hp', asAddr, hr]
theorem OC (m d : Nat) (v : Value) (w : World) (h : IsB w v []) : Calls Tryz.prog 158 #[v, .int .i64 d] w (Ret (bW w.heap.size m []) w) := by
 obtain ⟨A, cp, rfl, hc1, hc2, hr⟩ := h
 clear hr
 have HP := Lib.hid (show parse m [] = .error 4 by cases m <;> rfl)
 go_enter Tryz.func158, Tryz.ntmps158
 go_wp2_with fail
 exact bodyPost_ret (aN rfl _ _ w.heap.size #[.bool false, .slice none 0 0, .slice none 0 0] rfl (heap_alloc_new w _) rfl) rfl ⟨_, rfl, au w _, kC HP.out rfl⟩
theorem Lu (m d : Nat) (v : Value) (c : UInt8) (t : List UInt8) (w : World) (h : IsB w v (c :: t)) (h1 : c < 128) : Calls Tryz.prog 158 #[v, .int .i64 d] w (Ret (bW w.heap.size m (c :: t)) w) := by
 obtain ⟨A, cp, rfl, hc1, hc2, hr⟩ := h
 obtain ⟨bl, o, rfl, hbl, hcell⟩ := hr (by simp [bvs])
 have e0 := hcell 0 (bv c) rfl
 rw [XI] at e0
 unfold bv at e0
 have h3 : c.toNat < 128 := Xe.1 h1
 have HP := Lib.hid (show parse m (c :: t) = .ok (.mk false [c] [], 1) by
  obtain ⟨p, hp, _⟩ := oZ m
  rw [hp, gI, if_pos h1])
 unfold maxLen at hc2
 simp only [WS] at hc1 ⊢
 clear hcell hr h1
 go_enter Tryz.func158, Tryz.ntmps158
 go_wp2_with fail
 refine bodyPost_ret (aN rfl _ _ w.heap.size #[.bool false, .slice (some ⟨w.heap.size + 1, 0, none⟩) 1 1, .slice none 0 0] rfl ((bT _ _ _ (by simp)).trans (heap_alloc_new w _)) rfl) rfl ⟨_, rfl, (au w _).trans (au _ _), nY HP.out rfl ?_⟩
 refine fZ ⟨_, 1, rfl, Nat.le_refl _, by simp [maxLen], fun _ => ⟨w.heap.size + 1, 0, rfl, ⟨by omega, by simp⟩, fun j u hu => ?_⟩⟩
 rw [Xj, cell_of_row _ _ _ _ _ (0, 0) (rJ _ _ _ (by simp)), ← hu]
 simp [bvs, bv]
theorem qm (w : World) (bl o : Nat) (b : List UInt8) (h n cp : Nat) (hr : Rd w w.heap.size (some ⟨bl, o, none⟩) (bvs b)) (hle : h + n ≤ b.length) (hc : b.length ≤ cp) (hm : cp ≤ maxLen) (hne : cp ≠ h) :
  IsB w (.slice (some ⟨bl, o + h, none⟩) n (cp - h)) ((b.drop h).take n) := by
 refine ⟨_, cp - h, by rw [Xi, W9, Y3 (by omega)], by rw [Xi, W9]; omega, by omega, ?_⟩
 obtain ⟨A, c, e, _, _, h3⟩ := qI h hr rfl hc hm (by omega) hne
 injection e with e1 _ _
 subst e1
 rw [Qh]
 exact h3.take n
theorem Lp (m d : Nat) (v : Value) (c : UInt8) (t : List UInt8) (w : World) (h : IsB w v (c :: t)) (hl : t.length ≤ 16777216) (h1 : ¬ c < 128) (h2 : c < 192) : Calls Tryz.prog 158 #[v, .int .i64 d] w (Ret (bW w.heap.size m (c :: t)) w) := by
 have hlen := fun w0 hg => yI v c t 128 w0 (h.gr hg) (by omega) (by omega) (Yw.1 fun e => h1 (Xe.2 e)) (by have := Xe.1 h2; have h192 : (192 : UInt8).toNat = 192 := rfl; omega)
 have HL := Lib.hid hlen
 obtain ⟨A, cp, rfl, hc1, hc2, hr⟩ := h
 obtain ⟨bl, o, rfl, hbl, hcell⟩ := hr (by simp [bvs])
 have HR := Lib.hid hr
 have e0 := hcell 0 (bv c) rfl
 rw [XI] at e0
 unfold bv at e0
 have HC : Hid (∀ j (hj : j < (c :: t).length), w.cell? ⟨bl, o + j, none⟩ = some (.int .u8 ((c :: t)[j].toNat : Int))) := Lib.hid fun j hj => hcell j _ (mg (c :: t) j hj)
 have h3 : 128 ≤ c.toNat := Yw.1 fun e => h1 (Xe.2 e)
 have h4 : c.toNat < 192 := Xe.1 h2
 have HP : Hid (parse m (c :: t) = match Rlp.hdr (c :: t) 128 with
   | none => .error 4
   | some (h, n) => if n = 1 ∧ (c :: t).getD h 0 < 128 then .error 4 else .ok (.mk false (((c :: t).drop h).take n) [], h + n)) := by
  refine Lib.hid ?_
  obtain ⟨p, hp, _⟩ := oZ m
  rw [hp, gI, if_neg h1, if_pos h2]
  cases Rlp.hdr (c :: t) 128 <;> rfl
 have hspec := fun (h n : Nat) (hh : Rlp.hdr (c :: t) 128 = some (h, n)) => uJ hh (by simp) (by simpa using h3) (by omega) (by simp; omega)
 have HS := Lib.hid hspec
 have hcm := Lib.hid hc2
 unfold maxLen at hc2
 simp only [WS] at hc1 HL ⊢
 clear hcell hr h1 h2 hlen hspec
 go_enter Tryz.func158, Tryz.ntmps158
 go_wp2_with fail
 refine (HL.out _ (au w _)).mono ?_
 rintro e _ ⟨rfl, v1, rfl, hv1⟩
 unfold Jr at hv1
 clear HL
 cases hh : Rlp.hdr (c :: t) 128 with
 | none =>
  rw [hh] at hv1 HP
  obtain ⟨x, y, rfl⟩ := hv1
  clear hh HS
  go_wp2_with fail
  exact bodyPost_ret (aN rfl _ _ w.heap.size #[.bool false, .slice none 0 0, .slice none 0 0] rfl (heap_alloc_new w _) rfl) rfl ⟨_, rfl, au w _, kC HP.out rfl⟩
 | some hn =>
  obtain ⟨h, n⟩ := hn
  rw [hh] at hv1 HP
  dsimp only at hv1
  subst hv1
  obtain ⟨_, s1, s2, s3⟩ := HS.out h n hh
  simp only [WS] at s1 s3
  clear hh HS
  by_cases hn1 : n = 1
  ·
   subst hn1
   have hx := HC.out h (by simp; omega)
   have hxl := jh ((c :: t)[h]'(by simp; omega))
   have hgd : (c :: t).getD h 0 = (c :: t)[h]'(by simp; omega) := by rw [List.getD_eq_getElem?_getD, List.getElem?_eq_getElem (by simp; omega)]; rfl
   have hch : cp ≠ h := by omega
   by_cases hb128 : (c :: t)[h]'(by simp; omega) < 128
   ·
    have HP2 := Lib.hid (show parse m (c :: t) = .error 4 by rw [HP.out]; dsimp only; rw [if_pos ⟨rfl, by rw [hgd]; exact hb128⟩])
    have h5 := Xe.1 hb128
    have h128 : (128 : UInt8).toNat = 128 := rfl
    rw [h128] at h5
    clear HP hgd hb128 h128
    generalize ((c :: t)[h]'(by simp; omega)).toNat = x at hx hxl h5
    go_wp2_with fail
    exact bodyPost_ret (aN rfl _ _ w.heap.size #[.bool false, .slice none 0 0, .slice none 0 0] rfl (heap_alloc_new w _) rfl) rfl ⟨_, rfl, au w _, kC HP2.out rfl⟩
   ·
    have HP2 := Lib.hid (show parse m (c :: t) = .ok (.mk false (((c :: t).drop h).take 1) [], h + 1) by rw [HP.out]; dsimp only; rw [if_neg (fun e => hb128 (by rw [← hgd]; exact e.2))])
    have h5 : 128 ≤ ((c :: t)[h]'(by simp; omega)).toNat := Yw.1 fun e => hb128 (Xe.2 e)
    clear HP hgd hb128
    generalize ((c :: t)[h]'(by simp; omega)).toNat = x at hx hxl h5
    have hcut := qm w bl o (c :: t) h 1 cp HR.out s1 hc1 hcm.out hch
    have HCUT := Lib.hid (hcut.gr (au w (.cells #[.bool false, .slice none 0 0, .slice none 0 0] 138)))
    clear hcut
    have hLn : (((c :: t).drop h).take 1).length ≤ 16777217 := by rw [Xi, W9]; simp only [WS]; omega
    generalize ((c :: t).drop h).take 1 = L at HCUT HP2 hLn
    go_wp2_with fail
    refine (mY _ _ _ HCUT.out (by omega)).mono ?_
    rintro e w1 ⟨v1, rfl, hg1, ho1⟩
    obtain ⟨A1, c1, rfl, f1, f2⟩ := dB ho1
    have HG1 := Lib.hid ((au w _).trans hg1)
    have HO1 := Lib.hid ho1
    have hz := (hg1.block w.heap.size (by simp)).trans (heap_alloc_new w _)
    clear hg1 ho1
    go_wp2_with (refine wpList_store_row rfl 138 (.tmp 4) (.tmp 65) rfl w.heap.size #[.bool false, .slice A1 L.length c1, .slice none 0 0] rfl rfl 138 _ hz (dw _ rfl) rfl (by simp [Value.oneCell']) ?_)
    refine bodyPost_ret (aN rfl _ _ w.heap.size _ rfl (aS _ _ _ _ _ hz) rfl) rfl ⟨_, rfl, bQ HG1.out _ _ (Nat.le_refl _), nY HP2.out rfl ?_⟩
    refine fZ ((nI HO1.out).mono (fun b hb => ⟨?_, ?_⟩) (fun p hp => dU ?_))
    ·
     have := hb.1
     simp at this
     omega
    ·
     have := hb.2
     simpa using this
    ·
     have := hp.1
     simp at this
     omega
  ·
   have hn2 : ((n : Int) == 1) = false := by simp; omega
   have HP2 := Lib.hid (show parse m (c :: t) = .ok (.mk false (((c :: t).drop h).take n) [], h + n) by rw [HP.out]; dsimp only; rw [if_neg (fun e => hn1 e.1)])
   clear HP hn1
   by_cases hch : cp = h
   ·
    have hn0 : n = 0 := by omega
    subst hn0
    subst hch
    have HCUT : Hid (IsB (w.alloc (.cells #[.bool false, .slice none 0 0, .slice none 0 0] 138)) (.slice (some ⟨bl, o, none⟩) 0 0) (((c :: t).drop cp).take 0)) := by
     rw [WO]
     exact Lib.hid ⟨_, 0, rfl, Nat.le_refl _, by simp [maxLen], Rd.nil⟩
    have hLn : (((c :: t).drop cp).take 0).length ≤ 16777217 := by rw [Xi, W9]; simp only [WS]; omega
    generalize ((c :: t).drop cp).take 0 = L at HCUT HP2 hLn
    go_wp2_with fail
    refine (mY _ _ _ HCUT.out (by omega)).mono ?_
    rintro e w1 ⟨v1, rfl, hg1, ho1⟩
    obtain ⟨A1, c1, rfl, f1, f2⟩ := dB ho1
    have HG1 := Lib.hid ((au w _).trans hg1)
    have HO1 := Lib.hid ho1
    have hz := (hg1.block w.heap.size (by simp)).trans (heap_alloc_new w _)
    clear hg1 ho1
    go_wp2_with (refine wpList_store_row rfl 138 (.tmp 4) (.tmp 65) rfl w.heap.size #[.bool false, .slice A1 L.length c1, .slice none 0 0] rfl rfl 138 _ hz (dw _ rfl) rfl (by simp [Value.oneCell']) ?_)
    refine bodyPost_ret (aN rfl _ _ w.heap.size _ rfl (aS _ _ _ _ _ hz) rfl) rfl ⟨_, rfl, bQ HG1.out _ _ (Nat.le_refl _), nY HP2.out rfl ?_⟩
    refine fZ ((nI HO1.out).mono (fun b hb => ⟨?_, ?_⟩) (fun p hp => dU ?_))
    ·
     have := hb.1
     simp at this
     omega
    ·
     have := hb.2
     simpa using this
    ·
     have := hp.1
     simp at this
     omega
   ·
    have hcut := qm w bl o (c :: t) h n cp HR.out s1 hc1 hcm.out hch
    have HCUT := Lib.hid (hcut.gr (au w (.cells #[.bool false, .slice none 0 0, .slice none 0 0] 138)))
    clear hcut
    have hLn : (((c :: t).drop h).take n).length ≤ 16777217 := by rw [Xi, W9]; simp only [WS]; omega
    generalize ((c :: t).drop h).take n = L at HCUT HP2 hLn
    go_wp2_with fail
    refine (mY _ _ _ HCUT.out (by omega)).mono ?_
    rintro e w1 ⟨v1, rfl, hg1, ho1⟩
    obtain ⟨A1, c1, rfl, f1, f2⟩ := dB ho1
    have HG1 := Lib.hid ((au w _).trans hg1)
    have HO1 := Lib.hid ho1
    have hz := (hg1.block w.heap.size (by simp)).trans (heap_alloc_new w _)
    clear hg1 ho1
    go_wp2_with (refine wpList_store_row rfl 138 (.tmp 4) (.tmp 65) rfl w.heap.size #[.bool false, .slice A1 L.length c1, .slice none 0 0] rfl rfl 138 _ hz (dw _ rfl) rfl (by simp [Value.oneCell']) ?_)
    refine bodyPost_ret (aN rfl _ _ w.heap.size _ rfl (aS _ _ _ _ _ hz) rfl) rfl ⟨_, rfl, bQ HG1.out _ _ (Nat.le_refl _), nY HP2.out rfl ?_⟩
    refine fZ ((nI HO1.out).mono (fun b hb => ⟨?_, ?_⟩) (fun p hp => dU ?_))
    ·
     have := hb.1
     simp at this
     omega
    ·
     have := hb.2
     simpa using this
    ·
     have := hp.1
     simp at this
     omega
end Go.Proofs.YtelbhdobjdnglaaGreat
