/-
 Merged: lemmas of this claim.
 Conditions: none.
-/
import Derived.Test.YtelbhdobjdnglaaGreatZT25
import Derived.Test.YtelbhdobjdnglaaGreatZT14
import Derived.Test.YtelbhdobjdnglaaGreatZT23
import Derived.Test.YtelbhdobjdnglaaGreatZT18
import Derived.Test.YtelbhdobjdnglaaGreatZT22
import Derived.Test.YtelbhdobjdnglaaGreatZT11
import Derived.Test.YtelbhdobjdnglaaGreatZT2
import Derived.Lib.SliceRun
import Derived.Test.YtelbhdobjdnglaaGreatZT0
namespace Go.Proofs.YtelbhdobjdnglaaGreat
set_option linter.unusedVariables false
set_option maxRecDepth 20000
set_option maxHeartbeats 4000000
open Go.RowKit Mono Rlp
def qX (B : Nat) (b : List UInt8) : VP := fun v w => match gY b with
 | .ok x => ∃ vi, v = .tuple #[vi, .int .i64 0] ∧ jv (fun k => B ≤ k ∧ k < w.heap.size) w vi x
 | .error e => v = .tuple #[nK, .int .i64 (e : Int)]
theorem Ba {B : Nat} {b : List UInt8} {x : Raw} {v vi : Value} {w : World} (h : gY b = .ok x) (hv : v = .tuple #[vi, .int .i64 0]) (hi : jv (fun k => B ≤ k ∧ k < w.heap.size) w vi x) : qX B b v w := by unfold qX; rw [h]; exact ⟨vi, hv, hi⟩
theorem kM {B : Nat} {b : List UInt8} {e : Nat} {v : Value} {w : World} (h : gY b = .error e) (hv : v = .tuple #[nK, .int .i64 (e : Int)]) : qX B b v w := by unfold qX; rw [h]; exact hv
theorem LU {b : List UInt8} {e : Nat} (h : gY b = .error e) : e = 3 ∨ e = 4 := by
 unfold gY at h
 split at h
 · cases h; exact .inl rfl
 ·
  split at h
  ·
   rename_i e' he
   cases h
   exact kP _ _ _ he
  ·
   split at h
   · cases h
   · cases h; exact .inr rfl
theorem OG (v : Value) (b : List UInt8) (w : World) (h : IsB w v b) : Calls Tryz.prog 110 #[v] w (Ret (qX w.heap.size b) w) := by
 have h0 := h
 obtain ⟨A, cp, rfl, hc1, hc2, _⟩ := h
 have H := Lib.hid (h0.gr (ay w (.cells dZ 138)))
 unfold maxLen at hc2
 clear h0
 by_cases hl : b.length > most
 ·
  have HR := Lib.hid (show gY b = .error 3 by unfold gY; rw [if_pos hl])
  simp only [most] at hl
  go_enter Tryz.func110, Tryz.ntmps110
  go_wp2_with fail
  exact bodyPost_ret (gV rfl _ _ w.heap.size dZ rfl (heap_alloc_new w _) rfl) rfl ⟨_, rfl, ay w _, kM HR.out rfl⟩
 ·
  have HR : Hid (gY b = match parse 32 b with | .error e => .error e | .ok (x, n) => if n = b.length then .ok x else .error 4) := by
   refine Lib.hid ?_
   unfold gY
   rw [if_neg hl]
   cases parse 32 b <;> rfl
  have hl2 : b.length ≤ 16777216 := by simp only [most] at hl; omega
  clear hl
  go_enter Tryz.func110, Tryz.ntmps110
  go_wp2_with fail
  refine (ED 32 0 rfl b _ _ H.out hl2).mono ?_
  rintro e w1 ⟨v1, rfl, hg1, hv1⟩
  unfold bY nK at hv1
  have hs1 := hg1.size
  simp only [dF] at hs1
  have HZ1 : Hid (w1.heap[w.heap.size]? = some (.cells dZ 138 (0, 0))) := Lib.hid ((hg1.block _ (by simp)).trans (heap_alloc_new w _))
  have HG1 := Lib.hid ((ay w _).trans hg1)
  clear hg1 H
  cases hp : parse 32 b with
  | error e =>
   rw [hp] at hv1 HR
   dsimp only at hv1
   subst hv1
   have he := kP _ _ _ hp
   have hne : ((e : Int) != 0) = true := by simp; omega
   have hne2 : ((e : Int) == 0) = false := by simp; omega
   have HE := Lib.hid (show gY b = .error e from HR.out)
   clear hp HR
   go_wp2_with refine wpList_store_row rfl 138 (.tmp 2) (.tmp 27) rfl w.heap.size dZ rfl rfl 138 _ ((cu w1 _ _ (by omega)).trans HZ1.out) (dD _ rfl) rfl (by simp [Value.oneCell']) ?_
   exact bodyPost_ret (gV rfl _ _ w.heap.size _ rfl (aU _ _ _ _ _ ((cu w1 _ _ (by omega)).trans HZ1.out)) rfl) rfl ⟨_, rfl, dQ (HG1.out.trans (ay _ _)) _ _ (Nat.le_refl _), kM HE.out rfl⟩
  | ok p =>
   obtain ⟨x, n⟩ := p
   rw [hp] at hv1 HR
   obtain ⟨vi, rfl, csx, rfl, hix⟩ := hv1
   obtain ⟨fx, Ax, nx, cx, Ay, ny, cy, rfl⟩ := hix.len
   have hn := (mW _ _ _ _ hp).2.1
   have HIX := Lib.hid hix
   clear hp hix
   by_cases hnb : n = b.length
   ·
    have HO := Lib.hid (show gY b = .ok x by rw [HR.out]; exact if_pos hnb)
    have hnn : ((n : Int) != (b.length : Int)) = false := by simp; omega
    clear HR hnb
    go_wp2_with refine wpList_store_row rfl 138 (.tmp 2) (.tmp 29) rfl w.heap.size #[.bool fx, .slice Ax nx cx, .slice Ay ny cy] rfl rfl 138 _ ((cu w1 _ _ (by omega)).trans HZ1.out) (dD _ rfl) rfl (by simp [Value.oneCell']) ?_
    refine bodyPost_ret (gV rfl _ _ w.heap.size _ rfl (aU _ _ _ _ _ ((cu w1 _ _ (by omega)).trans HZ1.out)) rfl) rfl ⟨_, rfl, dQ (HG1.out.trans (ay _ _)) _ _ (Nat.le_refl _), Ba HO.out rfl ⟨_, rfl, eU.mono (fun k hk => ?_) (fun p hp => ?_) _ _ HIX.out⟩⟩
    ·
     have h1 := hk.1
     have h2 := hk.2
     simp only [dF] at h1
     rw [size_setRow, dF]
     omega
    ·
     have h1 := hp.1
     have h2 := hp.2
     simp only [dF] at h1
     rw [dV (by omega)]
     exact ZB _ _ _ h2
   ·
    have HE := Lib.hid (show gY b = .error 4 by rw [HR.out]; exact if_neg hnb)
    have hnn : ((n : Int) != (b.length : Int)) = true := by simp; omega
    clear HR hnb
    go_wp2_with refine wpList_store_row rfl 138 (.tmp 2) (.tmp 27) rfl w.heap.size dZ rfl rfl 138 _ ((cu w1 _ _ (by omega)).trans HZ1.out) (dD _ rfl) rfl (by simp [Value.oneCell']) ?_
    exact bodyPost_ret (gV rfl _ _ w.heap.size _ rfl (aU _ _ _ _ _ ((cu w1 _ _ (by omega)).trans HZ1.out)) rfl) rfl ⟨_, rfl, dQ (HG1.out.trans (ay _ _)) _ _ (Nat.le_refl _), kM HE.out rfl⟩
theorem OL (v : Value) (b : List UInt8) (w : World) (h : IsB w v b) : Calls Tryz.prog 66 #[v] w (Ret (qX w.heap.size b) w) := by
 have h0 := h
 obtain ⟨A, cp, rfl, hc1, hc2, _⟩ := h
 have H := Lib.hid (h0.gr (ay w (.cells dZ 138)))
 unfold maxLen at hc2
 clear h0
 by_cases hl : b.length > most
 ·
  have HR := Lib.hid (show gY b = .error 3 by unfold gY; rw [if_pos hl])
  simp only [most] at hl
  go_enter Tryz.func66, Tryz.ntmps66
  go_wp2_with fail
  exact bodyPost_ret (gV rfl _ _ w.heap.size dZ rfl (heap_alloc_new w _) rfl) rfl ⟨_, rfl, ay w _, kM HR.out rfl⟩
 ·
  have HR : Hid (gY b = match parse 32 b with | .error e => .error e | .ok (x, n) => if n = b.length then .ok x else .error 4) := by
   refine Lib.hid ?_
   unfold gY
   rw [if_neg hl]
   cases parse 32 b <;> rfl
  have hl2 : b.length ≤ 16777216 := by simp only [most] at hl; omega
  clear hl
  go_enter Tryz.func66, Tryz.ntmps66
  go_wp2_with fail
  refine (EI 32 (Nat.le_refl _) b _ _ H.out hl2).mono ?_
  rintro e w1 ⟨v1, rfl, hg1, hv1⟩
  unfold nC nK at hv1
  have hs1 := hg1.size
  simp only [dF] at hs1
  have HZ1 : Hid (w1.heap[w.heap.size]? = some (.cells dZ 138 (0, 0))) := Lib.hid ((hg1.block _ (by simp)).trans (heap_alloc_new w _))
  have HG1 := Lib.hid ((ay w _).trans hg1)
  clear hg1 H
  cases hp : parse 32 b with
  | error e =>
   rw [hp] at hv1 HR
   dsimp only at hv1
   subst hv1
   have he := kP _ _ _ hp
   have hne : ((e : Int) != 0) = true := by simp; omega
   have HE := Lib.hid (show gY b = .error e from HR.out)
   clear hp HR
   go_wp2_with refine wpList_store_row rfl 138 (.tmp 2) (.tmp 19) rfl w.heap.size dZ rfl rfl 138 _ ((cu w1 _ _ (by omega)).trans HZ1.out) (dD _ rfl) rfl (by simp [Value.oneCell']) ?_
   exact bodyPost_ret (gV rfl _ _ w.heap.size _ rfl (aU _ _ _ _ _ ((cu w1 _ _ (by omega)).trans HZ1.out)) rfl) rfl ⟨_, rfl, dQ (HG1.out.trans (ay _ _)) _ _ (Nat.le_refl _), kM HE.out rfl⟩
  | ok p =>
   obtain ⟨x, n⟩ := p
   rw [hp] at hv1 HR
   obtain ⟨vi, rfl, csx, rfl, hix⟩ := hv1
   obtain ⟨fx, Ax, nx, cx, Ay, ny, cy, rfl⟩ := hix.len
   have hn := (mW _ _ _ _ hp).2.1
   have HIX := Lib.hid hix
   clear hp hix
   by_cases hnb : n = b.length
   ·
    have HO := Lib.hid (show gY b = .ok x by rw [HR.out]; exact if_pos hnb)
    have hnn : ((n : Int) != (b.length : Int)) = false := by simp; omega
    clear HR hnb
    go_wp2_with refine wpList_store_row rfl 138 (.tmp 2) (.tmp 26) rfl w.heap.size #[.bool fx, .slice Ax nx cx, .slice Ay ny cy] rfl rfl 138 _ ((cu w1 _ _ (by omega)).trans HZ1.out) (dD _ rfl) rfl (by simp [Value.oneCell']) ?_
    refine bodyPost_ret (gV rfl _ _ w.heap.size _ rfl (aU _ _ _ _ _ ((cu w1 _ _ (by omega)).trans HZ1.out)) rfl) rfl ⟨_, rfl, dQ (HG1.out.trans (ay _ _)) _ _ (Nat.le_refl _), Ba HO.out rfl ⟨_, rfl, eU.mono (fun k hk => ?_) (fun p hp => ?_) _ _ HIX.out⟩⟩
    ·
     have h1 := hk.1
     have h2 := hk.2
     simp only [dF] at h1
     rw [size_setRow, dF]
     omega
    ·
     have h1 := hp.1
     have h2 := hp.2
     simp only [dF] at h1
     rw [dV (by omega)]
     exact ZB _ _ _ h2
   ·
    have HE := Lib.hid (show gY b = .error 4 by rw [HR.out]; exact if_neg hnb)
    have hnn : ((n : Int) != (b.length : Int)) = true := by simp; omega
    clear HR hnb
    go_wp2_with refine wpList_store_row rfl 138 (.tmp 2) (.tmp 25) rfl w.heap.size dZ rfl rfl 138 _ ((cu w1 _ _ (by omega)).trans HZ1.out) (dD _ rfl) rfl (by simp [Value.oneCell']) ?_
    exact bodyPost_ret (gV rfl _ _ w.heap.size _ rfl (aU _ _ _ _ _ ((cu w1 _ _ (by omega)).trans HZ1.out)) rfl) rfl ⟨_, rfl, dQ (HG1.out.trans (ay _ _)) _ _ (Nat.le_refl _), kM HE.out rfl⟩
end Go.Proofs.YtelbhdobjdnglaaGreat
namespace Go.Proofs.YtelbhdobjdnglaaGreat
set_option linter.unusedVariables false
set_option maxRecDepth 20000
set_option maxHeartbeats 16000000
open Go.RowKit Mono Rlp
namespace E
def rdE (b : List UInt8) : Nat := match gY b with | .ok _ => 0 | .error e => e
def rdX (b : List UInt8) : Raw := match gY b with | .ok x => x | .error _ => .mk false [] []
theorem JG {B : Nat} {b : List UInt8} {v : Value} {w : World} (h : qX B b v w) : ∃ vi, v = .tuple #[vi, .int .i64 (rdE b : Int)] ∧ jv (fun k => B ≤ k ∧ k < w.heap.size) w vi (rdX b) := by
 unfold qX at h
 unfold rdE rdX
 cases hr : gY b with
 | ok x => rw [hr] at h; exact h
 | error e =>
  rw [hr] at h
  exact ⟨nK, h, gQ (l := []) ⟨none, 0, rfl, Nat.le_refl _, by simp [maxLen], fun hn => absurd rfl hn⟩⟩
def ET (b : List UInt8) : R := .tpl [aO (rdX b), .v (.int .i64 (rdE b : Int))]
theorem Ve (b : List UInt8) : Fn 110 [.bs b] (· = ET b) := ⟨fun ok w xs hok hr => by
 obtain ⟨v, rfl, h⟩ := rW hr
 refine (OG v b w (kS hok h)).mono ?_
 rintro e w' ⟨v', rfl, hg, hv⟩
 obtain ⟨vi, rfl, hi⟩ := JG hv
 exact ⟨hg, _, _, rfl, rfl, Ri (tJ.2 (jv.mono hi (fun b hb => y7 b hb) fun _ _ => rfl)) (jK rfl)⟩⟩
theorem ND (b : List UInt8) : Fn 66 [.bs b] (· = ET b) := ⟨fun ok w xs hok hr => by
 obtain ⟨v, rfl, h⟩ := rW hr
 refine (OL v b w (kS hok h)).mono ?_
 rintro e w' ⟨v', rfl, hg, hv⟩
 obtain ⟨vi, rfl, hi⟩ := JG hv
 exact ⟨hg, _, _, rfl, rfl, Ri (tJ.2 (jv.mono hi (fun b hb => y7 b hb) fun _ _ => rfl)) (jK rfl)⟩⟩
theorem mM (t : Nd) : Bin .neq 110 (dN t) (.v .nilIface) (.bool !t.isNil) := by
 have key : ∀ T d, Bin .neq 110 (.ifc T d) (.v .nilIface) (.bool true) := fun T d => by
  refine ⟨rfl, fun ok w p q hp hq => ?_⟩
  obtain rfl := (bg.1 hq).2
  obtain ⟨cs, h1, rfl⟩ := hp
  rw [Reads] at h1
  obtain ⟨cs', rfl, _⟩ := h1
  exact ⟨fun x y => by simp [eqGuard, form, D.agg], run_neq_held_nil _ _ _ _ (by kernel_rfl)⟩
 cases t with
 | nil =>
  refine ⟨rfl, fun ok w p q hp hq => ?_⟩
  obtain rfl := (bg.1 hp).2
  obtain rfl := (bg.1 hq).2
  exact ⟨fun x y => by cases x <;> cases y <;> kernel_rfl, by kernel_rfl⟩
 | hash a => exact key _ _
 | leaf a b => exact key _ _
 | ext a b => exact key _ _
 | br a b => exact key _ _
theorem VO (t : Nd) (u : D) (h1 : u.size = 1) (h2 : u.agg = false) : (dN t).upd 0 u = some u := by
 cases t <;> (rw [dN]; simp [D.upd, h1, h2])
theorem CW {ds : List D} (hs : ∀ e ∈ ds, ∃ s : Nd, e = dN s) : D.sizes ds = ds.length := by
 induction ds with
 | nil => rfl
 | cons e ds ih =>
  obtain ⟨s, rfl⟩ := hs e (by simp)
  rw [D.sizes, (mJ s).1, ih fun e he => hs e (by simp [he]), List.length_cons, YV]
theorem Q7 {ds : List D} {b : D} (k : Nat) (t : Nd) (hs : ∀ e ∈ ds, ∃ s : Nd, e = dN s) (hl : ds.length = 16) (hk : k < 16) : (D.tup [.tup ds, b]).upd k (dN t) = some (.tup [.tup (ds.set k (dN t)), b]) := by
 have hsz : D.sizes ds = 16 := by rw [CW hs, hl]
 have h1 := (mJ t).1
 have h2 := (mJ t).2
 have h3 := Ej ds k (dN t) (fun e he => by
  obtain ⟨s, rfl⟩ := hs e he
  exact ⟨(mJ s).1, (mJ s).2, VO s⟩) (by omega) h1 h2
 rw [D.upd, if_neg (by rw [h2]; simp), D.vM, if_pos (by rw [D.size, hsz]; exact hk), D.upd, if_neg (by rw [h2]; simp), h3]
 rfl
theorem N8 {ds : List D} {b : D} (v : List UInt8) (hs : ∀ e ∈ ds, ∃ s : Nd, e = dN s) (hl : ds.length = 16) : (D.tup [.tup ds, .v (.slice none 0 0)]).upd 16 (.bs v) = some (.tup [.tup ds, .bs v]) := by
 have hsz : D.sizes ds = 16 := by rw [CW hs, hl]
 simp [D.upd, D.vM, D.size, D.agg, hsz]
def oz (N : Raw → Nd × Bool) (xs : List Raw) (k : Nat) : List D := (List.range 16).map fun i => if i < k then dN (gX N (xs.getD i eF)).1 else .v .nilIface
theorem IC (N : Raw → Nd × Bool) (xs : List Raw) : oz N xs 0 = List.replicate 16 (.v .nilIface) := by
 unfold oz
 simp only [Yc, if_false]
 rfl
theorem JU (N : Raw → Nd × Bool) (xs : List Raw) (k : Nat) : (∀ e ∈ oz N xs k, ∃ s : Nd, e = dN s) ∧ (oz N xs k).length = 16 := by
 unfold oz
 refine ⟨fun e he => ?_, by simp⟩
 obtain ⟨i, _, rfl⟩ := XA.1 he
 by_cases h : i < k
 ·
  rw [if_pos h]
  exact ⟨_, rfl⟩
 ·
  rw [if_neg h]
  exact ⟨.nil, rfl⟩
theorem IE (N : Raw → Nd × Bool) (xs : List Raw) (k : Nat) (hk : k < 16) : oz N xs (k + 1) = (oz N xs k).set k (dN (gX N (xs.getD k eF)).1) := by
 unfold oz
 refine Ze fun d => ?_
 rw [Zr]
 by_cases hd : k = d
 ·
  subst hd
  rw [if_pos rfl, if_pos (by simpa using hk), XK, YN hk, YI, if_pos (Nat.lt_succ_self _)]
 ·
  rw [if_neg hd, XK, XK]
  by_cases h16 : d < 16
  ·
   rw [YN h16, YI, YI]
   by_cases h1 : d < k
   · rw [if_pos h1, if_pos (by omega)]
   · rw [if_neg h1, if_neg (by omega)]
  ·
   rw [Yx (by simp; omega)]
   rfl
theorem MS (N : Raw → Nd × Bool) (xs : List Raw) : oz N xs 16 = (List.range 16).map fun i => dN (gX N (xs.getD i eF)).1 := by
 unfold oz
 exact Yq fun i hi => if_pos (Yu.1 hi)
theorem NC (xs : List Raw) (N : Raw → Nd × Bool) (h17 : xs.length = 17) (H : ∀ y ∈ xs, isL y = true → Fn 111 [aO y] (· = jE (N y))) : Fn 160 [.sl 3 (dL xs)] (· = jE (brF N xs)) := by
 refine FnM.toFn ?_
 have hml : (dL xs).length = 17 := by rw [jd, List.length_map, h17]
 have hat : ∀ k, (hk : k < xs.length) → (dL xs)[k]? = some (aO xs[k]) := fun k hk => by rw [jd, XK, List.getElem?_eq_getElem hk]; rfl
 have h16 := hat 16 (by omega)
 have hgd : ∀ k, (hk : k < xs.length) → xs.getD k eF = xs[k] := fun k hk => getD_mem hk
 generalize hDs : dL xs = Ds at hml hat h16
 refine FnM.walk 59 Tryz.func160 rfl Tryz.ntmps160 (by simp) fun X => ?_
 repeat
  (first
   | (apply ak; iterate 3 rfl) | (apply ah; iterate 3 rfl) | (apply eH; iterate 7 rfl) | (apply fU; rfl; rfl; rfl; intro _) | apply EL.nil
   | (with_reducible first | apply EK.nc | apply EC.seq | apply EC.r0 | apply EC.b0))
 rename_i g
 refine EC.loop (ι := {k : Nat // k ≤ 16 ∧ (xs.take k).all (fun x => (gX N x).2) = true})
  (fun k => ⟨[(12, .val (.v (.int .i64 (k.1 : Int)))), (5, .val (.v (.int .i64 ((cntF N (xs.take k.1) : Nat) : Int)))), (4, .val (.v (.pointer (some ⟨g, 0, none⟩)))), (0, .val (.sl 3 Ds))], [.var g 244 (.tup [.tup (oz N xs k.1), .v (.slice none 0 0)])], []⟩)
  (fun k => 16 - k.1) ⟨0, XQ _, rfl⟩ ?_ ?_
 ·
  dsimp only
  rw [IC]
  exact Le.kp
 rintro ⟨k, hk, hall⟩
 dsimp only at hk ⊢
 by_cases hlt : k < 16
 ·
  have hkx : k < xs.length := by omega
  have hd := hat k hkx
  have htk : xs.take (k + 1) = xs.take k ++ [xs[k]] := XE hkx
  have hR := PX xs[k] N (H xs[k] (XW hkx))
  have hno : (gX N xs[k]).2 = false → (xs.take 16).all (fun x => (gX N x).2) = false := fun h => by
   refine Bool.eq_false_iff.2 fun ha => ?_
   have := X6.1 ha xs[k] (List.mem_iff_getElem.2 ⟨k, by rw [List.length_take]; omega, by rw [List.getElem_take]⟩)
   rw [h] at this
   cases this
  have hks := IE N xs k hlt
  rw [hgd k hkx] at hks
  have hkN := JU N xs k
  have hcn : cntF N (xs.take (k + 1)) = cntF N (xs.take k) + (if (gX N xs[k]).1.isNil then 0 else 1) := by
   unfold cntF
   rw [htk, Y6, List.length_append]
   congr 1
   cases h : (gX N xs[k]).1.isNil with
   | true => rw [Ye (by simp [h])]; rfl
   | false => rw [YP (by simp [h])]; rfl
  have hcl : cntF N (xs.take k) ≤ 16 := Yi (Y9 _ _) (by rw [List.length_take]; omega)
  have hal1 : (gX N xs[k]).2 = true → (xs.take (k + 1)).all (fun x => (gX N x).2) = true := fun h => by
   rw [htk, List.all_append, hall]
   simp [h]
  generalize cntF N (xs.take k) = n at *
  generalize oz N xs k = K at *
  generalize xs[k] = y at *
  have hnn := mM (gX N y).1
  have hup := Q7 (b := .v (.slice none 0 0)) k (gX N y).1 hkN.1 hkN.2 hlt
  have ho1 := (mJ (gX N y).1).1
  have ho2 := (mJ (gX N y).1).2
  unfold jE at hR
  obtain ⟨yl, yb, yx⟩ := y
  unfold aO at hd hR
  generalize gX N (.mk yl yb yx) = r at *
  obtain ⟨c, ok⟩ := r
  dsimp only at *
  cases ok with
  | false =>
   have : brF N xs = (.nil, false) := by
    unfold brF
    rw [if_neg]
    rw [hno rfl]
    exact Xv
   rw [this]
   repeat
    (first
     | (apply aA (hR); rfl; exact aj.refl _ _; exact enA; iterate 2 rfl)
     | (apply bT (d := .tup [.v (.bool yl), .bs yb, .sl 3 (dL yx)]); (iterate 4 rfl); exact ⟨by omega, by rw [XL]; exact hd⟩; iterate 2 rfl)
     | (apply ak; iterate 3 rfl) | (apply ah; iterate 3 rfl) | (apply aF; iterate 4 rfl) | (apply aH; iterate 5 rfl)
     | (apply dI; iterate 3 rfl) | (apply aC (b := true); (iterate 2 rfl); exact aK; iterate 2 rfl) | apply EL.nil
     | (apply EC.t0; rfl) | (with_reducible first | apply EK.nc | apply EC.seq | apply EC.r0 | apply EC.k0 | apply EC.b0 | apply EC.ret | apply EK.dK | apply EK.aG))
   exact EK.bV [] rfl rfl rfl RL.a (Xt _) ⟨rfl, rfl⟩
  | true =>
   cases hnil : c.isNil with
   | true =>
    rw [hnil] at hnn hcn
    rw [if_pos rfl, Yk] at hcn
    repeat
     (first
      | (apply aA (hR); rfl; exact aj.refl _ _; exact enA; iterate 2 rfl) | (apply dW; (iterate 2 rfl); exact hnn; iterate 2 rfl)
      | (apply bT (d := .tup [.v (.bool yl), .bs yb, .sl 3 (dL yx)]); (iterate 4 rfl); exact ⟨by omega, by rw [XL]; exact hd⟩; iterate 2 rfl)
      | (apply Ae; (iterate 3 rfl); exact ⟨by omega, by omega⟩; iterate 2 rfl)
      | (apply aI; rfl; exact .z; rfl; exact (by rw [ho1, ho2]; rfl); exact (by rw [show 0 + 0 + (k : Int).toNat * 1 = k by omega]; exact hup); rfl)
      | (apply ak; iterate 3 rfl) | (apply ah; iterate 3 rfl) | (apply bn; iterate 6 rfl) | (apply aF; iterate 4 rfl)
      | (apply aH; iterate 5 rfl) | (apply dI; iterate 3 rfl) | (apply aC (b := true); (iterate 2 rfl); exact aK; iterate 2 rfl)
      | (apply jh; (iterate 3 rfl); (focus omega); (focus omega); iterate 2 rfl) | (apply jl; iterate 3 rfl) | apply EL.nil
      | (apply EC.t0; rfl) | (apply EC.f0; rfl)
      | (with_reducible first | apply EK.nc | apply EC.seq | apply EC.r0 | apply EC.k0 | apply EC.b0 | apply EK.n0))
    refine EK.again ⟨k + 1, hlt, hal1 rfl⟩ (by dsimp only; omega) ?_
    dsimp only
    rw [hcn, hks]
    simp only [XV]
    exact Le.kp
   | false =>
    rw [hnil] at hnn hcn
    rw [if_neg Xv] at hcn
    repeat
     (first
      | (apply aA (hR); rfl; exact aj.refl _ _; exact enA; iterate 2 rfl) | (apply dW; (iterate 2 rfl); exact hnn; iterate 2 rfl)
      | (apply bT (d := .tup [.v (.bool yl), .bs yb, .sl 3 (dL yx)]); (iterate 4 rfl); exact ⟨by omega, by rw [XL]; exact hd⟩; iterate 2 rfl)
      | (apply Ae; (iterate 3 rfl); exact ⟨by omega, by omega⟩; iterate 2 rfl)
      | (apply aI; rfl; exact .z; rfl; exact (by rw [ho1, ho2]; rfl); exact (by rw [show 0 + 0 + (k : Int).toNat * 1 = k by omega]; exact hup); rfl)
      | (apply ak; iterate 3 rfl) | (apply ah; iterate 3 rfl) | (apply bn; iterate 6 rfl) | (apply aF; iterate 4 rfl)
      | (apply aH; iterate 5 rfl) | (apply dI; iterate 3 rfl) | (apply aC (b := true); (iterate 2 rfl); exact aK; iterate 2 rfl)
      | (apply jh; (iterate 3 rfl); (focus omega); (focus omega); iterate 2 rfl) | (apply jl; iterate 3 rfl) | apply EL.nil
      | (apply EC.t0; rfl) | (apply EC.f0; rfl)
      | (with_reducible first | apply EK.nc | apply EC.seq | apply EC.r0 | apply EC.k0 | apply EC.b0 | apply EK.n0))
    refine EK.again ⟨k + 1, hlt, hal1 rfl⟩ (by dsimp only; omega) ?_
    dsimp only
    rw [hcn, hks]
    simp only [XV]
    exact Le.kp
 ·
  have hke : k = 16 := by omega
  subst hke
  have hcl : cntF N (xs.take 16) ≤ 16 := Yi (Y9 _ _) (by rw [List.length_take]; omega)
  unfold brF
  rw [if_pos hall, hgd 16 (by omega)]
  unfold jE
  dsimp only
  rw [dN, ← MS]
  have hkN := JU N xs 16
  generalize cntF N (xs.take 16) = n at *
  generalize oz N xs 16 = K at *
  generalize xs[16]'(by omega) = y at h16 ⊢
  obtain ⟨yl, yb, yx⟩ := y
  have hup := N8 (b := .v (.slice none 0 0)) yb hkN.1 hkN.2
  unfold aO at h16
  rw [show isL (.mk yl yb yx) = yl from rfl, show bts (.mk yl yb yx) = yb from rfl]
  have hL : ∀ b : Bool, (n + (if b then 1 else 0) : Nat) = (if b then n + 1 else n) := fun b => by cases b <;> rfl
  by_cases h0 : 0 < yb.length
  ·
   rw [if_pos h0]
   have hc0 : fM .gtr (yb.length : Int) 0 = some true := by
    simp only [fM, XT, decide_eq_true_eq]
    omega
   cases yl with
   | true =>
    rw [Bool.not_true, ZO]
    repeat
     (first
      | (apply eX; iterate 2 rfl) | (apply bT (d := .tup [.v (.bool true), .bs yb, .sl 3 (dL yx)]); (iterate 4 rfl); exact ⟨by decide, h16⟩; iterate 2 rfl)
      | (apply aC (b := true); (iterate 2 rfl); exact hc0; iterate 2 rfl)
      | (apply aI; rfl; exact .s .z; rfl; rfl; exact hup; rfl; refine EL.le (Le.pin (p := 4) (pre := [_]) rfl rfl) ?_; simp only [Xr, List.nil_append])
      | (apply ak; iterate 3 rfl) | (apply ah; iterate 3 rfl) | (apply bn; iterate 6 rfl) | (apply aH; iterate 5 rfl)
      | (apply aS; iterate 4 rfl) | (apply dI; iterate 3 rfl) | (apply bH; rfl; exact I.a; iterate 4 rfl)
      | (apply aC (b := false); (iterate 2 rfl); exact aK; iterate 2 rfl) | (apply jh; (iterate 3 rfl); (focus omega); (focus omega); iterate 2 rfl)
      | (apply aP; iterate 4 rfl) | (apply jl; iterate 3 rfl) | (apply iw; iterate 4 rfl) | (apply aT; rfl; rfl; rfl; intro _)
      | (apply aI; rfl; exact saA; iterate 4 rfl) | apply EL.nil
      | (apply EC.t0; rfl) | (apply EC.f0; rfl) | (with_reducible first | apply EK.nc | apply EC.seq | apply EC.r0 | apply EC.x0 | apply EC.ret | apply EK.s0 | apply EK.aY))
    exact EK.bV [] rfl rfl rfl RL.a (Xt _) ⟨rfl, rfl⟩
   | false =>
    rw [ZP, Y4]
    by_cases h1 : 1 < n + 1
    ·
     rw [decide_eq_true h1]
     repeat
      (first
       | (apply bT (d := .tup [.v (.bool false), .bs yb, .sl 3 (dL yx)]); (iterate 4 rfl); exact ⟨by decide, h16⟩; iterate 2 rfl)
       | (apply aC (b := true); (iterate 2 rfl); exact hc0; iterate 2 rfl)
       | (apply aI; rfl; exact .s .z; rfl; rfl; exact hup; rfl; refine EL.le (Le.pin (p := 4) (pre := [_]) rfl rfl) ?_; simp only [Xr, List.nil_append])
       | (apply ak; iterate 3 rfl) | (apply ah; iterate 3 rfl) | (apply bn; iterate 6 rfl) | (apply aH; iterate 5 rfl)
       | (apply aS; iterate 4 rfl) | (apply dI; iterate 3 rfl) | (apply bH; rfl; exact I.a; iterate 4 rfl)
       | (apply aC (b := true); (iterate 2 rfl); exact aK; iterate 2 rfl) | (apply aC (b := false); (iterate 2 rfl); exact aK; iterate 2 rfl)
       | (apply jh; (iterate 3 rfl); (focus omega); (focus omega); iterate 2 rfl) | (apply aP; iterate 4 rfl) | (apply jl; iterate 3 rfl)
       | (apply iw; iterate 4 rfl) | (apply aT; rfl; rfl; rfl; intro _)
       | (apply aI; rfl; exact saA; iterate 4 rfl) | apply EL.nil
       | (apply EC.t0; rfl) | (apply EC.f0; rfl) | (with_reducible first | apply EK.nc | apply EC.seq | apply EC.r0 | apply EC.x0 | apply EC.ret | apply EK.s0 | apply EK.aY))
     exact EK.bV [] rfl rfl rfl RL.a (Xt _) ⟨rfl, rfl⟩
    ·
     rw [decide_eq_false h1]
     repeat
      (first
       | (apply bT (d := .tup [.v (.bool false), .bs yb, .sl 3 (dL yx)]); (iterate 4 rfl); exact ⟨by decide, h16⟩; iterate 2 rfl)
       | (apply aC (b := true); (iterate 2 rfl); exact hc0; iterate 2 rfl)
       | (apply aI; rfl; exact .s .z; rfl; rfl; exact hup; rfl; refine EL.le (Le.pin (p := 4) (pre := [_]) rfl rfl) ?_; simp only [Xr, List.nil_append])
       | (apply ak; iterate 3 rfl) | (apply ah; iterate 3 rfl) | (apply bn; iterate 6 rfl) | (apply aH; iterate 5 rfl)
       | (apply aS; iterate 4 rfl) | (apply dI; iterate 3 rfl) | (apply bH; rfl; exact I.a; iterate 4 rfl)
       | (apply aC (b := false); (iterate 2 rfl); exact aK; iterate 2 rfl) | (apply jh; (iterate 3 rfl); (focus omega); (focus omega); iterate 2 rfl)
       | (apply aP; iterate 4 rfl) | (apply jl; iterate 3 rfl) | (apply iw; iterate 4 rfl) | (apply aT; rfl; rfl; rfl; intro _)
       | (apply aI; rfl; exact saA; iterate 4 rfl) | apply EL.nil
       | (apply EC.t0; rfl) | (apply EC.f0; rfl) | (with_reducible first | apply EK.nc | apply EC.seq | apply EC.r0 | apply EC.x0 | apply EC.ret | apply EK.s0 | apply EK.aY))
     exact EK.bV [] rfl rfl rfl RL.a (Xt _) ⟨rfl, rfl⟩
  ·
   rw [if_neg h0, Yk]
   have hc0 : fM .gtr (yb.length : Int) 0 = some false := by
    simp only [fM, XT, decide_eq_false_iff_not]
    omega
   cases yl with
   | true =>
    rw [Bool.not_true, ZO]
    repeat
     (first
      | (apply eX; iterate 2 rfl) | (apply bT (d := .tup [.v (.bool true), .bs yb, .sl 3 (dL yx)]); (iterate 4 rfl); exact ⟨by decide, h16⟩; iterate 2 rfl)
      | (apply aC (b := false); (iterate 2 rfl); exact hc0; iterate 2 rfl)
      | (apply aI; rfl; exact .s .z; rfl; rfl; exact hup; rfl; refine EL.le (Le.pin (p := 4) (pre := [_]) rfl rfl) ?_; simp only [Xr, List.nil_append])
      | (apply ak; iterate 3 rfl) | (apply ah; iterate 3 rfl) | (apply bn; iterate 6 rfl) | (apply aH; iterate 5 rfl)
      | (apply aS; iterate 4 rfl) | (apply dI; iterate 3 rfl) | (apply bH; rfl; exact I.a; iterate 4 rfl)
      | (apply aC (b := false); (iterate 2 rfl); exact aK; iterate 2 rfl) | (apply aP; iterate 4 rfl) | (apply jl; iterate 3 rfl)
      | (apply iw; iterate 4 rfl) | (apply aT; rfl; rfl; rfl; intro _)
      | (apply aI; rfl; exact saA; iterate 4 rfl) | apply EL.nil
      | (apply EC.f0; rfl) | (with_reducible first | apply EK.nc | apply EC.seq | apply EC.r0 | apply EC.k0 | apply EC.x0 | apply EC.ret | apply EK.s0 | apply EK.aY))
    exact EK.bV [] rfl rfl rfl RL.a (Xt _) ⟨rfl, rfl⟩
   | false =>
    rw [ZP, Y4]
    by_cases h1 : 1 < n
    ·
     rw [decide_eq_true h1]
     repeat
      (first
       | (apply bT (d := .tup [.v (.bool false), .bs yb, .sl 3 (dL yx)]); (iterate 4 rfl); exact ⟨by decide, h16⟩; iterate 2 rfl)
       | (apply aC (b := false); (iterate 2 rfl); exact hc0; iterate 2 rfl)
       | (apply aI; rfl; exact .s .z; rfl; rfl; exact hup; rfl; refine EL.le (Le.pin (p := 4) (pre := [_]) rfl rfl) ?_; simp only [Xr, List.nil_append])
       | (apply ak; iterate 3 rfl) | (apply ah; iterate 3 rfl) | (apply bn; iterate 6 rfl) | (apply aH; iterate 5 rfl)
       | (apply aS; iterate 4 rfl) | (apply dI; iterate 3 rfl) | (apply bH; rfl; exact I.a; iterate 4 rfl)
       | (apply aC (b := true); (iterate 2 rfl); exact aK; iterate 2 rfl) | (apply aC (b := false); (iterate 2 rfl); exact aK; iterate 2 rfl)
       | (apply aP; iterate 4 rfl) | (apply jl; iterate 3 rfl) | (apply iw; iterate 4 rfl) | (apply aT; rfl; rfl; rfl; intro _)
       | (apply aI; rfl; exact saA; iterate 4 rfl) | apply EL.nil
       | (apply EC.f0; rfl) | (with_reducible first | apply EK.nc | apply EC.seq | apply EC.r0 | apply EC.k0 | apply EC.x0 | apply EC.ret | apply EK.s0 | apply EK.aY))
     exact EK.bV [] rfl rfl rfl RL.a (Xt _) ⟨rfl, rfl⟩
    ·
     rw [decide_eq_false h1]
     repeat
      (first
       | (apply bT (d := .tup [.v (.bool false), .bs yb, .sl 3 (dL yx)]); (iterate 4 rfl); exact ⟨by decide, h16⟩; iterate 2 rfl)
       | (apply aC (b := false); (iterate 2 rfl); exact hc0; iterate 2 rfl)
       | (apply aI; rfl; exact .s .z; rfl; rfl; exact hup; rfl; refine EL.le (Le.pin (p := 4) (pre := [_]) rfl rfl) ?_; simp only [Xr, List.nil_append])
       | (apply ak; iterate 3 rfl) | (apply ah; iterate 3 rfl) | (apply bn; iterate 6 rfl) | (apply aH; iterate 5 rfl)
       | (apply aS; iterate 4 rfl) | (apply dI; iterate 3 rfl) | (apply bH; rfl; exact I.a; iterate 4 rfl)
       | (apply aC (b := false); (iterate 2 rfl); exact aK; iterate 2 rfl) | (apply aP; iterate 4 rfl) | (apply jl; iterate 3 rfl)
       | (apply iw; iterate 4 rfl) | (apply aT; rfl; rfl; rfl; intro _)
       | (apply aI; rfl; exact saA; iterate 4 rfl) | apply EL.nil
       | (apply EC.f0; rfl) | (with_reducible first | apply EK.nc | apply EC.seq | apply EC.r0 | apply EC.k0 | apply EC.x0 | apply EC.ret | apply EK.s0 | apply EK.aY))
     exact EK.bV [] rfl rfl rfl RL.a (Xt _) ⟨rfl, rfl⟩
theorem SH : ∀ (f : Nat) (x : Raw), dep x < f → Gd x → Fn 111 [aO x] (· = jE (bP f x)) := by
 intro f
 induction f with
 | zero => exact fun x h _ => absurd h (Yc _)
 | succ f IH =>
 rintro ⟨l, b, xs⟩ h hE
 cases l with
 | false =>
  rw [bP, aO]
  refine FnM.toFn ?_
  refine FnM.walk 34 Tryz.func111 rfl Tryz.ntmps111 (by simp) fun X => ?_
  repeat
   (first
    | (apply ah; iterate 3 rfl) | (apply bn; iterate 6 rfl) | (apply dI; iterate 3 rfl) | (apply bH; rfl; exact I.a; iterate 4 rfl)
    | (apply fU; rfl; rfl; rfl; intro _) | apply EL.nil | (apply EC.t0; rfl)
    | (with_reducible first | apply EK.nc | apply EC.seq | apply EC.r0 | apply EC.k0 | apply EC.b0 | apply EC.ret | apply EK.n0))
  exact EK.bV [] rfl rfl rfl RL.a (Xt _) ⟨rfl, rfl⟩
 | true =>
  have ih : ∀ y ∈ xs, isL y = true → Fn 111 [aO y] (· = jE (bP f y)) := fun y hy _ => IH y (by have := vw hy; rw [dep] at h; omega) (hE.kid hy)
  rw [bP]
  have hml : (dL xs).length = xs.length := by rw [jd, List.length_map]
  by_cases h2 : xs.length = 2
  ·
   rw [if_pos h2]
   match xs, h2 with
   | [x, y], _ =>
    have hgx := hE.kid (y := x) List.mem_cons_self
    have hx0 : (bts x).length ≤ 536870912 := by
     obtain ⟨xl, xb, xx⟩ := x
     show xb.length ≤ _
     cases xl with
     | false =>
      have h1 := hgx.len
      rw [Rlp.E] at h1
      have := QV xb
      simp only [most] at h1
      omega
     | true =>
      have h1 := hgx.nrm
      rw [norm] at h1
      injection h1 with _ h1 _
      rw [← h1]
      exact XQ _
    have hP := SG x y (bP f) hx0 (ih y (Xw _ List.mem_cons_self))
    rw [show [x, y].getD 0 eF = x from rfl, show [x, y].getD 1 eF = y from rfl]
    unfold jE at hP ⊢
    generalize sO (bP f) x y = r at hP ⊢
    rw [aO, dL, dL, dL]
    refine FnM.toFn ?_
    refine FnM.walk 34 Tryz.func111 rfl Tryz.ntmps111 (by simp) fun X => ?_
    obtain ⟨xl, xb, xx⟩ := x
    obtain ⟨yl, yb, yx⟩ := y
    rw [aO, aO] at hP ⊢
    repeat
     (first
      | (apply ah; iterate 3 rfl) | (apply bn; iterate 6 rfl) | (apply dI; iterate 3 rfl) | (apply bH; rfl; exact I.a; iterate 4 rfl)
      | (apply aC (b := true); (iterate 2 rfl); exact aK; iterate 2 rfl) | (apply aJ; iterate 4 rfl) | (apply fU; rfl; rfl; rfl; intro _) | apply EL.nil
      | (apply EC.t0; rfl) | (apply EC.f0; rfl) | (with_reducible first | apply EK.nc | apply EC.seq | apply EC.r0 | apply EC.b0))
    refine EC.draw 11 (by kernel_rfl) ?_
    simp only [Xp, Xu, mP, Xq]
    repeat
     (first
      | (apply fD (hP); rfl; exact aj.refl _ _; exact enA; iterate 2 rfl) | (apply dH; iterate 6 rfl) | (apply NU; iterate 4 rfl)
      | (apply bD; iterate 5 rfl) | (apply dw; rfl; exact I.a; iterate 4 rfl)
      | (apply dJ; (iterate 4 rfl); exact ixA; iterate 2 rfl)
      | ((with_reducible apply EH.nil); rfl))
    repeat
     (first
      | (apply ah; iterate 3 rfl) | apply EL.nil | (with_reducible first | apply EK.nc | apply EC.ret | apply EK.dK | apply EK.aG))
    exact EK.bV [] rfl rfl rfl RL.a (Xt _) ⟨rfl, rfl⟩
  ·
   rw [if_neg h2]
   have hc2 : fM .eql ((dL xs).length : Int) 2 = some false := by
    simp only [fM, XT, beq_eq_false_iff_ne]
    omega
   by_cases h17 : xs.length = 17
   ·
    rw [if_pos h17]
    have hB := NC xs (bP f) h17 ih
    unfold jE at hB ⊢
    generalize brF (bP f) xs = r at hB ⊢
    rw [aO]
    refine FnM.toFn ?_
    refine FnM.walk 34 Tryz.func111 rfl Tryz.ntmps111 (by simp) fun X => ?_
    repeat
     (first
      | (apply aA (hB); rfl; exact aj.refl _ _; exact enA; iterate 2 rfl) | (apply aC (b := false); (iterate 2 rfl); exact hc2; iterate 2 rfl)
      | (apply ah; iterate 3 rfl) | (apply bn; iterate 6 rfl) | (apply aF; iterate 4 rfl) | (apply dI; iterate 3 rfl)
      | (apply bH; rfl; exact I.a; iterate 4 rfl) | (apply aC (b := true); (iterate 2 rfl); exact aK; iterate 2 rfl) | (apply aJ; iterate 4 rfl)
      | (apply fU; rfl; rfl; rfl; intro _) | apply EL.nil | (apply EC.t0; rfl) | (apply EC.f0; rfl)
      | (with_reducible first | apply EK.nc | apply EC.seq | apply EC.r0 | apply EC.b0 | apply EC.ret | apply EK.dK | apply EK.aG))
    exact EK.bV [] rfl rfl rfl RL.a (Xt _) ⟨rfl, rfl⟩
   ·
    rw [if_neg h17]
    have hc17 : fM .eql ((dL xs).length : Int) 17 = some false := by
     simp only [fM, XT, beq_eq_false_iff_ne]
     omega
    rw [aO]
    refine FnM.toFn ?_
    refine FnM.walk 34 Tryz.func111 rfl Tryz.ntmps111 (by simp) fun X => ?_
    repeat
     (first
      | (apply aC (b := false); (iterate 2 rfl); (first | exact hc2 | exact hc17); iterate 2 rfl) | (apply ah; iterate 3 rfl) | (apply bn; iterate 6 rfl)
      | (apply dI; iterate 3 rfl) | (apply bH; rfl; exact I.a; iterate 4 rfl) | (apply aJ; iterate 4 rfl) | (apply fU; rfl; rfl; rfl; intro _)
      | apply EL.nil | (apply EC.f0; rfl)
      | (with_reducible first | apply EK.nc | apply EC.seq | apply EC.r0 | apply EC.k0 | apply EC.b0 | apply EC.ret | apply EK.n0))
    exact EK.bV [] rfl rfl rfl RL.a (Xt _) ⟨rfl, rfl⟩
theorem uz (b : List UInt8) : Gd (rdX b) := by
 unfold rdX
 cases hr : gY b with
 | ok x => exact ER hr
 | error e => exact Sm
def Aw (b : List UInt8) : Nd × Bool := if rdE b = 0 ∧ isN 40 (rdX b) = true then bP 40 (rdX b) else (.nil, false)
theorem J7 (b : List UInt8) : Fn 64 [.bs b] (· = jE (Aw b)) := by
 have h1 := Ve b
 have hg := uz b
 have h2 := SH 40 (rdX b) (by have := hg.dep; omega) hg
 have h3 := kQ 40 (rdX b) hg
 unfold Aw
 unfold ET at h1
 unfold jE at h2 ⊢
 generalize bP 40 (rdX b) = r at h2 h3 ⊢
 generalize isN 40 (rdX b) = q at h3 ⊢
 generalize rdX b = x at h1 h2
 generalize rdE b = e at h1 ⊢
 obtain ⟨xl, xb, xx⟩ := x
 rw [aO] at h1 h2
 obtain ⟨n, ok⟩ := r
 obtain rfl : ok = q := h3
 refine FnM.toFn ?_
 refine FnM.walk 23 Tryz.func64 rfl Tryz.ntmps64 (by simp) fun X => ?_
 by_cases he : e = 0
 ·
  subst he
  cases ok with
  | true =>
   rw [if_pos ⟨rfl, rfl⟩]
   dsimp only at h2 ⊢
   repeat
    (first
     | (apply aA (h1); rfl; exact aj.refl _ _; exact enA; iterate 2 rfl) | (apply aA (h2); rfl; exact aj.refl _ _; exact enA; iterate 2 rfl)
     | (apply ak; iterate 3 rfl) | (apply ah; iterate 3 rfl) | (apply aF; iterate 4 rfl) | (apply dI; iterate 3 rfl)
     | (apply bH; rfl; exact I.a; iterate 4 rfl) | (apply aC (b := false); (iterate 2 rfl); exact aK; iterate 2 rfl)
     | (apply aT; rfl; rfl; rfl; intro _) | (apply aI; rfl; exact saA; iterate 4 rfl) | apply EL.nil
     | (apply EC.f0; rfl) | (with_reducible first | apply EK.nc | apply EC.seq | apply EC.r0 | apply EC.k0 | apply EC.ret))
   exact EK.bV [] rfl rfl rfl RL.a (Xt _) ⟨rfl, rfl⟩
  | false =>
   rw [if_neg fun h => Xv h.2]
   dsimp only at h2 ⊢
   repeat
    (first
     | (apply aA (h1); rfl; exact aj.refl _ _; exact enA; iterate 2 rfl) | (apply aA (h2); rfl; exact aj.refl _ _; exact enA; iterate 2 rfl)
     | (apply ak; iterate 3 rfl) | (apply ah; iterate 3 rfl) | (apply aF; iterate 4 rfl) | (apply dI; iterate 3 rfl)
     | (apply bH; rfl; exact I.a; iterate 4 rfl) | (apply aC (b := false); (iterate 2 rfl); exact aK; iterate 2 rfl)
     | (apply aT; rfl; rfl; rfl; intro _) | (apply aI; rfl; exact saA; iterate 4 rfl) | apply EL.nil
     | (apply EC.t0; rfl) | (apply EC.f0; rfl)
     | (with_reducible first | apply EK.nc | apply EC.seq | apply EC.r0 | apply EC.k0 | apply EC.ret | apply EK.aG))
   exact EK.bV [] rfl rfl rfl RL.a (Xt _) ⟨rfl, rfl⟩
 ·
  rw [if_neg fun h => he h.1]
  have hc : fM .neq (e : Int) 0 = some true := by
   have : (e : Int) ≠ 0 := by omega
   simp only [fM, XT, bne_iff_ne]
   exact this
  repeat
   (first
    | (apply aA (h1); rfl; exact aj.refl _ _; exact enA; iterate 2 rfl) | (apply aC (b := true); (iterate 2 rfl); exact hc; iterate 2 rfl)
    | (apply ak; iterate 3 rfl) | (apply ah; iterate 3 rfl) | (apply aF; iterate 4 rfl) | (apply aT; rfl; rfl; rfl; intro _)
    | (apply aI; rfl; exact saA; iterate 4 rfl) | apply EL.nil
    | (apply EC.t0; rfl) | (with_reducible first | apply EK.nc | apply EC.seq | apply EC.r0 | apply EC.ret | apply EK.aG))
  exact EK.bV [] rfl rfl rfl RL.a (Xt _) ⟨rfl, rfl⟩
def iW : Nd → List UInt8 → Nd × List UInt8 × List UInt8
 | .leaf q v, p => if q = p then (.nil, [], v) else (.nil, [], [])
 | .ext q k, p => if q = p.take q.length then (k, p.drop q.length, []) else (.nil, [], [])
 | .br _ v, [] => (.nil, [], v)
 | .br ks _, c :: r => (ks c.toNat, r, [])
 | _, _ => (.nil, [], [])
theorem oQ (q v p : List UInt8) : iW (.leaf q v) p = if q = p then (.nil, [], v) else (.nil, [], []) := by cases p <;> rfl
theorem vP (q : List UInt8) (k : Nd) (p : List UInt8) : iW (.ext q k) p = if q = p.take q.length then (k, p.drop q.length, []) else (.nil, [], []) := by cases p <;> rfl
theorem Em (ks : Nat → Nd) (v : List UInt8) (c : UInt8) (r : List UInt8) : iW (.br ks v) (c :: r) = (ks c.toNat, r, []) := rfl
def dwn (x : Raw) (p : List UInt8) : Raw × List UInt8 × List UInt8 × Bool :=
 if (its x).length = 17 then
  match p with
  | [] => (eF, [], bts ((its x).getD 16 eF), false)
  | c :: r => if !isL ((its x).getD c.toNat eF) && decide ((bts ((its x).getD c.toNat eF)).length = 0) then (eF, [], [], false) else ((its x).getD c.toNat eF, r, [], true)
 else match rdP (bts ((its x).getD 0 eF)) with
  | some (q, true) => if p = q then (eF, [], bts ((its x).getD 1 eF), false) else (eF, [], [], false)
  | some (q, false) => if common p q < q.length then (eF, [], [], false) else ((its x).getD 1 eF, p.drop q.length, [], true)
  | none => if common p [] < ([] : List UInt8).length then (eF, [], [], false) else ((its x).getD 1 eF, p.drop 0, [], true)
theorem zS : ∀ (n : Nat) (a b : List UInt8), a.take n = b.take n → n ≤ a.length → n ≤ b.length → n ≤ common a b
 | 0, _, _, _, _, _ => XQ _
 | n + 1, [], b, _, h, _ => by simp at h
 | n + 1, _ :: _, [], _, _, h => by simp at h
 | n + 1, x :: a, y :: b, e, h1, h2 => by
  simp only [Xp, Zl] at e
  rw [common, if_pos e.1]
  have := zS n a b e.2 (by simpa using h1) (by simpa using h2)
  omega
theorem zQ (p q : List UInt8) : q = p.take q.length ↔ ¬ common p q < q.length := by
 obtain ⟨h1, h2, h3⟩ := eY p q
 constructor
 ·
  intro e
  have hl : q.length ≤ p.length := by
   have := congrArg List.length e
   rw [List.length_take] at this
   omega
  have := zS q.length p q (by rw [Yl]; exact e.symm) hl (Nat.le_refl _)
  omega
 ·
  intro h
  have : common p q = q.length := by omega
  rw [this, Yl] at h1
  exact h1.symm
def G9 (f : Nat) (x : Raw) : Prop := Gd x ∧ ((isL x = true ∧ isN f x = true ∧ (Rlp.E x).length < 32) ∨ (isL x = false ∧ (bts x).length = 32))
theorem JW {f : Nat} {x : Raw} {b : Bool} (hx : Gd x) (h : rfB (isN f) b x = true) (hne : (!isL x && decide ((bts x).length = 0)) = false) : G9 f x := by
 refine ⟨hx, ?_⟩
 obtain ⟨l, c, xs⟩ := x
 cases l with
 | true =>
  rw [uw, hx.pkB] at h
  obtain ⟨h1, h2⟩ := YC.1 h
  exact .inl ⟨rfl, h2, of_decide_eq_true h1⟩
 | false =>
  refine .inr ⟨rfl, ?_⟩
  rw [rH] at h
  show c.length = 32
  have h0 : c.length ≠ 0 := by simpa [isL, bts] using hne
  rcases Bool.or_eq_true_iff.1 h with h | h
  · exact of_decide_eq_true h
  · exact absurd (of_decide_eq_true (YC.1 h).2) h0
theorem LV (b : List UInt8) : rdP b = none ∨ (∃ q, rdP b = some (q, true)) ∨ ∃ q, rdP b = some (q, false) := by
 cases h : rdP b with
 | none => exact .inl rfl
 | some x =>
  obtain ⟨q, l⟩ := x
  cases l with
  | true => exact .inr (.inl ⟨q, rfl⟩)
  | false => exact .inr (.inr ⟨q, rfl⟩)
theorem yC {f : Nat} {x : Raw} (hx : Gd x) (hn : isN f x = true) (p : List UInt8) (hp : ∀ c ∈ p, c.toNat < 16) :
  (∃ r v, (dwn x p).2.2.2 = false ∧ (dwn x p).2.2.1 = v ∧ iW (bP f x).1 p = (.nil, r, v)) ∨
  (∃ g k r, (dwn x p) = (k, r, [], true) ∧ iW (bP f x).1 p = ((gX (bP g) k).1, r, []) ∧ G9 g k ∧ r.length < p.length ∧ (∀ c ∈ r, c ∈ p)) := by
 have hok : (bP f x).2 = true := by rw [kQ f x hx, hn]
 match f, x with
 | 0, x => cases hn
 | _ + 1, .mk false _ _ => cases hn
 | f + 1, .mk true b xs =>
  rw [isN] at hn
  rw [bP] at hok ⊢
  unfold dwn
  rw [show its (.mk true b xs) = xs from rfl]
  by_cases h17 : xs.length = 17
  ·
   have h2 : ¬ xs.length = 2 := by omega
   rw [if_pos h17] at hn
   rw [if_neg h2, if_pos h17] at hok ⊢
   rw [if_pos h17]
   unfold brF at hok ⊢
   cases hall : (xs.take 16).all (fun x => (gX (bP f) x).2) with
   | false =>
    rw [hall] at hok
    cases hok
   | true =>
    rw [if_pos rfl]
    cases p with
    | nil => exact .inl ⟨[], _, rfl, rfl, rfl⟩
    | cons c r =>
     have hc := hp c List.mem_cons_self
     have hcx : c.toNat < xs.length := by omega
     have hmem : xs.getD c.toNat eF ∈ xs := by
      rw [List.getD_eq_getElem?_getD, List.getElem?_eq_getElem hcx]
      exact XW hcx
     have hmt : xs.getD c.toNat eF ∈ xs.take 16 := by
      rw [List.getD_eq_getElem?_getD, List.getElem?_eq_getElem hcx]
      exact List.mem_iff_getElem.2 ⟨c.toNat, by rw [List.length_take]; omega, by rw [List.getElem_take]; rfl⟩
     unfold brB at hn
     have hrf : rfB (isN f) true (xs.getD c.toNat eF) = true := X6.1 (YC.1 (YC.1 hn).1).1 _ hmt
     have hg := hx.kid hmem
     rw [Em]
     dsimp only
     generalize xs.getD c.toNat eF = y at hrf hg ⊢
     cases hz : (!isL y && decide ((bts y).length = 0)) with
     | true =>
      rw [if_pos rfl]
      refine .inl ⟨r, [], rfl, rfl, ?_⟩
      obtain ⟨z1, z2⟩ := YC.1 hz
      show ((gX (bP f) y).1, r, ([] : List UInt8)) = _
      unfold gX
      rw [if_neg (by simpa using z1), if_pos (of_decide_eq_true z2)]
     | false =>
      rw [if_neg Xv]
      exact .inr ⟨f, y, r, rfl, rfl, JW hg hrf hz, by simp, fun d hd => Xw _ hd⟩
  ·
   rw [if_neg h17] at hn
   rw [if_neg h17]
   by_cases h2 : xs.length = 2
   ·
    rw [if_pos h2] at hn hok ⊢
    match xs, h2 with
    | [a, y], _ =>
     have hg := hx.kid (y := y) (Xw _ List.mem_cons_self)
     rw [show [a, y].getD 0 eF = a from rfl, show [a, y].getD 1 eF = y from rfl] at *
     unfold prB at hn
     unfold sO at hok ⊢
     obtain ⟨ha, hn⟩ := YC.1 hn
     have ha : isL a = false := by simpa using ha
     rcases LV (bts a) with hr | ⟨q, hr⟩ | ⟨q, hr⟩
     ·
      rw [hr] at hn
      cases hn
     ·
      rw [hr] at hn hok ⊢
      dsimp only at hn hok ⊢
      rw [ha, if_neg Xv, if_pos rfl]
      by_cases hq : p = q
      ·
       rw [if_pos hq]
       refine .inl ⟨[], _, rfl, rfl, ?_⟩
       rw [oQ, if_pos hq.symm]
      ·
       rw [if_neg hq]
       refine .inl ⟨[], _, rfl, rfl, ?_⟩
       rw [oQ, if_neg fun e => hq e.symm]
     ·
      rw [hr] at hn hok ⊢
      dsimp only at hn hok ⊢
      rw [ha, if_neg Xv, if_neg Xv] at hok ⊢
      obtain ⟨hn1, hn2⟩ := YC.1 hn
      obtain ⟨hn0, hn1⟩ := YC.1 hn1
      have hq0 := of_decide_eq_true hn0
      cases hbh : (gX (bP f) y).1.xM with
      | false =>
       rw [hbh, if_neg Xv] at hok
       cases hok
      | true =>
       rw [if_pos rfl]
       have hne : (!isL y && decide ((bts y).length = 0)) = false := by
        cases hz : (!isL y && decide ((bts y).length = 0)) with
        | false => rfl
        | true =>
         obtain ⟨z1, z2⟩ := YC.1 hz
         unfold gX at hbh
         rw [if_neg (by simpa using z1), if_pos (of_decide_eq_true z2)] at hbh
         cases hbh
       have hcp := zQ p q
       by_cases hcm : common p q < q.length
       ·
        rw [if_pos hcm]
        refine .inl ⟨[], _, rfl, rfl, ?_⟩
        rw [vP, if_neg fun e => hcp.1 e hcm]
       ·
        rw [if_neg hcm]
        refine .inr ⟨f, y, p.drop q.length, rfl, ?_, JW hg hn1 hne, ?_, fun d hd => Y2 hd⟩
        · rw [vP, if_pos (hcp.2 hcm)]
        ·
         have := (eY p q).2.1
         rw [Xx]
         omega
   ·
    rw [if_neg h2] at hn
    cases hn
def nxt (x : Raw) (l : List (List UInt8)) : Except Nat (Raw × List (List UInt8)) := if isL x then .ok (x, l) else match l with
 | [] => .error 5
 | q :: l' => if hash q = bts x then (if rdE q = 0 ∧ isN 40 (rdX q) = true then .ok (rdX q, l') else .error 4) else .error 5
def chk : Nat → Raw → List UInt8 → List (List UInt8) → List UInt8 × Nat
 | 0, _, _, _ => ([], 0)
 | f + 1, x, p, l => match nxt x l with
  | .error e => ([], e)
  | .ok (i, l') => if (dwn i p).2.2.2 then chk f (dwn i p).1 (dwn i p).2.1 l' else if l'.length = 0 then ((dwn i p).2.2.1, 0) else ([], 3)
def xQ (root key : List UInt8) (l : List (List UInt8)) : List UInt8 × Nat := if root = lY then (if l.length = 0 then ([], 0) else ([], 3)) else chk 400 (.mk false root []) (split key) l
def zV (g : Nat) (x : Raw) (p : List UInt8) (q : List (List UInt8)) : List UInt8 × Nat := if (dwn x p).2.2.2 then chk g (dwn x p).1 (dwn x p).2.1 q else if q.length = 0 then ((dwn x p).2.2.1, 0) else ([], 3)
theorem kG (g : Nat) (x : Raw) (p : List UInt8) (l : List (List UInt8)) : chk (g + 1) x p l = match nxt x l with
  | .error e => ([], e)
  | .ok (i, l') => zV g i p l' := rfl
theorem Gy (g : Nat) {x : Raw} (h : isL x = true) (p : List UInt8) (l : List (List UInt8)) : chk (g + 1) x p l = zV g x p l := by
 rw [kG]
 unfold nxt
 rw [if_pos h]
theorem Cj (g : Nat) {x : Raw} (h : isL x = false) (p : List UInt8) : chk (g + 1) x p [] = ([], 5) := by
 rw [kG]
 unfold nxt
 rw [h, if_neg Xv]
theorem wF (g : Nat) {x : Raw} (h : isL x = false) (p : List UInt8) (b : List UInt8) (l : List (List UInt8)) : chk (g + 1) x p (b :: l) = if hash b = bts x then (if rdE b = 0 ∧ isN 40 (rdX b) = true then zV g (rdX b) p l else ([], 4)) else ([], 5) := by
 rw [kG]
 unfold nxt
 rw [h, if_neg Xv]
 dsimp only
 by_cases h1 : hash b = bts x
 ·
  rw [if_pos h1, if_pos h1]
  by_cases h2 : rdE b = 0 ∧ isN 40 (rdX b) = true
  · rw [if_pos h2, if_pos h2]
  · rw [if_neg h2, if_neg h2]
 · rw [if_neg h1, if_neg h1]
end E
end Go.Proofs.YtelbhdobjdnglaaGreat
namespace Go.Proofs.YtelbhdobjdnglaaGreat
set_option linter.unusedVariables false
set_option maxHeartbeats 1000000
open Go.RowKit Mono Rlp
theorem Vo (v : Value) (l : List UInt8) (w : World) (h : IsB w v l) (hl : l.length ≤ 140737488355328) : Calls Tryz.prog 75 #[v] w (Ret (fun v w' => OwnB w' w.heap.size v l) w) := by
 obtain ⟨A, c, rfl, hc1, hc2, hr⟩ := h
 cases A with
 | none =>
  have hl0 : l = [] := by
   by_cases hn : bvs l = []
   · simpa [bvs] using hn
   ·
    obtain ⟨b, o, e, _⟩ := hr hn
    cases e
  subst hl0
  clear hr
  have hq := Lib.run_eql_slice_nil w 38 5 none 0 c 0 0 Tryz.underlying38
  go_enter Tryz.func75, Tryz.ntmps75
  go_wp2
  refine bodyPost_ret (results_tmp rfl _ _ _) rfl ?_
  exact ⟨_, rfl, Gr.refl _, OwnB.nil _ _⟩
 | some a =>
  have HR := Lib.hid hr
  clear hr
  have hq := Lib.run_eql_slice_nil w 38 5 (some a) l.length c 0 0 Tryz.underlying38
  go_enter Tryz.func75, Tryz.ntmps75
  go_wp2_with (at_builtin; refine aV (.tmp 5) (.tmp 6) 38 bK (base := w.heap.size) _ 0 [] _ l.length c w.heap.size (bvs l) rfl rfl rfl rfl (iI w #[] 5 1 0 w.heap.size w.heap.size rfl (Nat.le_refl _) (by simp [maxLen]) rfl) (HR.out.below ((Below.refl _ _).alloc (Nat.le_refl _) _)) (by simp [bvs]) (dR _) (by simp only [maxLen]; omega) (by omega) (by simp) ?_; intro A2 c2 w2 hown2 hg2 _)
  refine bodyPost_ret (results_tmp rfl _ _ _) rfl ?_
  refine ⟨_, rfl, ((Below.refl _ _).alloc (Nat.le_refl _) _).grown hg2 (by simp) (fun j hj => by cases hj; exact Nat.le_refl _), ?_⟩
  rw [XU, List.nil_append] at hown2
  exact hown2
namespace E
theorem Ko (l : List UInt8) (hl : l.length ≤ 140737488355328) : Fn 75 [.bs l] (· = .val (.bs l)) := ⟨fun ok w xs hok hr => by
 obtain ⟨x, _, rfl, hx, rfl⟩ := hr
 refine (Vo x l w (kS hok hx) hl).mono ?_
 rintro e w' ⟨v, rfl, hg, ho⟩
 exact ⟨hg, v, .val (.bs l), rfl, rfl, (bM rfl).2 (by rw [Reads]; exact ⟨v, rfl, wK.mono (nI ho) (fun b hb => ⟨.inr hb.1, hb.2⟩) fun _ _ => rfl⟩)⟩⟩
end E
end Go.Proofs.YtelbhdobjdnglaaGreat
