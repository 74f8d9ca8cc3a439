import Derived.Test.YtkfdobhnkflckaaGreatDoorCo3
import Derived.Laws.Externs
import Derived.Lib.Builder
import Derived.Lib.ConvBytes
import Derived.Lib.UnsafeStr
import Derived.Shelf.Bits.Mul64
import Derived.Shelf.RegionOpenPlain
import Derived.WalkKit
namespace Go.AW
open Go Go.Proofs
def u64 (n : Nat) : HV := .int .u64 n
theorem mul1 (n : Nat) (hn : n ≤ 1000000) : Fresh Tryz.prog 54 [u64 1, u64 n] (.tup [u64 0, u64 n]) := by
 refine Pure.fresh ⟨enters' Tryz.func54 rfl rfl, fun μ w vs hs hr _ => ?_⟩ ⟨trivial, trivial, trivial⟩ rfl
 obtain ⟨x, xs, rfl, ⟨rfl, _⟩, y, ys, rfl, ⟨rfl, _⟩, hn'⟩ := hr
 cases hn'
 refine (Any.bits_Mul Tryz.mul 1 n (by omega) (by omega) w).mono ?_
 rintro e w' ⟨rfl, rfl⟩
 have e1 : 1 * n / 18446744073709551616 = 0 := by omega
 have e2 : 1 * n % 18446744073709551616 = n := by omega
 refine ⟨_, .tup [u64 0, u64 n], [], μ, by rw [e1, e2], ⟨rfl, ⟨trivial, trivial, trivial⟩, rfl⟩, hs, ⟨_, rfl, _, _, rfl, ⟨rfl, by decide⟩, _, _, rfl, ⟨rfl, ?_⟩, rfl⟩, Evo.refl _ _⟩
 simp only [Lit.wf, IntKind.min, IntKind.max, IntKind.signed, IntKind.bits, Bool.and_eq_true, decide_eq_true_eq]
 simp
 omega
theorem mul1' (n : Nat) (hn : n ≤ 1000000) : Pure Tryz.prog 54 [HV.int .u64 (IntKind.wrap .u64 ((([true] : List Bool).length : Int))), HV.int .u64 (IntKind.wrap .u64 (n : Int))] (· = .tup [HV.int .u64 0, HV.int .u64 n]) := by
 have e : IntKind.wrap .u64 (n : Int) = (n : Int) := by simp only [IntKind.wrap_u64]; omega
 rw [e]
 exact (mul1 n hn).pure
section
variable {P : Program} {ro : Option Nat} {N : Nat} {s : AS} {ops : Array Oper} {K : AS → Prop} {F : List Nat → AS → Prop} {L : List Nat}
theorem AOpI.mono {i : Nat} {G G' : AS → Prop} (h : AOpI P ro N ops i G s) (hg : ∀ s', G s' → G' s') : AOpI P ro N ops i G' s := fun w0 μ0 μ a w next Q hs hE hK =>
 h w0 μ0 μ a w next Q hs hE fun μ2 s2 a2 w2 hk hs2 hE2 => hK μ2 s2 a2 w2 (hg s2 hk) hs2 hE2
end
def rid (i : Nat) : Nat := (1000000 + i) * 1000 + 30
theorem rid_inj {i j : Nat} (h : rid i = rid j) : i = j := by unfold rid at h; omega
theorem hget_hd {id v : Nat} {o : AObj} {H : Heap} : hget ((id, v, o) :: H) id = some (v, o) := by simp [hget]
theorem hget_tl {id j v : Nat} {o : AObj} {H : Heap} (h : id ≠ j) : hget ((j, v, o) :: H) id = hget H id := by simp [hget, h]
theorem le_shadow {id v v' : Nat} {o o' : AObj} {H : Heap} : ∀ j x, hget ((id, v, o) :: H) j = some x → hget ((id, v, o) :: (id, v', o') :: H) j = some x := fun j x h => by
 by_cases e : j = id
 ·subst e; rw [hget_hd] at h ⊢; exact h
 rw [hget_tl e] at h ⊢; rw [hget_tl e]; exact h
abbrev Rws := List (Nat × List Int)
def rowsO : Nat → Rws → Heap
 | _, [] => []
 | k, (v, l) :: t => (rid k, v, .arr 1 3 (eInt.E l)) :: rowsO (k + 1) t
def hdr : Nat → Rws → List HV
 | _, [] => []
 | k, (v, l) :: t => .ar (rid k) v 1 0 l.length :: hdr (k + 1) t
theorem hdr_len : ∀ (k : Nat) (rs : Rws), (hdr k rs).length = rs.length
 | _, [] => rfl
 | k, (v, l) :: t => by simp [hdr, hdr_len (k + 1) t]
theorem hdr_app : ∀ (k : Nat) (rs : Rws) (v : Nat) (l : List Int), hdr k (rs ++ [(v, l)]) = hdr k rs ++ [.ar (rid (k + rs.length)) v 1 0 l.length]
 | _, [], _, _ => rfl
 | k, (v, l) :: t, v', l' => by
  simp only [List.cons_append, hdr, hdr_app (k + 1) t v' l', List.length_cons]
  rw [show k + 1 + t.length = k + (t.length + 1) by omega]
theorem hdr_get : ∀ {rs : Rws} (k : Nat) {i v : Nat} {l : List Int}, rs[i]? = some (v, l) → (hdr k rs)[i]? = some (.ar (rid (k + i)) v 1 0 l.length)
 | [], _, i, _, _, h => by simp at h
 | (v, l) :: t, k, 0, _, _, h => by
  simp at h
  obtain ⟨rfl, rfl⟩ := h
  simp [hdr]
 | (v, l) :: t, k, i + 1, _, _, h => by
  simp only [List.getElem?_cons_succ] at h
  have := hdr_get (k + 1) h
  simp only [hdr, List.getElem?_cons_succ, this]
  rw [show k + 1 + i = k + (i + 1) by omega]
theorem hget_rows : ∀ {rs : Rws} (k : Nat) {i v : Nat} {l : List Int}, rs[i]? = some (v, l) → hget (rowsO k rs) (rid (k + i)) = some (v, .arr 1 3 (eInt.E l))
 | [], _, i, _, _, h => by simp at h
 | (v, l) :: t, k, 0, _, _, h => by
  simp at h
  obtain ⟨rfl, rfl⟩ := h
  exact hget_hd
 | (v, l) :: t, k, i + 1, _, _, h => by
  simp only [List.getElem?_cons_succ] at h
  have := hget_rows (k + 1) h
  show hget ((rid k, v, _) :: rowsO (k + 1) t) (rid (k + (i + 1))) = _
  rw [hget_tl (fun e => by have := rid_inj e; omega), ← this, show k + 1 + i = k + (i + 1) by omega]
theorem leH_rows {H : Heap} : ∀ (rs : Rws) (k : Nat), (∀ i v l, rs[i]? = some (v, l) → hget H (rid (k + i)) = some (v, .arr 1 3 (eInt.E l))) → leH H (rowsO k rs)
 | [], _, _ => trivial
 | (v, l) :: t, k, h => ⟨h 0 v l rfl, leH_rows t (k + 1) fun i v' l' hi => by
  have := h (i + 1) v' l' (by simpa using hi)
  rwa [show k + (i + 1) = k + 1 + i by omega] at this⟩
theorem rows_le {rs : Rws} {v : Nat} {l : List Int} {H : Heap} (hH : ∀ i, hget H (rid i) = none) : ∀ id x, hget (rowsO 0 (rs ++ [(v, l)])) id = some x → hget ((rid rs.length, v, .arr 1 3 (eInt.E l)) :: (H ++ rowsO 0 rs)) id = some x := by
 refine leH_get (leH_rows _ 0 fun i v' l' hi => ?_)
 have happ : ∀ (A B : Heap) (id : Nat), hget A id = none → hget (A ++ B) id = hget B id := by
  intro A B id
  induction A with
  | nil => intro _; rfl
  | cons a A ih =>
   obtain ⟨j, u, o⟩ := a
   intro h
   by_cases e : id = j
   ·subst e; rw [hget_hd] at h; cases h
   rw [hget_tl e] at h
   rw [List.cons_append, hget_tl e]
   exact ih h
 rw [Nat.zero_add]
 by_cases hlt : i < rs.length
 ·rw [List.getElem?_append_left hlt] at hi
  rw [hget_tl (fun e => by have := rid_inj e; omega), happ _ _ _ (hH i)]
  have := hget_rows 0 hi
  rwa [Nat.zero_add] at this
 have hi2 : i = rs.length := by
  have := (List.getElem?_eq_some_iff.1 hi).1
  simp at this
  omega
 subst hi2
 simp at hi
 obtain ⟨rfl, rfl⟩ := hi
 exact hget_hd
theorem rows_set {rs : Rws} {i v : Nat} {l l' : List Int} (h : rs[i]? = some (v, l)) (hl : l'.length = l.length) : hdr 0 (rs.set i (v, l')) = hdr 0 rs ∧ ∀ id x, hget (rowsO 0 (rs.set i (v, l'))) id = some x → hget ((rid i, v, .arr 1 3 (eInt.E l')) :: rowsO 0 rs) id = some x := by
 constructor
 ·refine List.ext_getElem? fun j => ?_
  by_cases hj : j < rs.length
  ·have hb : ∃ b, rs[j]? = some b := ⟨rs[j], List.getElem?_eq_getElem hj⟩
   obtain ⟨⟨w, m⟩, hm⟩ := hb
   rw [hdr_get 0 hm]
   by_cases e : i = j
   ·subst e
    rw [h] at hm
    obtain ⟨rfl, rfl⟩ := Prod.mk.inj (Option.some.inj hm)
    rw [hdr_get 0 (show (rs.set i (v, l'))[i]? = some (v, l') by rw [List.getElem?_set_self hj]), hl]
   rw [hdr_get 0 (show (rs.set i (v, l'))[j]? = some (w, m) by rw [List.getElem?_set_ne e]; exact hm)]
  rw [List.getElem?_eq_none (by rw [hdr_len, List.length_set]; omega), List.getElem?_eq_none (by rw [hdr_len]; omega)]
 refine leH_get (leH_rows _ 0 fun j w m hm => ?_)
 rw [Nat.zero_add]
 by_cases e : i = j
 ·subst e
  have hi := (List.getElem?_eq_some_iff.1 h).1
  rw [List.getElem?_set_self hi] at hm
  cases hm
  exact hget_hd
 rw [List.getElem?_set_ne e] at hm
 rw [hget_tl (fun x => e (rid_inj x).symm)]
 have := hget_rows 0 hm
 rwa [Nat.zero_add] at this
theorem frz_rows {D : Heap} : ∀ (rs : Rws) (k : Nat), (∀ i v l, rs[i]? = some (v, l) → hget D (rid (k + i)) = some (v, .arr 1 3 (eInt.E l))) → (hdr k rs).map (frz 2 D) = (rs.map (·.2)).map (slE eInt)
 | [], _, _ => rfl
 | (v, l) :: t, k, h => by
  simp only [hdr, List.map_cons]
  rw [frz_rows t (k + 1) fun i v' l' hi => by
   have := h (i + 1) v' l' (by simpa using hi)
   rwa [show k + (i + 1) = k + 1 + i by omega] at this]
  congr 1
  exact frz_slE eInt (h 0 v l rfl) fun _ _ => rfl
theorem repI_first (x : Int) (n : Nat) : ((List.replicate n (0 : Int)).map (HV.int .i64)).take 0 ++ ([hI x]).take (min 1 n * 1) ++ ((List.replicate n (0 : Int)).map (HV.int .i64)).drop (0 + min 1 n * 1) = (List.replicate (min 1 n) x ++ List.replicate (n - min 1 n) (0 : Int)).map (HV.int .i64) := by
  cases n with
  | zero => rfl
  | succ n =>
    have e : min 1 (n + 1) = 1 := by omega
    simp [e]
theorem repI_half {x : Int} {n m : Nat} {xs : List HV} (hx : xs = (List.replicate m x ++ List.replicate (n - m) (0 : Int)).map (HV.int .i64)) (h : m ≤ n) : xs.take (0 + m * 1) ++ ((xs.drop (0 + 0 * 1)).take ((m - 0) * 1)).take (min (m - 0) (n - m) * 1) ++ xs.drop (0 + m * 1 + min (m - 0) (n - m) * 1)
    = (List.replicate (m + min m (n - m)) x ++ List.replicate (n - (m + min m (n - m))) (0 : Int)).map (HV.int .i64) := by
  subst hx
  simp only [Nat.mul_one, Nat.zero_mul, Nat.zero_add, List.drop_zero, List.map_append, List.map_replicate, Nat.sub_zero]
  rw [List.take_left' (by simp), List.take_replicate, Nat.min_eq_left (Nat.min_le_left _ _), ← List.drop_drop, List.drop_left' (by simp), List.drop_replicate, List.replicate_append_replicate]
  congr 2
  omega
set_option maxRecDepth 100000 in
set_option maxHeartbeats 1000000 in
theorem repI_own (x : Int) {n : Nat} (hn : n ≤ 1000000) {H : Heap} {KK : HV → Heap → Prop} (i : Nat) (hKK : ∀ ver, KK (.ar (rid i) ver 1 0 (List.replicate n x).length) ((rid i, ver, .arr 1 3 (eInt.E (List.replicate n x))) :: H)) : ACall Tryz.prog 41 [slE eInt [x], hI (n : Int)] H KK := by
  refine ACall.of_body Tryz.func41 rfl rfl (lb rfl) ?_
  unfold Tryz.f41
  dsimp only [enumS, Nat.reduceAdd]
  refine AW.rgs rfl fun K hK => mv rfl rfl ?_
  refine b_nil (hK _ (AW.to (to_le (s' := ⟨[(0, slE eInt [x]), (1, hI (n : Int))], H⟩) ⟨leS_get ⟨rfl, rfl, trivial⟩, fun _ _ h => h⟩ ?_)))
  refine AW.seq ?_
  refine AW.rgs rfl fun K hK => mv rfl rfl (bv rfl (v_bin rfl rfl b_lss) ?_)
  refine b_nil (hK _ (AW.to (to_le (s' := ⟨[(0, slE eInt [x]), (1, hI (n : Int)), (10, .bool (decide ((n : Int) < 0)))], H⟩) ⟨leS_get ⟨rfl, rfl, rfl, trivial⟩, fun _ _ h => h⟩ ?_)))
  refine AW.cond rfl (fun hc => ?_) (fun hc => ?_)
  · have := of_decide_eq_true hc
    omega
  clear hc
  refine AW.skip ?_
  refine AW.rgs rfl fun K hK => mv rfl rfl (bv rfl (v_lenF rfl rfl ty27 rfl) (bv rfl (v_convI ty3 ty104 rfl) (mv rfl rfl (bv rfl (v_convI ty3 ty104 rfl) ?_))))
  refine b_op rfl (o_call rfl rfl rfl rfl (ACallD.pure0 (mul1' n hn)) ?_)
  refine mv rfl rfl (bv rfl (v_extract rfl rfl) (bv rfl (v_extract rfl rfl) (mv rfl rfl (mv rfl rfl ?_))))
  refine b_nil (hK _ (AW.to (to_le (s' := ⟨[(0, slE eInt [x]), (5, .int .u64 0), (6, .int .u64 (n : Int))], H⟩) ⟨leS_get ⟨rfl, rfl, rfl, trivial⟩, fun _ _ h => h⟩ ?_)))
  refine AW.seq ?_
  refine AW.rgs rfl fun K hK => mv rfl rfl (bv rfl (v_bin rfl rfl b_gtr) (mv rfl rfl ?_))
  refine b_T rfl rfl rfl rfl (decide_eq_false (by decide)) (o_val rfl (mv_val rfl rfl).2 ?_)
  refine b_T rfl rfl rfl rfl rfl (o_val rfl (v_bin rfl rfl b_gtr) ?_)
  refine bv rfl (v_pickF rfl rfl rfl) ?_
  refine b_nil (hK _ (AW.to (to_le (s' := ⟨[(0, slE eInt [x]), (6, .int .u64 (n : Int)), (26, .bool (decide ((9223372036854775807 : Int) < (n : Int))))], H⟩) ⟨leS_get ⟨rfl, rfl, rfl, trivial⟩, fun _ _ h => h⟩ ?_)))
  refine AW.cond rfl (fun hc => ?_) (fun hc => ?_)
  · have := of_decide_eq_true hc
    omega
  clear hc
  refine AW.skip ?_
  refine AW.rgs rfl fun K hK => mv rfl rfl (bv rfl (v_convI ty104 ty3 rfl) ?_)
  rw [w64 (n := (n : Int)) (by omega) (by omega)]
  refine b_op rfl (o_makeE (fid := 1000000 + i) eInt (0 : Int) (rid i) rfl rfl ty27 rfl rfl ty3 rfl rfl (show 0 ≤ (n : Int) ∧ (n : Int) ≤ (n : Int) ∧ (n : Int) * ((8 : Nat) : Int) ≤ 281474976710656 by omega) (fun v6 => ?_))
  refine mv rfl rfl ?_
  refine b_nil (hK _ (AW.to (to_le (s' := ⟨[(0, slE eInt [x]), (7, .ar (rid i) v6 eInt.k 0 ((List.replicate (n : Int).toNat (0 : Int)).length))], (((rid i), v6, .arr eInt.k 3 (eInt.E (List.replicate (n : Int).toNat (0 : Int)))) :: H)⟩) ⟨leS_get ⟨rfl, rfl, trivial⟩, fun _ _ h => h⟩ ?_)))
  simp only [Int.toNat_natCast, List.length_replicate]
  refine AW.rgs rfl fun K hK => mv rfl rfl (mv rfl rfl ?_)
  refine b_op rfl (o_copy (m := 1) (n := n) (off := 0) (ds := [hI x]) (zs := (List.replicate (min 1 n) x ++ List.replicate (n - min 1 n) (0 : Int)).map (HV.int .i64)) rfl rfl rfl ty27 ty3 rfl rfl rfl hget_hd ?_ ?_ ?_ ?_)
  · show 0 + n * 1 ≤ ((List.replicate n (0 : Int)).map (HV.int .i64)).length
    simp
  · simp only [asrc, ty27]
    trivial
  · exact repI_first x n
  refine mv rfl rfl ?_
  refine b_nil (hK _ (AW.to (to_le (s' := ⟨[(7, .ar (rid i) v6 1 0 n), (8, hI ((min 1 n : Nat) : Int))], (((rid i), v6, .arr 1 3 ((List.replicate (min 1 n) x ++ List.replicate (n - min 1 n) (0 : Int)).map (HV.int .i64))) :: H)⟩) ⟨leS_get ⟨rfl, rfl, trivial⟩, le_shadow⟩ ?_)))
  refine AW.seq (AW.block ?_)
  refine AW.loopS (fun m : Nat => ⟨[(7, .ar (rid i) v6 1 0 n), (8, hI (m : Int))], (((rid i), v6, .arr 1 3 ((List.replicate m x ++ List.replicate (n - m) (0 : Int)).map (HV.int .i64))) :: H)⟩)
    (fun m => m ≤ n ∧ (m = 0 → n = 0)) (fun m => n - m) (min 1 n) (AS.le_refl _) ⟨by omega, by omega⟩ ?_
  rintro m ⟨hm, hm0⟩
  refine AW.seq ?_
  refine AW.rgs rfl fun K hK => mv rfl rfl (mv rfl rfl (bv rfl (v_lenA rfl rfl ty27 rfl hget_hd) (bv rfl (v_bin rfl rfl b_lss) ?_)))
  refine b_nil (hK _ (AW.to (to_le (s' := ⟨[(7, .ar (rid i) v6 1 0 n), (8, hI (m : Int)), (37, .bool (decide ((m : Int) < (n : Int))))], (((rid i), v6, .arr 1 3 ((List.replicate m x ++ List.replicate (n - m) (0 : Int)).map (HV.int .i64))) :: H)⟩) ⟨leS_get ⟨rfl, rfl, rfl, trivial⟩, fun _ _ h => h⟩ ?_)))
  refine AW.cond rfl (fun hc => ?_) (fun hc => ?_)
  · have hlt : m < n := by have := of_decide_eq_true hc; omega
    refine AW.skip ?_
    refine AW.block ?_
    refine AW.dy follows fun K hK => ?_
    have hcells : ((List.replicate m x ++ List.replicate (n - m) (0 : Int)).map (HV.int .i64)).length = n := by simp; omega
    refine y_stZ 7 0 rfl rfl ?_
    iterate 3 refine sm rfl rfl ?_
    refine sv rfl (hv := HV.ar (rid i) v6 1 (0 + m * 1) (n - m)) (v_sliceA (k := 1) (n := n) (a := (m : Int)) (b := (n : Int)) ty27 es27 rfl rfl rfl (by omega) hget_hd) ?_
    iterate 2 refine sm rfl rfl ?_
    refine sv rfl (hv := HV.ar (rid i) v6 1 (0 + 0 * 1) (m - 0)) (v_sliceA (k := 1) (n := n) (a := (0 : Int)) (b := (m : Int)) ty27 es27 rfl rfl rfl (by omega) hget_hd) ?_
    refine s_nil ?_
    refine y_late (dz := 38) (dq := 45) (x := .tmp 8) (v := .int .i64 (m : Int)) (vq := .int .i64 ((min (m - 0) (n - m) : Nat) : Int)) (H' := (((rid i), v6, .arr 1 3 ((List.replicate (m + min m (n - m)) x ++ List.replicate (n - (m + min m (n - m))) (0 : Int)).map (HV.int .i64))) :: H)) rfl rfl rfl rfl rfl rfl rfl (by decide) (fun sl' H2 hl => ?_) (fun sl' H2 hl => ?_) (fun sl' hl K' hK' hc => ?_) ?_
    · show sget sl' 8 = _
      rw [hl 8 (by decide)]; rfl
    · show sget sl' 8 = _
      rw [hl 8 (by decide)]; rfl
    · have e41 : (⟨sl', (((rid i), v6, .arr 1 3 ((List.replicate m x ++ List.replicate (n - m) (0 : Int)).map (HV.int .i64))) :: H)⟩ : AS).ev (.tmp 41) = some (.ar (rid i) v6 1 (0 + m * 1) (n - m)) := by
        show sget sl' 41 = _
        rw [hl 41 (by decide)]; rfl
      have e44 : (⟨sl', (((rid i), v6, .arr 1 3 ((List.replicate m x ++ List.replicate (n - m) (0 : Int)).map (HV.int .i64))) :: H)⟩ : AS).ev (.tmp 44) = some (.ar (rid i) v6 1 (0 + 0 * 1) (m - 0)) := by
        show sget sl' 44 = _
        rw [hl 44 (by decide)]; rfl
      refine AOp.copy (t := 27) (xt := 27) (x := .tmp 41) (y := .tmp 44) (k := 1) (off := 0 + m * 1) (n := n - m) (m := m - 0) (ds := (((List.replicate m x ++ List.replicate (n - m) (0 : Int)).map (HV.int .i64)).drop (0 + 0 * 1)).take ((m - 0) * 1)) rfl rfl ty27 rfl ty3 e41 e44 (fun l e => by cases e) hget_hd ?_ ?_ ?_
      · simp only [asrc, ty27, hget_hd]
        refine ⟨trivial, trivial, ?_, trivial, ?_⟩
        · rw [hcells]
          show 0 + 0 * 1 + (m - 0) * 1 ≤ n
          omega
        trivial
      · rw [hcells]
        show 0 + m * 1 + (n - m) * 1 ≤ n
        omega
      refine hc _ _ ?_ (fun u => ?_) hK'
      · show hset _ _ _ _ = _
        rw [show ∀ ob : AObj, hset (((rid i), v6, .arr 1 3 ((List.replicate m x ++ List.replicate (n - m) (0 : Int)).map (HV.int .i64))) :: H) (rid i) v6 ob = (((rid i), v6, ob) :: H) from fun ob => by simp [hset]]
        have := repI_half (x := x) (n := n) (m := m) rfl hm
        exact congrArg (fun xs => (((rid i), v6, AObj.arr 1 3 xs) :: H)) this
      show sget (AS.put _ (some 45) _).slots u = _
      simp only [AS.put, sget_sset, sget]
    have hw : IntKind.wrap .i64 ((m : Int) + ((min (m - 0) (n - m) : Nat) : Int)) = ((m + min m (n - m) : Nat) : Int) := by
      rw [w64 (by omega) (by omega)]; omega
    refine y_op rfl rfl rfl rfl (o_val rfl (v_bin rfl rfl b_add) ?_)
    refine b_nil ?_
    refine y_op rfl rfl rfl rfl (o_val rfl (mv_val rfl rfl).2 ?_)
    refine b_nil ?_
    refine y_nil rfl (hK _ ?_)
    rw [hw]
    exact ⟨m + min m (n - m), ⟨by omega, by omega⟩, by omega, ⟨leS_get ⟨rfl, rfl, trivial⟩, fun _ _ h => h⟩⟩
  have hge : m = n := by have := of_decide_eq_false hc; omega
  subst hge
  refine AW.exit ?_
  have e0 : List.replicate m x ++ List.replicate (m - m) (0 : Int) = List.replicate m x := by simp
  rw [e0]
  refine AW.rgs rfl fun K hK => mv rfl rfl (mv rfl rfl ?_)
  refine b_nil (hK _ (AW.to (to_le (s' := ⟨[(4, .ar (rid i) v6 eInt.k 0 ((List.replicate m x).length))], (((rid i), v6, .arr eInt.k 3 (eInt.E (List.replicate m x))) :: H)⟩) ⟨leS_get ⟨arl (by simp), trivial⟩, fun _ _ h => h⟩ ?_)))
  exact AW.ret ⟨.inr rfl, resT rfl ⟨_, _, Conv.refl _ _, hKK v6⟩⟩
set_option linter.unusedSimpArgs false
set_option linter.unusedVariables false
theorem loopW_eq {S X : Type} (body : S → Option (Stp S X)) (s : S) : loopW body s = match body s with
  | none => none
  | some (.exit x) => some x
  | some (.next s') => loopW body s' := by
 cases h : body s with
 | none => exact loopW_stuck h
 | some r => cases r with
  | exit x => exact loopW_exit h
  | next s' => exact loopW_next h
abbrev Gr := TLabelsStatesEdges
abbrev Ed := TFromLabelTo
def cmp3 (x y : Ed) : Int := if x.1 < y.1 then -1 else if y.1 < x.1 then 1 else if x.2.1 < y.2.1 then -1 else if y.2.1 < x.2.1 then 1 else if x.2.2 < y.2.2 then -1 else if y.2.2 < x.2.2 then 1 else 0
theorem cmpC (a b : Int) : m_cmp_Compare_int a b = some (if a < b then -1 else if b < a then 1 else 0) := by
 unfold m_cmp_Compare_int m_cmp_isNaN_int
 simp only [ne_eq, not_true_eq_false, decide_false, Option.bind_some, Bool.false_eq_true, if_false]
 split <;> (try rfl)
 split <;> rfl
theorem wr0 : IntKind.wrap .i64 (0 + 1) = 1 := by decide
theorem wr1 : IntKind.wrap .i64 (1 + 1) = 2 := by decide
theorem wr2 : IntKind.wrap .i64 (2 + 1) = 3 := by decide
theorem ix3_0 (a b c : Int) : idx [a, b, c] 0 = some a := rfl
theorem ix3_1 (a b c : Int) : idx [a, b, c] 1 = some b := rfl
theorem ix3_2 (a b c : Int) : idx [a, b, c] 2 = some c := rfl
theorem len3 (a b c : Int) : (([a, b, c] : List Int).length : Int) = 3 := rfl
theorem by1_eq (x y : Ed) : m_graph_by_api_Edge_1 x y = some (cmp3 x y) := by
 unfold m_graph_by_api_Edge_1 m_graph_list m_slices_Compare_Lint_int cmp3
 simp only [Option.bind_some, len3]
 rw [loopW_eq]
 simp only [ix3_0, cmpC, Option.bind_some, wr0]
 by_cases a1 : x.1 < y.1
 ·simp [a1, lpO]
 by_cases a2 : y.1 < x.1
 ·simp [a1, a2, lpO]
 simp only [a1, a2, if_false, ne_eq, not_true_eq_false, if_true, Int.reduceLT, Int.reduceLE]
 rw [loopW_eq]
 simp only [ix3_1, cmpC, Option.bind_some, wr1]
 by_cases b1 : x.2.1 < y.2.1
 ·simp [b1, lpO]
 by_cases b2 : y.2.1 < x.2.1
 ·simp [b1, b2, lpO]
 simp only [b1, b2, if_false, ne_eq, not_true_eq_false, if_true, Int.reduceLT, Int.reduceLE]
 rw [loopW_eq]
 simp only [ix3_2, cmpC, Option.bind_some, wr2]
 by_cases c1 : x.2.2 < y.2.2
 ·simp [c1, lpO]
 by_cases c2 : y.2.2 < x.2.2
 ·simp [c1, c2, lpO]
 simp only [c1, c2, if_false, ne_eq, not_true_eq_false, if_true, Int.reduceLT, Int.reduceLE]
 rw [loopW_eq]
 simp [lpO]
theorem cmp_eq (x y : Ed) : m_ref09_Compare x y = some (cmp3 x y) := by
 unfold m_ref09_Compare cmp3
 rw [loopW_eq]
 simp only [ix3_0, Option.bind_some, wr0]
 by_cases a1 : x.1 < y.1
 ·simp [a1, lpO]
 by_cases a2 : y.1 < x.1
 ·simp [a1, a2, lpO]
 simp only [a1, a2, if_false, if_true, Int.reduceLT]
 rw [loopW_eq]
 simp only [ix3_1, Option.bind_some, wr1]
 by_cases b1 : x.2.1 < y.2.1
 ·simp [b1, lpO]
 by_cases b2 : y.2.1 < x.2.1
 ·simp [b1, b2, lpO]
 simp only [b1, b2, if_false, if_true, Int.reduceLT]
 rw [loopW_eq]
 simp only [ix3_2, Option.bind_some, wr2]
 by_cases c1 : x.2.2 < y.2.2
 ·simp [c1, lpO]
 by_cases c2 : y.2.2 < x.2.2
 ·simp [c1, c2, lpO]
 simp only [c1, c2, if_false, if_true, Int.reduceLT]
 rw [loopW_eq]
 simp [lpO]
theorem Check_ref (g : Gr) : m_graph_Check g = m_ref09_Check g := by
 unfold m_graph_Check m_ref09_Check
 have key : ∀ (x : Ed) (k : Bool → Option (Stp Int (Ou Unit Int))), (if (min (min x.1 x.2.1) x.2.2) < 0 then k true else if g.2.1 ≤ (max x.1 x.2.2) then k true else k (decide (g.1 ≤ x.2.1))) =
   (if x.1 < 0 then k true else if g.2.1 ≤ x.1 then k true else if x.2.2 < 0 then k true else if g.2.1 ≤ x.2.2 then k true else if x.2.1 < 0 then k true else k (decide (g.1 ≤ x.2.1))) := by
  intro x k
  by_cases h1 : x.1 < 0
  ·rw [if_pos (by omega), if_pos h1]
  by_cases h2 : g.2.1 ≤ x.1
  ·rw [if_neg h1, if_pos h2]
   split
   ·rfl
   rw [if_pos (by omega)]
  by_cases h3 : x.2.2 < 0
  ·rw [if_neg h1, if_neg h2, if_pos h3, if_pos (by omega)]
  by_cases h4 : g.2.1 ≤ x.2.2
  ·rw [if_neg h1, if_neg h2, if_neg h3, if_pos h4]
   split
   ·rfl
   rw [if_pos (by omega)]
  by_cases h5 : x.2.1 < 0
  ·rw [if_neg h1, if_neg h2, if_neg h3, if_neg h4, if_pos h5, if_pos (by omega)]
  rw [if_neg h1, if_neg h2, if_neg h3, if_neg h4, if_neg h5, if_neg (by omega), if_neg (by omega)]
 simp only [by1_eq, cmp_eq, key]
structure VG (g : Gr) : Prop where
 l1 : 1 ≤ g.1
 l2 : g.1 ≤ 256
 s0 : 0 ≤ g.2.1
 s1 : g.2.1 ≤ 64
 el : g.2.2.length ≤ 1024
 ed : ∀ x ∈ g.2.2, 0 ≤ x.1 ∧ x.1 < g.2.1 ∧ 0 ≤ x.2.2 ∧ x.2.2 < g.2.1 ∧ 0 ≤ x.2.1 ∧ x.2.1 < g.1
 ord : ∀ (i : Nat) (h : i + 1 < g.2.2.length), cmp3 (g.2.2[i]'(by omega)) g.2.2[i + 1] < 0
theorem ix_pred {α : Type} {l : List α} {i : Nat} (h : i < l.length) (hm : l.length ≤ 9223372036854775807) (h0 : 0 < i) : idx l (IntKind.wrap .i64 ((i : Int) - 1)) = some (l[i - 1]'(by omega)) := by
 rw [w64 (by omega) (by omega), show ((i : Int) - 1) = ((i - 1 : Nat) : Int) by omega]
 exact ix (by omega)
theorem lpO_ex {V R Y : Type} {o : Option (Ou V R)} {M : V → Option Y} {Rt : R → Option Y} {C : Y → Prop} (Q : Ou V R → Prop) (h : ∃ x, o = some x ∧ Q x) (k : ∀ x, Q x → ∃ e, lpO (some x) M Rt = some e ∧ C e) : ∃ e, lpO o M Rt = some e ∧ C e := by
 obtain ⟨x, rfl, hq⟩ := h
 exact k x hq
theorem Check_tot (g : Gr) : ∃ e, m_ref09_Check g = some e ∧ (e = 0 ↔ VG g) := by
  unfold m_ref09_Check
  simp only [jp]
  by_cases h1 : g.1 < 1
  · exact ⟨12, by simp [h1], by simp; intro v; have := v.l1; omega⟩
  by_cases h2 : 256 < g.1
  · exact ⟨12, by simp [h1, h2], by simp; intro v; have := v.l2; omega⟩
  by_cases h3 : g.2.1 < 0
  · exact ⟨2, by simp [h1, h2, h3], by simp; intro v; have := v.s0; omega⟩
  by_cases h4 : 64 < g.2.1
  · exact ⟨4, by simp [h1, h2, h3, h4], by simp; intro v; have := v.s1; omega⟩
  by_cases h5 : 1024 < (g.2.2.length : Int)
  · exact ⟨4, by simp [h1, h2, h3, h4, h5], by simp; intro v; have := v.el; omega⟩
  simp only [h1, h2, h3, h4, h5, if_false, decide_false, Bool.false_eq_true, cmp_eq, Option.bind_some, if_true]
  refine lpO_ex (fun x => (x = .ret 2 ∧ ¬ VG g) ∨ (x = .ret 10 ∧ ¬ VG g) ∨ (x = .go () ∧ VG g)) ?_ ?_
  · refine loopN g.2.2.length (fun i s => s = (i : Int) ∧ (∀ (j : Nat) (h : j < i) (hj : j < g.2.2.length), 0 ≤ g.2.2[j].1 ∧ g.2.2[j].1 < g.2.1 ∧ 0 ≤ g.2.2[j].2.2 ∧ g.2.2[j].2.2 < g.2.1 ∧ 0 ≤ g.2.2[j].2.1 ∧ g.2.2[j].2.1 < g.1) ∧
        ∀ (j : Nat) (h : j + 1 < i) (hj : j + 1 < g.2.2.length), cmp3 (g.2.2[j]'(by omega)) g.2.2[j + 1] < 0) ?_ ?_ 0 _ (Nat.zero_le _) ⟨rfl, fun _ h => by omega, fun _ h => by omega⟩
    · rintro i s hi ⟨rfl, he, ho⟩
      rw [if_pos (lt_int hi), ix hi]
      simp only [Option.bind_some]
      by_cases hg : 0 ≤ g.2.2[i].1 ∧ g.2.2[i].1 < g.2.1 ∧ 0 ≤ g.2.2[i].2.2 ∧ g.2.2[i].2.2 < g.2.1 ∧ 0 ≤ g.2.2[i].2.1 ∧ g.2.2[i].2.1 < g.1
      · obtain ⟨e1, e2, e3, e4, e5, e6⟩ := hg
        rw [if_neg (by omega), if_neg (by omega), if_neg (by omega), if_neg (by omega), if_neg (by omega)]
        have hd : decide (g.1 ≤ g.2.2[i].2.1) = false := decide_eq_false (by omega)
        rw [hd]
        simp only [Bool.false_eq_true, if_false]
        have he' : ∀ (j : Nat) (h : j < i + 1) (hj : j < g.2.2.length), 0 ≤ g.2.2[j].1 ∧ g.2.2[j].1 < g.2.1 ∧ 0 ≤ g.2.2[j].2.2 ∧ g.2.2[j].2.2 < g.2.1 ∧ 0 ≤ g.2.2[j].2.1 ∧ g.2.2[j].2.1 < g.1 := by
          intro j hj hjl
          by_cases hji : j = i
          · subst hji; exact ⟨e1, e2, e3, e4, e5, e6⟩
          exact he j (by omega) hjl
        by_cases h0 : 0 < i
        · rw [if_pos (by omega), ix_pred hi (by omega) h0]
          simp only [Option.bind_some]
          by_cases hc : 0 ≤ cmp3 (g.2.2[i - 1]'(by omega)) g.2.2[i]
          · refine .inr ⟨.ret 10, by rw [if_pos (decide_eq_true hc)], .inr (.inl ⟨rfl, fun v => ?_⟩)⟩
            have := v.ord (i - 1) (by omega)
            simp only [show i - 1 + 1 = i by omega] at this
            omega
          refine .inl ⟨_, by rw [if_neg (by simpa using hc)], by rw [nx (by omega : g.2.2.length ≤ _) hi], he', fun j hj hjl => ?_⟩
          by_cases hji : j + 1 = i
          · have hj' : j = i - 1 := by omega
            subst hj'
            simp only [show i - 1 + 1 = i by omega]
            omega
          exact ho j (by omega) hjl
        refine .inl ⟨_, by rw [if_neg (by omega)], by rw [nx (by omega : g.2.2.length ≤ _) hi], he', fun j hj hjl => by omega⟩
      have hv : ¬ VG g := fun v => hg (v.ed _ (List.getElem_mem hi))
      refine .inr ⟨.ret 2, ?_, .inl ⟨rfl, hv⟩⟩
      by_cases e1 : g.2.2[i].1 < 0
      · rw [if_pos e1]
      rw [if_neg e1]
      by_cases e2 : g.2.1 ≤ g.2.2[i].1
      · rw [if_pos e2]
      rw [if_neg e2]
      by_cases e3 : g.2.2[i].2.2 < 0
      · rw [if_pos e3]
      rw [if_neg e3]
      by_cases e4 : g.2.1 ≤ g.2.2[i].2.2
      · rw [if_pos e4]
      rw [if_neg e4]
      by_cases e5 : g.2.2[i].2.1 < 0
      · rw [if_pos e5]
      rw [if_neg e5, if_pos (decide_eq_true (by omega))]
    rintro s ⟨rfl, he, ho⟩
    rw [if_neg (not_lt_int _)]
    refine ⟨_, rfl, .inr (.inr ⟨rfl, ⟨by omega, by omega, by omega, by omega, by omega, fun x hx => ?_, fun i h => ho i h h⟩⟩)⟩
    obtain ⟨j, hj, rfl⟩ := List.getElem_of_mem hx
    exact he j hj hj
  rintro x (⟨rfl, hv⟩ | ⟨rfl, hv⟩ | ⟨rfl, hv⟩)
  · exact ⟨2, rfl, by simp [hv]⟩
  · exact ⟨10, rfl, by simp [hv]⟩
  exact ⟨0, rfl, by simp [hv]⟩
def be (n : Nat) : List UInt8 := if n = 0 then [] else be (n / 256) ++ [UInt8.ofNat n]
termination_by n
decreasing_by omega
noncomputable def m_subset_key (p0 : List (Int)) : Option ((List UInt8)) :=
 (loopW (S := Int × (List UInt8)) (X := (List UInt8)) (fun a3 =>
   if a3.1 < ((p0).length : Int) then
    (idx p0 a3.1).bind fun x7 =>
    (m_strconv_Itoa x7).bind fun x9 =>
    if x9.length + [32].length ≤ maxLen then
     if fits 1 (a3.2.length + (x9 ++ [32]).length) then
      some (Stp.next (IntKind.wrap .i64 (a3.1 + 1), a3.2 ++ (x9 ++ [32])))
     else none
    else none
   else
    some (Stp.exit a3.2)) (0, ([] : List UInt8))).bind fun a14 =>
 some a14
noncomputable def m_subset_build (p0 : TLabelsStatesEdges) (p1 : List (Int)) : Option (TLabelsStatesEdges × (List (List (Int))) × Int) :=
 (m_subset_key p1).bind fun x3 =>
 (m_slices_Clone_Lint_int p1).bind fun x6 =>
 lpO (loopW (S := (List TFromLabelTo) × Int × (List (List UInt8 × Int)) × (List (List (Int)))) (X := Ou ((List TFromLabelTo) × (List (List (Int)))) (TLabelsStatesEdges × (List (List (Int))) × Int)) (fun a12 =>
   if a12.2.1 < (((a12.2.2.2).length : Nat) : Int) then
    (idx a12.2.2.2 a12.2.1).bind fun x16 =>
    (idx a12.2.2.2 a12.2.1).bind fun x18 =>
    jp (fun (a20 : (List TFromLabelTo) × (List (List UInt8 × Int)) × (List (List (Int)))) =>
     jp (fun (a23 : Bool) =>
      if a23 = true then
       some (Stp.exit (Ou.ret ((0, 0, []), [], 4)))
      else
       some (Stp.next (a20.1, IntKind.wrap .i64 (a12.2.1 + 1), a20.2.1, a20.2.2)))
      fun k25 =>
      if 64 < (((a20.2.2).length : Nat) : Int) then
       k25 true
      else
       k25 (decide (1024 < (((a20.1).length : Nat) : Int))))
     fun k22 =>
     (loopW (S := Int × (List TFromLabelTo) × (List (List UInt8 × Int)) × (List (List (Int)))) (X := (List TFromLabelTo) × (List (List UInt8 × Int)) × (List (List (Int)))) (fun a28 =>
       if a28.1 < p0.1 then
        jp (fun (a32 : (List TFromLabelTo) × (List (List UInt8 × Int)) × (List (List (Int)))) =>
         some (Stp.next (IntKind.wrap .i64 (a28.1 + 1), a32.1, a32.2.1, a32.2.2)))
         fun k34 =>
         (m_graph_Step p0 x18 a28.1).bind fun x35 =>
         if 0 < ((x35.1).length : Int) then
          jp (fun (a37 : (List TFromLabelTo) × (List (List UInt8 × Int)) × (List (List (Int)))) =>
           k34 (a37.1, a37.2.1, a37.2.2))
           fun k39 =>
           (m_subset_key x35.1).bind fun x40 =>
           jp (fun (a42 : Int × (List (List UInt8 × Int)) × (List (List (Int)))) =>
            if fits 24 ((a28.2.1 : List TFromLabelTo).length + ([(a12.2.1, a28.1, a42.1)]).length) then
             k39 (a28.2.1 ++ [(a12.2.1, a28.1, a42.1)], a42.2.1, a42.2.2)
            else none)
            fun k44 =>
            if (!((mlook x40 a28.2.2.1).isSome)) = true then
             (m_subset_key x35.1).bind fun x47 =>
             if fits 24 ((a28.2.2.2 : List (List (Int))).length + ([x35.1]).length) then
              k44 ((((a28.2.2.2).length : Nat) : Int), mputN x47 (((a28.2.2.2).length : Nat) : Int) a28.2.2.1, a28.2.2.2 ++ [x35.1])
             else none
            else
             k44 ((mlook x40 a28.2.2.1).getD 0, a28.2.2.1, a28.2.2.2)
         else
          k34 (a28.2.1, a28.2.2.1, a28.2.2.2)
       else
        some (Stp.exit (a28.2.1, a28.2.2.1, a28.2.2.2))) (0, a12.1, a12.2.2.1, a12.2.2.2)).bind fun a51 =>
     k22 (a51.1, a51.2.1, a51.2.2)
   else
    some (Stp.exit (Ou.go (a12.1, a12.2.2.2)))) (([] : List TFromLabelTo), 0, mputN x3 0 ([] : List (List UInt8 × Int)), [x6])) (fun a54 =>
   some ((p0.1, (((a54.2).length : Nat) : Int), a54.1), a54.2, 0)) some
noncomputable def m_subset_Build (p0 : TLabelsStatesEdges) : Option (TLabelsStatesEdges × (List (List (Int))) × Int) :=
 (m_graph_Check p0).bind fun x2 =>
 if x2 ≠ 0 then
  some ((0, 0, []), [], 1)
 else
  if p0.2.1 = 0 then
   some ((p0.1, 0, []), [], 0)
  else
   if 0 ≤ (p0.2.1 : Int) ∧ (p0.2.1 : Int) ≤ p0.2.1 ∧ (p0.2.1 : Int) * 8 ≤ 281474976710656 then
    (loopW (S := Int × (List Int)) (X := (List Int)) (fun a6 =>
      if a6.1 < (((List.replicate (p0.2.1).toNat (0 : Int)).length : Nat) : Int) then
       (idx a6.2 a6.1).bind fun x10 =>
       some (Stp.next (IntKind.wrap .i64 (a6.1 + 1), (a6.2).set (a6.1).toNat a6.1))
      else
       some (Stp.exit a6.2)) (0, List.replicate (p0.2.1).toNat (0 : Int))).bind fun a12 =>
    (m_subset_build p0 a12).bind fun x14 =>
    some (x14.1, x14.2.1, x14.2.2)
   else none
noncomputable def m_slices_Equal_Lstring_string (p0 : List (List UInt8)) (p1 : List (List UInt8)) : Option (Bool) :=
 if ((p0).length : Int) ≠ ((p1).length : Int) then
  some false
 else
  lpO (loopW (S := Int) (X := Ou (Unit) (Bool)) (fun a1 =>
    if a1 < ((p0).length : Int) then
     (idx p0 a1).bind fun x5 =>
     (idx p1 a1).bind fun x7 =>
     if x5 ≠ x7 then
      some (Stp.exit (Ou.ret false))
     else
      some (Stp.next (IntKind.wrap .i64 (a1 + 1)))
    else
     some (Stp.exit (Ou.go ()))) 0) (fun a9 =>
    some true) some
noncomputable def m_ref09_Great (p0 : TLabelsStatesEdges) : Option (Bool) :=
 jp (fun (a1 : Bool) =>
  some a1)
  fun k3 =>
  if 30 < ((p0.2.2).length : Int) then
   k3 true
  else
   if 10 < p0.2.1 then
    k3 (decide (p0.2.1 ≤ 64))
   else
    k3 false
def setR (R : List (List Int)) (e : TFromLabelTo) : List (List Int) := R.set e.1.toNat ((R.getD e.1.toNat []).set e.2.1.toNat e.2.2)
def rowsM (g : TLabelsStatesEdges) (labels : Int) (k : Nat) : List (List Int) := (g.2.2.take k).foldl setR (List.replicate g.2.1.toNat (List.replicate labels.toNat (-1)))
def ofOk (g : TLabelsStatesEdges) (labels : Int) : Prop := (0 ≤ labels ∧ labels ≤ 1000) ∧ (0 ≤ g.2.1 ∧ g.2.1 ≤ 1000) ∧ g.2.2.length ≤ 100000 ∧ ∀ e ∈ g.2.2, (0 ≤ e.1 ∧ e.1 < g.2.1) ∧ (0 ≤ e.2.1 ∧ e.2.1 < labels)
open Classical in
noncomputable def m_minimal_of (g : TLabelsStatesEdges) (labels : Int) : Option (List (List Int)) := if ofOk g labels then some (rowsM g labels g.2.2.length) else none
def kfST (p : Int × Int) : Value := .agg #[.int .i64 p.1, .int .i64 p.2]
def wfST (p : Int × Int) : Bool := (Lit.int .i64 p.1).wf && (Lit.int .i64 p.2).wf
theorem kTST : KeyT Tryz.prog 44 (fun p : Int × Int => HV.agg [hI p.1, hI p.2]) kfST wfST where
  law := deep_law (m := 3) (by decide) (by kernel_rfl) (by kernel_rfl) (by kernel_rfl)
  inj := by
    rintro ⟨a, b⟩ ⟨c, d⟩ h
    simp only [kfST, Value.agg.injEq, Array.mk.injEq, List.cons.injEq, Value.int.injEq, true_and, and_true] at h
    obtain ⟨rfl, rfl⟩ := h
    rfl
  kv := by
    rintro ⟨a, b⟩ h
    have hb : (Lit.int .i64 a).wf = true ∧ (Lit.int .i64 b).wf = true := by
      have := h
      unfold wfST at this
      rw [Bool.and_eq_true] at this
      exact this
    obtain ⟨h1, h2⟩ := hb
    have hk : hkey Tryz.prog (Tryz.prog.types.size + 1) 44 [hI a, hI b] = some [Lit.int .i64 a, Lit.int .i64 b] := by kernel_rfl
    have hu : (match Tryz.prog.underlying 44 with | some (.struct _) => true | _ => false) = true := by kernel_rfl
    have hf : (Tryz.prog.keyType 44 && (Value.agg #[.int .i64 a, .int .i64 b]).formed Tryz.prog 44) = true := by kernel_rfl
    refine ⟨?_, ?_⟩
    · rintro w μ x ⟨_, vs, rfl, x1, _, rfl, ⟨rfl, _⟩, x2, _, rfl, ⟨rfl, _⟩, rfl⟩
      rfl
    have hr : RepL default (⟨0, fun _ => none, fun _ => False⟩ : Mu) [hI a, hI b] [.int .i64 a, .int .i64 b] := ⟨_, _, rfl, ⟨rfl, h1⟩, _, _, rfl, ⟨rfl, h2⟩, rfl⟩
    have hl := hkey_lits hr hk
    unfold keyOf kfST
    split
    · rename_i he; rw [he] at hu; cases hu
    · rw [if_pos hf]
      show ∃ l, Option.map _ (Tryz.prog.keyLits _ _ [.int .i64 a, .int .i64 b]) = some l
      rw [hl]
      exact ⟨_, rfl⟩
    rename_i h1 h2
    split at hu
    · rename_i fs he; exact absurd he (h2 fs)
    cases hu
abbrev hpO (ov : Nat) (cs : List HV) (rs : Rws) : Heap := (26011, ov, .arr 1 27 cs) :: rowsO 0 rs
theorem hpO_rid {ov : Nat} {cs : List HV} {rs : Rws} (i : Nat) : hget (hpO ov cs rs) (rid i) = hget (rowsO 0 rs) (rid i) := hget_tl (by unfold rid; omega)
theorem noneH_nil : ∀ D : Heap, noneH [] D
  | [] => trivial
  | (_, _, _) :: D => ⟨rfl, noneH_nil D⟩
theorem splice_row {rs : Rws} {n : Nat} {x z : HV} (h : rs.length < n) : splice (hdr 0 rs ++ List.replicate (n - rs.length) z) (((rs.length : Int)).toNat * 1) [x] = hdr 0 rs ++ [x] ++ List.replicate (n - (rs.length + 1)) z := by
  have e : ((rs.length : Int)).toNat * 1 = (hdr 0 rs).length := by rw [hdr_len]; omega
  obtain ⟨m, hm⟩ : ∃ m, n - rs.length = m + 1 := ⟨n - rs.length - 1, by omega⟩
  have hm2 : n - (rs.length + 1) = m := by omega
  rw [e, hm, hm2, List.replicate_succ]
  unfold splice
  simp
theorem frz_of {D : Heap} {ov n : Nat} {rs : Rws} (hn : n = rs.length) (h : hget D 26011 = some (ov, .arr 1 27 (hdr 0 rs))) (hr : ∀ i v l, rs[i]? = some (v, l) → hget D (rid i) = some (v, .arr 1 3 (eInt.E l))) : frz 3 D (HV.ar 26011 ov 1 0 n) = slE (eSl eInt) (rs.map (·.2)) := by
  have e := frz_rows (D := D) rs 0 fun i v l hi => by rw [Nat.zero_add]; exact hr i v l hi
  have hl := hdr_len 0 rs
  rw [frz, h]
  simp only
  rw [if_pos ⟨trivial, by omega⟩, List.drop_zero, Nat.mul_one, hn, ← hl, List.take_length, e]
  show HV.sl 1 _ _ = HV.sl 1 (rs.map (·.2)).length _
  rw [List.length_map, hl]
  rfl
set_option maxHeartbeats 4000000 in
set_option maxRecDepth 100000 in
theorem w_minimal_of {p0 : TLabelsStatesEdges} {p1 : Int} {r : List (List Int)} (h : m_minimal_of p0 p1 = some r) : Pure Tryz.prog 26 [gA p0, hI p1] (· = slE (eSl eInt) r) := by
  unfold m_minimal_of at h
  by_cases hok : ofOk p0 p1
  case neg => rw [if_neg hok] at h; cases h
  rw [if_pos hok] at h
  obtain rfl := oi h
  obtain ⟨L0, S0, E⟩ := p0
  obtain ⟨⟨hl0, hl1⟩, ⟨hs0, hs1⟩, hE, hed⟩ := hok
  simp only at hl0 hl1 hs0 hs1 hE hed
  obtain ⟨Ln, rfl⟩ := Int.eq_ofNat_of_zero_le hl0
  obtain ⟨Sn, rfl⟩ := Int.eq_ofNat_of_zero_le hs0
  clear hl0 hs0
  have hLn : Ln ≤ 1000000 := by omega
  have hN : (List.replicate Sn ()).length = Sn := List.length_replicate
  refine Pure.of_body Tryz.func26 rfl rfl (lb rfl) fun hf => ?_
  clear hf
  unfold Tryz.f26
  dsimp only [enumS, Nat.reduceAdd]
  refine AW.rgs rfl fun K hK => b_op rfl (o_box rfl rfl rfl ?_)
  refine mv rfl rfl ?_
  refine bf hK ⟨[(1, hI (Ln : Int)), (2, .fptr [hI L0, hI (Sn : Int), slE eFromLabelTo E] 0)], []⟩ ?_
  refine AW.rgs rfl fun K hK => bv rfl (v_fieldAddrF fo24_1 rfl) (bv rfl (v_loadF ty3 rfl (l_lit rfl rfl)) ?_)
  refine b_op rfl (o_makeE (fid := 26) (encM fun _ : Unit => (HV.v (.slice none 0 0))) () 26011 rfl rfl ty58 rfl rfl ty27 rfl rfl ⟨by omega, by omega, by show (Sn : Int) * 24 ≤ _; omega⟩ (fun ov => ?_))
  refine mv rfl rfl ?_
  have hc0 : (encM fun _ : Unit => (HV.v (.slice none 0 0))).E (List.replicate Sn ()) = hdr 0 [] ++ List.replicate (Sn - ([] : Rws).length) (HV.v (.slice none 0 0)) := by
    show (List.replicate Sn ()).map _ = _
    rw [List.map_replicate]
    rfl
  refine b_nil (hK _ (AW.to (to_le (s' := ⟨[(1, hI (Ln : Int)), (2, .fptr [hI L0, hI (Sn : Int), slE eFromLabelTo E] 0), (5, .ar 26011 ov 1 0 (List.replicate Sn ()).length)], hpO ov ((hdr 0 []) ++ List.replicate (Sn - [].length) (HV.v (.slice none 0 0))) []⟩) ⟨leS_get ⟨rfl, rfl, rfl, trivial⟩, leH_get ⟨by rw [← hc0]; rfl, trivial⟩⟩ ?_)))
  clear hK K hc0
  refine AW.seq ?_
  refine AW.rgs rfl fun K hK => mv rfl rfl (bv rfl (v_lenA rfl rfl ty58 rfl rfl) (mv rfl rfl ?_))
  refine b_nil (hK _ (AW.to (to_le (s' := ⟨[(1, hI (Ln : Int)), (2, .fptr [hI L0, hI (Sn : Int), slE eFromLabelTo E] 0), (5, .ar 26011 ov 1 0 (List.replicate Sn ()).length), (13, hI (((List.replicate Sn ()).length : Nat) : Int)), (14, hI 0)], hpO ov ((hdr 0 []) ++ List.replicate (Sn - [].length) (HV.v (.slice none 0 0))) []⟩) ⟨leS_get ⟨rfl, rfl, rfl, rfl, rfl, trivial⟩, fun _ _ h => h⟩ ?_)))
  refine AW.block ?_
  refine AW.loopS (fun a : Rws => ⟨[(1, hI (Ln : Int)), (2, .fptr [hI L0, hI (Sn : Int), slE eFromLabelTo E] 0), (5, .ar 26011 ov 1 0 (List.replicate Sn ()).length), (13, hI (((List.replicate Sn ()).length : Nat) : Int)), (14, hI (a.length : Int))], hpO ov ((hdr 0 a) ++ List.replicate (Sn - a.length) (HV.v (.slice none 0 0))) a⟩)
    (fun a => a.length ≤ Sn ∧ a.map (·.2) = List.replicate a.length (List.replicate Ln (-1))) (fun a => Sn - a.length) [] (AS.le_refl _) ⟨by simp, rfl⟩ ?_
  rintro rs ⟨hrl, hrs⟩
  refine AW.rgs rfl fun K hK => bv rfl (v_bin rfl rfl b_lss) ?_
  refine b_nil (hK _ (AW.to (to_le (s' := ⟨[(1, hI (Ln : Int)), (2, .fptr [hI L0, hI (Sn : Int), slE eFromLabelTo E] 0), (5, .ar 26011 ov 1 0 (List.replicate Sn ()).length), (13, hI (((List.replicate Sn ()).length : Nat) : Int)), (14, hI (rs.length : Int)), (15, .bool (decide ((rs.length : Int) < (((List.replicate Sn ()).length : Nat) : Int))))], hpO ov ((hdr 0 rs) ++ List.replicate (Sn - rs.length) (HV.v (.slice none 0 0))) rs⟩) ⟨leS_get ⟨rfl, rfl, rfl, rfl, rfl, rfl, trivial⟩, fun _ _ h => h⟩ ?_)))
  refine AW.cseq rfl (fun hc => ?_) (fun hc => ?_)
  · have hc := of_decide_eq_true hc
    have hlt : rs.length < Sn := by omega
    refine AW.skip ?_
    refine AW.seq (AW.block ?_)
    refine AW.rgs rfl fun K hK => mv rfl rfl (mv rfl rfl ?_)
    refine b_nil (hK _ (AW.to (to_le (s' := ⟨[(1, hI (Ln : Int)), (2, .fptr [hI L0, hI (Sn : Int), slE eFromLabelTo E] 0), (5, .ar 26011 ov 1 0 (List.replicate Sn ()).length), (6, hI (rs.length : Int)), (13, hI (((List.replicate Sn ()).length : Nat) : Int)), (14, hI (rs.length : Int))], hpO ov ((hdr 0 rs) ++ List.replicate (Sn - rs.length) (HV.v (.slice none 0 0))) rs⟩) ⟨leS_get ⟨rfl, rfl, rfl, rfl, rfl, rfl, trivial⟩, fun _ _ h => h⟩ ?_)))
    refine AW.rg rfl fun K hK => mv rfl rfl (mv rfl rfl ?_)
    refine b_op rfl (o_bsl rfl rfl (as_of (cs := [hI (-1)]) ty27 ty3 rfl rfl rfl rfl rfl) ?_)
    refine mv rfl rfl ?_
    refine b_op rfl (o_callA rfl rfl rfl rfl (repI_own (-1) hLn rs.length fun vr => ?_))
    have hgo : hget ((rid rs.length, vr, AObj.arr 1 3 (eInt.E (List.replicate Ln (-1)))) :: hpO ov ((hdr 0 rs) ++ List.replicate (Sn - rs.length) (HV.v (.slice none 0 0))) rs) 26011 = some (ov, .arr 1 27 (hdr 0 rs ++ List.replicate (Sn - rs.length) (HV.v (.slice none 0 0)))) := (hget_tl (by unfold rid; omega)).trans hget_hd
    refine bv rfl (v_idxA ty58 es58 rfl rfl ⟨by omega, by omega⟩ hgo) ?_
    refine b_op rfl (o_store (cs := [.ar (rid rs.length) vr 1 0 (List.replicate Ln (-1 : Int)).length]) (zs := hdr 0 rs ++ [HV.ar (rid rs.length) vr 1 0 (List.replicate Ln (-1 : Int)).length] ++ List.replicate (Sn - (rs.length + 1)) (HV.v (.slice none 0 0))) rfl rfl rfl ty27 rfl hgo rfl (Nat.ble_eq_true_of_le (by simp only [List.length_append, List.length_replicate, hdr_len, List.length_singleton]; omega)) (splice_row hlt) ?_)
    refine b_nil (hK _ ?_)
    refine AW.rg rfl fun K hK => bv rfl (v_bin rfl rfl b_add) (mv rfl rfl ?_)
    refine b_nil (hK _ ?_)
    refine ⟨rs ++ [(vr, List.replicate Ln (-1))], ⟨by simp; omega, ?_⟩, by simp; omega, ?_⟩
    · simp only [List.map_append, hrs, List.map_cons, List.map_nil, List.length_append, List.length_singleton, List.replicate_succ']
    have e1 : hdr 0 (rs ++ [(vr, List.replicate Ln (-1))]) = hdr 0 rs ++ [HV.ar (rid rs.length) vr 1 0 (List.replicate Ln (-1 : Int)).length] := by rw [hdr_app, Nat.zero_add]
    have e2 : IntKind.wrap .i64 ((rs.length : Int) + 1) = ((rs ++ [(vr, List.replicate Ln (-1 : Int))]).length : Int) := by rw [w64 (by omega) (by omega)]; simp
    have e3 : (rs ++ [(vr, List.replicate Ln (-1 : Int))]).length = rs.length + 1 := by simp
    refine ⟨leS_get ⟨rfl, rfl, rfl, rfl, by rw [← e2]; rfl, trivial⟩, leH_get ⟨by rw [e1, e3]; rfl, leH_rows _ 0 fun i v l hi => ?_⟩⟩
    rw [hget_tl (by unfold rid; omega), Nat.zero_add]
    have h1 := rows_le (rs := rs) (v := vr) (l := List.replicate Ln (-1)) (H := []) (fun _ => rfl) (rid i) (v, .arr 1 3 (eInt.E l)) (by have := hget_rows 0 hi; rwa [Nat.zero_add] at this)
    by_cases e : i = rs.length
    · subst e
      rw [hget_hd] at h1 ⊢
      exact h1
    rw [hget_tl (fun x => by have := rid_inj x; omega)] at h1 ⊢
    rw [hpO_rid]
    exact h1
  have hc := of_decide_eq_false hc
  have hrl2 : rs.length = Sn := by omega
  have hcells : hdr 0 rs ++ List.replicate (Sn - rs.length) (HV.v (.slice none 0 0)) = hdr 0 rs := by rw [hrl2, Nat.sub_self]; exact List.append_nil _
  refine AW.exit ?_
  refine AW.seq ?_
  refine AW.rgs rfl fun K hK => bv rfl (v_fieldAddrF fo24_2 rfl) (bv rfl (v_loadF ty22 rfl (l_lit rfl rfl)) (bv rfl (v_lenF rfl rfl ty22 rfl) (mv rfl rfl ?_)))
  refine b_nil (hK _ (AW.to (to_le (s' := ⟨[(2, .fptr [hI L0, hI (Sn : Int), slE eFromLabelTo E] 0), (5, .ar 26011 ov 1 0 (List.replicate Sn ()).length), (25, slE eFromLabelTo E), (26, hI (E.length : Int)), (27, hI 0)], hpO ov (hdr 0 rs) rs⟩) ⟨leS_get ⟨rfl, rfl, rfl, rfl, rfl, trivial⟩, leH_get ⟨by rw [hcells]; rfl, leH_rows _ 0 fun i v l hi => ?_⟩⟩ ?_)))
  · show hget (hpO ov ((hdr 0 rs) ++ List.replicate (Sn - rs.length) (HV.v (.slice none 0 0))) rs) (rid (0 + i)) = _
    rw [Nat.zero_add, hpO_rid]
    have := hget_rows 0 hi
    rwa [Nat.zero_add] at this
  clear hK K hcells
  refine AW.block ?_
  refine AW.loopS (fun a : Nat × Rws => ⟨[(2, .fptr [hI L0, hI (Sn : Int), slE eFromLabelTo E] 0), (5, .ar 26011 ov 1 0 (List.replicate Sn ()).length), (25, slE eFromLabelTo E), (26, hI (E.length : Int)), (27, hI (a.1 : Int))], hpO ov (hdr 0 a.2) a.2⟩)
    (fun a => a.1 ≤ E.length ∧ a.2.length = Sn ∧ (∀ (i v : Nat) (l : List Int), a.2[i]? = some (v, l) → l.length = Ln) ∧ a.2.map (·.2) = rowsM (L0, (Sn : Int), E) (Ln : Int) a.1) (fun a => E.length - a.1) (0, rs) ⟨leS_get ⟨rfl, rfl, rfl, rfl, rfl, trivial⟩, fun _ _ h => h⟩ ⟨Nat.zero_le _, hrl2, ?_, ?_⟩ ?_
  · intro i v l hi
    have : (rs.map (·.2))[i]? = some l := by rw [List.getElem?_map, hi]; rfl
    rw [hrs] at this
    have hm := List.mem_of_getElem? this
    rw [List.eq_of_mem_replicate hm]
    simp
  · show rs.map (·.2) = rowsM _ _ 0
    rw [hrs, hrl2]
    rfl
  clear hrs hrl hrl2 hc
  rintro ⟨k, rs⟩ ⟨hk, hrl, hrw, hrs⟩
  simp only at hk hrl hrw hrs
  refine AW.rgs rfl fun K hK => bv rfl (v_bin rfl rfl b_lss) ?_
  refine b_nil (hK _ (AW.to (to_le (s' := ⟨[(2, .fptr [hI L0, hI (Sn : Int), slE eFromLabelTo E] 0), (5, .ar 26011 ov 1 0 (List.replicate Sn ()).length), (25, slE eFromLabelTo E), (26, hI (E.length : Int)), (27, hI (k : Int)), (28, .bool (decide ((k : Int) < (E.length : Int))))], hpO ov (hdr 0 rs) rs⟩) ⟨leS_get ⟨rfl, rfl, rfl, rfl, rfl, rfl, trivial⟩, fun _ _ h => h⟩ ?_)))
  refine AW.cseq rfl (fun hc => ?_) (fun hc => ?_)
  · have hc := of_decide_eq_true hc
    have hkl : k < E.length := by omega
    obtain ⟨b1, b2⟩ := hed _ (List.getElem_mem hkl)
    have hidx : idx E (k : Int) = some E[k] := by rw [idx_nat, List.getElem?_eq_getElem hkl]
    have hfl : E[k].1.toNat < rs.length := by omega
    obtain ⟨⟨rv, rl⟩, hrow⟩ : ∃ b, rs[E[k].1.toNat]? = some b := ⟨_, List.getElem?_eq_getElem hfl⟩
    have hrlen := hrw _ _ _ hrow
    have hhd : (hdr 0 rs)[E[k].1.toNat * 1]? = some (HV.ar (rid E[k].1.toNat) rv 1 0 rl.length) := by
      have := hdr_get 0 hrow
      rw [Nat.zero_add] at this
      rw [Nat.mul_one]
      exact this
    have hfj : 0 ≤ E[k].1 ∧ E[k].1 < (((List.replicate Sn ()).length : Nat) : Int) := by omega
    have hlj : 0 ≤ E[k].2.1 ∧ E[k].2.1 < (rl.length : Int) := by omega
    refine AW.skip ?_
    refine AW.seq (AW.block ?_)
    refine AW.rgs rfl fun K hK => bv rfl (v_idxF ty22 es22 rfl rfl (idx_lt hidx)) (bv rfl (v_loadF ty55 rfl (l_agg eFromLabelTo hidx rfl rfl)) ?_)
    refine b_op rfl (o_alloc (fid := 26) (zs := [hI 0, hI 0, hI 0]) 26008 rfl rfl ty55 rfl (fun v8 => ?_))
    refine b_op rfl (o_store (cs := cFromLabelTo E[k]) (zs := cFromLabelTo E[k]) rfl rfl rfl ty55 rfl rfl rfl rfl rfl ?_)
    refine b_nil (hK _ (AW.to (to_le (s' := ⟨[(2, .fptr [hI L0, hI (Sn : Int), slE eFromLabelTo E] 0), (5, .ar 26011 ov 1 0 (List.replicate Sn ()).length), (8, .ptr 26008 v8 0), (25, slE eFromLabelTo E), (26, hI (E.length : Int)), (27, hI (k : Int))], (26008, v8, .arr 3 55 (cFromLabelTo E[k])) :: hpO ov (hdr 0 rs) rs⟩) ⟨leS_get ⟨rfl, rfl, rfl, rfl, rfl, rfl, trivial⟩, le_shadow⟩ ?_)))
    have hrg : hget ((26008, v8, .arr 3 55 (cFromLabelTo E[k])) :: hpO ov (hdr 0 rs) rs) (rid E[k].1.toNat) = some (rv, .arr 1 3 (eInt.E rl)) := by
      rw [hget_tl (by unfold rid; omega), hpO_rid]
      have := hget_rows 0 hrow
      rwa [Nat.zero_add] at this
    refine AW.dy follows fun K hK => ?_
    refine y_st 9 rfl rfl ?_
    refine sm rfl rfl ?_
    refine sv rfl (v_fieldAddrP fo55_0 rfl rfl) ?_
    refine sv rfl (v_loadP ty3 rfl rfl (l_lit rfl rfl)) ?_
    refine sv rfl (v_idxA ty58 es58 rfl rfl hfj rfl) ?_
    refine sv rfl (v_loadP ty27 rfl rfl (l_lit rfl hhd)) ?_
    refine sv rfl (v_fieldAddrP fo55_1 rfl rfl) ?_
    refine sv rfl (v_loadP ty3 rfl rfl (l_lit rfl rfl)) ?_
    refine sv rfl (v_fieldAddrP fo55_2 rfl rfl) ?_
    refine sv rfl (v_loadP ty3 rfl rfl (l_lit rfl rfl)) ?_
    refine s_nil ?_
    refine y_op rfl rfl rfl rfl (o_val rfl (v_idxA ty27 es27 rfl rfl hlj hrg) ?_)
    refine b_nil ?_
    refine y_op rfl rfl rfl rfl (o_storeE eInt (l := rl) (j := E[k].2.1) (v := E[k].2.2) rfl rfl rfl ty3 rfl hrg rfl hlj ?_)
    refine b_nil ?_
    refine y_nil rfl (hK _ ?_)
    refine AW.rg rfl fun K hK => bv rfl (v_bin rfl rfl b_add) (mv rfl rfl ?_)
    refine b_nil (hK _ ?_)
    obtain ⟨e1, e2⟩ := rows_set hrow (l' := rl.set E[k].2.1.toNat E[k].2.2) (by simp)
    refine ⟨(k + 1, rs.set E[k].1.toNat (rv, rl.set E[k].2.1.toNat E[k].2.2)), ⟨by simp only; omega, by simp only [List.length_set]; exact hrl, ?_, ?_⟩, by simp only; omega, ?_⟩
    · intro i v l hi
      simp only at hi
      by_cases e : E[k].1.toNat = i
      · subst e
        rw [List.getElem?_set_self hfl] at hi
        cases hi
        rw [List.length_set]; exact hrlen
      rw [List.getElem?_set_ne e] at hi
      exact hrw i v l hi
    · show (rs.set _ _).map (·.2) = rowsM _ _ (k + 1)
      have es : rowsM (L0, (Sn : Int), E) (Ln : Int) (k + 1) = setR (rowsM (L0, (Sn : Int), E) (Ln : Int) k) E[k] := by
        unfold rowsM
        simp only
        rw [← List.take_append_getElem hkl, List.foldl_append]
        rfl
      rw [es, ← hrs, List.map_set]
      unfold setR
      congr 2
      rw [List.getD_eq_getElem?_getD, List.getElem?_map, hrow]
      rfl
    have e3 : IntKind.wrap .i64 ((k : Int) + 1) = ((k + 1 : Nat) : Int) := by rw [w64 (by omega) (by omega)]; omega
    simp only [e1]
    refine ⟨leS_get ⟨rfl, rfl, rfl, rfl, by rw [← e3]; rfl, trivial⟩, leH_get ⟨by rw [hget_tl (by unfold rid; omega)]; rfl, leH_rows _ 0 fun i v l hi => ?_⟩⟩
    have h1 := e2 _ _ (hget_rows 0 hi)
    rw [Nat.zero_add] at h1
    show hget ((rid E[k].1.toNat, rv, AObj.arr 1 3 (eInt.E (rl.set E[k].2.1.toNat E[k].2.2))) :: (26008, v8, AObj.arr 3 55 (cFromLabelTo E[k])) :: hpO ov (hdr 0 rs) rs) (rid (0 + i)) = _
    rw [Nat.zero_add]
    by_cases e : i = E[k].1.toNat
    · subst e
      rw [hget_hd] at h1 ⊢
      exact h1
    rw [hget_tl (fun x => e (rid_inj x))] at h1 ⊢
    rw [hget_tl (by unfold rid; omega), hpO_rid]
    exact h1
  have hc := of_decide_eq_false hc
  have hkE : k = E.length := by omega
  subst hkE
  refine AW.exit ?_
  refine AW.rgs rfl fun K hK => mv rfl rfl (mv rfl rfl ?_)
  refine b_nil (hK _ (AW.to (to_le (s' := ⟨[(4, .ar 26011 ov 1 0 (List.replicate Sn ()).length)], hpO ov (hdr 0 rs) rs⟩) ⟨leS_get ⟨rfl, trivial⟩, fun _ _ h => h⟩ ?_)))
  have hfz := frz_of (D := hpO ov (hdr 0 rs) rs) (ov := ov) (n := (List.replicate Sn ()).length) (rs := rs) (by omega) hget_hd fun i v l hi => by
    rw [hpO_rid]
    have := hget_rows 0 hi
    rwa [Nat.zero_add] at this
  refine AW.to (to_frz 3 (hpO ov (hdr 0 rs) rs) ⟨[(4, slE (eSl eInt) (rs.map (·.2)))], []⟩ ⟨⟨_, rfl, hfz⟩, trivial⟩ trivial ⟨rfl, leH_rows _ 0 fun i v l hi => ?_⟩ (noneH_nil _) ?_)
  · rw [Nat.zero_add, hpO_rid]
    have := hget_rows 0 hi
    rwa [Nat.zero_add] at this
  refine AW.ret ?_
  rw [hrs]
  exact ret_pure (.inr rfl) (resT rfl rfl) rfl (clean_slE fun _ _ => ⟨clean_slE fun _ _ => ⟨trivial, trivial⟩, trivial⟩)
end Go.AW
namespace Go.Proofs
open Go
theorem Tryz.bld_lies (n : Nat) (hn : 2 ≤ n) : liesAt Tryz.prog Tryz.prog.depth 97 (n / Tryz.prog.cellsOf 97) 0 97 1 = true := by
 have hc : Tryz.prog.cellsOf 97 = 2 := by kernel_rfl
 have hd : Tryz.prog.depth = (2 * (Tryz.prog.types.size + Made.depth) + 1) + 1 := rfl
 rw [hd]
 simp only [liesAt, Bool.or_eq_true]
 left
 rw [hd]
 have : 1 ≤ n / 2 := by omega
 simp [rowAt, hc, sameLayout, this]
set_option maxHeartbeats 1000000 in
set_option maxRecDepth 100000 in
theorem Tryz.copyCheck_fresh (b n : Nat) (w : World) (h0 : w.cell? ⟨b, 0, none⟩ = some (.pointer none)) (hsh : w.shape? b = some (97, n)) (hn : 2 ≤ n) (hfz : w.frozen? ⟨b, 0, none⟩ = false) :
  Calls Tryz.prog 64 #[.pointer (some ⟨b, 0, none⟩)] w fun e w' => e = .returned (.tuple #[]) ∧ w' = w.setCell ⟨b, 0, none⟩ (.pointer (some ⟨b, 0, none⟩)) := by
 obtain ⟨j, hj, hjs⟩ := Option.map_eq_some_iff.1 (show (Tryz.prog.info? 97).map (·.size) = some 2 by kernel_rfl)
 have hlies := Tryz.bld_lies n hn
 go_enter Tryz.func64, Tryz.ntmps64
 go_wp2
 rw [Lib.run_to_unsafe w ⟨b, 0, none⟩ Tryz.underlying94 Tryz.underlying133 hj (by rw [hjs]; decide) hsh (by show 0 < n; omega)]
 simp only [Result.andThen]
 rw [Oper.upon_value]
 go_wp2
 rw [run_callFunc_extern Tryz.func82 (by kernel_rfl) (by kernel_rfl) (by kernel_rfl) (e := Extern.AbiNoEscape.same) (by kernel_rfl), Lib.run_noEscape]
 simp only [Result.andThen]
 rw [Oper.upon_value]
 go_wp2
 rw [Lib.run_from_unsafe w ⟨b, 0, none⟩ Tryz.underlying133 Tryz.underlying94 hj hsh hlies]
 simp only [Result.andThen]
 rw [Oper.upon_value]
 go_wp2
 go_end0
 exact ⟨rfl, rfl⟩
set_option maxHeartbeats 1000000 in
set_option maxRecDepth 100000 in
theorem Tryz.copyCheck_used (b : Nat) (w : World) (h0 : w.cell? ⟨b, 0, none⟩ = some (.pointer (some ⟨b, 0, none⟩))) :
  Calls Tryz.prog 64 #[.pointer (some ⟨b, 0, none⟩)] w fun e w' => e = .returned (.tuple #[]) ∧ w' = w := by
 obtain ⟨j, hj, _⟩ := Option.map_eq_some_iff.1 (show (Tryz.prog.info? 97).map (·.size) = some 2 by kernel_rfl)
 go_enter Tryz.func64, Tryz.ntmps64
 go_wp2
 rw [Lib.run_neq_ptr_same w _ Tryz.underlying94 hj]
 go_wp2
 go_end0
 exact ⟨rfl, rfl⟩
end Go.Proofs
namespace Go.AW
open Go Go.Proofs Go.Lib
def bldP (u : Bool) (id ver : Nat) : HV := if u then .ptr id ver 0 else .v (.pointer none)
theorem c_copyCheck {H : Heap} {K : HV → Heap → Prop} {id ver : Nat} {u : Bool} {s : HV} (hg : hget H id = some (ver, .arr 2 97 [bldP u id ver, s])) (hK : K (.tup []) ((id, ver, .arr 2 97 [.ptr id ver 0, s]) :: H)) :
  ACall Tryz.prog 64 [.ptr id ver 0] H K := by
 refine ⟨enters' Tryz.func64 rfl rfl, fun μ w vs hs hr _ => ?_⟩
 obtain ⟨x, xs, rfl, hr, hn⟩ := hr
 cases hn
 obtain ⟨lo, hl, hor⟩ := hs.has _ _ _ hg
 have hle : ∀ ob j (y : Nat × AObj), hget ((id, ver, ob) :: H) j = some y ↔ hget (hset H id ver ob) j = some y := fun ob j y => by simp only [hget, hget_hset]
 rcases hr with ⟨b, hl', rfl⟩ | ⟨hd, _⟩
 ·rw [hl] at hl'
  cases hl'
  obtain ⟨h1, cur, vs', rest, hrow, hcl, hrl⟩ := hor
  obtain ⟨v0, vs1, rfl, r0, v1, vs2, rfl, r1, hn⟩ := hrl
  cases hn
  have hrow2 := hrow
  obtain ⟨lo', hi', hbk, hfr⟩ := hrow2
  have hsz : 2 ≤ cur.size := by rw [← Array.length_toList, hcl]; simp
  have hc0 : cur[0]? = some v0 := by rw [← Array.getElem?_toList, hcl]; rfl
  have hcell : w.cell? ⟨b, 0, none⟩ = some v0 := by rw [Lib.cell_of_heap hbk]; exact hc0
  cases u with
  | false =>
   obtain rfl : v0 = .pointer none := r0
   refine (Tryz.copyCheck_fresh b cur.size w hcell (by simp [World.shape?, hbk]) hsz (hrow.free (by omega))).mono ?_
   rintro e w' ⟨rfl, rfl⟩
   have hbk' : (w.setCell ⟨b, 0, none⟩ (.pointer (some ⟨b, 0, none⟩))).heap[b]? = some (.cells (cur.setIfInBounds 0 (.pointer (some ⟨b, 0, none⟩))) 97 (lo', hi')) := by
    show (w.heap.modify b _)[b]? = _
    rw [Array.getElem?_modify, if_pos rfl, hbk]
    rfl
   obtain ⟨hsr, hE⟩ := hs.updArr (w' := w.setCell ⟨b, 0, none⟩ (.pointer (some ⟨b, 0, none⟩))) (cs' := [.ptr id ver 0, s]) hg hl ⟨rfl, rfl, rfl⟩ (by show (w.heap.modify b _).size = _; simp) (fun b' hne => by
    show (w.heap.modify b _)[b']? = _
    rw [Array.getElem?_modify, if_neg (fun e => hne e.symm)]) hrow ⟨lo', hi', hbk', by simpa using hfr⟩ (by simp) fun E => by
     refine ⟨fun c hc => ?_, _, [.pointer (some ⟨b, 0, none⟩), v1], rest, ⟨lo', hi', hbk', by simpa using hfr⟩, ?_, ?_⟩
     ·rcases List.mem_cons.1 hc with rfl | hc
      ·rfl
      exact h1 c (List.mem_cons_of_mem _ hc)
     ·rw [Array.toList_setIfInBounds, hcl]; rfl
     exact ⟨_, _, rfl, .inl ⟨b, hl, rfl⟩, _, _, rfl, Rep.evo E hs.ok _ _ r1, rfl⟩
   exact ⟨_, .tup [], _, μ, rfl, hK, hsr.le (hle _), ⟨[], rfl, rfl⟩, hE⟩
  | true =>
   rcases r0 with ⟨b', hl2, rfl⟩ | ⟨hd, _⟩
   ·rw [hl] at hl2
    cases hl2
    refine (Tryz.copyCheck_used b w hcell).mono ?_
    rintro e w' ⟨rfl, rfl⟩
    exact ⟨_, .tup [], _, μ, rfl, hK, (hs.same hg).le (hle _), ⟨[], rfl, rfl⟩, Evo.refl _ _⟩
   exact absurd hl (hd.2 _)
 exact absurd hl (hd.2 _)
end Go.AW
namespace Go.AW
open Go
abbrev eByte : EncL UInt8 := encM fun b => HV.int .u8 (b.toNat : Int)
section
variable {P : Program} {ro : Option Nat} {N : Nat} {s : AS} {o : Oper} {sl : List (Nat × HV)} {H : Heap} {all : Array Oper} {rest : List Oper} {K : AS → Prop}
theorem o_appS {d : Nat} {t xt e : TypeId} {a b a2 b2 : Nat} {z z2 : Value} {aa : Array Operand} {ts : Array TypeId} {x y : Operand} {Te : TyI} {l m : List UInt8} {id ver : Nat} (h0 : (o.dst, o.op) = (some d, .call ⟨.builtin .append, aa, ts⟩)) (ha : (aa.toList, ts.toList) = ([x, y], [t, xt])) (hT : ty P t = some ⟨.slice e, a, b, z⟩) (hxt : ty P xt = some ⟨.string, a2, b2, z2⟩) (hTe : ty P e = some Te)
  (hx : s.ev x = some (.ar id ver eByte.k 0 l.length)) (hg : hget s.heap id = some (ver, .arr eByte.k e (eByte.E l))) (hy : s.ev y = some (.str m)) (hk : Te.size = 1) (hz : (zcells Te.zero).any (fun zs => zs.length == Te.size) = true) (h : fits Te.bytes (l.length + m.length))
  (k : ∀ ver', bops P ro N all rest K ⟨(d, .ar id ver' eByte.k 0 (l ++ m).length) :: s.slots, (id, ver', .arr eByte.k e (eByte.E (l ++ m))) :: s.heap⟩) : aop P 0 [] o (fun s' => bops P ro N all rest K s') s := by
 obtain ⟨h3, h4⟩ := Prod.mk.inj h0
 obtain ⟨h5, h6⟩ := Prod.mk.inj ha
 have ek : eByte.k = 1 := rfl
 refine op_append (n := l.length) (m := m.length) (cs := eByte.E l) (ds := eByte.E m) h4 h5 h6 hT hx hy hTe hz ?_ ?_ h ?_
 ·simp only [abase, hg]
  refine ⟨trivial, hk.symm, trivial, trivial, ?_, trivial, ?_⟩
  ·rw [hk, eByte.len]; exact Nat.le_refl _
  rw [hk]
  show (eByte.E l).take (l.length * eByte.k) = _
  rw [eByte.take, List.take_length]
 ·simp only [asrc, hxt]
  exact ⟨hk, trivial, rfl⟩
 intro ver'
 have e1 : baseId (.ar id ver eByte.k 0 l.length) (cid 0 o.dst) = id := rfl
 have e2 : eByte.E l ++ eByte.E m = eByte.E (l ++ m) := (eByte.append l m).symm
 rw [e1, h3, hk, e2]
 have e3 : (l ++ m).length = l.length + m.length := List.length_append
 have := k ver'
 rw [e3] at this
 exact bops_le (putH_le id ver' _ d _) this
end
open Go.Proofs
def bldO (id ver aid aver : Nat) (u : Bool) (l : List UInt8) : AObj := .arr 2 97 [bldP u id ver, .ar aid aver 1 0 l.length]
def bytO (l : List UInt8) : AObj := .arr 1 5 (eByte.E l)
theorem hget_1 {id v j w : Nat} {o p : AObj} {H : Heap} (h : j ≠ id) (hj : hget H j = some (w, p)) : hget ((id, v, o) :: H) j = some (w, p) := by
 simp only [hget]
 rw [if_neg (by omega)]
 exact hj
end Go.AW
namespace Go.Proofs
open Go
def But (g : Nat) (w w' : World) : Prop := Go.AW.Same w w' ∧ w.heap.size ≤ w'.heap.size ∧ ∀ k, k < w.heap.size → k ≠ g → w'.heap[k]? = w.heap[k]?
set_option maxHeartbeats 2000000 in
set_option maxRecDepth 100000 in
theorem Tryz.bldS_nil (b g : Nat) (w : World) (c0 : w.cell? ⟨b, 1, none⟩ = some (.slice none 0 0)) :
  Calls Tryz.prog 53 #[.pointer (some ⟨b, 0, none⟩)] w fun e w' => e = .returned (.string ⟨#[]⟩) ∧ But g w w' := by
 have hUS : ∀ (W : World) (q : Option Addr), (Builtin.unsafeString_ #[114, 3] 9 #[.pointer q, .int .i64 0]).run Tryz.prog W = .ok (.string .empty) W := fun W q => Lib.run_unsafeString_none W _ _ _ q
 have c1 : w.drew.cell? ⟨b, 1, none⟩ = some (.slice none 0 0) := c0
 have hSD : (Builtin.unsafeSliceData_ #[95] 114 #[.slice none 0 0]).run Tryz.prog w.drew = .ok (.pointer none) w.drew := rfl
 have mixed : Tryz.prog.follows .mixedOrders = true := by kernel_rfl
 go_enter Tryz.func53, Tryz.ntmps53
 go_wp2
 go_region_o
 all_goals (go_wp2; go_ret; exact ⟨rfl, ⟨rfl, rfl, rfl⟩, Nat.le_refl _, fun _ _ _ => rfl⟩)
set_option maxHeartbeats 2000000 in
set_option maxRecDepth 100000 in
theorem Tryz.bldS_room (b g cap : Nat) (w : World) (hc0 : cap ≠ 0) (c0 : w.cell? ⟨b, 1, none⟩ = some (.slice (some ⟨g, 0, none⟩) 0 cap)) :
  Calls Tryz.prog 53 #[.pointer (some ⟨b, 0, none⟩)] w fun e w' => e = .returned (.string ⟨#[]⟩) ∧ But g w w' := by
 have hUS : ∀ (W : World) (q : Option Addr), (Builtin.unsafeString_ #[114, 3] 9 #[.pointer q, .int .i64 0]).run Tryz.prog W = .ok (.string .empty) W := fun W q => Lib.run_unsafeString_none W _ _ _ q
 have c1 : w.drew.cell? ⟨b, 1, none⟩ = some (.slice (some ⟨g, 0, none⟩) 0 cap) := c0
 have hSD : (Builtin.unsafeSliceData_ #[95] 114 #[.slice (some ⟨g, 0, none⟩) 0 cap]).run Tryz.prog w.drew = .ok (.pointer (some ⟨g, 0, none⟩)) w.drew := Lib.run_unsafeSliceData_row _ _ _ _ _ _ hc0
 clear hc0
 have mixed : Tryz.prog.follows .mixedOrders = true := by kernel_rfl
 go_enter Tryz.func53, Tryz.ntmps53
 go_wp2
 go_region_o
 all_goals (go_wp2; go_ret; exact ⟨rfl, ⟨rfl, rfl, rfl⟩, Nat.le_refl _, fun _ _ _ => rfl⟩)
set_option maxHeartbeats 2000000 in
set_option maxRecDepth 100000 in
theorem Tryz.bldS_noroom (b g : Nat) (cur : Array Value) (fr : Nat × Nat) (w : World) (hlt : b < w.heap.size) (c0 : w.cell? ⟨b, 1, none⟩ = some (.slice (some ⟨g, 0, none⟩) 0 0)) (hg : w.heap[g]? = some (.cells cur 5 fr)) :
  Calls Tryz.prog 53 #[.pointer (some ⟨b, 0, none⟩)] w fun e w' => e = .returned (.string ⟨#[]⟩) ∧ But g w w' := by
 have hUS : ∀ (W : World) (q : Option Addr), (Builtin.unsafeString_ #[114, 3] 9 #[.pointer q, .int .i64 0]).run Tryz.prog W = .ok (.string .empty) W := fun W q => Lib.run_unsafeString_none W _ _ _ q
 have c1 : w.drew.cell? ⟨b, 1, none⟩ = some (.slice (some ⟨g, 0, none⟩) 0 0) := c0
 have hSD : (Builtin.unsafeSliceData_ #[95] 114 #[.slice (some ⟨g, 0, none⟩) 0 0]).run Tryz.prog w.drew = .ok (.pointer (some ⟨w.drew.heap.size, 0, none⟩)) (w.drew.alloc (.view ⟨g, 0, none⟩ 5)) :=
  Lib.run_unsafeSliceData_zero w.drew _ _ 5 Tryz.underlying114 ⟨g, 0, none⟩ 0 (5, cur.size) (by have hg' : w.drew.heap[g]? = some (.cells cur 5 fr) := hg; simp [World.shape?, hg'])
 have c2 : (w.drew.alloc (.view ⟨g, 0, none⟩ 5)).cell? ⟨b, 1, none⟩ = some (.slice (some ⟨g, 0, none⟩) 0 0) := by
  have e : (w.drew.alloc (.view ⟨g, 0, none⟩ 5)).heap[b]? = w.heap[b]? := Lib.alloc_old w.drew _ b hlt
  have h1 : (w.drew.alloc (.view ⟨g, 0, none⟩ 5)).cell? ⟨b, 1, none⟩ = w.cell? ⟨b, 1, none⟩ := by simp only [World.cell?, e]
  rw [h1]; exact c0
 have c3 : (w.alloc (.view ⟨g, 0, none⟩ 5)).drew.cell? ⟨b, 1, none⟩ = some (.slice (some ⟨g, 0, none⟩) 0 0) := c2
 have mixed : Tryz.prog.follows .mixedOrders = true := by kernel_rfl
 go_enter Tryz.func53, Tryz.ntmps53
 go_wp2
 go_region_o
 all_goals (go_wp2; go_ret; exact ⟨rfl, ⟨rfl, rfl, rfl⟩, by show w.heap.size ≤ (w.heap.push _).size; rw [Array.size_push]; omega, fun k hk _ => Lib.alloc_old w.drew _ k hk⟩)
set_option maxHeartbeats 2000000 in
set_option maxRecDepth 100000 in
theorem Tryz.bldS_some (b g cap : Nat) (cur : Array Value) (fr : Nat × Nat) (l : List UInt8) (w : World) (h0 : l ≠ []) (c0 : w.cell? ⟨b, 1, none⟩ = some (.slice (some ⟨g, 0, none⟩) l.length cap)) (hg : w.heap[g]? = some (.cells cur 5 fr)) (hcap : l.length ≤ cap) (hsz : cur.size = cap) (hcm : cap ≤ maxLen)
  (hcell : ∀ (j : Nat) (x : UInt8), l[j]? = some x → cur[j]? = some (.int .u8 x.toNat)) :
  Calls Tryz.prog 53 #[.pointer (some ⟨b, 0, none⟩)] w fun e w' => e = .returned (.string ⟨l.toArray⟩) ∧ But g w w' := by
 have hl0 : l.length ≠ 0 := by simpa using h0
 have c1 : w.drew.cell? ⟨b, 1, none⟩ = some (.slice (some ⟨g, 0, none⟩) l.length cap) := c0
 have hSD : (Builtin.unsafeSliceData_ #[95] 114 #[.slice (some ⟨g, 0, none⟩) l.length cap]).run Tryz.prog w.drew = .ok (.pointer (some ⟨g, 0, none⟩)) w.drew := Lib.run_unsafeSliceData_row _ _ _ _ _ _ (by omega)
 have hUS : (Builtin.unsafeString_ #[114, 3] 9 #[.pointer (some ⟨g, 0, none⟩), .int .i64 l.length]).run Tryz.prog w.drew = .ok (.string ⟨l.toArray⟩) (w.drew.freeze ⟨g, 0, none⟩ l.length) := by
  refine Lib.run_unsafeString_row w.drew 114 3 9 5 Tryz.underlying114 (by kernel_rfl) g cur.size (by have hg' : w.drew.heap[g]? = some (.cells cur 5 fr) := hg; simp [World.shape?, hg']) l h0 (by omega) (by unfold maxLen at hcm; omega) ?_
  intro j x hx
  have hg' : w.drew.heap[g]? = some (.cells cur 5 fr) := hg
  rw [Addr.add_lit, Nat.zero_add, Lib.cell_of_heap hg']
  exact hcell j x hx
 have hfz : But g w (w.drew.freeze ⟨g, 0, none⟩ l.length) := by
  unfold World.freeze
  rw [if_neg hl0]
  refine ⟨⟨rfl, rfl, rfl⟩, by show w.heap.size ≤ (w.heap.modify g _).size; simp, fun k hk hne => ?_⟩
  show (w.heap.modify g _)[k]? = _
  rw [Array.getElem?_modify, if_neg (fun e => hne e.symm)]
 clear hcell hsz hcap hcm h0 hl0 hg
 have mixed : Tryz.prog.follows .mixedOrders = true := by kernel_rfl
 go_enter Tryz.func53, Tryz.ntmps53
 go_wp2
 go_region_o
 all_goals (go_wp2; go_ret; exact ⟨rfl, hfz⟩)
end Go.Proofs
namespace Go.AW
open Go
section
open Go Go.Proofs Go.Lib
theorem repL_byt {w : World} {μ : Mu} : ∀ {l : List UInt8} {vs : List Value}, RepL w μ (l.map fun b => HV.int .u8 (b.toNat : Int)) vs → vs = l.map fun b => Value.int .u8 (b.toNat : Int)
 | [], vs, h => h
 | x :: l, vs, h => by
  obtain ⟨v, vs', rfl, hx, hr⟩ := h
  obtain ⟨rfl, _⟩ := hx
  rw [repL_byt hr]
  rfl
theorem c_String {H : Heap} {K : HV → Heap → Prop} {id ver aid aver : Nat} {u : Bool} {l : List UInt8} (hg : hget H id = some (ver, bldO id ver aid aver u l)) (ha : hget H aid = some (aver, bytO l)) (hK : ∀ av, K (.str l) ((aid, av, .arr 1 5 []) :: H)) :
  ACall Tryz.prog 53 [.ptr id ver 0] H K := by
 refine ⟨enters' Tryz.func53 rfl rfl, fun μ w vs hs hr _ => ?_⟩
 obtain ⟨x, xs, rfl, hr, hn⟩ := hr
 cases hn
 obtain ⟨lo, hl, hor⟩ := hs.has _ _ _ hg
 obtain ⟨la, hla, hora⟩ := hs.has _ _ _ ha
 have hle : ∀ v ob j (y : Nat × AObj), hget ((aid, v, ob) :: H) j = some y ↔ hget (hset H aid v ob) j = some y := fun v ob j y => by simp only [hget, hget_hset]
 have fin : ∀ (g : Nat) (w' : World), (∀ b, μ.loc aid = some (aver, some b) → b = g) → (la = none → w.heap.size ≤ g) → l.length ≤ maxLen → But g w w' → ∃ v r H' μ', Ending.returned (.string ⟨l.toArray⟩) = .returned v ∧ K r H' ∧ SR w' μ' H' ∧ Rep w' μ' r v ∧ Evo w μ w' μ' := by
  intro g w' hb hgn hlen ⟨h1, h2, h3⟩
  have hold : ∀ b, b < w.heap.size → (∀ ver, μ.loc aid ≠ some (ver, some b)) → w'.heap[b]? = w.heap[b]? := fun b hb1 hb2 => by
   by_cases e : b = g
   ·cases la with
    | none => exact absurd (hgn rfl) (by omega)
    | some b0 =>
     have := hb b0 hla
     subst this
     subst e
     exact absurd hla (hb2 _)
   exact h3 b hb1 e
  have hsr := hs.repl aid none (.arr 1 5 []) h1 h2 hold (fun b hb => by cases hb) rfl
  have hE := Evo.repl hs aid none h1 h2 hold (fun b hb => by cases hb)
  exact ⟨_, .str l, _, μ.set aid none, rfl, hK μ.nx, hsr.le (hle _ _), ⟨rfl, hlen⟩, hE⟩
 rcases hr with ⟨b, hl', rfl⟩ | ⟨hd, _⟩
 ·rw [hl] at hl'
  cases hl'
  obtain ⟨h1, cur, vs', rest, hrow, hcl, hrl⟩ := hor
  obtain ⟨v0, vs1, rfl, r0, v1, vs2, rfl, r1, hn⟩ := hrl
  cases hn
  have hrow2 := hrow
  obtain ⟨lo', hi', hbk, hfr⟩ := hrow2
  have hc1 : cur[1]? = some v1 := by rw [← Array.getElem?_toList, hcl]; rfl
  have hcell : w.cell? ⟨b, 1, none⟩ = some v1 := by rw [Lib.cell_of_heap hbk]; exact hc1
  have hlt : b < w.heap.size := by
   rcases Nat.lt_or_ge b w.heap.size with h' | h'
   ·exact h'
   simp [Array.getElem?_eq_none h'] at hbk
  rcases r1 with ⟨la', hla', ⟨rfl, rfl, h0, _⟩ | ⟨g, cap, curg, e, rfl, rfl, hnc, hcm, hrowg, hszg⟩⟩ | ⟨hd, _⟩
  ·have hln := List.eq_nil_of_length_eq_zero h0
   subst hln
   refine (Tryz.bldS_nil b w.heap.size w hcell).mono ?_
   rintro e w' ⟨rfl, hb⟩
   exact fin _ w' (fun b hb => by rw [hla'] at hb; cases hb) (fun _ => Nat.le_refl _) (Nat.zero_le _) hb
  ·rw [hla] at hla'
   cases hla'
   obtain ⟨_, cur2, vs2, rest2, hrow2, hcl2, hrl2⟩ := hora
   obtain ⟨lo2, hi2, hbg, hfr2⟩ := hrow2
   obtain ⟨lo3, hi3, hbg3, hfr3⟩ := hrowg
   rw [hbg] at hbg3
   cases hbg3
   have hvs := repL_byt hrl2
   subst hvs
   have hb1 : ∀ b, μ.loc aid = some (aver, some b) → b = g := fun b hb => by rw [hla] at hb; cases hb; rfl
   by_cases h0 : l = []
   ·subst h0
    by_cases hc0 : cap = 0
    ·subst hc0
     refine (Tryz.bldS_noroom b g curg _ w hlt hcell hbg).mono ?_
     rintro e w' ⟨rfl, hb⟩
     exact fin g w' hb1 (fun e => by cases e) (Nat.zero_le _) hb
    refine (Tryz.bldS_room b g cap w hc0 hcell).mono ?_
    rintro e w' ⟨rfl, hb⟩
    exact fin g w' hb1 (fun e => by cases e) (Nat.zero_le _) hb
   refine (Tryz.bldS_some b g cap curg _ l w h0 hcell hbg hnc (by omega) hcm fun j x hj => ?_).mono ?_
   ·rw [← Array.getElem?_toList, hcl2, List.getElem?_append_left (by
     have := (List.getElem?_eq_some_iff.1 hj).1
     simpa using this), List.getElem?_map, hj]
    rfl
   rintro e w' ⟨rfl, hb⟩
   exact fin g w' hb1 (fun e => by cases e) (by omega) hb
  exact absurd hla (hd.2 _)
 exact absurd hl (hd.2 _)
end
open Go.Proofs
set_option linter.unusedVariables false
set_option maxRecDepth 100000 in
theorem c_WriteString {H : Heap} {K : HV → Heap → Prop} {id ver aid aver : Nat} {u : Bool} {l m : List UInt8} (hid : aid ≠ id) (hg : hget H id = some (ver, bldO id ver aid aver u l)) (ha : hget H aid = some (aver, bytO l)) (hfit : fits 1 (l.length + m.length))
    (hK : ∀ av, K (.tup [.int .i64 (m.length : Int), .v .nilIface]) ((id, ver, bldO id ver aid av true (l ++ m)) :: (aid, av, bytO (l ++ m)) :: H)) : ACall Tryz.prog 51 [.ptr id ver 0, .str m] H K := by
  refine ACall.of_body Tryz.func51 rfl rfl (lb rfl) ?_
  unfold Tryz.f51
  dsimp only [enumS, Nat.reduceAdd]
  refine AW.rgs rfl fun K1 hK1 => ?_
  refine mv rfl rfl (mv rfl rfl ?_)
  refine b_nil (hK1 _ (AW.to (to_le (s' := ⟨[(0, .ptr id ver 0), (1, .str m)], H⟩) (le_slH ⟨rfl, rfl, trivial⟩) ?_)))
  clear hK1 K1
  refine AW.rgs rfl fun K1 hK1 => ?_
  refine mv rfl rfl ?_
  refine b_op rfl (o_callA rfl rfl rfl rfl (c_copyCheck hg ?_))
  refine b_nil (hK1 _ (AW.to (to_le (s' := ⟨[(0, .ptr id ver 0), (1, .str m)], (id, ver, .arr 2 97 [.ptr id ver 0, .ar aid aver 1 0 l.length]) :: H⟩) (le_slH ⟨rfl, rfl, trivial⟩) ?_)))
  clear hK1 K1
  have ha1 : hget ((id, ver, AObj.arr 2 97 [.ptr id ver 0, .ar aid aver 1 0 l.length]) :: H) aid = some (aver, .arr eByte.k 5 (eByte.E l)) := hget_1 hid ha
  refine AW.rgs rfl fun K1 hK1 => ?_
  refine mv rfl rfl (mv rfl rfl (bv rfl (v_nilP rfl hget_0) (bv rfl (v_fieldAddrP fo97_1 rfl hget_0) (bv rfl (v_loadP ty95 rfl hget_0 (l_lit rfl rfl)) (mv rfl rfl ?_)))))
  refine b_op rfl (o_appS (l := l) (m := m) rfl rfl ty95 ty9 ty5 rfl ha1 rfl rfl rfl hfit (fun av => ?_))
  refine bv rfl (v_nilP rfl (hget_1 (fun e => hid e.symm) hget_0)) (bv rfl (v_fieldAddrP fo97_1 rfl (hget_1 (fun e => hid e.symm) hget_0)) ?_)
  refine b_op rfl (o_store (cs := [.ar aid av 1 0 (l ++ m).length]) (zs := [.ptr id ver 0, .ar aid av 1 0 (l ++ m).length]) rfl rfl rfl ty95 rfl (hget_1 (fun e => hid e.symm) hget_0) rfl rfl rfl ?_)
  refine b_nil (hK1 _ (AW.to (to_le (s' := ⟨[(1, .str m)], (id, ver, .arr 2 97 [.ptr id ver 0, .ar aid av 1 0 (l ++ m).length]) :: (aid, av, .arr 1 5 (eByte.E (l ++ m))) :: H⟩) ⟨leS_get ⟨rfl, trivial⟩, fun j x hx => ?_⟩ ?_)))
  · simp only [hget] at hx ⊢
    by_cases h1 : j = id
    · subst h1; simpa using hx
    rw [if_neg h1] at hx ⊢
    by_cases h2 : j = aid
    · rw [if_pos h2] at hx ⊢; exact hx
    rw [if_neg h2] at hx
    rw [if_neg h2, if_neg h1]
    exact hx
  clear hK1 K1
  refine AW.rgs rfl fun K1 hK1 => ?_
  refine mv rfl rfl (bv rfl (v_lenS rfl rfl ty9 rfl) (mv rfl rfl (mv rfl rfl ?_)))
  refine b_nil (hK1 _ (AW.to (to_le (s' := ⟨[(4, .int .i64 (m.length : Int)), (5, .v .nilIface)], (id, ver, .arr 2 97 [.ptr id ver 0, .ar aid av 1 0 (l ++ m).length]) :: (aid, av, .arr 1 5 (eByte.E (l ++ m))) :: H⟩) (le_slH ⟨rfl, rfl, trivial⟩) ?_)))
  clear hK1 K1
  refine AW.ret ⟨.inr rfl, ?_⟩
  simp only [go_sem]
  exact ⟨_, _, Conv.refl _ _, hK av⟩
abbrev TST := Int × Int
abbrev TPairBeforeLabel := TST × Int × Int
abbrev cPairBeforeLabel (x : TPairBeforeLabel) : List HV := [HV.int .i64 x.1.1, HV.int .i64 x.1.2, HV.int .i64 x.2.1, HV.int .i64 x.2.2]
abbrev ePairBeforeLabel : EncL TPairBeforeLabel := encF 4 cPairBeforeLabel (fun _ => rfl)
noncomputable def m_ref13_Great (p0 : TLabelsStatesEdges) : Option (Bool) :=
 jp (fun (a1 : Bool) =>
   some a1)
   fun k3 =>
  (m_ref09_Great p0).bind fun x4 =>
  if x4 = true then
   k3 true
  else
   if 20 < ((p0.2.2).length : Int) then
    k3 true
   else
    if 6 < p0.2.1 then
     if p0.2.1 ≤ 64 then
      k3 true
     else
      if 8 < p0.1 then
       k3 (decide (p0.1 ≤ 256))
      else
       k3 false
    else
     if 8 < p0.1 then
      k3 (decide (p0.1 ≤ 256))
     else
      k3 false
noncomputable def m_top_top27Few (p0 : TLabelsStatesEdges) : Option (Bool) :=
 jp (fun (a1 : Bool) =>
   some a1)
   fun k3 =>
  if p0.2.1 ≤ 4 then
   if p0.1 ≤ 3 then
    if ((p0.2.2).length : Int) ≤ 14 then
     (m_graph_Check p0).bind fun x4 =>
     if x4 = 0 then
      (m_ref13_Great p0).bind fun x6 =>
      k3 (!x6)
     else
      k3 false
    else
     k3 false
   else
    k3 false
  else
   k3 false
noncomputable def m_minimal_table_next (p0 : List (List (Int))) (p1 : Int) (p2 : Int) : Option (Int) :=
 if p1 = (-1) then
  some (-1)
 else
  (idx p0 p1).bind fun x1 =>
  (idx x1 p2).bind fun x3 =>
  some x3
noncomputable def m_minimal_first (p0 : List (List (Int))) (p1 : List (List (Int))) (p2 : Int) (p3 : TST) (p4 : TST → Option (Bool)) : Option ((List (Int)) × Bool) :=
 (kset wfST p3 true ([] : List (TST × Bool))).bind fun x4 =>
 lpO (loopW (S := Int × (List TPairBeforeLabel) × (List (TST × Bool))) (X := Ou (Unit) ((List (Int)) × Bool)) (fun a7 =>
     if a7.1 < (((a7.2.1).length : Nat) : Int) then
      (idx a7.2.1 a7.1).bind fun x11 =>
      (idx a7.2.1 a7.1).bind fun x13 =>
      (p4 (x13.1.1, x13.1.2)).bind fun x16 =>
      if x16 = true then
       (loopW (S := Int × (List Int)) (X := (List Int)) (fun a18 =>
           (idx a7.2.1 a18.1).bind fun x22 =>
           (idx a7.2.1 a18.1).bind fun x24 =>
           if x24.2.1 ≠ (-1) then
            (idx a7.2.1 a18.1).bind fun x26 =>
            (idx a7.2.1 a18.1).bind fun x28 =>
            if fits 8 ((a18.2 : List Int).length + ([x28.2.2]).length) then
             (idx a7.2.1 a18.1).bind fun x32 =>
             (idx a7.2.1 a18.1).bind fun x34 =>
             some (Stp.next (x34.2.1, a18.2 ++ [x28.2.2]))
            else none
           else
            some (Stp.exit a18.2)) (a7.1, ([] : List Int))).bind fun a37 =>
       if (a37).length < 4611686018427387904 then
        some (Stp.exit (Ou.ret (List.reverse a37, true)))
       else none
      else
       (loopW (S := Int × (List TPairBeforeLabel) × (List (TST × Bool))) (X := (List TPairBeforeLabel) × (List (TST × Bool))) (fun a40 =>
           if a40.1 < p2 then
            jp (fun (a44 : (List TPairBeforeLabel) × (List (TST × Bool))) =>
              some (Stp.next (IntKind.wrap .i64 (a40.1 + 1), a44.1, a44.2)))
              fun k46 =>
             (m_minimal_table_next p0 x13.1.1 a40.1).bind fun x470401 =>
             (m_minimal_table_next p1 x13.1.2 a40.1).bind fun x470901 =>
             jp (fun (a48 : Bool) =>
               if a48 = true then
                (kset wfST (x470401, x470901) true a40.2.2).bind fun x51 =>
                if fits 32 ((a40.2.1 : List TPairBeforeLabel).length + ([((x470401, x470901), a7.1, a40.1)]).length) then
                 k46 (a40.2.1 ++ [((x470401, x470901), a7.1, a40.1)], x51)
                else none
               else
                k46 (a40.2.1, a40.2.2))
               fun k50 =>
              if ((x470401, x470901) : TST) = ((-1), (-1)) then
               k50 false
              else
               (kget wfST (x470401, x470901) false a40.2.2).bind fun x56 =>
               k50 (!x56)
           else
            some (Stp.exit (a40.2.1, a40.2.2))) (0, a7.2.1, a7.2.2)).bind fun a59 =>
       some (Stp.next (IntKind.wrap .i64 (a7.1 + 1), a59.1, a59.2))
     else
      some (Stp.exit (Ou.go ()))) (0, [((p3.1, p3.2), (-1), (-1))], x4)) (fun a61 =>
     some ([], false)) some
noncomputable def m_minimal_search (p0 : TLabelsStatesEdges) (p1 : TLabelsStatesEdges) (p2 : TST → Option (Bool)) : Option ((List (Int)) × Bool × Int) :=
 jp (fun (a1 : Bool) =>
   if a1 = true then
    some ([], false, 1)
   else
    lpO (loopW (S := Int × (List (List (Int))) × (List (List (Int))) × Int × Int) (X := Ou ((List (List (Int))) × (List (List (Int))) × Int × Int) ((List (Int)) × Bool × Int)) (fun a6 =>
        if a6.1 < (([p0, p1]).length : Int) then
         jp (fun (a10 : (List (List (Int))) × (List (List (Int))) × Int × Int) =>
           some (Stp.next (IntKind.wrap .i64 (a6.1 + 1), a10.1, a10.2.1, a10.2.2.1, a10.2.2.2)))
           fun k12 =>
          (idx [p0, p1] a6.1).bind fun x13 =>
          (m_subset_Build x13).bind fun x16 =>
          if x16.2.2 ≠ 0 then
           some (Stp.exit (Ou.ret ([], false, x16.2.2)))
          else
           (m_minimal_of x16.1 (max p0.1 p1.1)).bind fun x19 =>
           if (a6.1 : Int) = 0 then
            jp (fun (a22 : Bool) =>
              if a22 = true then
               k12 (x19, a6.2.2.1, 0, a6.2.2.2.2)
              else
               if 0 < x16.1.2.1 then
                k12 (x19, a6.2.2.1, a6.2.2.2.1, 0)
               else
                k12 (x19, a6.2.2.1, a6.2.2.2.1, a6.2.2.2.2))
              fun k24 =>
             if 0 < x16.1.2.1 then
              k24 (decide (a6.1 = 0))
             else
              k24 false
           else
            if (a6.1 : Int) = 1 then
             jp (fun (a27 : Bool) =>
               if a27 = true then
                k12 (a6.2.1, x19, 0, a6.2.2.2.2)
               else
                if 0 < x16.1.2.1 then
                 k12 (a6.2.1, x19, a6.2.2.2.1, 0)
                else
                 k12 (a6.2.1, x19, a6.2.2.2.1, a6.2.2.2.2))
               fun k29 =>
              if 0 < x16.1.2.1 then
               k29 (decide (a6.1 = 0))
              else
               k29 false
            else
             none
        else
         some (Stp.exit (Ou.go (a6.2.1, a6.2.2.1, a6.2.2.2.1, a6.2.2.2.2)))) (0, ([] : List (List (Int))), ([] : List (List (Int))), (-1), (-1))) (fun a31 =>
        if ((a31.2.2.1, a31.2.2.2) : TST) = ((-1), (-1)) then
         some ([], true, 0)
        else
         (m_minimal_first a31.1 a31.2.1 (max p0.1 p1.1) (a31.2.2.1, a31.2.2.2) p2).bind fun x33 =>
         some (x33.1, !x33.2, 0)) some)
   fun k3 =>
  (m_graph_Check p0).bind fun x35 =>
  if x35 ≠ 0 then
   k3 true
  else
   (m_graph_Check p1).bind fun x37 =>
   k3 (decide (x37 ≠ 0))
noncomputable def m_minimal_one (p0 : TST) : Option (Bool) :=
 some (!((decide (p0.1 = (-1))) == (decide (p0.2 = (-1)))))
noncomputable def m_minimal_Equal (p0 : TLabelsStatesEdges) (p1 : TLabelsStatesEdges) : Option ((List (Int)) × Bool × Int) :=
 (m_minimal_search p0 p1 (fun b0 => m_minimal_one b0 )).bind fun x1 =>
 some (x1.1, x1.2.1, x1.2.2)
noncomputable def m_top_top27Golden  : Option (TLabelsStatesEdges) :=
 some (2, 2, [(0, 0, 0), (0, 1, 1), (1, 0, 0)])
noncomputable def m_top_top27Awake  : Option (Bool) :=
 (m_top_top27Golden).bind fun x1 =>
 (m_subset_Build x1).bind fun x3 =>
 (m_top_top27Golden).bind fun x6 =>
 (m_minimal_Equal x6 x3.1).bind fun x8 =>
 jp (fun (a10 : Bool) =>
   some a10)
   fun k12 =>
  if x3.2.2 = 0 then
   if x8.2.2 = 0 then
    if x3.1.2.1 = 3 then
     k12 x8.2.1
    else
     k12 false
   else
    k12 false
  else
   k12 false
noncomputable def m_minimal_Included_1 (p0 : TST) : Option (Bool) :=
 jp (fun (a1 : Bool) =>
   some a1)
   fun k3 =>
  if p0.1 ≠ (-1) then
   k3 (decide (p0.2 = (-1)))
  else
   k3 false
noncomputable def m_minimal_Included (p0 : TLabelsStatesEdges) (p1 : TLabelsStatesEdges) : Option ((List (Int)) × Bool × Int) :=
 (m_minimal_search p0 p1 (fun b0 => m_minimal_Included_1 b0 )).bind fun x1 =>
 some (x1.1, x1.2.1, x1.2.2)
noncomputable def m_top_top27Alike (p0 : TLabelsStatesEdges) (p1 : TLabelsStatesEdges) : Option (Int × Bool × Bool) :=
 lpO (loopW (S := Int × Int) (X := Ou (Unit) (Int × Bool × Bool)) (fun a1 =>
     if a1.2 < 7 then
      jp (fun (a5 : Int) =>
        if 800 < a5 then
         some (Stp.exit (Ou.ret (a1.2, true, true)))
        else
         (m_language_Words p0 a1.2).bind fun x8 =>
         (m_language_Words p1 a1.2).bind fun x10 =>
         jp (fun (a12 : Bool) =>
           if a12 = true then
            some (Stp.exit (Ou.ret (a1.2, false, false)))
           else
            (m_slices_Equal_Lstring_string x8.1 x10.1).bind fun x15 =>
            if (!x15) = true then
             some (Stp.exit (Ou.ret (a1.2, false, true)))
            else
             some (Stp.next (a5, IntKind.wrap .i64 (a1.2 + 1))))
           fun k14 =>
          if x8.2 ≠ 0 then
           k14 true
          else
           k14 (decide (x10.2 ≠ 0)))
        fun k7 =>
       if 0 < a1.2 then
        k7 (IntKind.wrap .i64 (a1.1 * (max 1 p0.1)))
       else
        k7 a1.1
     else
      some (Stp.exit (Ou.go ()))) (1, 0)) (fun a18 =>
     some (7, true, true)) some
noncomputable def m_top_TopCompared (p0 : TLabelsStatesEdges) (p1 : TLabelsStatesEdges) : Option (Bool) :=
 jp (fun (a1 : Bool) =>
   if a1 = true then
    (m_top_top27Awake).bind fun x4 =>
    some x4
   else
    (m_minimal_Equal p0 p1).bind fun x6 =>
    (m_minimal_Included p0 p1).bind fun x8 =>
    (m_minimal_Included p1 p0).bind fun x10 =>
    (m_top_top27Alike p0 p1).bind fun x12 =>
    jp (fun (a14 : Bool) =>
      if a14 = true then
       some false
      else
       if x6.2.1 = true then
        jp (fun (a17 : Bool) =>
          some a17)
          fun k19 =>
         if x12.2.1 = true then
          if ((x6.1).length : Int) = 0 then
           (m_top_top27Awake).bind fun x20 =>
           k19 x20
          else
           k19 false
         else
          k19 false
       else
        lpO (loopW (S := (List UInt8) × Int) (X := Ou ((List UInt8)) (Bool)) (fun a24 =>
            if a24.2 < ((x6.1).length : Int) then
             (idx x6.1 a24.2).bind fun x28 =>
             jp (fun (a30 : Bool) =>
               if a30 = true then
                some (Stp.exit (Ou.ret false))
               else
                if 0 ≤ (x28 : Int) ∧ (x28 : Int) ≤ IntKind.wrap .i64 (x28 + 1) ∧ IntKind.wrap .i64 (x28 + 1) ≤ (([48, 49, 50, 51, 52, 53, 54, 55, 56, 57, 97, 98, 99, 100, 101, 102] : List UInt8).length : Int) then
                 if a24.1.length + ((([48, 49, 50, 51, 52, 53, 54, 55, 56, 57, 97, 98, 99, 100, 101, 102] : List UInt8).take (IntKind.wrap .i64 (x28 + 1)).toNat).drop (x28).toNat).length ≤ maxLen then
                  some (Stp.next (a24.1 ++ ((([48, 49, 50, 51, 52, 53, 54, 55, 56, 57, 97, 98, 99, 100, 101, 102] : List UInt8).take (IntKind.wrap .i64 (x28 + 1)).toNat).drop (x28).toNat), IntKind.wrap .i64 (a24.2 + 1)))
                 else none
                else none)
               fun k32 =>
              if x28 < 0 then
               k32 true
              else
               k32 (decide (p0.1 ≤ x28))
            else
             some (Stp.exit (Ou.go a24.1))) (([] : List UInt8), 0)) (fun a36 =>
            (m_language_Accepts p0 a36).bind fun x38 =>
            (m_language_Accepts p1 a36).bind fun x40 =>
            jp (fun (a42 : Bool) =>
              some a42)
              fun k44 =>
             if x38.2 = 0 then
              if x40.2 = 0 then
               if (!(x38.1 == x40.1)) = true then
                if (x12.2.1 == (decide (6 < ((x6.1).length : Int)))) = true then
                 if x12.2.1 = true then
                  (m_top_top27Awake).bind fun x45 =>
                  k44 x45
                 else
                  if x12.1 = ((x6.1).length : Int) then
                   (m_top_top27Awake).bind fun x47 =>
                   k44 x47
                  else
                   k44 false
                else
                 k44 false
               else
                k44 false
              else
               k44 false
             else
              k44 false) some)
      fun k16 =>
     if (max (max x6.2.2 x8.2.2) x10.2.2) ≠ 0 then
      k16 true
     else
      if (!x12.2.2) = true then
       k16 true
      else
       if x8.2.1 = true then
        k16 (!(x6.2.1 == x10.2.1))
       else
        k16 (!(x6.2.1 == false)))
   fun k3 =>
  (m_top_top27Few p0).bind fun x58 =>
  if (!x58) = true then
   k3 true
  else
   (m_top_top27Few p1).bind fun x60 =>
   if (!x60) = true then
    k3 true
   else
    k3 (decide (p0.1 ≠ p1.1))
theorem SR.frzH {w : World} {μ : Mu} {H D H' : Heap} (n : Nat) (h : SR w μ H) (hD : ∀ id x, hget D id = some x → hget H id = some x ∧ hget H' id = none)
  (hs : ∀ id ver o, hget H' id = some (ver, o) → hget H id = some (ver, o) ∨ ∃ k e cs, hget H id = some (ver, .arr k e cs) ∧ o = .arr k e (cs.map (frz n D))) : SR w (μ.cut H') H' where
 ok := fun id ver b hb => h.ok id ver b (Mu.cut_some hb)
 has := fun id ver o ho => by
  rcases hs id ver o ho with h1 | ⟨k, e, cs, h1, rfl⟩
  ·obtain ⟨l, hl, hor⟩ := h.has id ver o h1
   exact ⟨l, by simp [Mu.cut, ho, hl], hor.evo (Evo.cut w μ H') h.ok (fun _ _ => rfl) (fun _ _ _ _ _ _ _ _ => rfl)⟩
  obtain ⟨l, hl, hor⟩ := h.has id ver _ h1
  refine ⟨l, by simp [Mu.cut, ho, hl], ?_⟩
  cases l with
  | none =>
   have : cs = [] := hor
   subst this
   exact (rfl : ([] : List HV).map (frz n D) = [])
  | some b =>
   obtain ⟨h0, cur, vs, rest, hrow, hcl, hrl⟩ := hor
   exact ⟨ones_frz h0, cur, vs, rest, hrow, hcl, RepL.mapF (fun c x _ => frz_rep h hD n c x) hrl⟩
 only := fun id x hx => by
  simp only [Mu.cut] at hx
  split at hx
  ·rename_i hi; exact Option.isSome_iff_exists.1 hi
  cases hx
 inj := fun i j v u b hi hj => h.inj i j v u b (Mu.cut_some hi) (Mu.cut_some hj)
 held := fun b hb => ⟨(h.held b hb).1, fun ⟨id, ver, hl⟩ => (h.held b hb).2 ⟨id, ver, Mu.cut_some hl⟩⟩
def leO (n : Nat) (D : Heap) (l : Heap) : Heap → Prop
 | [] => True
 | (i, v, o) :: l' => (hget l i = some (v, o) ∨ ∃ k e cs, hget l i = some (v, .arr k e cs) ∧ o = .arr k e (cs.map (frz n D))) ∧ leO n D l l'
theorem leO_get {n : Nat} {D l : Heap} : ∀ {l' : Heap}, leO n D l l' → ∀ t v o, hget l' t = some (v, o) → hget l t = some (v, o) ∨ ∃ k e cs, hget l t = some (v, .arr k e cs) ∧ o = .arr k e (cs.map (frz n D))
 | [], _, _, _, _, h => by cases h
 | (i, g, u) :: l', h, t, v, o, ht => by
  simp only [hget] at ht
  split at ht
  ·rename_i e; subst e; cases ht; exact h.1
  exact leO_get h.2 t v o ht
theorem to_fill {s : AS} {G : AS → Prop} (n : Nat) (D : Heap) (s' : AS) (h1 : leF n D s.slots s'.slots) (h2 : leO n D s.heap s'.heap) (h3 : leH s.heap D) (h4 : noneH s'.heap D) (h : G s') : s.to G := by
 intro ro N B μ a w hs
 have hD : ∀ id x, hget D id = some x → hget s.heap id = some x ∧ hget s'.heap id = none := fun id x hx => ⟨leH_get h3 id x hx, noneH_get h4 id x hx⟩
 refine ⟨μ.cut s'.heap, s', h, ⟨hs.size, hs.sr.frzH n hD (leO_get h2), fun t hv ht => ?_, hs.marks.evo (Evo.cut w μ s'.heap), hs.ro.evo (Evo.cut w μ s'.heap)⟩, Evo.cut w μ s'.heap⟩
 obtain ⟨g, hg, rfl⟩ := leF_get h1 t hv ht
 exact ⟨(hs.slot t g hg).1, frz_rep hs.sr hD n g _ (hs.slot t g hg).2⟩
theorem LeL.ones : ∀ {aa bs : List HV} (_ : LeL aa bs), ones aa → ones bs
 | _, _, .nil, h => h
 | _, _, .cons h h', h0 => fun c hc => by
  rcases List.mem_cons.1 hc with rfl | hc
  ·have := h0 _ (List.mem_cons_self ..)
   cases h with
   | refl => exact this
   | nil => rfl
   | empty => rfl
  exact LeL.ones h' (fun d hd => h0 d (List.mem_cons_of_mem _ hd)) c hc
theorem to_cells {s : AS} {G : AS → Prop} (id ver : Nat) {k : Nat} {e : TypeId} {cs ds : List HV} (hg : hget s.heap id = some (ver, .arr k e cs)) (hl : LeL cs ds) (h : G ⟨s.slots, (id, ver, .arr k e ds) :: s.heap⟩) : s.to G := by
 intro ro N B μ a w hs
 have h1 := hs.sr.reobj (o' := .arr k e ds) hg fun l _ hor => by
  cases l with
  | none =>
   have : cs = [] := hor
   subst this
   cases hl
   exact hor
  | some b =>
   obtain ⟨h0, cur, vs, rest, hrow, hcl, hrl⟩ := hor
   exact ⟨hl.ones h0, cur, vs, rest, hrow, hcl, hl.rep hrl⟩
 refine ⟨μ, _, h, ⟨hs.size, h1.le fun j x => ?_, hs.slot, hs.marks, hs.ro⟩, Evo.refl w μ⟩
 simp only [hget, hget_hset]
section
variable {P : Program} {ro : Option Nat} {N : Nat} {all : Array Oper} {s : AS} {rest : List Oper} {o : Oper} {K : AS → Prop} {fid : Nat} {sl : List (Nat × HV)} {H : Heap}
theorem AOps.to {is : List Nat} (h : s.to (AOps P ro N all is K)) : AOps P ro N all is K s := fun w0 μ0 μ a w Q hs hE hK => by
 obtain ⟨μ1, t, ht, hs1, E1⟩ := h ro N w0.heap.size μ a w hs
 exact ht w0 μ0 μ1 a w Q hs1 (hE.trans E1) hK
theorem b_to {l : List Oper} (h : s.to (bops P ro N all l K)) : bops P ro N all l K s := fun hok i hi => AOps.to (to_mono h fun t ht => ht hok i hi)
end
section
variable {P : Program} {s : AS}
theorem v_arrP {t e : TypeId} {len a b : Nat} {z : Value} {x i : Operand} {k id ver off : Nat} {o : AObj} {k' : IntKind} {j : Int} (hT : ty P t = some ⟨.array len e, a, b, z⟩) (hE : elemSize P t = some k) (hx : s.ev x = some (.ptr id ver off)) (hi : s.ev i = some (.int k' j)) (hj : 0 ≤ j ∧ j < len) (hg : hget s.heap id = some (ver, o)) :
  aval P (.indexAddr t x i) s (· = .ptr id ver (off + j.toNat * k)) := by
 simp only [aval, hT, hE, hx, hi]
 exact ⟨hj.1, hj.2, by simp only [alive, hg], trivial⟩
theorem v_arrPc (c : Nat) {t e : TypeId} {len a b : Nat} {z : Value} {x i : Operand} {k id ver off : Nat} {o : AObj} {k' : IntKind} {j : Int} (hT : ty P t = some ⟨.array len e, a, b, z⟩) (hE : elemSize P t = some k) (hx : s.ev x = some (.ptr id ver off)) (hi : s.ev i = some (.int k' j)) (hj : j = (c : Int)) (hc : c < len) (hg : hget s.heap id = some (ver, o)) :
  aval P (.indexAddr t x i) s (· = .ptr id ver (off + c * k)) := by
 subst hj
 exact v_arrP hT hE hx hi ⟨by omega, by omega⟩ hg
end
section
variable {P : Program} {ro : Option Nat} {N B : Nat} {s : AS} {all : Array Oper} {rest : List Oper} {o : Oper} {K : AS → Prop} {sl : List (Nat × HV)} {H : Heap}
end
structure Lq {α : Type} (x y : Option α) : Prop where
 ap : ∀ r, x = some r → y = some r
theorem Lq.refl {α : Type} (x : Option α) : Lq x x := ⟨fun _ h => h⟩
theorem Lq.none {α : Type} {y : Option α} : Lq Option.none y := ⟨fun _ h => by cases h⟩
theorem Lq.bind {α β : Type} {x y : Option α} {f g : α → Option β} (h : Lq x y) (hk : ∀ a, Lq (f a) (g a)) : Lq (x.bind f) (y.bind g) := by
 refine ⟨fun r hr => ?_⟩
 obtain ⟨a, ha, hf⟩ := bS hr
 rw [h.ap a ha]
 exact (hk a).ap r hf
theorem Lq.jp {S R : Type} {M M' : S → Option R} {B B' : (S → Option R) → Option R} (hM : ∀ a, Lq (M a) (M' a)) (hB : ∀ k k' : S → Option R, (∀ a, Lq (k a) (k' a)) → Lq (B k) (B' k')) : Lq (Go.AW.jp M B) (Go.AW.jp M' B') := hB _ _ hM
theorem iter_mono {S X : Type} {f g : S → Option (Stp S X)} (h : ∀ s, Lq (f s) (g s)) : ∀ (n : Nat) (s : S) (r : X), iter f n s = some r → iter g n s = some r
 | 0, _, _, hr => hr
 | n + 1, s, r, hr => by
  simp only [iter] at hr ⊢
  split at hr
  ·rename_i s' hs
   rw [(h s).ap _ hs]
   exact iter_mono h n s' r hr
  ·rename_i x hs
   rw [(h s).ap _ hs]
   exact hr
  cases hr
def loopE {S X : Type} (body : S → Option (Stp S X)) (s : S) : Option X := iter body 1000000 s
theorem Lq.loop {S X : Type} {f g : S → Option (Stp S X)} {s : S} (h : ∀ s, Lq (f s) (g s)) : Lq (loopE f s) (loopW g s) := ⟨fun r hr => loopW_of (iter_mono h _ s r hr)⟩
theorem Lq.lpO {V R Y : Type} {x y : Option (Ou V R)} {M M' : V → Option Y} {Rt Rt' : R → Option Y} (h : Lq x y) (hM : ∀ v, Lq (M v) (M' v)) (hR : ∀ r, Lq (Rt r) (Rt' r)) : Lq (Go.AW.lpO x M Rt) (Go.AW.lpO y M' Rt') := by
 refine ⟨fun r hr => ?_⟩
 unfold Go.AW.lpO at hr ⊢
 split at hr
 ·rename_i v
  rw [h.ap _ rfl]; exact (hM v).ap r hr
 ·rename_i v
  rw [h.ap _ rfl]; exact (hR v).ap r hr
 cases hr
theorem forL_mono {S α X : Type} {f g : S → α → Option (Stp S X)} (h : ∀ s a, Lq (f s a) (g s a)) : ∀ (l : List α) (s : S) (r : Ou S X), forL f l s = some r → forL g l s = some r
 | [], _, _, hr => hr
 | x :: l, s, r, hr => by
  simp only [forL] at hr ⊢
  split at hr
  ·rename_i s' hs
   rw [(h s x).ap _ hs]
   exact forL_mono h l s' r hr
  ·rename_i y hs
   rw [(h s x).ap _ hs]
   exact hr
  cases hr
theorem Lq.forL {S α X : Type} {f g : S → α → Option (Stp S X)} {l : List α} {s : S} (h : ∀ s a, Lq (f s a) (g s a)) : Lq (Go.AW.forL f l s) (Go.AW.forL g l s) := ⟨forL_mono h l s⟩
section
variable {α : Type} {en : EncL α} {et : TypeId}
structure InvG (b np sp : Nat) (base : List (Nat × HV)) (val : Nat → Nat → HV) (H0 : Heap) (H1 : Nat → Heap) (v' : Nat) (L : List Nat) (s : AS) : Prop where
 base : ∀ p ∈ base, sget s.slots p.1 = some p.2
 val : ∀ k ∈ L, k < np → sget s.slots (b + k) = some (val v' k)
 heap : ∀ id x, hget (if sp ∈ L then H1 v' else H0) id = some x → hget s.heap id = some x
theorem sget_putB {b i : Nat} {hv : HV} {sl : List (Nat × HV)} {t : Nat} (h : t ≠ b + i) : sget ((b + i, hv) :: sl) t = sget sl t := by simp only [sget]; rw [if_neg h]
theorem InvG.put {b np sp : Nat} {base : List (Nat × HV)} {val : Nat → Nat → HV} {H0 : Heap} {H1 : Nat → Heap} {v' : Nat} {L : List Nat} {sl : List (Nat × HV)} {H : Heap} (h : InvG b np sp base val H0 H1 v' L ⟨sl, H⟩) (hb : ∀ p ∈ base, p.1 < b) {i : Nat} (hi : i ≠ sp) {hv : HV} (hval : val v' i = hv) : InvG b np sp base val H0 H1 v' (i :: L) ⟨(b + i, hv) :: sl, H⟩ where
 base := fun p hp => by
  have := hb p hp
  show sget ((b + i, hv) :: sl) p.1 = _
  rw [sget_putB (by omega)]
  exact h.base p hp
 val := fun k hk h12 => by
  show sget ((b + i, hv) :: sl) (b + k) = _
  by_cases e : k = i
  ·subst e
   simp only [sget, if_true, hval]
  rw [sget_putB (by omega)]
  rcases List.mem_cons.1 hk with h1 | h1
  ·exact absurd h1 e
  exact h.val k h1 h12
 heap := fun id x hx => by
  refine h.heap id x ?_
  have : (sp ∈ i :: L) ↔ sp ∈ L := by
   rw [List.mem_cons]
   exact ⟨fun h => h.elim (fun e => absurd e.symm hi) (fun h => h), .inr⟩
  by_cases h11 : sp ∈ L
  ·rw [if_pos (this.2 h11)] at hx
   rw [if_pos h11]; exact hx
  rw [if_neg (fun h => h11 (this.1 h))] at hx
  rw [if_neg h11]; exact hx
end
end Go.AW
namespace Go.AW
open Go
set_option linter.unusedVariables false
structure InvT (b np : Nat) (base : List (Nat × HV)) (val : Nat → HV) (Hp : Heap → Prop) (L : List Nat) (s : AS) : Prop where
 base : ∀ p ∈ base, sget s.slots p.1 = some p.2
 val : ∀ k ∈ L, k < np → sget s.slots (b + k) = some (val k)
 heap : Hp s.heap
theorem InvT.put {b np : Nat} {base : List (Nat × HV)} {val : Nat → HV} {Hp : Heap → Prop} {L : List Nat} {sl : List (Nat × HV)} {H H' : Heap} (h : InvT b np base val Hp L ⟨sl, H⟩) (hb : ∀ p ∈ base, p.1 < b) {i : Nat} {hv : HV} (hval : val i = hv) (hH : Hp H') : InvT b np base val Hp (i :: L) ⟨(b + i, hv) :: sl, H'⟩ where
 base := fun p hp => by
  have := hb p hp
  show sget ((b + i, hv) :: sl) p.1 = _
  rw [sget_putB (by omega)]
  exact h.base p hp
 val := fun k hk h12 => by
  show sget ((b + i, hv) :: sl) (b + k) = _
  by_cases e : k = i
  ·subst e
   simp only [sget, if_true, hval]
  rw [sget_putB (by omega)]
  rcases List.mem_cons.1 hk with h1 | h1
  ·exact absurd h1 e
  exact h.val k h1 h12
 heap := hH
end Go.AW
namespace Go.AW
open Go
end Go.AW
namespace Go.AW
open Go
section
variable {w : World} {μ μ' : Mu}
structure Near (μ μ' : Mu) : Prop where
 live : ∀ id ver b, μ.loc id = some (ver, b) → μ'.loc id = some (ver, b) ∨ μ'.dead id ver
 dead : ∀ id ver, μ.dead id ver → μ'.dead id ver
 owns : ∀ b, ¬ μ.owns b → ¬ μ'.owns b
 back : ∀ id ver b, μ'.loc id = some (ver, b) → ver < μ.nx → μ.loc id = some (ver, b)
 nx : μ.nx ≤ μ'.nx
mutual
theorem Rep.near (N : Near μ μ') : ∀ (hv : HV) (val : Value), Rep w μ hv val → Rep w μ' hv val
 | .int _ _, _, h => h
 | .bool _, _, h => h
 | .str _, _, h => h
 | .v _, _, h => h
 | .agg cs, _, ⟨h1, vs, e, h⟩ => ⟨h1, vs, e, RepL.near N cs vs h⟩
 | .tup cs, _, ⟨vs, e, h⟩ => ⟨vs, e, RepL.near N cs vs h⟩
 | .sl _ _ cs, _, ⟨h1, hl, hm, h⟩ => ⟨h1, hl, hm, h.imp id fun ⟨b, off, cap, vs, e, hn, ho, hs, hr⟩ => ⟨b, off, cap, vs, e, hn, N.owns b ho, hs, RepL.near N cs vs hr⟩⟩
 | .ar id ver k off n, val, h => by
  rcases h with ⟨l, hl, h⟩ | ⟨hd, h⟩
  ·rcases N.live id ver l hl with hl' | hd
   ·exact .inl ⟨l, hl', h⟩
   refine .inr ⟨hd, ?_⟩
   rcases h with ⟨_, rfl, _⟩ | ⟨b, cap, cur, e, rfl, rfl, _⟩
   ·exact ⟨_, _, _, rfl⟩
   exact ⟨_, _, _, rfl⟩
  exact .inr ⟨N.dead _ _ hd, h⟩
 | .ptr id ver off, val, h => by
  rcases h with ⟨b, hl, rfl⟩ | ⟨hd, h⟩
  ·rcases N.live id ver _ hl with hl' | hd
   ·exact .inl ⟨b, hl', rfl⟩
   exact .inr ⟨hd, _, rfl⟩
  exact .inr ⟨N.dead _ _ hd, h⟩
 | .fptr cs _, _, ⟨h1, b, base, vs, e, ho, hs, hr⟩ => ⟨h1, b, base, vs, e, N.owns b ho, hs, RepL.near N cs vs hr⟩
 | .fn _ fs cs, _, ⟨us, vs, e, h1, h2⟩ => ⟨us, vs, e, RepL.near N fs us h1, RepL.near N cs vs h2⟩
 | .mp id ver, val, h => by
  rcases h with ⟨b, hl, rfl⟩ | ⟨hd, h⟩
  ·rcases N.live id ver _ hl with hl' | hd
   ·exact .inl ⟨b, hl', rfl⟩
   exact .inr ⟨hd, _, rfl⟩
  exact .inr ⟨N.dead _ _ hd, h⟩
 | .yl id ver, val, h => by
  rcases h with ⟨b, hl, rfl⟩ | ⟨hd, h⟩
  ·rcases N.live id ver _ hl with hl' | hd
   ·exact .inl ⟨b, hl', rfl⟩
   exact .inr ⟨hd, _, rfl⟩
  exact .inr ⟨N.dead _ _ hd, h⟩
 | .it id ver, val, h => by
  rcases h with ⟨b, hl, rfl⟩ | ⟨hd, h⟩
  ·rcases N.live id ver _ hl with hl' | hd
   ·exact .inl ⟨b, hl', rfl⟩
   exact .inr ⟨hd, _, rfl⟩
  exact .inr ⟨N.dead _ _ hd, h⟩
theorem RepL.near (N : Near μ μ') : ∀ (cs : List HV) (vs : List Value), RepL w μ cs vs → RepL w μ' cs vs
 | [], _, h => h
 | c :: cs, _, ⟨x, xs, e, h1, h2⟩ => ⟨x, xs, e, Rep.near N c x h1, RepL.near N cs xs h2⟩
end
theorem OR.near (N : Near μ μ') {o : AObj} {l : Option Nat} (h : OR w μ o l) : OR w μ' o l := by
 cases l with
 | none => cases o <;> exact h
 | some b =>
  cases o with
  | arr k e cs =>
   obtain ⟨h0, cur, vs, rest, h1, h2, h3⟩ := h
   exact ⟨h0, cur, vs, rest, h1, h2, RepL.near N _ _ h3⟩
  | map es =>
   obtain ⟨ents, clock, h1, h2, h3, h4, h5⟩ := h
   exact ⟨ents, clock, h1, h2, RepL.near N _ _ h3, h4, h5⟩
  | iter mid mver seen cur =>
   obtain ⟨h0, mb, since, sn, last, h1, h2⟩ := h
   exact ⟨Nat.lt_of_lt_of_le h0 N.nx, mb, since, sn, last, h1, fun l hl' => h2 l (N.back _ _ _ hl' h0)⟩
  | loop st pend f n snap ps assign body =>
   obtain ⟨tmps, dfr, h1, h2, h3⟩ := h
   exact ⟨tmps, dfr, h1, h2, fun t hv ht => ⟨(h3 t hv ht).1, Rep.near N _ _ (h3 t hv ht).2⟩⟩
  | kmap es => exact h
end
section
variable {P : Program} {ro : Option Nat} {N : Nat}
end
end Go.AW
namespace Go.AW
open Go
end Go.AW
namespace Go.AW
open Go
section
variable {w w' : World} {μ : Mu} {H : Heap}
end
section
variable {P : Program} {ro : Option Nat} {N B : Nat} {s : AS} {all : Array Oper} {rest : List Oper} {o : Oper} {K : AS → Prop} {sl : List (Nat × HV)} {H : Heap}
end
open Go.Proofs
set_option maxHeartbeats 1600000
set_option maxRecDepth 100000
set_option linter.unusedVariables false
theorem w_ref09_Great {p0 : TLabelsStatesEdges} {r : Bool} (h : m_ref09_Great p0 = some r) : Pure Tryz.prog 24 [gA p0] (· = HV.bool r) := by
 unfold m_ref09_Great at h
 refine Pure.of_body Tryz.func24 rfl rfl (lb rfl) fun hf => ?_
 unfold Tryz.f24
 dsimp only [enumS, Nat.reduceAdd]
 refine AW.rgs rfl fun K hK => b_op rfl (o_box rfl rfl rfl ?_)
 refine mv rfl rfl ?_
 refine bf hK ⟨[(1, gF p0)], []⟩ ?_
 refine AW.seqJ h (S := Bool) (V := Unit) (fun a v => ⟨[(2, .bool a)], []⟩) (fun a1 w2 h => ?_) (fun k3 h => ?_)
 ·obtain rfl := oi h
  exact AW.ret (ret_pure (.inr rfl) (resT rfl rfl) rfl trivial)
 refine AW.rg rfl fun K hK => bv rfl (v_fieldAddrF fo24_2 rfl) (bv rfl (v_loadF ty22 rfl (l_lit rfl rfl)) (bv rfl (v_lenF rfl rfl ty22 rfl) (bv rfl (v_bin rfl rfl b_gtr) (mv rfl rfl ?_))))
 by_cases hg5 : 30 < ((p0.2.2).length : Int)
 ·have h := ifT hg5 h
  refine b_F rfl rfl rfl rfl rfl (decide_eq_true hg5) ?_
  iterate 3 refine b_F rfl rfl rfl rfl rfl rfl ?_
  refine b_U rfl rfl rfl rfl rfl ?_
  refine b_U rfl rfl rfl rfl rfl ?_
  refine b_U rfl rfl rfl rfl rfl ?_
  refine b_F rfl rfl rfl rfl rfl rfl ?_
  refine bv rfl (v_pickT rfl rfl rfl) (mv rfl rfl ?_)
  refine b_nil (hK _ ?_)
  exact to_L ⟨true, (), h, rfl⟩
 have h := ifF hg5 h
 refine b_T rfl rfl rfl rfl (decide_eq_false hg5) (o_val rfl (v_fieldAddrF fo24_1 rfl) ?_)
 refine b_T rfl rfl rfl rfl rfl (o_val rfl (v_loadF ty3 rfl (l_lit rfl rfl)) ?_)
 refine b_T rfl rfl rfl rfl rfl (o_val rfl (v_bin rfl rfl b_gtr) ?_)
 refine b_T rfl rfl rfl rfl rfl (o_val rfl (mv_val rfl rfl).2 ?_)
 by_cases hg4 : 10 < p0.2.1
 ·have h := ifT hg4 h
  refine b_T rfl rfl rfl rfl (decide_eq_true hg4) (o_val rfl (v_fieldAddrF fo24_1 rfl) ?_)
  refine b_T rfl rfl rfl rfl rfl (o_val rfl (v_loadF ty3 rfl (l_lit rfl rfl)) ?_)
  refine b_T rfl rfl rfl rfl rfl (o_val rfl (v_bin rfl rfl b_leq) ?_)
  refine b_T rfl rfl rfl rfl rfl (o_val rfl (v_pickT rfl rfl rfl) ?_)
  refine bv rfl (v_pickF rfl rfl rfl) (mv rfl rfl ?_)
  refine b_nil (hK _ ?_)
  exact to_L ⟨decide (p0.2.1 ≤ 64), (), h, rfl⟩
 have h := ifF hg4 h
 refine b_F rfl rfl rfl rfl rfl (decide_eq_false hg4) ?_
 iterate 2 refine b_F rfl rfl rfl rfl rfl rfl ?_
 refine b_T rfl rfl rfl rfl rfl (o_val rfl (v_pickF rfl rfl rfl) ?_)
 refine bv rfl (v_pickF rfl rfl rfl) (mv rfl rfl ?_)
 refine b_nil (hK _ ?_)
 exact to_L ⟨false, (), h, rfl⟩
theorem w_ref13_Great {p0 : TLabelsStatesEdges} {r : Bool} (h : m_ref13_Great p0 = some r) : Pure Tryz.prog 11 [gA p0] (· = HV.bool r) := by
 unfold m_ref13_Great at h
 refine Pure.of_body Tryz.func11 rfl rfl (lb rfl) fun hf => ?_
 unfold Tryz.f11
 dsimp only [enumS, Nat.reduceAdd]
 refine AW.rgs rfl fun K hK => b_op rfl (o_box rfl rfl rfl ?_)
 refine mv rfl rfl ?_
 refine bf hK ⟨[(1, gF p0)], []⟩ ?_
 refine AW.seqJ h (S := Bool) (V := Unit) (fun a v => ⟨[(2, .bool a)], []⟩) (fun a1 w2 h => ?_) (fun k3 h => ?_)
 ·obtain rfl := oi h
  exact AW.ret (ret_pure (.inr rfl) (resT rfl rfl) rfl trivial)
 refine AW.rg rfl fun K hK => bv rfl (v_loadF ty24 rfl (l_litA rfl (lb rfl) rfl)) ?_
 obtain ⟨x4, h5, h⟩ := bS h
 refine b_op rfl (o_call rfl rfl rfl rfl (ACallD.pure0 (w_ref09_Great h5)) ?_)
 refine mv rfl rfl ?_
 by_cases hg11 : x4 = true
 ·have h := ifT hg11 h
  refine b_F rfl rfl rfl rfl rfl hg11 ?_
  iterate 3 refine b_F rfl rfl rfl rfl rfl rfl ?_
  refine bv rfl (v_pickT rfl rfl rfl) (mv rfl rfl ?_)
  iterate 4 refine b_F rfl rfl rfl rfl rfl rfl ?_
  refine b_U rfl rfl rfl rfl rfl ?_
  refine b_U rfl rfl rfl rfl rfl ?_
  refine b_U rfl rfl rfl rfl rfl ?_
  refine b_F rfl rfl rfl rfl rfl rfl ?_
  refine bv rfl (v_pickT rfl rfl rfl) (mv rfl rfl ?_)
  iterate 4 refine b_F rfl rfl rfl rfl rfl rfl ?_
  refine b_U rfl rfl rfl rfl rfl ?_
  refine b_U rfl rfl rfl rfl rfl ?_
  refine b_U rfl rfl rfl rfl rfl ?_
  refine b_F rfl rfl rfl rfl rfl rfl ?_
  refine bv rfl (v_pickT rfl rfl rfl) (mv rfl rfl ?_)
  refine b_nil (hK _ ?_)
  exact to_L ⟨true, (), h, rfl⟩
 have h := ifF hg11 h
 refine b_T rfl rfl rfl rfl (bF hg11) (o_val rfl (v_fieldAddrF fo24_2 rfl) ?_)
 refine b_T rfl rfl rfl rfl rfl (o_val rfl (v_loadF ty22 rfl (l_lit rfl rfl)) ?_)
 refine b_T rfl rfl rfl rfl rfl (o_val rfl (v_lenF rfl rfl ty22 rfl) ?_)
 refine b_T rfl rfl rfl rfl rfl (o_val rfl (v_bin rfl rfl b_gtr) ?_)
 refine bv rfl (v_pickF rfl rfl rfl) (mv rfl rfl ?_)
 by_cases hg10 : 20 < ((p0.2.2).length : Int)
 ·have h := ifT hg10 h
  refine b_F rfl rfl rfl rfl rfl (decide_eq_true hg10) ?_
  iterate 3 refine b_F rfl rfl rfl rfl rfl rfl ?_
  refine b_U rfl rfl rfl rfl rfl ?_
  refine b_U rfl rfl rfl rfl rfl ?_
  refine b_U rfl rfl rfl rfl rfl ?_
  refine b_F rfl rfl rfl rfl rfl rfl ?_
  refine bv rfl (v_pickT rfl rfl rfl) (mv rfl rfl ?_)
  iterate 4 refine b_F rfl rfl rfl rfl rfl rfl ?_
  refine b_U rfl rfl rfl rfl rfl ?_
  refine b_U rfl rfl rfl rfl rfl ?_
  refine b_U rfl rfl rfl rfl rfl ?_
  refine b_F rfl rfl rfl rfl rfl rfl ?_
  refine bv rfl (v_pickT rfl rfl rfl) (mv rfl rfl ?_)
  refine b_nil (hK _ ?_)
  exact to_L ⟨true, (), h, rfl⟩
 have h := ifF hg10 h
 refine b_T rfl rfl rfl rfl (decide_eq_false hg10) (o_val rfl (v_fieldAddrF fo24_1 rfl) ?_)
 refine b_T rfl rfl rfl rfl rfl (o_val rfl (v_loadF ty3 rfl (l_lit rfl rfl)) ?_)
 refine b_T rfl rfl rfl rfl rfl (o_val rfl (v_bin rfl rfl b_gtr) ?_)
 refine b_T rfl rfl rfl rfl rfl (o_val rfl (mv_val rfl rfl).2 ?_)
 by_cases hg9 : 6 < p0.2.1
 ·have h := ifT hg9 h
  refine b_T rfl rfl rfl rfl (decide_eq_true hg9) (o_val rfl (v_fieldAddrF fo24_1 rfl) ?_)
  refine b_T rfl rfl rfl rfl rfl (o_val rfl (v_loadF ty3 rfl (l_lit rfl rfl)) ?_)
  refine b_T rfl rfl rfl rfl rfl (o_val rfl (v_bin rfl rfl b_leq) ?_)
  refine b_T rfl rfl rfl rfl rfl (o_val rfl (v_pickT rfl rfl rfl) ?_)
  refine bv rfl (v_pickF rfl rfl rfl) (mv rfl rfl ?_)
  by_cases hg7 : p0.2.1 ≤ 64
  ·have h := ifT hg7 h
   refine b_F rfl rfl rfl rfl rfl (decide_eq_true hg7) ?_
   iterate 3 refine b_F rfl rfl rfl rfl rfl rfl ?_
   refine b_U rfl rfl rfl rfl rfl ?_
   refine b_U rfl rfl rfl rfl rfl ?_
   refine b_U rfl rfl rfl rfl rfl ?_
   refine b_F rfl rfl rfl rfl rfl rfl ?_
   refine bv rfl (v_pickT rfl rfl rfl) (mv rfl rfl ?_)
   refine b_nil (hK _ ?_)
   exact to_L ⟨true, (), h, rfl⟩
  have h := ifF hg7 h
  refine b_T rfl rfl rfl rfl (decide_eq_false hg7) (o_val rfl (v_fieldAddrF fo24_0 rfl) ?_)
  refine b_T rfl rfl rfl rfl rfl (o_val rfl (v_loadF ty3 rfl (l_lit rfl rfl)) ?_)
  refine b_T rfl rfl rfl rfl rfl (o_val rfl (v_bin rfl rfl b_gtr) ?_)
  refine b_T rfl rfl rfl rfl rfl (o_val rfl (mv_val rfl rfl).2 ?_)
  by_cases hg6 : 8 < p0.1
  ·have h := ifT hg6 h
   refine b_T rfl rfl rfl rfl (decide_eq_true hg6) (o_val rfl (v_fieldAddrF fo24_0 rfl) ?_)
   refine b_T rfl rfl rfl rfl rfl (o_val rfl (v_loadF ty3 rfl (l_lit rfl rfl)) ?_)
   refine b_T rfl rfl rfl rfl rfl (o_val rfl (v_bin rfl rfl b_leq) ?_)
   refine b_T rfl rfl rfl rfl rfl (o_val rfl (v_pickT rfl rfl rfl) ?_)
   refine bv rfl (v_pickF rfl rfl rfl) (mv rfl rfl ?_)
   refine b_nil (hK _ ?_)
   exact to_L ⟨decide (p0.1 ≤ 256), (), h, rfl⟩
  have h := ifF hg6 h
  refine b_F rfl rfl rfl rfl rfl (decide_eq_false hg6) ?_
  iterate 2 refine b_F rfl rfl rfl rfl rfl rfl ?_
  refine b_T rfl rfl rfl rfl rfl (o_val rfl (v_pickF rfl rfl rfl) ?_)
  refine bv rfl (v_pickF rfl rfl rfl) (mv rfl rfl ?_)
  refine b_nil (hK _ ?_)
  exact to_L ⟨false, (), h, rfl⟩
 have h := ifF hg9 h
 refine b_F rfl rfl rfl rfl rfl (decide_eq_false hg9) ?_
 iterate 2 refine b_F rfl rfl rfl rfl rfl rfl ?_
 refine b_T rfl rfl rfl rfl rfl (o_val rfl (v_pickF rfl rfl rfl) ?_)
 refine bv rfl (v_pickF rfl rfl rfl) (mv rfl rfl ?_)
 refine b_T rfl rfl rfl rfl rfl (o_val rfl (v_fieldAddrF fo24_0 rfl) ?_)
 refine b_T rfl rfl rfl rfl rfl (o_val rfl (v_loadF ty3 rfl (l_lit rfl rfl)) ?_)
 refine b_T rfl rfl rfl rfl rfl (o_val rfl (v_bin rfl rfl b_gtr) ?_)
 refine b_T rfl rfl rfl rfl rfl (o_val rfl (mv_val rfl rfl).2 ?_)
 by_cases hg8 : 8 < p0.1
 ·have h := ifT hg8 h
  refine b_T rfl rfl rfl rfl (decide_eq_true hg8) (o_val rfl (v_fieldAddrF fo24_0 rfl) ?_)
  refine b_T rfl rfl rfl rfl rfl (o_val rfl (v_loadF ty3 rfl (l_lit rfl rfl)) ?_)
  refine b_T rfl rfl rfl rfl rfl (o_val rfl (v_bin rfl rfl b_leq) ?_)
  refine b_T rfl rfl rfl rfl rfl (o_val rfl (v_pickT rfl rfl rfl) ?_)
  refine bv rfl (v_pickF rfl rfl rfl) (mv rfl rfl ?_)
  refine b_nil (hK _ ?_)
  exact to_L ⟨decide (p0.1 ≤ 256), (), h, rfl⟩
 have h := ifF hg8 h
 refine b_F rfl rfl rfl rfl rfl (decide_eq_false hg8) ?_
 iterate 2 refine b_F rfl rfl rfl rfl rfl rfl ?_
 refine b_T rfl rfl rfl rfl rfl (o_val rfl (v_pickF rfl rfl rfl) ?_)
 refine bv rfl (v_pickF rfl rfl rfl) (mv rfl rfl ?_)
 refine b_nil (hK _ ?_)
 exact to_L ⟨false, (), h, rfl⟩
theorem w_top_top27Few {p0 : TLabelsStatesEdges} {r : Bool} (h : m_top_top27Few p0 = some r) : Pure Tryz.prog 4 [gA p0] (· = HV.bool r) := by
 unfold m_top_top27Few at h
 refine Pure.of_body Tryz.func4 rfl rfl (lb rfl) fun hf => ?_
 unfold Tryz.f4
 dsimp only [enumS, Nat.reduceAdd]
 refine AW.rgs rfl fun K hK => b_op rfl (o_box rfl rfl rfl ?_)
 refine mv rfl rfl ?_
 refine bf hK ⟨[(1, gF p0)], []⟩ ?_
 refine AW.seqJ h (S := Bool) (V := Unit) (fun a v => ⟨[(2, .bool a)], []⟩) (fun a1 w2 h => ?_) (fun k3 h => ?_)
 ·obtain rfl := oi h
  exact AW.ret (ret_pure (.inr rfl) (resT rfl rfl) rfl trivial)
 refine AW.rg rfl fun K hK => bv rfl (v_fieldAddrF fo24_1 rfl) (bv rfl (v_loadF ty3 rfl (l_lit rfl rfl)) (bv rfl (v_bin rfl rfl b_leq) (mv rfl rfl ?_)))
 by_cases hg11 : p0.2.1 ≤ 4
 ·have h := ifT hg11 h
  refine b_T rfl rfl rfl rfl (decide_eq_true hg11) (o_val rfl (v_fieldAddrF fo24_0 rfl) ?_)
  refine b_T rfl rfl rfl rfl rfl (o_val rfl (v_loadF ty3 rfl (l_lit rfl rfl)) ?_)
  refine b_T rfl rfl rfl rfl rfl (o_val rfl (v_bin rfl rfl b_leq) ?_)
  refine bv rfl (v_pickT rfl rfl rfl) (mv rfl rfl ?_)
  by_cases hg10 : p0.1 ≤ 3
  ·have h := ifT hg10 h
   refine b_T rfl rfl rfl rfl (decide_eq_true hg10) (o_val rfl (v_fieldAddrF fo24_2 rfl) ?_)
   refine b_T rfl rfl rfl rfl rfl (o_val rfl (v_loadF ty22 rfl (l_lit rfl rfl)) ?_)
   refine b_T rfl rfl rfl rfl rfl (o_val rfl (v_lenF rfl rfl ty22 rfl) ?_)
   refine b_T rfl rfl rfl rfl rfl (o_val rfl (v_bin rfl rfl b_leq) ?_)
   refine bv rfl (v_pickT rfl rfl rfl) (mv rfl rfl ?_)
   by_cases hg9 : ((p0.2.2).length : Int) ≤ 14
   ·have h := ifT hg9 h
    refine b_T rfl rfl rfl rfl (decide_eq_true hg9) (o_val rfl (v_loadF ty24 rfl (l_litA rfl (lb rfl) rfl)) ?_)
    obtain ⟨x4, h5, h⟩ := bS h
    refine b_T rfl rfl rfl rfl rfl (o_call rfl rfl rfl rfl (ACallD.pure0 (w_graph_Check h5)) ?_)
    refine b_T rfl rfl rfl rfl rfl (o_val rfl (v_bin rfl rfl b_eql) ?_)
    refine bv rfl (v_pickT rfl rfl rfl) (mv rfl rfl ?_)
    by_cases hg8 : x4 = 0
    ·have h := ifT hg8 h
     refine b_T rfl rfl rfl rfl (decide_eq_true hg8) (o_val rfl (v_loadF ty24 rfl (l_litA rfl (lb rfl) rfl)) ?_)
     obtain ⟨x6, h7, h⟩ := bS h
     refine b_T rfl rfl rfl rfl rfl (o_call rfl rfl rfl rfl (ACallD.pure0 (w_ref13_Great h7)) ?_)
     refine b_T rfl rfl rfl rfl rfl (o_val rfl (v_not rfl) ?_)
     refine bv rfl (v_pickT rfl rfl rfl) (mv rfl rfl ?_)
     refine b_nil (hK _ ?_)
     exact to_L ⟨!x6, (), h, rfl⟩
    have h := ifF hg8 h
    refine b_F rfl rfl rfl rfl rfl (decide_eq_false hg8) ?_
    iterate 2 refine b_F rfl rfl rfl rfl rfl rfl ?_
    refine bv rfl (v_pickF rfl rfl rfl) (mv rfl rfl ?_)
    refine b_nil (hK _ ?_)
    exact to_L ⟨false, (), h, rfl⟩
   have h := ifF hg9 h
   refine b_F rfl rfl rfl rfl rfl (decide_eq_false hg9) ?_
   iterate 2 refine b_F rfl rfl rfl rfl rfl rfl ?_
   refine bv rfl (v_pickF rfl rfl rfl) (mv rfl rfl ?_)
   iterate 3 refine b_F rfl rfl rfl rfl rfl rfl ?_
   refine bv rfl (v_pickF rfl rfl rfl) (mv rfl rfl ?_)
   refine b_nil (hK _ ?_)
   exact to_L ⟨false, (), h, rfl⟩
  have h := ifF hg10 h
  refine b_F rfl rfl rfl rfl rfl (decide_eq_false hg10) ?_
  iterate 3 refine b_F rfl rfl rfl rfl rfl rfl ?_
  refine bv rfl (v_pickF rfl rfl rfl) (mv rfl rfl ?_)
  iterate 3 refine b_F rfl rfl rfl rfl rfl rfl ?_
  refine bv rfl (v_pickF rfl rfl rfl) (mv rfl rfl ?_)
  iterate 3 refine b_F rfl rfl rfl rfl rfl rfl ?_
  refine bv rfl (v_pickF rfl rfl rfl) (mv rfl rfl ?_)
  refine b_nil (hK _ ?_)
  exact to_L ⟨false, (), h, rfl⟩
 have h := ifF hg11 h
 refine b_F rfl rfl rfl rfl rfl (decide_eq_false hg11) ?_
 iterate 2 refine b_F rfl rfl rfl rfl rfl rfl ?_
 refine bv rfl (v_pickF rfl rfl rfl) (mv rfl rfl ?_)
 iterate 4 refine b_F rfl rfl rfl rfl rfl rfl ?_
 refine bv rfl (v_pickF rfl rfl rfl) (mv rfl rfl ?_)
 iterate 3 refine b_F rfl rfl rfl rfl rfl rfl ?_
 refine bv rfl (v_pickF rfl rfl rfl) (mv rfl rfl ?_)
 iterate 3 refine b_F rfl rfl rfl rfl rfl rfl ?_
 refine bv rfl (v_pickF rfl rfl rfl) (mv rfl rfl ?_)
 refine b_nil (hK _ ?_)
 exact to_L ⟨false, (), h, rfl⟩
theorem w_subset_key {p0 : List (Int)} {r : (List UInt8)} (h : m_subset_key p0 = some r) : Pure Tryz.prog 37 [slE eInt p0] (· = HV.str r) := by
 unfold m_subset_key at h
 refine Pure.of_body Tryz.func37 rfl rfl (lb rfl) fun hf => ?_
 unfold Tryz.f37
 dsimp only [enumS, Nat.reduceAdd]
 refine AW.rgs rfl fun K hK => mv rfl rfl ?_
 refine bf hK ⟨[(0, slE eInt p0)], []⟩ ?_
 refine AW.rgs rfl fun K hK => b_op rfl (o_alloc (fid := 37) (zs := [.v (.pointer none), .v (.slice none 0 0)]) 37003 rfl rfl ty97 rfl (fun v1 => ?_))
 refine b_to (to_ownC 37503 37003 v1 2 1 1 5 97 rfl rfl (by decide) fun v2 => ?_)
 let P1 : ASf := fun t H => ⟨t, (37003, v1, bldO 37003 v1 37503 v2 false nS) :: (37503, v2, bytO nS) :: H⟩
 refine bf hK (P1 [(0, slE eInt p0), (3, .ptr 37003 v1 0)] []) ?_
 refine AW.seq ?_
 refine AW.rgs rfl fun K hK => mv rfl rfl (bv rfl (v_lenF rfl rfl ty27 rfl) (mv rfl rfl ?_))
 let E1 : Nat × HV := (7, hI ((p0).length : Int))
 refine bf hK (P1 [(3, .ptr 37003 v1 0), (6, slE eInt p0), E1, (8, hI 0)] []) ?_
 let P2 : ASf := fun t H => ⟨(3, .ptr 37003 v1 0) :: (6, slE eInt p0) :: E1 :: t, H⟩
 refine AW.lpX h (by first | exact up_then | exact up_to) (S := Int × (List UInt8)) (V := Bool × Nat) (fun a v => (P2 [(8, hI a.1)] [(37003, v1, bldO 37003 v1 37503 v.2 v.1 a.2), (37503, v.2, bytO a.2)])) ?_ (X := (List UInt8)) (W := Bool × Nat) (fun a v => ⟨[(3, .ptr 37003 v1 0)], [(37003, v1, bldO 37003 v1 37503 v.2 v.1 a), (37503, v.2, bytO a)]⟩) (fun a14 w15 h => ?_) (fun a3 w4 st5 h => ?_)
 ·exact to_L ⟨(false, v2), rfl⟩
 ·refine AW.rgs rfl fun K hK => b_op rfl (o_callA rfl rfl rfl rfl (c_String (id := 37003) (ver := v1) (aid := 37503) (aver := w15.2) (u := w15.1) (l := a14) rfl rfl fun v16 => ?_) )
  refine mv rfl rfl ?_
  refine bf hK ⟨[(2, .str a14)], []⟩ ?_
  obtain rfl := oi h
  exact AW.ret (ret_pure (.inr rfl) (resT rfl rfl) rfl trivial)
 refine AW.rgs rfl fun K hK => bv rfl (v_bin rfl rfl b_lss) ?_
 refine bf hK (P2 [(8, hI a3.1), (9, .bool (decide (a3.1 < ((p0).length : Int))))] [(37003, v1, bldO 37003 v1 37503 w4.2 w4.1 a3.2), (37503, w4.2, bytO a3.2)]) ?_
 refine AW.cseq rfl (fun hc => ?_) (fun hc => ?_)
 ·obtain ⟨hc, h⟩ := cT hc h
  refine AW.skip ?_
  refine AW.seq (AW.block ?_)
  refine AW.rgs rfl fun K hK => ?_
  obtain ⟨x7, h8, h⟩ := bS h
  refine bv rfl (v_idxF ty27 es27 rfl rfl (idx_lt h8)) (bv rfl (v_loadF ty3 rfl (l_cell eInt h8 (o := 0) rfl rfl)) (mv rfl rfl ?_))
  refine bf hK ⟨[(3, .ptr 37003 v1 0), (5, hI x7), (6, slE eInt p0), E1, (8, hI a3.1)], [(37003, v1, bldO 37003 v1 37503 w4.2 w4.1 a3.2), (37503, w4.2, bytO a3.2)]⟩ ?_
  refine AW.rg rfl fun K hK => mv rfl rfl ?_
  obtain ⟨x9, h10, h⟩ := bS h
  refine b_op rfl (o_call rfl rfl rfl rfl (ACallD.pure0 (w_strconv_Itoa h10)) ?_)
  obtain ⟨h11, h⟩ := ifN h
  refine bv rfl (v_bin rfl rfl (b_sadd h11)) ?_
  obtain ⟨h13, h⟩ := ifN h
  refine b_op rfl (o_callA rfl rfl rfl rfl (c_WriteString (id := 37003) (ver := v1) (aid := 37503) (aver := w4.2) (u := w4.1) (l := a3.2) (m := (x9 ++ [32])) (by decide) rfl rfl h13 fun v12 => ?_) )
  refine bf hK (P2 [(8, hI a3.1)] [(37003, v1, bldO 37003 v1 37503 v12 true (a3.2 ++ (x9 ++ [32]))), (37503, v12, bytO (a3.2 ++ (x9 ++ [32])))]) ?_
  refine AW.rg rfl fun K hK => bv rfl (v_bin rfl rfl b_add) (mv rfl rfl ?_)
  refine b_nil (hK _ ?_)
  exact to_L ⟨(IntKind.wrap .i64 (a3.1 + 1), a3.2 ++ (x9 ++ [32])), (true, v12), h, rfl⟩
 obtain ⟨hc, h⟩ := cF hc h
 refine AW.exit ?_
 exact to_L ⟨a3.2, (w4.1, w4.2), h, rfl⟩
theorem w_subset_build {p0 : TLabelsStatesEdges} {p1 : List (Int)} {r : TLabelsStatesEdges × (List (List (Int))) × Int} (h : m_subset_build p0 p1 = some r) : Pure Tryz.prog 25 [gA p0, slE eInt p1] (· = HV.tup [.agg [hI r.1.1, hI r.1.2.1, slE eFromLabelTo r.1.2.2], slE (eSl eInt) r.2.1, hI r.2.2]) := by
 unfold m_subset_build at h
 refine Pure.of_body Tryz.func25 rfl rfl (lb rfl) fun hf => ?_
 unfold Tryz.f25
 dsimp only [enumS, Nat.reduceAdd]
 refine AW.rgs rfl fun K hK => b_op rfl (o_box rfl rfl rfl ?_)
 refine b_op rfl (o_alloc (fid := 25) (zs := [hI 0, hI 0, .v (.slice none 0 0)]) 25004 rfl rfl ty24 rfl (fun v1 => ?_))
 refine mv rfl rfl (mv rfl rfl ?_)
 let O1 : Nat × Nat × AObj := (25004, v1, .arr 3 24 [hI 0, hI 0, .v (.slice none 0 0)])
 refine bf hK ⟨[(1, slE eInt p1), (2, gF p0), (4, .ptr 25004 v1 0)], [O1]⟩ ?_
 refine AW.rgs rfl fun K hK => b_op rfl (o_makeMap (fid := 25) (HV.int .i64) 25011 rfl rfl (fun v2 => ?_))
 refine mv rfl rfl ?_
 obtain ⟨x3, h4, h⟩ := bS h
 refine b_op rfl (o_call rfl rfl rfl rfl (ACallD.pure0 (w_subset_key h4)) ?_)
 refine b_op rfl (o_mapSet (HV.int .i64) (es := ([] : List (List UInt8 × Int))) (k := x3) (v := 0) (.inr rfl) ty76 ty9 rfl rfl rfl rfl trivial ?_)
 refine mv rfl rfl ?_
 refine b_op rfl (o_alloc (fid := 25) (zs := [.v (.map none)]) 25007 rfl rfl ty76 rfl (fun v5 => ?_))
 refine b_op rfl (o_store (cs := [.mp 25011 v2]) (zs := [.mp 25011 v2]) rfl rfl rfl ty76 rfl rfl rfl rfl rfl ?_)
 let O2 : Nat × Nat × AObj := (25011, v2, .map (entE (HV.int .i64) (mputN x3 0 ([] : List (List UInt8 × Int)))))
 let O3 : Nat × Nat × AObj := (25007, v5, .arr 1 76 [.mp 25011 v2])
 refine bf hK ⟨[(1, slE eInt p1), (2, gF p0), (4, .ptr 25004 v1 0), (7, .ptr 25007 v5 0)], [O1, O2, O3]⟩ ?_
 refine AW.rgs rfl fun K hK => mv rfl rfl ?_
 obtain ⟨x6, h7, h⟩ := bS h
 refine b_op rfl (o_call rfl rfl rfl rfl (ACallD.pure0 (w_slices_Clone_Lint_int h7)) ?_)
 refine b_op rfl (o_bslM (fid := 25) 25017 rfl rfl rfl (as_of (cs := [slE eInt x6]) ty37 ty27 rfl rfl rfl rfl rfl) (fun v8 => ?_))
 refine b_op rfl (o_alloc (fid := 25) (zs := [.v (.slice none 0 0)]) 25008 rfl rfl ty37 rfl (fun v9 => ?_))
 refine b_op rfl (o_store (cs := [.ar 25017 v8 (eSl eInt).k 0 (([x6]).length)]) (zs := [.ar 25017 v8 (eSl eInt).k 0 (([x6]).length)]) rfl rfl rfl ty37 rfl rfl rfl rfl rfl ?_)
 let O4 : Nat × Nat × AObj := (25017, v8, .arr (eSl eInt).k 27 ((eSl eInt).E [x6]))
 let O5 : Nat × Nat × AObj := (25008, v9, .arr 1 37 [.ar 25017 v8 (eSl eInt).k 0 (([x6]).length)])
 let P1 : ASf := fun t H => ⟨(2, gF p0) :: (4, .ptr 25004 v1 0) :: (7, .ptr 25007 v5 0) :: (8, .ptr 25008 v9 0) :: t, O1 :: H⟩
 refine bf hK (P1 [] [O2, O3, O4, O5]) ?_
 refine AW.rgs rfl fun K hK => bv rfl (v_fieldAddrF fo24_0 rfl) (bv rfl (v_loadF ty3 rfl (l_lit rfl rfl)) ?_)
 refine b_op rfl (o_build (cs := [hI p0.1, hI 0, .v (.slice none 0 0)]) rfl (bl_of ty24 rfl rfl rfl rfl) ?_)
 refine b_op rfl (o_alloc (fid := 25) (zs := [hI 0, hI 0, .v (.slice none 0 0)]) 25009 rfl rfl ty24 rfl (fun v10 => ?_))
 refine b_op rfl (o_store (cs := [hI p0.1, hI 0, .v (.slice none 0 0)]) (zs := [hI p0.1, hI 0, .v (.slice none 0 0)]) rfl rfl rfl ty24 rfl rfl rfl rfl rfl ?_)
 refine bf hK (P1 [(9, .ptr 25009 v10 0)] [O2, O3, O4, O5, (25009, v10, .arr 3 24 [hI p0.1, hI 0, .v (.slice none 0 0)])]) ?_
 refine AW.seq ?_
 refine AW.rgs rfl fun K hK => b_op rfl (o_alloc (fid := 25) (zs := [hI 0]) 25010 rfl rfl ty3 rfl (fun v11 => ?_))
 refine b_op rfl (o_store (cs := [hI 0]) (zs := [hI 0]) rfl rfl rfl ty3 rfl rfl rfl rfl rfl ?_)
 refine bf hK (P1 [(9, .ptr 25009 v10 0), (10, .ptr 25010 v11 0)] [O2, O3, O4, O5, (25009, v10, .arr 3 24 [hI p0.1, hI 0, .v (.slice none 0 0)]), (25010, v11, .arr 1 3 [hI 0])]) ?_
 let P2 : ASf := fun t H => ⟨(4, .ptr 25004 v1 0) :: (8, .ptr 25008 v9 0) :: (9, .ptr 25009 v10 0) :: t, O1 :: H⟩
 refine AW.lpR h (by first | exact up_then | exact up_to) (S := (List TFromLabelTo) × Int × (List (List UInt8 × Int)) × (List (List (Int)))) (V := Nat × Nat × Nat) (fun a v => (P1 [(9, .ptr 25009 v10 0), (10, .ptr 25010 v.2.1 0)] [O3, (25008, v9, .arr 1 37 [.ar 25017 v.2.2 (eSl eInt).k 0 ((a.2.2.2).length)]), (25009, v10, .arr 3 24 [hI p0.1, hI 0, .ar 20002036 v.1 eFromLabelTo.k 0 ((a.1).length)]), (20002036, v.1, .arr eFromLabelTo.k 55 (eFromLabelTo.E a.1)), (25010, v.2.1, .arr 1 3 [hI a.2.1]), (25011, v2, .map (entE (HV.int .i64) a.2.2.1)), (25017, v.2.2, .arr (eSl eInt).k 27 ((eSl eInt).E a.2.2.2))])) ?_ (X := (List TFromLabelTo) × (List (List (Int)))) (W := Nat × Nat) (fun a v => (P2 [] [(25008, v9, .arr 1 37 [.ar 25017 v.2 (eSl eInt).k 0 ((a.2).length)]), (25009, v10, .arr 3 24 [hI p0.1, hI 0, .ar 20002036 v.1 eFromLabelTo.k 0 ((a.1).length)]), (20002036, v.1, .arr eFromLabelTo.k 55 (eFromLabelTo.E a.1)), (25017, v.2, .arr (eSl eInt).k 27 ((eSl eInt).E a.2))])) (fun a54 w55 h => ?_) (fun a12 w13 st14 h hr15=> ?_)
 ·refine to_bind (to_ownC 20002036 25009 v10 3 2 eFromLabelTo.k 55 24 rfl rfl (by decide) fun v53 => ?_)
  exact to_le (s' := (P1 [(9, .ptr 25009 v10 0), (10, .ptr 25010 v11 0)] [O3, O5, (25009, v10, .arr 3 24 [hI p0.1, hI 0, .ar 20002036 v53 eFromLabelTo.k 0 ((([] : List TFromLabelTo)).length)]), (20002036, v53, .arr eFromLabelTo.k 55 (eFromLabelTo.E ([] : List TFromLabelTo))), (25010, v11, .arr 1 3 [hI 0]), O2, O4])) (AS.le_of ⟨rfl, rfl, rfl, rfl, rfl, rfl, trivial⟩ ⟨rfl, rfl, rfl, hle rfl (by first | rfl | simp only [List.length_set, sortI_len, sortS_len, List.length_reverse]), rfl, rfl, rfl, rfl, trivial⟩) ⟨(v53, v11, v8), rfl⟩
 ·refine AW.rgs rfl fun K hK => bv rfl (v_loadP ty37 rfl rfl (l_lit rfl rfl)) (bv rfl (v_lenA rfl rfl ty37 rfl rfl) (bv rfl (v_fieldAddrP fo24_1 rfl rfl) ?_))
  refine b_op rfl (o_store (cs := [hI (((a54.2).length : Nat) : Int)]) (zs := [hI p0.1, hI (((a54.2).length : Nat) : Int), .ar 20002036 w55.1 eFromLabelTo.k 0 ((a54.1).length)]) rfl rfl rfl ty3 rfl rfl rfl rfl rfl ?_)
  let O6 : Nat × Nat × AObj := (25008, v9, .arr 1 37 [.ar 25017 w55.2 (eSl eInt).k 0 ((a54.2).length)])
  let O7 : Nat × Nat × AObj := (25009, v10, .arr 3 24 [hI p0.1, hI (((a54.2).length : Nat) : Int), .ar 20002036 w55.1 eFromLabelTo.k 0 ((a54.1).length)])
  let O8 : Nat × Nat × AObj := (20002036, w55.1, .arr eFromLabelTo.k 55 (eFromLabelTo.E a54.1))
  let O9 : Nat × Nat × AObj := (25017, w55.2, .arr (eSl eInt).k 27 ((eSl eInt).E a54.2))
  refine bf hK (P2 [] [O6, O7, O8, O9]) ?_
  refine AW.dls follows fun K hK F hF => ?_
  refine l_go (L' := []) hF rfl (s' := (P2 [] [O6, O7, O8, O9])) ?_ (le_q rfl rfl)
  let P : ASf := fun t H => ⟨(4, .ptr 25004 v1 0) :: t, (25004, v1, .arr 3 24 [hI p0.1, hI (((a54.2).length : Nat) : Int), .ar 20002036 w55.1 eFromLabelTo.k 0 ((a54.1).length)]) :: (25008, v9, .arr 1 37 [.ar 25017 w55.2 (eSl eInt).k 0 ((a54.2).length)]) :: (25009, v10, .arr 3 24 [hI p0.1, hI (((a54.2).length : Nat) : Int), .ar 20002036 w55.1 eFromLabelTo.k 0 ((a54.1).length)]) :: (20002036, w55.1, .arr eFromLabelTo.k 55 (eFromLabelTo.E a54.1)) :: (25017, w55.2, .arr (eSl eInt).k 27 ((eSl eInt).E a54.2)) :: H⟩
  have g56_6 : F [0, 1, 2, 3, 4] (P [(5, .ar 25017 w55.2 (eSl eInt).k 0 ((a54.2).length)), (6, hI 0)] []) := by
   let O10 : Nat × Nat × AObj := (25004, v1, .arr 3 24 [hI p0.1, hI (((a54.2).length : Nat) : Int), .ar 20002036 w55.1 eFromLabelTo.k 0 ((a54.1).length)])
   refine l_done hF rfl rfl (hK _ (AW.to (to_le (s' := ⟨[(4, .ptr 25004 v1 0), (5, .ar 25017 w55.2 (eSl eInt).k 0 ((a54.2).length)), (6, hI 0)], [O10, O8, O9]⟩) (le_q rfl rfl) ?_)))
   refine AW.to (to_frz 2 [(25017, w55.2, .arr (eSl eInt).k 27 ((eSl eInt).E a54.2))] ⟨[(4, .ptr 25004 v1 0), (5, slE (eSl eInt) a54.2), (6, hI 0)], [O10, O8]⟩ ⟨⟨_, rfl, rfl⟩, ⟨_, rfl, frz_slE (eSl eInt) (l := a54.2) rfl fun _ _ => rfl⟩, ⟨_, rfl, rfl⟩, trivial⟩ ⟨rfl, rfl, trivial⟩ ⟨rfl, trivial⟩ ⟨rfl, trivial⟩ ?_)
   refine AW.to (to_fill 2 [(20002036, w55.1, .arr eFromLabelTo.k 55 (eFromLabelTo.E a54.1))] ⟨[(4, .ptr 25004 v1 0), (5, slE (eSl eInt) a54.2), (6, hI 0)], [(25004, v1, .arr 3 24 [hI p0.1, hI (((a54.2).length : Nat) : Int), slE eFromLabelTo a54.1])]⟩ ⟨⟨_, rfl, rfl⟩, ⟨_, rfl, rfl⟩, ⟨_, rfl, rfl⟩, trivial⟩ ⟨.inr ⟨_, _, _, rfl, congrArg (AObj.arr 3 24) (congrArg (fun z : HV => [hI p0.1, hI (((a54.2).length : Nat) : Int), z]) (frz_slE eFromLabelTo (D := [(20002036, w55.1, .arr eFromLabelTo.k 55 (eFromLabelTo.E a54.1))]) (l := a54.1) rfl fun _ _ => rfl).symm)⟩, trivial⟩ ⟨rfl, trivial⟩ ⟨rfl, trivial⟩ ?_)
   obtain rfl := oi h
   exact AW.ret (ret_pure (.inr rfl) (resP ty24 rfl rfl (l_litA rfl (lb rfl) rfl) (resT rfl (resT rfl rfl))) rfl ⟨⟨trivial, trivial, (clean_slE fun _ _ => ⟨trivial, trivial, trivial, trivial⟩), trivial⟩, (clean_slE fun _ _ => ⟨(clean_slE fun _ _ => ⟨trivial, trivial⟩), trivial⟩), trivial, trivial⟩)
  have g56_5 : F [0, 1, 2, 3] (P [(5, .ar 25017 w55.2 (eSl eInt).k 0 ((a54.2).length))] []) := by
   refine l_step hF rfl [4] rfl rfl ⟨?_, trivial⟩
   exact l_ov rfl rfl rfl rfl (mv_val rfl rfl).2 (lg hF (g56_6))
  have g56_4 : F [0, 1, 2] (P [(49, .ar 25017 w55.2 (eSl eInt).k 0 ((a54.2).length))] []) := by
   refine l_step hF rfl [3] rfl rfl ⟨?_, trivial⟩
   exact l_ov rfl rfl rfl rfl (mv_val rfl rfl).2 (lg hF (g56_5))
  let E11 : Nat × HV := (48, .agg [hI p0.1, hI (((a54.2).length : Nat) : Int), .ar 20002036 w55.1 eFromLabelTo.k 0 ((a54.1).length)])
  let P3 : ASf := fun t H => ⟨(4, .ptr 25004 v1 0) :: t, O1 :: O6 :: O7 :: O8 :: O9 :: H⟩
  have g56_3 : F [0, 1] (P3 [E11, (49, .ar 25017 w55.2 (eSl eInt).k 0 ((a54.2).length))] []) := by
   refine l_step hF rfl [2] rfl rfl ⟨?_, trivial⟩
   refine l_op rfl rfl rfl (o_store (cs := [hI p0.1, hI (((a54.2).length : Nat) : Int), .ar 20002036 w55.1 eFromLabelTo.k 0 ((a54.1).length)]) (zs := [hI p0.1, hI (((a54.2).length : Nat) : Int), .ar 20002036 w55.1 eFromLabelTo.k 0 ((a54.1).length)]) rfl rfl rfl ty24 rfl rfl rfl rfl rfl ?_)
   exact b_nil (lg hF (g56_4))
  have g56_7 : F [0, 2] (P [(8, .ptr 25008 v9 0)] []) := by
   refine l_step hF rfl [1] rfl rfl ⟨?_, trivial⟩
   exact l_ov rfl rfl rfl rfl (v_loadP ty37 rfl rfl (l_lit rfl rfl)) (lg hF (g56_4))
  have g56_1 : F [0] (P3 [(8, .ptr 25008 v9 0), E11] []) := by
   refine l_step hF rfl [1, 2] rfl rfl ⟨?_, ?_, trivial⟩
   ·exact l_ov rfl rfl rfl rfl (v_loadP ty37 rfl rfl (l_lit rfl rfl)) (lg hF (g56_3))
   refine l_op rfl rfl rfl (o_store (cs := [hI p0.1, hI (((a54.2).length : Nat) : Int), .ar 20002036 w55.1 eFromLabelTo.k 0 ((a54.1).length)]) (zs := [hI p0.1, hI (((a54.2).length : Nat) : Int), .ar 20002036 w55.1 eFromLabelTo.k 0 ((a54.1).length)]) rfl rfl rfl ty24 rfl rfl rfl rfl rfl ?_)
   exact b_nil (lg hF (g56_7))
  have g56_2 : F [1] (P3 [(9, .ptr 25009 v10 0), (49, .ar 25017 w55.2 (eSl eInt).k 0 ((a54.2).length))] []) := by
   refine l_step hF rfl [0] rfl rfl ⟨?_, trivial⟩
   exact l_ov rfl rfl rfl rfl (v_loadP ty24 rfl rfl (l_litA rfl (lb rfl) rfl)) (lg hF (g56_3))
  have g56_0 : F [] (P2 [] [O6, O7, O8, O9]) := by
   refine l_step hF rfl [0, 1] rfl rfl ⟨?_, ?_, trivial⟩
   ·exact l_ov rfl rfl rfl rfl (v_loadP ty24 rfl rfl (l_litA rfl (lb rfl) rfl)) (lg hF (g56_1))
   exact l_ov rfl rfl rfl rfl (v_loadP ty37 rfl rfl (l_lit rfl rfl)) (lg hF (g56_2))
  exact g56_0
 refine AW.seq ?_
 refine AW.rgs rfl fun K hK => bv rfl (v_loadP ty3 rfl rfl (l_lit rfl rfl)) (bv rfl (v_loadP ty37 rfl rfl (l_lit rfl rfl)) (bv rfl (v_lenA rfl rfl ty37 rfl rfl) (bv rfl (v_bin rfl rfl b_lss) ?_)))
 let E12 : Nat × HV := (10, .ptr 25010 w13.2.1 0)
 let O13 : Nat × Nat × AObj := (25008, v9, .arr 1 37 [.ar 25017 w13.2.2 (eSl eInt).k 0 ((a12.2.2.2).length)])
 let O14 : Nat × Nat × AObj := (25009, v10, .arr 3 24 [hI p0.1, hI 0, .ar 20002036 w13.1 eFromLabelTo.k 0 ((a12.1).length)])
 let O15 : Nat × Nat × AObj := (20002036, w13.1, .arr eFromLabelTo.k 55 (eFromLabelTo.E a12.1))
 let O16 : Nat × Nat × AObj := (25010, w13.2.1, .arr 1 3 [hI a12.2.1])
 let O17 : Nat × Nat × AObj := (25011, v2, .map (entE (HV.int .i64) a12.2.2.1))
 let O18 : Nat × Nat × AObj := (25017, w13.2.2, .arr (eSl eInt).k 27 ((eSl eInt).E a12.2.2.2))
 refine bf hK (P1 [(9, .ptr 25009 v10 0), E12, (24, .bool (decide (a12.2.1 < (((a12.2.2.2).length : Nat) : Int))))] [O3, O13, O14, O15, O16, O17, O18]) ?_
 refine AW.cond rfl (fun hc => ?_) (fun hc => ?_)
 ·obtain ⟨hc, h⟩ := cT hc h
  refine AW.skip ?_
  refine AW.seq (AW.block ?_)
  refine AW.dgs 6 follows rfl rfl fun K hK => ?_
  refine sv rfl (v_loadF ty24 rfl (l_litA rfl (lb rfl) rfl)) ?_
  refine sv rfl (v_loadP ty37 rfl rfl (l_lit rfl rfl)) ?_
  refine sv rfl (v_loadP ty3 rfl rfl (l_lit rfl rfl)) ?_
  obtain ⟨x16, h17, h⟩ := bS h
  refine sv rfl (v_idxA ty37 es37 rfl rfl (idx_lt h17) rfl) ?_
  obtain ⟨x18, h19, h⟩ := bS h
  refine sv rfl (v_loadP ty27 rfl rfl (l_cell (eSl eInt) h19 (o := 0) rfl rfl)) ?_
  refine sv rfl (v_func rfl rfl) ?_
  refine s_nil ?_
  refine b_op rfl (o_callJ h (S := (List TFromLabelTo) × (List (List UInt8 × Int)) × (List (List (Int)))) (V := Nat × Nat) (fun a v => (P1 [(9, .ptr 25009 v10 0), E12, (33, .tup [])] [O3, (25008, v9, .arr 1 37 [.ar 25017 v.2 (eSl eInt).k 0 ((a.2.2).length)]), (25009, v10, .arr 3 24 [hI p0.1, hI 0, .ar 20002036 v.1 eFromLabelTo.k 0 ((a.1).length)]), (20002036, v.1, .arr eFromLabelTo.k 55 (eFromLabelTo.E a.1)), O16, (25011, v2, .map (entE (HV.int .i64) a.2.1)), (25017, v.2, .arr (eSl eInt).k 27 ((eSl eInt).E a.2.2))])) rfl rfl rfl rfl (fun a20 w21 h => ?_) (fun k22 h => ?_) )
  ·let O19 : Nat × Nat × AObj := (25008, v9, .arr 1 37 [.ar 25017 w21.2 (eSl eInt).k 0 ((a20.2.2).length)])
   let O20 : Nat × Nat × AObj := (25009, v10, .arr 3 24 [hI p0.1, hI 0, .ar 20002036 w21.1 eFromLabelTo.k 0 ((a20.1).length)])
   let O21 : Nat × Nat × AObj := (20002036, w21.1, .arr eFromLabelTo.k 55 (eFromLabelTo.E a20.1))
   let O22 : Nat × Nat × AObj := (25011, v2, .map (entE (HV.int .i64) a20.2.1))
   let O23 : Nat × Nat × AObj := (25017, w21.2, .arr (eSl eInt).k 27 ((eSl eInt).E a20.2.2))
   refine bf hK (P1 [(9, .ptr 25009 v10 0), E12] [O3, O19, O20, O21, O16, O22, O23]) ?_
   refine AW.seqJ h (S := Bool) (V := Unit) (fun a v => (P1 [(9, .ptr 25009 v10 0), E12, (42, .bool a)] [O3, O19, O20, O21, O16, O22, O23])) (fun a23 w24 h => ?_) (fun k25 h => ?_)
   ·refine AW.cond rfl (fun hc => ?_) (fun hc => ?_)
    ·have h := ifT hc h
     refine AW.rgs rfl fun K hK => b_op rfl (o_build (cs := [hI 0, hI 0, .v (.slice none 0 0)]) rfl (bl_of ty24 rfl rfl rfl rfl) ?_)
     refine b_op rfl (o_store (cs := [hI 0, hI 0, .v (.slice none 0 0)]) (zs := [hI 0, hI 0, .v (.slice none 0 0)]) rfl rfl rfl ty24 rfl rfl rfl rfl rfl ?_)
     refine mv rfl rfl (mv rfl rfl ?_)
     refine bf hK ⟨[(4, .ptr 25004 v1 0), (5, .v (.slice none 0 0)), (6, hI 4)], [O1]⟩ ?_
     have h := hr15 _ h
     refine AW.to (to_weak ⟨[(4, .ptr 25004 v1 0), (5, slE (eSl eInt) ([] : List (List (Int)))), (6, hI 4)], [O1]⟩ ⟨⟨_, rfl, .refl _⟩, ⟨_, rfl, .nil _⟩, ⟨_, rfl, .refl _⟩, trivial⟩ ⟨rfl, trivial⟩ ?_)
     refine AW.to (to_cells 25004 v1 (ds := [hI 0, hI 0, slE eFromLabelTo ([] : List TFromLabelTo)]) rfl (.cons (.refl _) <| .cons (.refl _) <| .cons (.nil _) <| .nil) ?_)
     obtain rfl := oi h
     exact AW.ret (ret_pure (.inr rfl) (resP ty24 rfl rfl (l_litA rfl (lb rfl) rfl) (resT rfl (resT rfl rfl))) rfl ⟨⟨trivial, trivial, (clean_slE fun _ _ => ⟨trivial, trivial, trivial, trivial⟩), trivial⟩, (clean_slE fun _ _ => ⟨(clean_slE fun _ _ => ⟨trivial, trivial⟩), trivial⟩), trivial, trivial⟩)
    have h := ifF (bF' hc) h
    refine AW.skip ?_
    refine AW.seq ?_
    refine AW.rgs rfl fun K hK => bv rfl (v_loadP ty3 rfl rfl (l_lit rfl rfl)) ?_
    refine bf hK (P1 [(9, .ptr 25009 v10 0), (44, hI a12.2.1)] [O3, O19, O20, O21, O22, O23]) ?_
    refine AW.rg rfl fun K hK => b_op rfl (o_alloc (fid := 25) (zs := [hI 0]) 25010 rfl rfl ty3 rfl (fun v26 => ?_))
    refine b_op rfl (o_store (cs := [hI a12.2.1]) (zs := [hI a12.2.1]) rfl rfl rfl ty3 rfl rfl rfl rfl rfl ?_)
    refine bf hK (P1 [(9, .ptr 25009 v10 0), (10, .ptr 25010 v26 0)] [O3, O19, O20, O21, O22, O23, (25010, v26, .arr 1 3 [hI a12.2.1])]) ?_
    refine AW.rg rfl fun K hK => bv rfl (v_loadP ty3 rfl rfl (l_lit rfl rfl)) (bv rfl (v_bin rfl rfl b_add) ?_)
    refine b_op rfl (o_store (cs := [hI (IntKind.wrap .i64 (a12.2.1 + 1))]) (zs := [hI (IntKind.wrap .i64 (a12.2.1 + 1))]) rfl rfl rfl ty3 rfl rfl rfl rfl rfl ?_)
    refine b_nil (hK _ ?_)
    exact to_L ⟨(a20.1, IntKind.wrap .i64 (a12.2.1 + 1), a20.2.1, a20.2.2), (w21.1, v26, w21.2), h, rfl⟩
   refine AW.rg rfl fun K hK => bv rfl (v_loadP ty37 rfl rfl (l_lit rfl rfl)) (bv rfl (v_lenA rfl rfl ty37 rfl rfl) (bv rfl (v_bin rfl rfl b_gtr) (mv rfl rfl ?_)))
   by_cases hg27 : 64 < (((a20.2.2).length : Nat) : Int)
   ·have h := ifT hg27 h
    refine b_F rfl rfl rfl rfl rfl (decide_eq_true hg27) ?_
    iterate 3 refine b_F rfl rfl rfl rfl rfl rfl ?_
    refine bv rfl (v_pickT rfl rfl rfl) ?_
    refine b_nil (hK _ ?_)
    exact to_L ⟨true, (), h, rfl⟩
   have h := ifF hg27 h
   refine b_T rfl rfl rfl rfl (decide_eq_false hg27) (o_val rfl (v_fieldAddrP fo24_2 rfl rfl) ?_)
   refine b_T rfl rfl rfl rfl rfl (o_val rfl (v_loadP ty22 rfl rfl (l_lit rfl rfl)) ?_)
   refine b_T rfl rfl rfl rfl rfl (o_val rfl (v_lenA rfl rfl ty22 rfl rfl) ?_)
   refine b_T rfl rfl rfl rfl rfl (o_val rfl (v_bin rfl rfl b_gtr) ?_)
   refine bv rfl (v_pickF rfl rfl rfl) ?_
   refine b_nil (hK _ ?_)
   exact to_L ⟨decide (1024 < (((a20.1).length : Nat) : Int)), (), h, rfl⟩
  refine ACall.of_body Tryz.func39 rfl rfl (lb rfl) ?_
  unfold Tryz.f39
  dsimp only [enumS, Nat.reduceAdd]
  refine AW.fin ?_
  refine AW.rgs rfl fun K hK => b_op rfl (o_box rfl rfl rfl ?_)
  let E24 : Nat × HV := (2, .fn (.func 40) [] [.ptr 25007 v5 0, .ptr 25008 v9 0, .ptr 25009 v10 0, .ptr 25010 w13.2.1 0])
  let P4 : ASf := fun t H => ⟨(1, slE eInt x18) :: E24 :: (3, gF p0) :: t, H⟩
  refine bf hK (P4 [] [O1, O3, O13, O14, O15, O16, O17, O18]) ?_
  refine AW.rgs rfl fun K hK => bv rfl (v_fieldAddrF fo24_0 rfl) (bv rfl (v_loadF ty3 rfl (l_lit rfl rfl)) (mv rfl rfl ?_))
  refine bf hK (P4 [(10, hI p0.1), (11, hI 0)] [O1, O3, O13, O14, O15, O16, O17, O18]) ?_
  refine AW.lpX h (by first | exact up_then | exact up_to) (S := Int × (List TFromLabelTo) × (List (List UInt8 × Int)) × (List (List (Int)))) (V := Nat × Nat) (fun a v => (P4 [(10, hI p0.1), (11, hI a.1)] [(20002036, v.1, .arr eFromLabelTo.k 55 (eFromLabelTo.E a.2.1)), O1, O3, (25008, v9, .arr 1 37 [.ar 25017 v.2 (eSl eInt).k 0 ((a.2.2.2).length)]), (25009, v10, .arr 3 24 [hI p0.1, hI 0, .ar 20002036 v.1 eFromLabelTo.k 0 ((a.2.1).length)]), O16, (25011, v2, .map (entE (HV.int .i64) a.2.2.1)), (25017, v.2, .arr (eSl eInt).k 27 ((eSl eInt).E a.2.2.2))])) ?_ (X := (List TFromLabelTo) × (List (List UInt8 × Int)) × (List (List (Int)))) (W := Nat × Nat) (fun a v => ⟨[], [(20002036, v.1, .arr eFromLabelTo.k 55 (eFromLabelTo.E a.1)), (25004, v1, .arr 3 24 [hI 0, hI 0, .v (.slice none 0 0)]), (25007, v5, .arr 1 76 [.mp 25011 v2]), (25008, v9, .arr 1 37 [.ar 25017 v.2 (eSl eInt).k 0 ((a.2.2).length)]), (25009, v10, .arr 3 24 [hI p0.1, hI 0, .ar 20002036 v.1 eFromLabelTo.k 0 ((a.1).length)]), (25010, w13.2.1, .arr 1 3 [hI a12.2.1]), (25011, v2, .map (entE (HV.int .i64) a.2.1)), (25017, v.2, .arr (eSl eInt).k 27 ((eSl eInt).E a.2.2))]⟩) (fun a51 w52 h => ?_) (fun a28 w29 st30 h => ?_)
  ·exact to_L ⟨(w13.1, w13.2.2), rfl⟩
  ·refine to_refl ?_
   refine ret_to (hs := []) (q := HV.tup []) (.inl rfl) rfl rfl ?_
   exact to_L ⟨(a51.1, a51.2.1, a51.2.2), (w52.1, w52.2), h, rfl⟩
  refine AW.rgs rfl fun K hK => bv rfl (v_bin rfl rfl b_lss) ?_
  let O25 : Nat × Nat × AObj := (20002036, w29.1, .arr eFromLabelTo.k 55 (eFromLabelTo.E a28.2.1))
  let O26 : Nat × Nat × AObj := (25008, v9, .arr 1 37 [.ar 25017 w29.2 (eSl eInt).k 0 ((a28.2.2.2).length)])
  let O27 : Nat × Nat × AObj := (25009, v10, .arr 3 24 [hI p0.1, hI 0, .ar 20002036 w29.1 eFromLabelTo.k 0 ((a28.2.1).length)])
  let O28 : Nat × Nat × AObj := (25011, v2, .map (entE (HV.int .i64) a28.2.2.1))
  let O29 : Nat × Nat × AObj := (25017, w29.2, .arr (eSl eInt).k 27 ((eSl eInt).E a28.2.2.2))
  refine bf hK (P4 [(10, hI p0.1), (11, hI a28.1), (12, .bool (decide (a28.1 < p0.1)))] [O25, O1, O3, O26, O27, O16, O28, O29]) ?_
  refine AW.cseq rfl (fun hc => ?_) (fun hc => ?_)
  ·obtain ⟨hc, h⟩ := cT hc h
   refine AW.skip ?_
   refine AW.seqJ h (S := (List TFromLabelTo) × (List (List UInt8 × Int)) × (List (List (Int)))) (V := Nat × Nat) (fun a v => (P4 [(10, hI p0.1), (11, hI a28.1)] [(20002036, v.1, .arr eFromLabelTo.k 55 (eFromLabelTo.E a.1)), O1, O3, (25008, v9, .arr 1 37 [.ar 25017 v.2 (eSl eInt).k 0 ((a.2.2).length)]), (25009, v10, .arr 3 24 [hI p0.1, hI 0, .ar 20002036 v.1 eFromLabelTo.k 0 ((a.1).length)]), O16, (25011, v2, .map (entE (HV.int .i64) a.2.1)), (25017, v.2, .arr (eSl eInt).k 27 ((eSl eInt).E a.2.2))])) (fun a32 w33 h => ?_) (fun k34 h => ?_)
   ·refine AW.rg rfl fun K hK => bv rfl (v_bin rfl rfl b_add) (mv rfl rfl ?_)
    refine b_nil (hK _ ?_)
    exact to_L ⟨(IntKind.wrap .i64 (a28.1 + 1), a32.1, a32.2.1, a32.2.2), (w33.1, w33.2), h, rfl⟩
   refine AW.block ?_
   refine AW.rgs rfl fun K hK => mv rfl rfl (mv rfl rfl ?_)
   refine bf hK (P4 [(6, hI a28.1), (10, hI p0.1), (11, hI a28.1)] [O25, O1, O3, O26, O27, O16, O28, O29]) ?_
   refine AW.rgs rfl fun K hK => bv rfl (v_loadF ty24 rfl (l_litA rfl (lb rfl) rfl)) (mv rfl rfl (mv rfl rfl ?_))
   obtain ⟨x35, h36, h⟩ := bS h
   refine b_op rfl (o_call rfl rfl rfl rfl (ACallD.pure0 (w_graph_Step h36)) ?_)
   refine mv rfl rfl (bv rfl (v_extract rfl rfl) (bv rfl (v_extract rfl rfl) (mv rfl rfl (mv rfl rfl ?_))))
   refine bf hK (P4 [(6, hI a28.1), (7, slE eInt x35.1), (10, hI p0.1), (11, hI a28.1)] [O25, O1, O3, O26, O27, O16, O28, O29]) ?_
   refine AW.rgs rfl fun K hK => mv rfl rfl (bv rfl (v_lenF rfl rfl ty27 rfl) (bv rfl (v_bin rfl rfl b_gtr) ?_))
   refine bf hK (P4 [(6, hI a28.1), (7, slE eInt x35.1), (10, hI p0.1), (11, hI a28.1), (23, .bool (decide (0 < ((x35.1).length : Int))))] [O25, O1, O3, O26, O27, O16, O28, O29]) ?_
   refine AW.cond rfl (fun hc => ?_) (fun hc => ?_)
   ·obtain ⟨hc, h⟩ := cT hc h
    refine AW.rg rfl fun K hK => mv rfl rfl (mv rfl rfl (mv rfl rfl ?_))
    refine b_op rfl (o_callJ h (S := (List TFromLabelTo) × (List (List UInt8 × Int)) × (List (List (Int)))) (V := Nat × Nat) (fun a v => (P4 [(10, hI p0.1), (11, hI a28.1), (27, .tup [])] [(20002036, v.1, .arr eFromLabelTo.k 55 (eFromLabelTo.E a.1)), O1, O3, (25008, v9, .arr 1 37 [.ar 25017 v.2 (eSl eInt).k 0 ((a.2.2).length)]), (25009, v10, .arr 3 24 [hI p0.1, hI 0, .ar 20002036 v.1 eFromLabelTo.k 0 ((a.1).length)]), O16, (25011, v2, .map (entE (HV.int .i64) a.2.1)), (25017, v.2, .arr (eSl eInt).k 27 ((eSl eInt).E a.2.2))])) rfl rfl rfl rfl (fun a37 w38 h => ?_) (fun k39 h => ?_) )
    ·refine b_nil (hK _ ?_)
     exact to_L ⟨(a37.1, a37.2.1, a37.2.2), (w38.1, w38.2), h, rfl⟩
    refine ACall.of_body Tryz.func40 rfl rfl (lb rfl) ?_
    unfold Tryz.f40
    dsimp only [enumS, Nat.reduceAdd]
    refine AW.fin ?_
    refine AW.dys follows fun K hK => ?_
    refine y_st 3 rfl rfl ?_
    refine sv rfl (v_loadP ty76 rfl rfl (l_lit rfl rfl)) ?_
    refine sm rfl rfl ?_
    obtain ⟨x40, h41, h⟩ := bS h
    refine s_op rfl rfl (ops_call rfl rfl rfl rfl (ACallD.pure0 (w_subset_key h41)) ?_)
    refine s_nil ?_
    refine y_opX rfl rfl rfl rfl (fun hN => o_lookOk hN (HV.int .i64) (es := a28.2.2.1) (k := x40) (v := (mlook x40 a28.2.2.1).getD 0) rfl ty76 ty9 ty3 rfl rfl rfl rfl (look_dflt rfl) ?_)
    refine b_nil ?_
    refine y_st 9 rfl rfl ?_
    refine sm rfl rfl ?_
    refine sv rfl (v_extract rfl rfl) ?_
    refine sv rfl (v_extract rfl rfl) ?_
    iterate 2 refine sm rfl rfl ?_
    refine s_nil ?_
    let E30 : Nat × HV := (5, .ptr 25010 w13.2.1 0)
    let P5 : ASf := fun t H => ⟨(0, hI a28.1) :: (1, slE eInt x35.1) :: (2, .ptr 25007 v5 0) :: (3, .ptr 25008 v9 0) :: (4, .ptr 25009 v10 0) :: E30 :: t, O25 :: O1 :: O3 :: O26 :: O27 :: O16 :: O28 :: O29 :: H⟩
    refine y_nil rfl (hK _ (AW.to (to_le (s' := (P5 [(8, hI ((mlook x40 a28.2.2.1).getD 0)), (9, .bool ((mlook x40 a28.2.2.1).isSome))] [])) (le_q rfl rfl) ?_)))
    refine AW.seq ?_
    refine AW.rgs rfl fun K hK => mv rfl rfl (bv rfl (v_not rfl) ?_)
    refine bf hK (P5 [(8, hI ((mlook x40 a28.2.2.1).getD 0)), (18, .bool (!((mlook x40 a28.2.2.1).isSome)))] []) ?_
    refine AW.lastJ h (by first | exact up_then | exact up_to) (S := Int × (List (List UInt8 × Int)) × (List (List (Int)))) (V := Nat) (fun a v => ⟨[(0, hI a28.1), (4, .ptr 25009 v10 0), E30, (8, hI a.1)], [O25, O1, O3, (25008, v9, .arr 1 37 [.ar 25017 v (eSl eInt).k 0 ((a.2.2).length)]), O27, O16, (25011, v2, .map (entE (HV.int .i64) a.2.1)), (25017, v, .arr (eSl eInt).k 27 ((eSl eInt).E a.2.2))]⟩) (fun a42 w43 h => ?_) (fun k44 h => ?_)
    ·refine AW.rg rfl fun K hK => bv rfl (v_fieldAddrP fo24_2 rfl rfl) (bv rfl (v_loadP ty22 rfl rfl (l_lit rfl rfl)) (bv rfl (v_loadP ty3 rfl rfl (l_lit rfl rfl)) (mv rfl rfl (mv rfl rfl ?_))))
     refine b_op rfl (o_build (cs := [hI a12.2.1, hI a28.1, hI a42.1]) rfl (bl_of ty55 rfl rfl rfl rfl) ?_)
     refine b_op rfl (o_bsl rfl rfl (as_of (cs := [hI a12.2.1, hI a28.1, hI a42.1]) ty22 ty55 rfl rfl rfl rfl rfl) ?_)
     obtain ⟨h46, h⟩ := ifN h
     refine b_op rfl (o_appE eFromLabelTo (l := a28.2.1) (m := [(a12.2.1, a28.1, a42.1)]) rfl rfl ty22 ty22 ty55 rfl rfl rfl rfl rfl h46 (fun v45 => ?_))
     refine bv rfl (v_fieldAddrP fo24_2 rfl rfl) ?_
     refine b_op rfl (o_store (cs := [.ar 20002036 v45 eFromLabelTo.k 0 ((a28.2.1 ++ [(a12.2.1, a28.1, a42.1)]).length)]) (zs := [hI p0.1, hI 0, .ar 20002036 v45 eFromLabelTo.k 0 ((a28.2.1 ++ [(a12.2.1, a28.1, a42.1)]).length)]) rfl rfl rfl ty22 rfl rfl rfl rfl rfl ?_)
     refine b_nil (hK _ ?_)
     refine to_refl ?_
     refine ret_to (hs := []) (q := HV.tup []) (.inl rfl) rfl rfl ?_
     exact to_L ⟨(a28.2.1 ++ [(a12.2.1, a28.1, a42.1)], a42.2.1, a42.2.2), (v45, w43), h, rfl⟩
    refine AW.cond rfl (fun hc => ?_) (fun hc => ?_)
    ·have h := ifT hc h
     refine AW.rgs rfl fun K hK => bv rfl (v_loadP ty37 rfl rfl (l_lit rfl rfl)) (bv rfl (v_lenA rfl rfl ty37 rfl rfl) (mv rfl rfl ?_))
     refine bf hK (P5 [(8, hI (((a28.2.2.2).length : Nat) : Int))] []) ?_
     refine AW.dgs 4 follows rfl rfl fun K hK => ?_
     refine sv rfl (v_loadP ty76 rfl rfl (l_lit rfl rfl)) ?_
     refine sm rfl rfl ?_
     obtain ⟨x47, h48, h⟩ := bS h
     refine s_op rfl rfl (ops_call rfl rfl rfl rfl (ACallD.pure0 (w_subset_key h48)) ?_)
     refine sm rfl rfl ?_
     refine s_nil ?_
     refine b_op rfl (o_mapSet (HV.int .i64) (es := a28.2.2.1) (k := x47) (v := (((a28.2.2.2).length : Nat) : Int)) (.inl rfl) ty76 ty9 rfl rfl rfl rfl trivial ?_)
     refine bf hK ⟨[(0, hI a28.1), (1, slE eInt x35.1), (3, .ptr 25008 v9 0), (4, .ptr 25009 v10 0), E30, (8, hI (((a28.2.2.2).length : Nat) : Int))], [O25, O1, O3, O26, O27, O16, (25011, v2, .map (entE (HV.int .i64) (mputN x47 (((a28.2.2.2).length : Nat) : Int) a28.2.2.1))), O29]⟩ ?_
     refine AW.rg rfl fun K hK => bv rfl (v_loadP ty37 rfl rfl (l_lit rfl rfl)) (mv rfl rfl ?_)
     refine b_op rfl (o_bsl rfl rfl (as_of (cs := [slE eInt x35.1]) ty37 ty27 rfl rfl rfl rfl rfl) ?_)
     obtain ⟨h50, h⟩ := ifN h
     refine b_op rfl (o_appE (eSl eInt) (l := a28.2.2.2) (m := [x35.1]) rfl rfl ty37 ty37 ty27 rfl rfl rfl rfl rfl h50 (fun v49 => ?_))
     refine b_op rfl (o_store (cs := [.ar 25017 v49 (eSl eInt).k 0 ((a28.2.2.2 ++ [x35.1]).length)]) (zs := [.ar 25017 v49 (eSl eInt).k 0 ((a28.2.2.2 ++ [x35.1]).length)]) rfl rfl rfl ty37 rfl rfl rfl rfl rfl ?_)
     refine b_nil (hK _ ?_)
     exact to_L ⟨((((a28.2.2.2).length : Nat) : Int), mputN x47 (((a28.2.2.2).length : Nat) : Int) a28.2.2.1, a28.2.2.2 ++ [x35.1]), v49, h, rfl⟩
    have h := ifF (bF' hc) h
    refine AW.skip ?_
    exact to_L ⟨((mlook x40 a28.2.2.1).getD 0, a28.2.2.1, a28.2.2.2), w29.2, h, rfl⟩
   obtain ⟨hc, h⟩ := cF hc h
   refine AW.skip ?_
   exact to_L ⟨(a28.2.1, a28.2.2.1, a28.2.2.2), (w29.1, w29.2), h, rfl⟩
  obtain ⟨hc, h⟩ := cF hc h
  refine AW.exit ?_
  exact to_L ⟨(a28.2.1, a28.2.2.1, a28.2.2.2), (w29.1, w29.2), h, rfl⟩
 obtain ⟨hc, h⟩ := cF hc h
 refine AW.exit ?_
 exact to_L ⟨(a12.1, a12.2.2.2), (w13.1, w13.2.2), h, rfl⟩
theorem w_subset_Build {p0 : TLabelsStatesEdges} {r : TLabelsStatesEdges × (List (List (Int))) × Int} (h : m_subset_Build p0 = some r) : Pure Tryz.prog 12 [gA p0] (· = HV.tup [.agg [hI r.1.1, hI r.1.2.1, slE eFromLabelTo r.1.2.2], slE (eSl eInt) r.2.1, hI r.2.2]) := by
 unfold m_subset_Build at h
 refine Pure.of_body Tryz.func12 rfl rfl (lb rfl) fun hf => ?_
 unfold Tryz.f12
 dsimp only [enumS, Nat.reduceAdd]
 refine AW.rgs rfl fun K hK => b_op rfl (o_box rfl rfl rfl ?_)
 refine b_op rfl (o_alloc (fid := 12) (zs := [hI 0, hI 0, .v (.slice none 0 0)]) 12002 rfl rfl ty24 rfl (fun v1 => ?_))
 refine mv rfl rfl (mv rfl rfl ?_)
 let O1 : Nat × Nat × AObj := (12002, v1, .arr 3 24 [hI 0, hI 0, .v (.slice none 0 0)])
 let P1 : ASf := fun t H => ⟨(1, gF p0) :: (2, .ptr 12002 v1 0) :: t, O1 :: H⟩
 refine bf hK (P1 [] []) ?_
 refine AW.seq ?_
 refine AW.rgs rfl fun K hK => bv rfl (v_loadF ty24 rfl (l_litA rfl (lb rfl) rfl)) ?_
 obtain ⟨x2, h3, h⟩ := bS h
 refine b_op rfl (o_call rfl rfl rfl rfl (ACallD.pure0 (w_graph_Check h3)) ?_)
 refine bv rfl (v_bin rfl rfl b_neq) ?_
 refine bf hK (P1 [(9, .bool (decide (x2 ≠ 0)))] []) ?_
 refine AW.cond rfl (fun hc => ?_) (fun hc => ?_)
 ·obtain ⟨hc, h⟩ := cT hc h
  refine AW.rgs rfl fun K hK => b_op rfl (o_build (cs := [hI 0, hI 0, .v (.slice none 0 0)]) rfl (bl_of ty24 rfl rfl rfl rfl) ?_)
  refine b_op rfl (o_store (cs := [hI 0, hI 0, .v (.slice none 0 0)]) (zs := [hI 0, hI 0, .v (.slice none 0 0)]) rfl rfl rfl ty24 rfl rfl rfl rfl rfl ?_)
  refine mv rfl rfl (mv rfl rfl ?_)
  refine bf hK ⟨[(2, .ptr 12002 v1 0), (3, .v (.slice none 0 0)), (4, hI 1)], [O1]⟩ ?_
  refine AW.to (to_weak ⟨[(2, .ptr 12002 v1 0), (3, slE (eSl eInt) ([] : List (List (Int)))), (4, hI 1)], [O1]⟩ ⟨⟨_, rfl, .refl _⟩, ⟨_, rfl, .nil _⟩, ⟨_, rfl, .refl _⟩, trivial⟩ ⟨rfl, trivial⟩ ?_)
  refine AW.to (to_cells 12002 v1 (ds := [hI 0, hI 0, slE eFromLabelTo ([] : List TFromLabelTo)]) rfl (.cons (.refl _) <| .cons (.refl _) <| .cons (.nil _) <| .nil) ?_)
  obtain rfl := oi h
  exact AW.ret (ret_pure (.inr rfl) (resP ty24 rfl rfl (l_litA rfl (lb rfl) rfl) (resT rfl (resT rfl rfl))) rfl ⟨⟨trivial, trivial, (clean_slE fun _ _ => ⟨trivial, trivial, trivial, trivial⟩), trivial⟩, (clean_slE fun _ _ => ⟨(clean_slE fun _ _ => ⟨trivial, trivial⟩), trivial⟩), trivial, trivial⟩)
 obtain ⟨hc, h⟩ := cF hc h
 refine AW.skip ?_
 refine AW.seq ?_
 refine AW.rgs rfl fun K hK => bv rfl (v_fieldAddrF fo24_1 rfl) (bv rfl (v_loadF ty3 rfl (l_lit rfl rfl)) (bv rfl (v_bin rfl rfl b_eql) ?_))
 refine bf hK (P1 [(13, .bool (decide (p0.2.1 = 0)))] []) ?_
 refine AW.cond rfl (fun hc => ?_) (fun hc => ?_)
 ·obtain ⟨hc, h⟩ := cT hc h
  refine AW.rgs rfl fun K hK => bv rfl (v_fieldAddrF fo24_0 rfl) (bv rfl (v_loadF ty3 rfl (l_lit rfl rfl)) ?_)
  refine b_op rfl (o_build (cs := [hI p0.1, hI 0, .v (.slice none 0 0)]) rfl (bl_of ty24 rfl rfl rfl rfl) ?_)
  refine b_op rfl (o_store (cs := [hI p0.1, hI 0, .v (.slice none 0 0)]) (zs := [hI p0.1, hI 0, .v (.slice none 0 0)]) rfl rfl rfl ty24 rfl rfl rfl rfl rfl ?_)
  refine mv rfl rfl (mv rfl rfl ?_)
  let P2 : ASf := fun t H => ⟨(2, .ptr 12002 v1 0) :: t, (12002, v1, .arr 3 24 [hI p0.1, hI 0, .v (.slice none 0 0)]) :: H⟩
  refine bf hK (P2 [(3, .v (.slice none 0 0)), (4, hI 0)] []) ?_
  refine AW.to (to_weak (P2 [(3, slE (eSl eInt) ([] : List (List (Int)))), (4, hI 0)] []) ⟨⟨_, rfl, .refl _⟩, ⟨_, rfl, .nil _⟩, ⟨_, rfl, .refl _⟩, trivial⟩ ⟨rfl, trivial⟩ ?_)
  refine AW.to (to_cells 12002 v1 (ds := [hI p0.1, hI 0, slE eFromLabelTo ([] : List TFromLabelTo)]) rfl (.cons (.refl _) <| .cons (.refl _) <| .cons (.nil _) <| .nil) ?_)
  obtain rfl := oi h
  exact AW.ret (ret_pure (.inr rfl) (resP ty24 rfl rfl (l_litA rfl (lb rfl) rfl) (resT rfl (resT rfl rfl))) rfl ⟨⟨trivial, trivial, (clean_slE fun _ _ => ⟨trivial, trivial, trivial, trivial⟩), trivial⟩, (clean_slE fun _ _ => ⟨(clean_slE fun _ _ => ⟨trivial, trivial⟩), trivial⟩), trivial, trivial⟩)
 obtain ⟨hc, h⟩ := cF hc h
 refine AW.skip ?_
 refine AW.rgs rfl fun K hK => bv rfl (v_fieldAddrF fo24_1 rfl) (bv rfl (v_loadF ty3 rfl (l_lit rfl rfl)) ?_)
 obtain ⟨h5, h⟩ := ifN h
 refine b_op rfl (o_makeE (fid := 12) eInt (0 : Int) 12019 rfl rfl ty27 rfl rfl ty3 rfl rfl h5 (fun v4 => ?_))
 refine mv rfl rfl ?_
 let E2 : Nat × HV := (5, .ar 12019 v4 eInt.k 0 ((List.replicate (p0.2.1).toNat (0 : Int)).length))
 let O3 : Nat × Nat × AObj := (12019, v4, .arr eInt.k 3 (eInt.E (List.replicate (p0.2.1).toNat (0 : Int))))
 refine bf hK (P1 [E2] [O3]) ?_
 refine AW.seq ?_
 refine AW.rgs rfl fun K hK => mv rfl rfl (bv rfl (v_lenA rfl rfl ty27 rfl rfl) (mv rfl rfl ?_))
 let E4 : Nat × HV := (21, hI (((List.replicate (p0.2.1).toNat (0 : Int)).length : Nat) : Int))
 refine bf hK (P1 [E2, E4, (22, hI 0)] [O3]) ?_
 refine AW.lpX h (by first | exact up_then | exact up_to) (S := Int × (List Int)) (V := Unit) (fun a v => (P1 [(5, .ar 12019 v4 eInt.k 0 ((a.2).length)), E4, (22, hI a.1)] [(12019, v4, .arr eInt.k 3 (eInt.E a.2))])) ?_ (X := (List Int)) (W := Unit) (fun a v => (P1 [(5, .ar 12019 v4 eInt.k 0 ((a).length))] [(12019, v4, .arr eInt.k 3 (eInt.E a))])) (fun a12 w13 h => ?_) (fun a6 w7 st8 h => ?_)
 ·exact to_L ⟨(), rfl⟩
 ·refine AW.to (to_frz 2 [(12019, v4, .arr eInt.k 3 (eInt.E a12))] (P1 [(5, slE eInt a12)] []) ⟨⟨_, rfl, rfl⟩, ⟨_, rfl, rfl⟩, ⟨_, rfl, frz_slE eInt (l := a12) rfl fun _ _ => rfl⟩, trivial⟩ ⟨rfl, trivial⟩ ⟨rfl, trivial⟩ ⟨rfl, trivial⟩ ?_)
  refine AW.rgs rfl fun K hK => bv rfl (v_loadF ty24 rfl (l_litA rfl (lb rfl) rfl)) (mv rfl rfl ?_)
  obtain ⟨x14, h15, h⟩ := bS h
  refine b_op rfl (o_call rfl rfl rfl rfl (ACallD.pure0 (w_subset_build h15)) ?_)
  refine bv rfl (v_extract rfl rfl) (bv rfl (v_extract rfl rfl) (bv rfl (v_extract rfl rfl) ?_))
  refine b_op rfl (o_store (cs := [hI x14.1.1, hI x14.1.2.1, slE eFromLabelTo x14.1.2.2]) (zs := [hI x14.1.1, hI x14.1.2.1, slE eFromLabelTo x14.1.2.2]) rfl rfl rfl ty24 rfl rfl rfl rfl rfl ?_)
  refine mv rfl rfl (mv rfl rfl ?_)
  refine bf hK ⟨[(2, .ptr 12002 v1 0), (3, slE (eSl eInt) x14.2.1), (4, hI x14.2.2)], [(12002, v1, .arr 3 24 [hI x14.1.1, hI x14.1.2.1, slE eFromLabelTo x14.1.2.2])]⟩ ?_
  obtain rfl := oi h
  exact AW.ret (ret_pure (.inr rfl) (resP ty24 rfl rfl (l_litA rfl (lb rfl) rfl) (resT rfl (resT rfl rfl))) rfl ⟨⟨trivial, trivial, (clean_slE fun _ _ => ⟨trivial, trivial, trivial, trivial⟩), trivial⟩, (clean_slE fun _ _ => ⟨(clean_slE fun _ _ => ⟨trivial, trivial⟩), trivial⟩), trivial, trivial⟩)
 refine AW.rgs rfl fun K hK => bv rfl (v_bin rfl rfl b_lss) ?_
 refine bf hK (P1 [(5, .ar 12019 v4 eInt.k 0 ((a6.2).length)), E4, (22, hI a6.1), (23, .bool (decide (a6.1 < (((List.replicate (p0.2.1).toNat (0 : Int)).length : Nat) : Int))))] [(12019, v4, .arr eInt.k 3 (eInt.E a6.2))]) ?_
 refine AW.cseq rfl (fun hc => ?_) (fun hc => ?_)
 ·obtain ⟨hc, h⟩ := cT hc h
  refine AW.skip ?_
  refine AW.seq (AW.block ?_)
  refine AW.rgs rfl fun K hK => mv rfl rfl (mv rfl rfl ?_)
  refine bf hK (P1 [(5, .ar 12019 v4 eInt.k 0 ((a6.2).length)), (6, hI a6.1), E4, (22, hI a6.1)] [(12019, v4, .arr eInt.k 3 (eInt.E a6.2))]) ?_
  refine AW.rg rfl fun K hK => mv rfl rfl (mv rfl rfl (mv rfl rfl ?_))
  obtain ⟨x10, h11, h⟩ := bS h
  refine bv rfl (v_idxA ty27 es27 rfl rfl (idx_lt h11) rfl) ?_
  refine b_op rfl (o_storeE eInt (l := a6.2) (j := a6.1) (v := a6.1) rfl rfl rfl ty3 rfl rfl rfl (idx_lt h11) ?_)
  refine b_fin hK (s' := (P1 [(5, .ar 12019 v4 eInt.k 0 (((a6.2).set (a6.1).toNat a6.1).length)), E4, (22, hI a6.1)] [(12019, v4, .arr eInt.k 3 (eInt.E ((a6.2).set (a6.1).toNat a6.1)))])) (AS.le_of ⟨rfl, rfl, arl (by first | rfl | simp only [List.length_set, sortI_len, sortS_len, List.length_reverse]), rfl, rfl, trivial⟩ ⟨rfl, rfl, trivial⟩) ?_
  refine AW.rg rfl fun K hK => bv rfl (v_bin rfl rfl b_add) (mv rfl rfl ?_)
  refine b_nil (hK _ ?_)
  exact to_L ⟨(IntKind.wrap .i64 (a6.1 + 1), (a6.2).set (a6.1).toNat a6.1), (), h, rfl⟩
 obtain ⟨hc, h⟩ := cF hc h
 refine AW.exit ?_
 exact to_L ⟨a6.2, (), h, rfl⟩
theorem w_minimal_table_next {p0 : List (List (Int))} {p1 : Int} {p2 : Int} {r : Int} (h : m_minimal_table_next p0 p1 p2 = some r) : Pure Tryz.prog 43 [slE (eSl eInt) p0, hI p1, hI p2] (· = hI r) := by
 unfold m_minimal_table_next at h
 refine Pure.of_body Tryz.func43 rfl rfl (lb rfl) fun hf => ?_
 unfold Tryz.f43
 dsimp only [enumS, Nat.reduceAdd]
 refine AW.rgs rfl fun K hK => mv rfl rfl ?_
 refine bf hK ⟨[(0, slE (eSl eInt) p0), (1, hI p1), (2, hI p2)], []⟩ ?_
 refine AW.seq ?_
 refine AW.rgs rfl fun K hK => mv rfl rfl (bv rfl (v_bin rfl rfl b_eql) ?_)
 refine bf hK ⟨[(0, slE (eSl eInt) p0), (1, hI p1), (2, hI p2), (8, .bool (decide (p1 = (-1))))], []⟩ ?_
 refine AW.cond rfl (fun hc => ?_) (fun hc => ?_)
 ·obtain ⟨hc, h⟩ := cT hc h
  refine AW.rgs rfl fun K hK => mv rfl rfl ?_
  refine bf hK ⟨[(6, hI (-1))], []⟩ ?_
  obtain rfl := oi h
  exact AW.ret (ret_pure (.inr rfl) (resT rfl rfl) rfl trivial)
 obtain ⟨hc, h⟩ := cF hc h
 refine AW.skip ?_
 refine AW.rgs rfl fun K hK => mv rfl rfl (mv rfl rfl ?_)
 obtain ⟨x1, h2, h⟩ := bS h
 refine bv rfl (v_idxF ty58 es58 rfl rfl (idx_lt h2)) (bv rfl (v_loadF ty27 rfl (l_cell (eSl eInt) h2 (o := 0) rfl rfl)) (mv rfl rfl ?_))
 obtain ⟨x3, h4, h⟩ := bS h
 refine bv rfl (v_idxF ty27 es27 rfl rfl (idx_lt h4)) (bv rfl (v_loadF ty3 rfl (l_cell eInt h4 (o := 0) rfl rfl)) (mv rfl rfl ?_))
 refine bf hK ⟨[(6, hI x3)], []⟩ ?_
 obtain rfl := oi h
 exact AW.ret (ret_pure (.inr rfl) (resT rfl rfl) rfl trivial)
theorem w_minimal_first {p0 : List (List (Int))} {p1 : List (List (Int))} {p2 : Int} {p3 : TST} {p4 : TST → Option (Bool)} {g4 : FuncId} {z4 : List HV} {r : (List (Int)) × Bool} (h : m_minimal_first p0 p1 p2 p3 p4 = some r) (hf4 : ∀ a0 b, p4 a0 = some b → Pure Tryz.prog g4 ([.agg [hI a0.1, hI a0.2]] ++ z4) (· = HV.bool b)) : Pure Tryz.prog 27 [slE (eSl eInt) p0, slE (eSl eInt) p1, hI p2, .agg [hI p3.1, hI p3.2], .fn (.func g4) [] z4] (· = HV.tup [slE eInt r.1, .bool r.2]) := by
 unfold m_minimal_first at h
 refine Pure.of_body Tryz.func27 rfl rfl (lb rfl) fun hf => ?_
 unfold Tryz.f27
 dsimp only [enumS, Nat.reduceAdd]
 refine AW.rgs rfl fun K hK => b_op rfl (o_box rfl rfl rfl ?_)
 refine mv rfl rfl (mv rfl rfl ?_)
 let E1 : Nat × HV := (4, .fn (.func g4) [] z4)
 let P1 : ASf := fun t H => ⟨(0, slE (eSl eInt) p0) :: (1, slE (eSl eInt) p1) :: (2, hI p2) :: E1 :: t, H⟩
 refine bf hK (P1 [(8, .fptr [hI p3.1, hI p3.2] 0)] []) ?_
 refine AW.rgs rfl fun K hK => bv rfl (v_loadF ty44 rfl (l_litA rfl (lb rfl) rfl)) ?_
 refine b_op rfl (o_build (cs := [hI p3.1, hI p3.2, hI (-1), hI (-1)]) rfl (bl_of ty83 rfl rfl rfl rfl) ?_)
 refine b_op rfl (o_bslM (fid := 27) 27022 rfl rfl rfl (as_of (cs := [hI p3.1, hI p3.2, hI (-1), hI (-1)]) ty84 ty83 rfl rfl rfl rfl rfl) (fun v1 => ?_))
 refine mv rfl rfl ?_
 let E2 : Nat × HV := (12, .ar 27022 v1 ePairBeforeLabel.k 0 (([((p3.1, p3.2), (-1), (-1))]).length))
 let O3 : Nat × Nat × AObj := (27022, v1, .arr ePairBeforeLabel.k 83 (ePairBeforeLabel.E [((p3.1, p3.2), (-1), (-1))]))
 refine bf hK (P1 [(8, .fptr [hI p3.1, hI p3.2] 0), E2] [O3]) ?_
 refine AW.rgs rfl fun K hK => b_op rfl (o_makeMap (fid := 27) (fun _ : Unit => HV.v (.slice none 0 0)) 27023 rfl rfl (fun v2 => ?_))
 refine b_to (to_kmapE (K := TST) (id := 27023) (ver := v2) kfST Value.bool rfl fun v3 => ?_)
 refine bv rfl (v_loadF ty44 rfl (l_litA rfl (lb rfl) rfl)) ?_
 obtain ⟨x4, h5, h⟩ := bS h
 refine b_kset kTST Value.bool HV.bool bool_rep (k := p3) (v := true) (e := ([] : List (TST × Bool))) (es := v3) (.inr rfl) ty85 rfl rfl rfl rfl h5 (by repeat first | exact noIt_nil | refine noIt_arr ?_ | refine noIt_km ?_ | refine noIt_cons (fun _ _ _ e => by cases e) ?_) fun v6 => ?_
 refine mv rfl rfl (mv rfl rfl ?_)
 refine bf hK (P1 [E2, (13, .mp 27023 v2)] [O3, (27023, v2, .kmap (kE kfST Value.bool x4 v6))]) ?_
 refine AW.seq ?_
 refine AW.rgs rfl fun K hK => mv rfl rfl ?_
 refine bf hK (P1 [E2, (13, .mp 27023 v2), (14, hI 0)] [O3, (27023, v2, .kmap (kE kfST Value.bool x4 v6))]) ?_
 refine AW.lpR h (by first | exact up_then | exact up_to) (S := Int × (List TPairBeforeLabel) × (List (TST × Bool))) (V := Nat × List (Value × Value)) (fun a v => (P1 [(12, .ar 27022 v.1 ePairBeforeLabel.k 0 ((a.2.1).length)), (13, .mp 27023 v2), (14, hI a.1)] [(27022, v.1, .arr ePairBeforeLabel.k 83 (ePairBeforeLabel.E a.2.1)), (27023, v2, .kmap (kE kfST Value.bool a.2.2 v.2))])) ?_ (X := Unit) (W := Unit) (fun a v => ⟨[], []⟩) (fun a61 w62 h => ?_) (fun a7 w8 st9 h hr10=> ?_)
 ·exact to_L ⟨(v1, v6), rfl⟩
 ·refine AW.rgs rfl fun K hK => mv rfl rfl (mv rfl rfl ?_)
  refine bf hK ⟨[(10, .v (.slice none 0 0)), (11, .bool false)], []⟩ ?_
  refine AW.to (to_weak ⟨[(10, slE eInt ([] : List Int)), (11, .bool false)], []⟩ ⟨⟨_, rfl, .nil _⟩, ⟨_, rfl, .refl _⟩, trivial⟩ trivial ?_)
  obtain rfl := oi h
  exact AW.ret (ret_pure (.inr rfl) (resT rfl (resT rfl rfl)) rfl ⟨(clean_slE fun _ _ => ⟨trivial, trivial⟩), trivial, trivial⟩)
 refine AW.seq ?_
 refine AW.rgs rfl fun K hK => mv rfl rfl (mv rfl rfl (bv rfl (v_lenA rfl rfl ty84 rfl rfl) (bv rfl (v_bin rfl rfl b_lss) ?_)))
 let E4 : Nat × HV := (12, .ar 27022 w8.1 ePairBeforeLabel.k 0 ((a7.2.1).length))
 let O5 : Nat × Nat × AObj := (27022, w8.1, .arr ePairBeforeLabel.k 83 (ePairBeforeLabel.E a7.2.1))
 let O6 : Nat × Nat × AObj := (27023, v2, .kmap (kE kfST Value.bool a7.2.2 w8.2))
 refine bf hK (P1 [E4, (13, .mp 27023 v2), (14, hI a7.1), (29, .bool (decide (a7.1 < (((a7.2.1).length : Nat) : Int))))] [O5, O6]) ?_
 refine AW.cond rfl (fun hc => ?_) (fun hc => ?_)
 ·obtain ⟨hc, h⟩ := cT hc h
  refine AW.skip ?_
  refine AW.seq (AW.block ?_)
  refine AW.rgs rfl fun K hK => mv rfl rfl (mv rfl rfl ?_)
  obtain ⟨x11, h12, h⟩ := bS h
  refine bv rfl (v_idxA ty84 es84 rfl rfl (idx_lt h12) rfl) (bv rfl (v_fieldAddrP fo83_0 rfl rfl) ?_)
  obtain ⟨x13, h14, h⟩ := bS h
  refine bv rfl (v_loadP ty44 rfl rfl (l_part ePairBeforeLabel h14 (o := 0) rfl (by decide) rfl)) ?_
  refine b_op rfl (o_alloc (fid := 27) (zs := [hI 0, hI 0]) 27015 rfl rfl ty44 rfl (fun v15 => ?_))
  refine b_op rfl (o_store (cs := [hI x13.1.1, hI x13.1.2]) (zs := [hI x13.1.1, hI x13.1.2]) rfl rfl rfl ty44 rfl rfl rfl rfl rfl ?_)
  let O7 : Nat × Nat × AObj := (27015, v15, .arr 2 44 [hI x13.1.1, hI x13.1.2])
  refine bf hK (P1 [E4, (13, .mp 27023 v2), (14, hI a7.1), (15, .ptr 27015 v15 0)] [O5, O6, O7]) ?_
  refine AW.seq ?_
  refine AW.rgs rfl fun K hK => mv rfl rfl (bv rfl (v_loadP ty44 rfl rfl (l_litA rfl (lb rfl) rfl)) ?_)
  obtain ⟨x16, h17, h⟩ := bS h
  refine b_op rfl (o_call rfl rfl rfl rfl (ACallD.pure0 (hf4 _ _ h17)) ?_)
  refine bf hK (P1 [E4, (13, .mp 27023 v2), (14, hI a7.1), (15, .ptr 27015 v15 0), (39, .bool x16)] [O5, O6, O7]) ?_
  refine AW.cond rfl (fun hc => ?_) (fun hc => ?_)
  ·have h := ifT hc h
   refine AW.rgs rfl fun K hK => mv rfl rfl ?_
   refine bf hK ⟨[E4, (14, hI a7.1), (16, .v (.slice none 0 0))], [O5]⟩ ?_
   refine AW.seq ?_
   refine AW.rgs rfl fun K hK => mv rfl rfl (mv rfl rfl ?_)
   refine bf hK ⟨[E4, (16, .v (.slice none 0 0)), (17, hI a7.1)], [O5]⟩ ?_
   refine AW.lpX h (by first | exact up_then | exact up_to) (S := Int × (List Int)) (V := Nat) (fun a v => ⟨[E4, (16, .ar 27059 v eInt.k 0 ((a.2).length)), (17, hI a.1)], [O5, (27059, v, .arr eInt.k 3 (eInt.E a.2))]⟩) ?_ (X := (List Int)) (W := Nat) (fun a v => ⟨[(16, .ar 27059 v eInt.k 0 ((a).length))], [(27059, v, .arr eInt.k 3 (eInt.E a))]⟩) (fun a37 w38 h => ?_) (fun a18 w19 st20 h => ?_)
   ·refine to_bind (to_own 27059 16 eInt.k 3 rfl fun v36 => ?_)
    exact to_le (s' := ⟨[E4, (16, .ar 27059 v36 eInt.k 0 ((([] : List Int)).length)), (17, hI a7.1)], [O5, (27059, v36, .arr eInt.k 3 (eInt.E ([] : List Int)))]⟩) (AS.le_of ⟨rfl, arl (by first | rfl | simp only [List.length_set, sortI_len, sortS_len, List.length_reverse]), rfl, trivial⟩ ⟨rfl, rfl, trivial⟩) ⟨v36, rfl⟩
   ·refine AW.rgs rfl fun K hK => mv rfl rfl ?_
    obtain ⟨h39, h⟩ := ifN h
    refine b_op rfl (o_revI c_revI (l := a37) rfl rfl rfl rfl h39 ?_)
    refine b_fin hK (s' := ⟨[(16, .ar 27059 w38 eInt.k 0 ((List.reverse a37).length))], [(27059, w38, .arr eInt.k 3 (eInt.E (List.reverse a37)))]⟩) (AS.le_of ⟨arl (by first | rfl | simp only [List.length_set, sortI_len, sortS_len, List.length_reverse]), trivial⟩ ⟨rfl, trivial⟩) ?_
    refine AW.rgs rfl fun K hK => mv rfl rfl (mv rfl rfl (mv rfl rfl ?_))
    refine bf hK ⟨[(10, .ar 27059 w38 eInt.k 0 ((List.reverse a37).length)), (11, .bool true)], [(27059, w38, .arr eInt.k 3 (eInt.E (List.reverse a37)))]⟩ ?_
    have h := hr10 _ h
    refine AW.to (to_frz 2 [(27059, w38, .arr eInt.k 3 (eInt.E (List.reverse a37)))] ⟨[(10, slE eInt (List.reverse a37)), (11, .bool true)], []⟩ ⟨⟨_, rfl, frz_slE eInt (l := List.reverse a37) rfl fun _ _ => rfl⟩, ⟨_, rfl, rfl⟩, trivial⟩ trivial ⟨rfl, trivial⟩ ⟨rfl, trivial⟩ ?_)
    obtain rfl := oi h
    exact AW.ret (ret_pure (.inr rfl) (resT rfl (resT rfl rfl)) rfl ⟨(clean_slE fun _ _ => ⟨trivial, trivial⟩), trivial, trivial⟩)
   refine AW.seq ?_
   refine AW.rgs rfl fun K hK => mv rfl rfl (mv rfl rfl ?_)
   obtain ⟨x22, h23, h⟩ := bS h
   refine bv rfl (v_idxA ty84 es84 rfl rfl (idx_lt h23) rfl) (bv rfl (v_fieldAddrP fo83_1 rfl rfl) ?_)
   obtain ⟨x24, h25, h⟩ := bS h
   refine bv rfl (v_loadP ty3 rfl rfl (l_cell ePairBeforeLabel h25 (o := 2) rfl rfl)) (bv rfl (v_bin rfl rfl b_neq) ?_)
   refine bf hK ⟨[E4, (16, .ar 27059 w19 eInt.k 0 ((a18.2).length)), (17, hI a18.1), (46, .bool (decide (x24.2.1 ≠ (-1))))], [O5, (27059, w19, .arr eInt.k 3 (eInt.E a18.2))]⟩ ?_
   refine AW.cond rfl (fun hc => ?_) (fun hc => ?_)
   ·obtain ⟨hc, h⟩ := cT hc h
    refine AW.skip ?_
    refine AW.seq (AW.block ?_)
    refine AW.rg rfl fun K hK => mv rfl rfl (mv rfl rfl (mv rfl rfl ?_))
    obtain ⟨x26, h27, h⟩ := bS h
    refine bv rfl (v_idxA ty84 es84 rfl rfl (idx_lt h27) rfl) (bv rfl (v_fieldAddrP fo83_2 rfl rfl) ?_)
    obtain ⟨x28, h29, h⟩ := bS h
    refine bv rfl (v_loadP ty3 rfl rfl (l_cell ePairBeforeLabel h29 (o := 3) rfl rfl)) ?_
    refine b_op rfl (o_bsl rfl rfl (as_of (cs := [hI x28.2.2]) ty27 ty3 rfl rfl rfl rfl rfl) ?_)
    obtain ⟨h31, h⟩ := ifN h
    refine b_op rfl (o_appE eInt (l := a18.2) (m := [x28.2.2]) rfl rfl ty27 ty27 ty3 rfl rfl rfl rfl rfl h31 (fun v30 => ?_))
    refine mv rfl rfl ?_
    refine bf hK ⟨[E4, (16, .ar 27059 v30 eInt.k 0 ((a18.2 ++ [x28.2.2]).length)), (17, hI a18.1)], [O5, (27059, v30, .arr eInt.k 3 (eInt.E (a18.2 ++ [x28.2.2])))]⟩ ?_
    refine AW.rg rfl fun K hK => mv rfl rfl (mv rfl rfl ?_)
    obtain ⟨x32, h33, h⟩ := bS h
    refine bv rfl (v_idxA ty84 es84 rfl rfl (idx_lt h33) rfl) (bv rfl (v_fieldAddrP fo83_1 rfl rfl) ?_)
    obtain ⟨x34, h35, h⟩ := bS h
    refine bv rfl (v_loadP ty3 rfl rfl (l_cell ePairBeforeLabel h35 (o := 2) rfl rfl)) (mv rfl rfl ?_)
    refine b_nil (hK _ ?_)
    exact to_L ⟨(x34.2.1, a18.2 ++ [x28.2.2]), v30, h, rfl⟩
   obtain ⟨hc, h⟩ := cF hc h
   refine AW.exit ?_
   exact to_L ⟨a18.2, w19, h, rfl⟩
  have h := ifF (bF' hc) h
  refine AW.skip ?_
  refine AW.rgs rfl fun K hK => mv rfl rfl (mv rfl rfl ?_)
  refine bf hK (P1 [E4, (13, .mp 27023 v2), (14, hI a7.1), (15, .ptr 27015 v15 0), (63, hI p2), (64, hI 0)] [O5, O6, O7]) ?_
  refine AW.lpX h (by first | exact up_then | exact up_to) (S := Int × (List TPairBeforeLabel) × (List (TST × Bool))) (V := Nat × List (Value × Value)) (fun a v => (P1 [(12, .ar 27022 v.1 ePairBeforeLabel.k 0 ((a.2.1).length)), (13, .mp 27023 v2), (14, hI a7.1), (15, .ptr 27015 v15 0), (63, hI p2), (64, hI a.1)] [O7, (27022, v.1, .arr ePairBeforeLabel.k 83 (ePairBeforeLabel.E a.2.1)), (27023, v2, .kmap (kE kfST Value.bool a.2.2 v.2))])) ?_ (X := (List TPairBeforeLabel) × (List (TST × Bool))) (W := Nat × List (Value × Value)) (fun a v => (P1 [(12, .ar 27022 v.1 ePairBeforeLabel.k 0 ((a.1).length)), (13, .mp 27023 v2), (14, hI a7.1)] [(27022, v.1, .arr ePairBeforeLabel.k 83 (ePairBeforeLabel.E a.1)), (27023, v2, .kmap (kE kfST Value.bool a.2 v.2))])) (fun a59 w60 h => ?_) (fun a40 w41 st42 h => ?_)
  ·exact to_L ⟨(w8.1, w8.2), rfl⟩
  ·refine AW.rg rfl fun K hK => mv rfl rfl (bv rfl (v_bin rfl rfl b_add) (mv rfl rfl ?_))
   refine b_nil (hK _ ?_)
   exact to_L ⟨(IntKind.wrap .i64 (a7.1 + 1), a59.1, a59.2), (w60.1, w60.2), h, rfl⟩
  refine AW.rgs rfl fun K hK => bv rfl (v_bin rfl rfl b_lss) ?_
  let E8 : Nat × HV := (12, .ar 27022 w41.1 ePairBeforeLabel.k 0 ((a40.2.1).length))
  let O9 : Nat × Nat × AObj := (27022, w41.1, .arr ePairBeforeLabel.k 83 (ePairBeforeLabel.E a40.2.1))
  let O10 : Nat × Nat × AObj := (27023, v2, .kmap (kE kfST Value.bool a40.2.2 w41.2))
  refine bf hK (P1 [E8, (13, .mp 27023 v2), (14, hI a7.1), (15, .ptr 27015 v15 0), (63, hI p2), (64, hI a40.1), (65, .bool (decide (a40.1 < p2)))] [O7, O9, O10]) ?_
  refine AW.cseq rfl (fun hc => ?_) (fun hc => ?_)
  ·obtain ⟨hc, h⟩ := cT hc h
   refine AW.skip ?_
   refine AW.seqJ h (S := (List TPairBeforeLabel) × (List (TST × Bool))) (V := Nat × List (Value × Value)) (fun a v => (P1 [(12, .ar 27022 v.1 ePairBeforeLabel.k 0 ((a.1).length)), (13, .mp 27023 v2), (14, hI a7.1), (15, .ptr 27015 v15 0), (63, hI p2), (64, hI a40.1)] [O7, (27022, v.1, .arr ePairBeforeLabel.k 83 (ePairBeforeLabel.E a.1)), (27023, v2, .kmap (kE kfST Value.bool a.2 v.2))])) (fun a44 w45 h => ?_) (fun k46 h => ?_)
   ·refine AW.rg rfl fun K hK => bv rfl (v_bin rfl rfl b_add) (mv rfl rfl ?_)
    refine b_nil (hK _ ?_)
    exact to_L ⟨(IntKind.wrap .i64 (a40.1 + 1), a44.1, a44.2), (w45.1, w45.2), h, rfl⟩
   refine AW.block ?_
   refine AW.rgs rfl fun K hK => mv rfl rfl (mv rfl rfl ?_)
   refine bf hK (P1 [E8, (13, .mp 27023 v2), (14, hI a7.1), (15, .ptr 27015 v15 0), (18, hI a40.1), (63, hI p2), (64, hI a40.1)] [O7, O9, O10]) ?_
   refine AW.dls follows fun K hK F hF => ?_
   obtain ⟨x470401, h470402, h⟩ := bS h
   obtain ⟨x470901, h470902, h⟩ := bS h
   refine l_go (L' := []) hF rfl (s' := (P1 [E8, (13, .mp 27023 v2), (14, hI a7.1), (15, .ptr 27015 v15 0), (18, hI a40.1), (63, hI p2), (64, hI a40.1)] [O7, O9, O10])) ?_ (le_q rfl rfl)
   have g47_16 : ∀ (v471101 : Nat), F [0, 1, 2, 3, 4, 5, 6, 7, 8, 9, 10, 11, 12] (P1 [E8, (13, .mp 27023 v2), (14, hI a7.1), (15, .ptr 27015 v15 0), (18, hI a40.1), (19, .ptr 27019 v471101 0), (63, hI p2), (64, hI a40.1)] [O7, O9, O10, (27019, v471101, .arr 2 44 [hI x470401, hI x470901])]) := by
    intro v471101
    let O11 : Nat × Nat × AObj := (27019, v471101, .arr 2 44 [hI x470401, hI x470901])
    refine l_done hF rfl rfl (hK _ (AW.to (to_le (s' := (P1 [E8, (13, .mp 27023 v2), (14, hI a7.1), (15, .ptr 27015 v15 0), (18, hI a40.1), (19, .ptr 27019 v471101 0), (63, hI p2), (64, hI a40.1)] [O7, O9, O10, O11])) (le_q rfl rfl) ?_)))
    refine AW.seqJ h (S := Bool) (V := Unit) (fun a v => (P1 [E8, (13, .mp 27023 v2), (14, hI a7.1), (15, .ptr 27015 v15 0), (18, hI a40.1), (19, .ptr 27019 v471101 0), (63, hI p2), (64, hI a40.1), (86, .bool a)] [O7, O11, O9, O10])) (fun a48 w49 h => ?_) (fun k50 h => ?_)
    ·refine AW.cond rfl (fun hc => ?_) (fun hc => ?_)
     ·have h := ifT hc h
      refine AW.rgs rfl fun K hK => mv rfl rfl (bv rfl (v_loadP ty44 rfl rfl (l_litA rfl (lb rfl) rfl)) ?_)
      obtain ⟨x51, h52, h⟩ := bS h
      refine b_kset kTST Value.bool HV.bool bool_rep (k := (x470401, x470901)) (v := true) (e := a40.2.2) (es := w41.2) (.inl rfl) ty85 rfl rfl rfl rfl h52 (by repeat first | exact noIt_nil | refine noIt_arr ?_ | refine noIt_km ?_ | refine noIt_cons (fun _ _ _ e => by cases e) ?_) fun v53 => ?_
      refine bf hK (P1 [E8, (13, .mp 27023 v2), (14, hI a7.1), (15, .ptr 27015 v15 0), (18, hI a40.1), (19, .ptr 27019 v471101 0), (63, hI p2), (64, hI a40.1)] [O7, O11, O9, (27023, v2, .kmap (kE kfST Value.bool x51 v53))]) ?_
      refine AW.rg rfl fun K hK => mv rfl rfl (bv rfl (v_loadP ty44 rfl rfl (l_litA rfl (lb rfl) rfl)) (mv rfl rfl (mv rfl rfl ?_)))
      refine b_op rfl (o_build (cs := [hI x470401, hI x470901, hI a7.1, hI a40.1]) rfl (bl_of ty83 rfl rfl rfl rfl) ?_)
      refine b_op rfl (o_bsl rfl rfl (as_of (cs := [hI x470401, hI x470901, hI a7.1, hI a40.1]) ty84 ty83 rfl rfl rfl rfl rfl) ?_)
      obtain ⟨h55, h⟩ := ifN h
      refine b_op rfl (o_appE ePairBeforeLabel (l := a40.2.1) (m := [((x470401, x470901), a7.1, a40.1)]) rfl rfl ty84 ty84 ty83 rfl rfl rfl rfl rfl h55 (fun v54 => ?_))
      refine mv rfl rfl ?_
      refine b_nil (hK _ ?_)
      exact to_L ⟨(a40.2.1 ++ [((x470401, x470901), a7.1, a40.1)], x51), (v54, v53), h, rfl⟩
     have h := ifF (bF' hc) h
     refine AW.skip ?_
     exact to_L ⟨(a40.2.1, a40.2.2), (w41.1, w41.2), h, rfl⟩
    refine AW.rg rfl fun K hK => bv rfl (v_loadP ty44 rfl rfl (l_litA rfl (lb rfl) rfl)) ?_
    refine b_op rfl (o_build (cs := [hI (-1), hI (-1)]) rfl (bl_of ty44 rfl rfl rfl rfl) ?_)
    refine bv rfl (v_bin rfl rfl (b_aneq (hk44 _ _) (hk44 _ _) hc44 (hq44 ((x470401, x470901) : TST) ((-1), (-1))))) (mv rfl rfl ?_)
    by_cases hg58 : ((x470401, x470901) : TST) = ((-1), (-1))
    ·have h := ifT hg58 h
     refine b_F rfl rfl rfl rfl rfl (notF' hg58) ?_
     iterate 3 refine b_F rfl rfl rfl rfl rfl rfl ?_
     refine bv rfl (v_pickF rfl rfl rfl) ?_
     refine b_nil (hK _ ?_)
     exact to_L ⟨false, (), h, rfl⟩
    have h := ifF hg58 h
    refine b_T rfl rfl rfl rfl (notT' hg58) (o_val rfl (mv_val rfl rfl).2 ?_)
    refine b_T rfl rfl rfl rfl rfl (o_val rfl (v_loadP ty44 rfl rfl (l_litA rfl (lb rfl) rfl)) ?_)
    obtain ⟨x56, h57, h⟩ := bS h
    refine b_TX rfl rfl rfl rfl rfl (fun hN => o_klook hN kTST Value.bool HV.bool bool_const (k := (x470401, x470901)) (v := x56) (z := false) (e := a40.2.2) (es := w41.2) rfl ty85 ty4 rfl rfl rfl rfl h57 ?_)
    refine b_T rfl rfl rfl rfl rfl (o_val rfl (v_not rfl) ?_)
    refine bv rfl (v_pickT rfl rfl rfl) ?_
    refine b_nil (hK _ ?_)
    exact to_L ⟨!x56, (), h, rfl⟩
   let P : ASf := fun t H => ⟨(0, slE (eSl eInt) p0) :: (1, slE (eSl eInt) p1) :: (2, hI p2) :: (4, .fn (.func g4) [] z4) :: (12, .ar 27022 w41.1 ePairBeforeLabel.k 0 ((a40.2.1).length)) :: (13, .mp 27023 v2) :: (14, hI a7.1) :: (15, .ptr 27015 v15 0) :: (18, hI a40.1) :: t, (27015, v15, .arr 2 44 [hI x13.1.1, hI x13.1.2]) :: (27022, w41.1, .arr ePairBeforeLabel.k 83 (ePairBeforeLabel.E a40.2.1)) :: (27023, v2, .kmap (kE kfST Value.bool a40.2.2 w41.2)) :: H⟩
   have g47_15 : ∀ (v471101 : Nat), F [0, 1, 2, 3, 4, 5, 6, 7, 8, 9, 10, 11] (P [(19, .ptr 27019 v471101 0), (63, hI p2), (64, hI a40.1), (77, .agg [hI x470401, hI x470901])] [(27019, v471101, .arr 2 44 [hI 0, hI 0])]) := by
    intro v471101
    refine l_step hF rfl [12] rfl rfl ⟨?_, trivial⟩
    refine l_op rfl rfl rfl (o_store (cs := [hI x470401, hI x470901]) (zs := [hI x470401, hI x470901]) rfl rfl rfl ty44 rfl rfl rfl rfl rfl ?_)
    exact b_nil (lg hF (g47_16 v471101))
   have g47_14 : ∀ (v471101 : Nat), F [0, 1, 2, 3, 4, 5, 6, 7, 8, 9, 11] (P [(19, .ptr 27019 v471101 0), (63, hI p2), (64, hI a40.1), (71, hI x470401), (76, hI x470901)] [(27019, v471101, .arr 2 44 [hI 0, hI 0])]) := by
    intro v471101
    refine l_step hF rfl [10] rfl rfl ⟨?_, trivial⟩
    refine l_op rfl rfl rfl (o_build (cs := [hI x470401, hI x470901]) rfl (bl_of ty44 rfl rfl rfl rfl) ?_)
    exact b_nil (lg hF (g47_15 v471101))
   have g47_21 : F [0, 1, 2, 3, 4, 5, 6, 7, 8, 9, 10] (P [(63, hI p2), (64, hI a40.1), (77, .agg [hI x470401, hI x470901])] []) := by
    refine l_step hF rfl [11] rfl rfl ⟨?_, trivial⟩
    refine l_op rfl rfl rfl (o_alloc (fid := 27) (zs := [hI 0, hI 0]) 27019 rfl rfl ty44 rfl (fun v471101 => ?_))
    exact b_nil (lg hF (g47_15 v471101))
   have g47_13 : ∀ (v471101 : Nat), F [0, 1, 2, 3, 4, 5, 6, 7, 8, 11] (P [(19, .ptr 27019 v471101 0), (63, hI p2), (64, hI a40.1), (71, hI x470401), (72, slE (eSl eInt) p1), (74, hI x13.1.2), (75, hI a40.1)] [(27019, v471101, .arr 2 44 [hI 0, hI 0])]) := by
    intro v471101
    refine l_step hF rfl [9] rfl rfl ⟨?_, trivial⟩
    refine l_op rfl rfl rfl (o_call rfl rfl rfl rfl (ACallD.pure0 (w_minimal_table_next h470902)) ?_)
    exact b_nil (lg hF (g47_14 v471101))
   have g47_20 : F [0, 1, 2, 3, 4, 5, 6, 7, 8, 9] (P [(63, hI p2), (64, hI a40.1), (71, hI x470401), (76, hI x470901)] []) := by
    refine l_step hF rfl [10, 11] rfl rfl ⟨?_, ?_, trivial⟩
    ·refine l_op rfl rfl rfl (o_build (cs := [hI x470401, hI x470901]) rfl (bl_of ty44 rfl rfl rfl rfl) ?_)
     exact b_nil (lg hF (g47_21))
    refine l_op rfl rfl rfl (o_alloc (fid := 27) (zs := [hI 0, hI 0]) 27019 rfl rfl ty44 rfl (fun v471101 => ?_))
    exact b_nil (lg hF (g47_14 v471101))
   have g47_12 : ∀ (v471101 : Nat), F [0, 1, 2, 3, 5, 6, 7, 8, 11] (P [(19, .ptr 27019 v471101 0), (63, hI p2), (64, hI a40.1), (67, slE (eSl eInt) p0), (69, hI x13.1.1), (70, hI a40.1), (72, slE (eSl eInt) p1), (74, hI x13.1.2), (75, hI a40.1)] [(27019, v471101, .arr 2 44 [hI 0, hI 0])]) := by
    intro v471101
    refine l_step hF rfl [4] rfl rfl ⟨?_, trivial⟩
    refine l_op rfl rfl rfl (o_call rfl rfl rfl rfl (ACallD.pure0 (w_minimal_table_next h470402)) ?_)
    exact b_nil (lg hF (g47_13 v471101))
   have g47_17 : ∀ (v471101 : Nat), F [0, 1, 2, 3, 4, 5, 6, 8, 11] (P [(19, .ptr 27019 v471101 0), (63, hI p2), (64, hI a40.1), (71, hI x470401), (72, slE (eSl eInt) p1), (73, .ptr 27015 v15 1), (75, hI a40.1)] [(27019, v471101, .arr 2 44 [hI 0, hI 0])]) := by
    intro v471101
    refine l_step hF rfl [7] rfl rfl ⟨?_, trivial⟩
    exact l_ov rfl rfl rfl rfl (v_loadP ty3 rfl rfl (l_lit rfl rfl)) (lg hF (g47_13 v471101))
   have g47_19 : F [0, 1, 2, 3, 4, 5, 6, 7, 8] (P [(63, hI p2), (64, hI a40.1), (71, hI x470401), (72, slE (eSl eInt) p1), (74, hI x13.1.2), (75, hI a40.1)] []) := by
    refine l_step hF rfl [9, 11] rfl rfl ⟨?_, ?_, trivial⟩
    ·refine l_op rfl rfl rfl (o_call rfl rfl rfl rfl (ACallD.pure0 (w_minimal_table_next h470902)) ?_)
     exact b_nil (lg hF (g47_20))
    refine l_op rfl rfl rfl (o_alloc (fid := 27) (zs := [hI 0, hI 0]) 27019 rfl rfl ty44 rfl (fun v471101 => ?_))
    exact b_nil (lg hF (g47_13 v471101))
   have g47_10 : ∀ (v471101 : Nat), F [0, 1, 2, 3, 5, 6, 8, 11] (P [(19, .ptr 27019 v471101 0), (63, hI p2), (64, hI a40.1), (67, slE (eSl eInt) p0), (69, hI x13.1.1), (70, hI a40.1), (72, slE (eSl eInt) p1), (73, .ptr 27015 v15 1), (75, hI a40.1)] [(27019, v471101, .arr 2 44 [hI 0, hI 0])]) := by
    intro v471101
    refine l_step hF rfl [4, 7] rfl rfl ⟨?_, ?_, trivial⟩
    ·refine l_op rfl rfl rfl (o_call rfl rfl rfl rfl (ACallD.pure0 (w_minimal_table_next h470402)) ?_)
     exact b_nil (lg hF (g47_17 v471101))
    exact l_ov rfl rfl rfl rfl (v_loadP ty3 rfl rfl (l_lit rfl rfl)) (lg hF (g47_12 v471101))
   have g47_11 : ∀ (v471101 : Nat), F [0, 1, 3, 5, 6, 7, 8, 11] (P [(19, .ptr 27019 v471101 0), (63, hI p2), (64, hI a40.1), (67, slE (eSl eInt) p0), (68, .ptr 27015 v15 0), (70, hI a40.1), (72, slE (eSl eInt) p1), (74, hI x13.1.2), (75, hI a40.1)] [(27019, v471101, .arr 2 44 [hI 0, hI 0])]) := by
    intro v471101
    refine l_step hF rfl [2] rfl rfl ⟨?_, trivial⟩
    exact l_ov rfl rfl rfl rfl (v_loadP ty3 rfl rfl (l_lit rfl rfl)) (lg hF (g47_12 v471101))
   have g47_18 : F [0, 1, 2, 3, 5, 6, 7, 8] (P [(63, hI p2), (64, hI a40.1), (67, slE (eSl eInt) p0), (69, hI x13.1.1), (70, hI a40.1), (72, slE (eSl eInt) p1), (74, hI x13.1.2), (75, hI a40.1)] []) := by
    refine l_step hF rfl [4, 11] rfl rfl ⟨?_, ?_, trivial⟩
    ·refine l_op rfl rfl rfl (o_call rfl rfl rfl rfl (ACallD.pure0 (w_minimal_table_next h470402)) ?_)
     exact b_nil (lg hF (g47_19))
    refine l_op rfl rfl rfl (o_alloc (fid := 27) (zs := [hI 0, hI 0]) 27019 rfl rfl ty44 rfl (fun v471101 => ?_))
    exact b_nil (lg hF (g47_12 v471101))
   have g47_22 : F [0, 1, 2, 3, 4, 5, 6, 8] (P [(63, hI p2), (64, hI a40.1), (71, hI x470401), (72, slE (eSl eInt) p1), (73, .ptr 27015 v15 1), (75, hI a40.1)] []) := by
    refine l_step hF rfl [7, 11] rfl rfl ⟨?_, ?_, trivial⟩
    ·exact l_ov rfl rfl rfl rfl (v_loadP ty3 rfl rfl (l_lit rfl rfl)) (lg hF (g47_19))
    refine l_op rfl rfl rfl (o_alloc (fid := 27) (zs := [hI 0, hI 0]) 27019 rfl rfl ty44 rfl (fun v471101 => ?_))
    exact b_nil (lg hF (g47_17 v471101))
   have g47_7 : F [0, 1, 2, 3, 5, 6, 8] (P [(63, hI p2), (64, hI a40.1), (67, slE (eSl eInt) p0), (69, hI x13.1.1), (70, hI a40.1), (72, slE (eSl eInt) p1), (73, .ptr 27015 v15 1), (75, hI a40.1)] []) := by
    refine l_step hF rfl [4, 7, 11] rfl rfl ⟨?_, ?_, ?_, trivial⟩
    ·refine l_op rfl rfl rfl (o_call rfl rfl rfl rfl (ACallD.pure0 (w_minimal_table_next h470402)) ?_)
     exact b_nil (lg hF (g47_22))
    ·exact l_ov rfl rfl rfl rfl (v_loadP ty3 rfl rfl (l_lit rfl rfl)) (lg hF (g47_18))
    refine l_op rfl rfl rfl (o_alloc (fid := 27) (zs := [hI 0, hI 0]) 27019 rfl rfl ty44 rfl (fun v471101 => ?_))
    exact b_nil (lg hF (g47_10 v471101))
   have g47_8 : F [0, 1, 3, 5, 6, 7, 8] (P [(63, hI p2), (64, hI a40.1), (67, slE (eSl eInt) p0), (68, .ptr 27015 v15 0), (70, hI a40.1), (72, slE (eSl eInt) p1), (74, hI x13.1.2), (75, hI a40.1)] []) := by
    refine l_step hF rfl [2, 11] rfl rfl ⟨?_, ?_, trivial⟩
    ·exact l_ov rfl rfl rfl rfl (v_loadP ty3 rfl rfl (l_lit rfl rfl)) (lg hF (g47_18))
    refine l_op rfl rfl rfl (o_alloc (fid := 27) (zs := [hI 0, hI 0]) 27019 rfl rfl ty44 rfl (fun v471101 => ?_))
    exact b_nil (lg hF (g47_11 v471101))
   have g47_9 : ∀ (v471101 : Nat), F [0, 1, 3, 5, 6, 8, 11] (P [(19, .ptr 27019 v471101 0), (63, hI p2), (64, hI a40.1), (67, slE (eSl eInt) p0), (68, .ptr 27015 v15 0), (70, hI a40.1), (72, slE (eSl eInt) p1), (73, .ptr 27015 v15 1), (75, hI a40.1)] [(27019, v471101, .arr 2 44 [hI 0, hI 0])]) := by
    intro v471101
    refine l_step hF rfl [2, 7] rfl rfl ⟨?_, ?_, trivial⟩
    ·exact l_ov rfl rfl rfl rfl (v_loadP ty3 rfl rfl (l_lit rfl rfl)) (lg hF (g47_10 v471101))
    exact l_ov rfl rfl rfl rfl (v_loadP ty3 rfl rfl (l_lit rfl rfl)) (lg hF (g47_11 v471101))
   have g47_6 : F [0, 1, 3, 5, 6, 8] (P [(63, hI p2), (64, hI a40.1), (67, slE (eSl eInt) p0), (68, .ptr 27015 v15 0), (70, hI a40.1), (72, slE (eSl eInt) p1), (73, .ptr 27015 v15 1), (75, hI a40.1)] []) := by
    refine l_step hF rfl [2, 7, 11] rfl rfl ⟨?_, ?_, ?_, trivial⟩
    ·exact l_ov rfl rfl rfl rfl (v_loadP ty3 rfl rfl (l_lit rfl rfl)) (lg hF (g47_7))
    ·exact l_ov rfl rfl rfl rfl (v_loadP ty3 rfl rfl (l_lit rfl rfl)) (lg hF (g47_8))
    refine l_op rfl rfl rfl (o_alloc (fid := 27) (zs := [hI 0, hI 0]) 27019 rfl rfl ty44 rfl (fun v471101 => ?_))
    exact b_nil (lg hF (g47_9 v471101))
   have g47_5 : F [0, 1, 3, 5, 6] (P [(63, hI p2), (64, hI a40.1), (67, slE (eSl eInt) p0), (68, .ptr 27015 v15 0), (70, hI a40.1), (72, slE (eSl eInt) p1), (73, .ptr 27015 v15 1)] []) := by
    refine l_take (i := 8) hF rfl rfl rfl (mv_val rfl rfl).2 ?_
    exact lg hF (g47_6)
   have g47_4 : F [0, 1, 3, 5] (P [(63, hI p2), (64, hI a40.1), (67, slE (eSl eInt) p0), (68, .ptr 27015 v15 0), (70, hI a40.1), (72, slE (eSl eInt) p1)] []) := by
    refine l_take (i := 6) hF rfl rfl rfl (v_fieldAddrP fo44_1 rfl rfl) ?_
    exact lg hF (g47_5)
   have g47_3 : F [0, 1, 3] (P [(63, hI p2), (64, hI a40.1), (67, slE (eSl eInt) p0), (68, .ptr 27015 v15 0), (70, hI a40.1)] []) := by
    refine l_take (i := 5) hF rfl rfl rfl (mv_val rfl rfl).2 ?_
    exact lg hF (g47_4)
   have g47_2 : F [0, 1] (P [(63, hI p2), (64, hI a40.1), (67, slE (eSl eInt) p0), (68, .ptr 27015 v15 0)] []) := by
    refine l_take (i := 3) hF rfl rfl rfl (mv_val rfl rfl).2 ?_
    exact lg hF (g47_3)
   have g47_1 : F [0] (P [(63, hI p2), (64, hI a40.1), (67, slE (eSl eInt) p0)] []) := by
    refine l_take (i := 1) hF rfl rfl rfl (v_fieldAddrP fo44_0 rfl rfl) ?_
    exact lg hF (g47_2)
   have g47_0 : F [] (P [(63, hI p2), (64, hI a40.1)] []) := by
    refine l_take (i := 0) hF rfl rfl rfl (mv_val rfl rfl).2 ?_
    exact lg hF (g47_1)
   exact g47_0
  obtain ⟨hc, h⟩ := cF hc h
  refine AW.exit ?_
  exact to_L ⟨(a40.2.1, a40.2.2), (w41.1, w41.2), h, rfl⟩
 obtain ⟨hc, h⟩ := cF hc h
 refine AW.exit ?_
 exact to_L ⟨(), (), h, rfl⟩
theorem w_minimal_search {p0 : TLabelsStatesEdges} {p1 : TLabelsStatesEdges} {p2 : TST → Option (Bool)} {g2 : FuncId} {z2 : List HV} {r : (List (Int)) × Bool × Int} (h : m_minimal_search p0 p1 p2 = some r) (hf2 : ∀ a0 b, p2 a0 = some b → Pure Tryz.prog g2 ([.agg [hI a0.1, hI a0.2]] ++ z2) (· = HV.bool b)) : Pure Tryz.prog 14 [gA p0, gA p1, .fn (.func g2) [] z2] (· = HV.tup [slE eInt r.1, .bool r.2.1, hI r.2.2]) := by
 unfold m_minimal_search at h
 refine Pure.of_body Tryz.func14 rfl rfl (lb rfl) fun hf => ?_
 unfold Tryz.f14
 dsimp only [enumS, Nat.reduceAdd]
 refine AW.rgs rfl fun K hK => b_op rfl (o_box rfl rfl rfl ?_)
 refine b_op rfl (o_box rfl rfl rfl ?_)
 refine mv rfl rfl (mv rfl rfl (mv rfl rfl ?_))
 let E1 : Nat × HV := (2, .fn (.func g2) [] z2)
 let P1 : ASf := fun t H => ⟨E1 :: (3, gF p0) :: (4, gF p1) :: t, H⟩
 refine bf hK (P1 [] []) ?_
 refine AW.seq ?_
 refine AW.seqJ h (S := Bool) (V := Unit) (fun a v => (P1 [(26, .bool a)] [])) (fun a1 w2 h => ?_) (fun k3 h => ?_)
 ·refine AW.cond rfl (fun hc => ?_) (fun hc => ?_)
  ·have h := ifT hc h
   refine AW.rgs rfl fun K hK => mv rfl rfl (mv rfl rfl (mv rfl rfl ?_))
   refine bf hK ⟨[(6, .v (.slice none 0 0)), (7, .bool false), (8, hI 1)], []⟩ ?_
   refine AW.to (to_weak ⟨[(6, slE eInt ([] : List Int)), (7, .bool false), (8, hI 1)], []⟩ ⟨⟨_, rfl, .nil _⟩, ⟨_, rfl, .refl _⟩, ⟨_, rfl, .refl _⟩, trivial⟩ trivial ?_)
   obtain rfl := oi h
   exact AW.ret (ret_pure (.inr rfl) (resT rfl (resT rfl (resT rfl rfl))) rfl ⟨(clean_slE fun _ _ => ⟨trivial, trivial⟩), trivial, trivial, trivial⟩)
  have h := ifF (bF' hc) h
  refine AW.skip ?_
  refine AW.rgs rfl fun K hK => b_op rfl (o_alloc (fid := 14) (zs := [.v (.slice none 0 0), .v (.slice none 0 0)]) 14009 rfl rfl ty59 rfl (fun v4 => ?_))
  refine b_to (to_cells 14009 v4 (ds := [slE (eSl eInt) ([] : List (List (Int))), slE (eSl eInt) ([] : List (List (Int)))]) rfl (.cons (.nil _) <| .cons (.nil _) <| .nil) ?_)
  let O2 : Nat × Nat × AObj := (14009, v4, .arr 2 59 [slE (eSl eInt) ([] : List (List (Int))), slE (eSl eInt) ([] : List (List (Int)))])
  refine bf hK (P1 [(9, .ptr 14009 v4 0)] [O2]) ?_
  refine AW.rgs rfl fun K hK => b_op rfl (o_build (cs := [hI (-1), hI (-1)]) rfl (bl_of ty44 rfl rfl rfl rfl) ?_)
  refine b_op rfl (o_alloc (fid := 14) (zs := [hI 0, hI 0]) 14010 rfl rfl ty44 rfl (fun v5 => ?_))
  refine b_op rfl (o_store (cs := [hI (-1), hI (-1)]) (zs := [hI (-1), hI (-1)]) rfl rfl rfl ty44 rfl rfl rfl rfl rfl ?_)
  let O3 : Nat × Nat × AObj := (14010, v5, .arr 2 44 [hI (-1), hI (-1)])
  refine bf hK (P1 [(9, .ptr 14009 v4 0), (10, .ptr 14010 v5 0)] [O2, O3]) ?_
  refine AW.rgs rfl fun K hK => bv rfl (v_fieldAddrF fo24_0 rfl) (bv rfl (v_loadF ty3 rfl (l_lit rfl rfl)) (bv rfl (v_fieldAddrF fo24_0 rfl) (bv rfl (v_loadF ty3 rfl (l_lit rfl rfl)) (bv rfl (v_max rfl rfl rfl) (mv rfl rfl ?_)))))
  let E4 : Nat × HV := (11, hI (max p0.1 p1.1))
  refine bf hK (P1 [(9, .ptr 14009 v4 0), (10, .ptr 14010 v5 0), E4] [O2, O3]) ?_
  refine AW.seq ?_
  refine AW.rgs rfl fun K hK => bv rfl (v_loadF ty24 rfl (l_litA rfl (lb rfl) rfl)) (bv rfl (v_loadF ty24 rfl (l_litA rfl (lb rfl) rfl)) ?_)
  refine b_op rfl (o_bsl rfl rfl (as_of (cs := [hI p0.1, hI p0.2.1, slE eFromLabelTo p0.2.2, hI p1.1, hI p1.2.1, slE eFromLabelTo p1.2.2]) ty60 ty24 rfl rfl rfl rfl rfl) ?_)
  refine bv rfl (v_lenF rfl rfl ty60 rfl) (mv rfl rfl ?_)
  let E5 : Nat × HV := (35, slE eLabelsStatesEdges [p0, p1])
  let E6 : Nat × HV := (36, hI (([p0, p1]).length : Int))
  let P2 : ASf := fun t H => ⟨E1 :: (9, .ptr 14009 v4 0) :: (10, .ptr 14010 v5 0) :: E4 :: t, H⟩
  refine bf hK (P2 [E5, E6, (37, hI 0)] [O2, O3]) ?_
  refine AW.lpR h (by first | exact up_then | exact up_to) (S := Int × (List (List (Int))) × (List (List (Int))) × Int × Int) (V := Unit) (fun a v => (P2 [E5, E6, (37, hI a.1)] [(14009, v4, .arr 2 59 [slE (eSl eInt) a.2.1, slE (eSl eInt) a.2.2.1]), (14010, v5, .arr 2 44 [hI a.2.2.2.1, hI a.2.2.2.2])])) ?_ (X := (List (List (Int))) × (List (List (Int))) × Int × Int) (W := Unit) (fun a v => (P2 [] [(14009, v4, .arr 2 59 [slE (eSl eInt) a.1, slE (eSl eInt) a.2.1]), (14010, v5, .arr 2 44 [hI a.2.2.1, hI a.2.2.2])])) (fun a31 w32 h => ?_) (fun a6 w7 st8 h hr9=> ?_)
  ·exact to_L ⟨(), rfl⟩
  ·refine AW.seq ?_
   refine AW.rgs rfl fun K hK => bv rfl (v_loadP ty44 rfl rfl (l_litA rfl (lb rfl) rfl)) ?_
   refine b_op rfl (o_build (cs := [hI (-1), hI (-1)]) rfl (bl_of ty44 rfl rfl rfl rfl) ?_)
   refine bv rfl (v_bin rfl rfl (b_aeql (hk44 _ _) (hk44 _ _) hc44 (hq44 ((a31.2.2.1, a31.2.2.2) : TST) ((-1), (-1))))) ?_
   refine bf hK (P2 [(71, .bool (decide (((a31.2.2.1, a31.2.2.2) : TST) = ((-1), (-1)))))] [(14009, v4, .arr 2 59 [slE (eSl eInt) a31.1, slE (eSl eInt) a31.2.1]), (14010, v5, .arr 2 44 [hI a31.2.2.1, hI a31.2.2.2])]) ?_
   refine AW.cond rfl (fun hc => ?_) (fun hc => ?_)
   ·obtain ⟨hc, h⟩ := cT hc h
    refine AW.rgs rfl fun K hK => mv rfl rfl (mv rfl rfl (mv rfl rfl ?_))
    refine bf hK ⟨[(6, .v (.slice none 0 0)), (7, .bool true), (8, hI 0)], []⟩ ?_
    refine AW.to (to_weak ⟨[(6, slE eInt ([] : List Int)), (7, .bool true), (8, hI 0)], []⟩ ⟨⟨_, rfl, .nil _⟩, ⟨_, rfl, .refl _⟩, ⟨_, rfl, .refl _⟩, trivial⟩ trivial ?_)
    obtain rfl := oi h
    exact AW.ret (ret_pure (.inr rfl) (resT rfl (resT rfl (resT rfl rfl))) rfl ⟨(clean_slE fun _ _ => ⟨trivial, trivial⟩), trivial, trivial, trivial⟩)
   obtain ⟨hc, h⟩ := cF hc h
   refine AW.skip ?_
   refine AW.rgs rfl fun K hK => bv rfl (v_arrPc 0 ty59 es59 rfl rfl rfl (by decide) rfl) (bv rfl (v_loadP ty58 rfl rfl (l_lit rfl rfl)) (bv rfl (v_arrPc 1 ty59 es59 rfl rfl rfl (by decide) rfl) (bv rfl (v_loadP ty58 rfl rfl (l_lit rfl rfl)) (mv rfl rfl (bv rfl (v_loadP ty44 rfl rfl (l_litA rfl (lb rfl) rfl)) ?_)))))
   refine mv rfl rfl ?_
   obtain ⟨x33, h34, h⟩ := bS h
   refine b_op rfl (o_call rfl rfl rfl rfl (ACallD.pure0 (w_minimal_first h34 hf2)) ?_)
   refine mv rfl rfl (bv rfl (v_extract rfl rfl) (bv rfl (v_extract rfl rfl) (mv rfl rfl (mv rfl rfl ?_))))
   refine bf hK ⟨[(17, slE eInt x33.1), (18, .bool x33.2)], []⟩ ?_
   refine AW.rgs rfl fun K hK => mv rfl rfl (mv rfl rfl (bv rfl (v_not rfl) (mv rfl rfl (mv rfl rfl (mv rfl rfl ?_)))))
   refine bf hK ⟨[(6, slE eInt x33.1), (7, .bool (!x33.2)), (8, hI 0)], []⟩ ?_
   obtain rfl := oi h
   exact AW.ret (ret_pure (.inr rfl) (resT rfl (resT rfl (resT rfl rfl))) rfl ⟨(clean_slE fun _ _ => ⟨trivial, trivial⟩), trivial, trivial, trivial⟩)
  refine AW.rgs rfl fun K hK => bv rfl (v_bin rfl rfl b_lss) ?_
  let O7 : Nat × Nat × AObj := (14009, v4, .arr 2 59 [slE (eSl eInt) a6.2.1, slE (eSl eInt) a6.2.2.1])
  let O8 : Nat × Nat × AObj := (14010, v5, .arr 2 44 [hI a6.2.2.2.1, hI a6.2.2.2.2])
  refine bf hK (P2 [E5, E6, (37, hI a6.1), (38, .bool (decide (a6.1 < (([p0, p1]).length : Int))))] [O7, O8]) ?_
  refine AW.cseq rfl (fun hc => ?_) (fun hc => ?_)
  ·obtain ⟨hc, h⟩ := cT hc h
   refine AW.skip ?_
   refine AW.seqJ h (S := (List (List (Int))) × (List (List (Int))) × Int × Int) (V := Unit) (fun a v => (P2 [E5, E6, (37, hI a6.1)] [(14009, v4, .arr 2 59 [slE (eSl eInt) a.1, slE (eSl eInt) a.2.1]), (14010, v5, .arr 2 44 [hI a.2.2.1, hI a.2.2.2])])) (fun a10 w11 h => ?_) (fun k12 h => ?_)
   ·refine AW.rg rfl fun K hK => bv rfl (v_bin rfl rfl b_add) (mv rfl rfl ?_)
    refine b_nil (hK _ ?_)
    exact to_L ⟨(IntKind.wrap .i64 (a6.1 + 1), a10.1, a10.2.1, a10.2.2.1, a10.2.2.2), (), h, rfl⟩
   refine AW.block ?_
   refine AW.rgs rfl fun K hK => mv rfl rfl ?_
   obtain ⟨x13, h14, h⟩ := bS h
   refine bv rfl (v_idxF ty60 es60 rfl rfl (idx_lt h14)) (bv rfl (v_loadF ty24 rfl (l_agg eLabelsStatesEdges h14 rfl rfl)) ?_)
   refine b_op rfl (o_alloc (fid := 14) (zs := [hI 0, hI 0, .v (.slice none 0 0)]) 14013 rfl rfl ty24 rfl (fun v15 => ?_))
   refine mv rfl rfl ?_
   refine b_op rfl (o_store (cs := [hI x13.1, hI x13.2.1, slE eFromLabelTo x13.2.2]) (zs := [hI x13.1, hI x13.2.1, slE eFromLabelTo x13.2.2]) rfl rfl rfl ty24 rfl rfl rfl rfl rfl ?_)
   refine bf hK (P2 [(12, hI a6.1), (13, .ptr 14013 v15 0), E5, E6, (37, hI a6.1)] [O7, O8, (14013, v15, .arr 3 24 [hI x13.1, hI x13.2.1, slE eFromLabelTo x13.2.2])]) ?_
   refine AW.rgs rfl fun K hK => bv rfl (v_loadP ty24 rfl rfl (l_litA rfl (lb rfl) rfl)) ?_
   obtain ⟨x16, h17, h⟩ := bS h
   refine b_op rfl (o_call rfl rfl rfl rfl (ACallD.pure0 (w_subset_Build h17)) ?_)
   refine mv rfl rfl (bv rfl (v_extract rfl rfl) (bv rfl (v_extract rfl rfl) (bv rfl (v_extract rfl rfl) ?_)))
   refine b_op rfl (o_alloc (fid := 14) (zs := [hI 0, hI 0, .v (.slice none 0 0)]) 14014 rfl rfl ty24 rfl (fun v18 => ?_))
   refine b_op rfl (o_store (cs := [hI x16.1.1, hI x16.1.2.1, slE eFromLabelTo x16.1.2.2]) (zs := [hI x16.1.1, hI x16.1.2.1, slE eFromLabelTo x16.1.2.2]) rfl rfl rfl ty24 rfl rfl rfl rfl rfl ?_)
   refine mv rfl rfl (mv rfl rfl ?_)
   let O9 : Nat × Nat × AObj := (14014, v18, .arr 3 24 [hI x16.1.1, hI x16.1.2.1, slE eFromLabelTo x16.1.2.2])
   refine bf hK (P2 [(12, hI a6.1), (14, .ptr 14014 v18 0), (16, hI x16.2.2), E5, E6, (37, hI a6.1)] [O7, O8, O9]) ?_
   refine AW.seq ?_
   refine AW.rgs rfl fun K hK => mv rfl rfl (bv rfl (v_bin rfl rfl b_neq) ?_)
   refine bf hK (P2 [(12, hI a6.1), (14, .ptr 14014 v18 0), (16, hI x16.2.2), E5, E6, (37, hI a6.1), (49, .bool (decide (x16.2.2 ≠ 0)))] [O7, O8, O9]) ?_
   refine AW.cond rfl (fun hc => ?_) (fun hc => ?_)
   ·obtain ⟨hc, h⟩ := cT hc h
    refine AW.rgs rfl fun K hK => mv rfl rfl (mv rfl rfl (mv rfl rfl (mv rfl rfl ?_)))
    refine bf hK ⟨[(6, .v (.slice none 0 0)), (7, .bool false), (8, hI x16.2.2)], []⟩ ?_
    have h := hr9 _ h
    refine AW.to (to_weak ⟨[(6, slE eInt ([] : List Int)), (7, .bool false), (8, hI x16.2.2)], []⟩ ⟨⟨_, rfl, .nil _⟩, ⟨_, rfl, .refl _⟩, ⟨_, rfl, .refl _⟩, trivial⟩ trivial ?_)
    obtain rfl := oi h
    exact AW.ret (ret_pure (.inr rfl) (resT rfl (resT rfl (resT rfl rfl))) rfl ⟨(clean_slE fun _ _ => ⟨trivial, trivial⟩), trivial, trivial, trivial⟩)
   obtain ⟨hc, h⟩ := cF hc h
   refine AW.skip ?_
   refine AW.rgs rfl fun K hK => mv rfl rfl (bv rfl (v_loadP ty24 rfl rfl (l_litA rfl (lb rfl) rfl)) (mv rfl rfl ?_))
   obtain ⟨x19, h20, h⟩ := bS h
   refine b_op rfl (o_call rfl rfl rfl rfl (ACallD.pure0 (w_minimal_of h20)) ?_)
   by_cases h21 : (a6.1 : Int) = 0
   ·have h := ifT h21 h
    refine bv rfl (v_arrPc 0 ty59 es59 rfl rfl h21 (by decide) rfl) ?_
    refine b_op rfl (o_store (cs := [slE (eSl eInt) x19]) (zs := [slE (eSl eInt) x19, slE (eSl eInt) a6.2.2.1]) rfl rfl rfl ty58 rfl rfl rfl rfl rfl ?_)
    let O10 : Nat × Nat × AObj := (14009, v4, .arr 2 59 [slE (eSl eInt) x19, slE (eSl eInt) a6.2.2.1])
    refine bf hK (P2 [(12, hI a6.1), (14, .ptr 14014 v18 0), E5, E6, (37, hI a6.1)] [O10, O8, O9]) ?_
    refine AW.seqJ h (S := Bool) (V := Unit) (fun a v => (P2 [(14, .ptr 14014 v18 0), E5, E6, (37, hI a6.1), (62, .bool a)] [O10, O8, O9])) (fun a22 w23 h => ?_) (fun k24 h => ?_)
    ·refine AW.cond rfl (fun hc => ?_) (fun hc => ?_)
     ·have h := ifT hc h
      refine AW.rg rfl fun K hK => bv rfl (v_fieldAddrP fo44_0 rfl rfl) ?_
      refine b_op rfl (o_store (cs := [hI 0]) (zs := [hI 0, hI a6.2.2.2.2]) rfl rfl rfl ty3 rfl rfl rfl rfl rfl ?_)
      refine b_nil (hK _ ?_)
      exact to_L ⟨(x19, a6.2.2.1, 0, a6.2.2.2.2), (), h, rfl⟩
     have h := ifF (bF' hc) h
     refine AW.rgs rfl fun K hK => bv rfl (v_fieldAddrP fo24_1 rfl rfl) (bv rfl (v_loadP ty3 rfl rfl (l_lit rfl rfl)) (bv rfl (v_bin rfl rfl b_gtr) ?_))
     refine bf hK (P2 [E5, E6, (37, hI a6.1), (66, .bool (decide (0 < x16.1.2.1)))] [O10, O8]) ?_
     refine AW.cond rfl (fun hc => ?_) (fun hc => ?_)
     ·obtain ⟨hc, h⟩ := cT hc h
      refine AW.rg rfl fun K hK => bv rfl (v_fieldAddrP fo44_1 rfl rfl) ?_
      refine b_op rfl (o_store (cs := [hI 0]) (zs := [hI a6.2.2.2.1, hI 0]) rfl rfl rfl ty3 rfl rfl rfl rfl rfl ?_)
      refine b_nil (hK _ ?_)
      exact to_L ⟨(x19, a6.2.2.1, a6.2.2.2.1, 0), (), h, rfl⟩
     obtain ⟨hc, h⟩ := cF hc h
     refine AW.skip ?_
     exact to_L ⟨(x19, a6.2.2.1, a6.2.2.2.1, a6.2.2.2.2), (), h, rfl⟩
    refine AW.rg rfl fun K hK => bv rfl (v_fieldAddrP fo24_1 rfl rfl) (bv rfl (v_loadP ty3 rfl rfl (l_lit rfl rfl)) (bv rfl (v_bin rfl rfl b_gtr) (mv rfl rfl ?_)))
    by_cases hg25 : 0 < x16.1.2.1
    ·have h := ifT hg25 h
     refine b_T rfl rfl rfl rfl (decide_eq_true hg25) (o_val rfl (mv_val rfl rfl).2 ?_)
     refine b_T rfl rfl rfl rfl rfl (o_val rfl (v_bin rfl rfl b_eql) ?_)
     refine bv rfl (v_pickT rfl rfl rfl) ?_
     refine b_nil (hK _ ?_)
     exact to_L ⟨decide (a6.1 = 0), (), h, rfl⟩
    have h := ifF hg25 h
    refine b_F rfl rfl rfl rfl rfl (decide_eq_false hg25) ?_
    refine b_F rfl rfl rfl rfl rfl rfl ?_
    refine bv rfl (v_pickF rfl rfl rfl) ?_
    refine b_nil (hK _ ?_)
    exact to_L ⟨false, (), h, rfl⟩
   have h := ifF h21 h
   by_cases h26 : (a6.1 : Int) = 1
   ·have h := ifT h26 h
    refine bv rfl (v_arrPc 1 ty59 es59 rfl rfl h26 (by decide) rfl) ?_
    refine b_op rfl (o_store (cs := [slE (eSl eInt) x19]) (zs := [slE (eSl eInt) a6.2.1, slE (eSl eInt) x19]) rfl rfl rfl ty58 rfl rfl rfl rfl rfl ?_)
    let O11 : Nat × Nat × AObj := (14009, v4, .arr 2 59 [slE (eSl eInt) a6.2.1, slE (eSl eInt) x19])
    refine bf hK (P2 [(12, hI a6.1), (14, .ptr 14014 v18 0), E5, E6, (37, hI a6.1)] [O11, O8, O9]) ?_
    refine AW.seqJ h (S := Bool) (V := Unit) (fun a v => (P2 [(14, .ptr 14014 v18 0), E5, E6, (37, hI a6.1), (62, .bool a)] [O11, O8, O9])) (fun a27 w28 h => ?_) (fun k29 h => ?_)
    ·refine AW.cond rfl (fun hc => ?_) (fun hc => ?_)
     ·have h := ifT hc h
      refine AW.rg rfl fun K hK => bv rfl (v_fieldAddrP fo44_0 rfl rfl) ?_
      refine b_op rfl (o_store (cs := [hI 0]) (zs := [hI 0, hI a6.2.2.2.2]) rfl rfl rfl ty3 rfl rfl rfl rfl rfl ?_)
      refine b_nil (hK _ ?_)
      exact to_L ⟨(a6.2.1, x19, 0, a6.2.2.2.2), (), h, rfl⟩
     have h := ifF (bF' hc) h
     refine AW.rgs rfl fun K hK => bv rfl (v_fieldAddrP fo24_1 rfl rfl) (bv rfl (v_loadP ty3 rfl rfl (l_lit rfl rfl)) (bv rfl (v_bin rfl rfl b_gtr) ?_))
     refine bf hK (P2 [E5, E6, (37, hI a6.1), (66, .bool (decide (0 < x16.1.2.1)))] [O11, O8]) ?_
     refine AW.cond rfl (fun hc => ?_) (fun hc => ?_)
     ·obtain ⟨hc, h⟩ := cT hc h
      refine AW.rg rfl fun K hK => bv rfl (v_fieldAddrP fo44_1 rfl rfl) ?_
      refine b_op rfl (o_store (cs := [hI 0]) (zs := [hI a6.2.2.2.1, hI 0]) rfl rfl rfl ty3 rfl rfl rfl rfl rfl ?_)
      refine b_nil (hK _ ?_)
      exact to_L ⟨(a6.2.1, x19, a6.2.2.2.1, 0), (), h, rfl⟩
     obtain ⟨hc, h⟩ := cF hc h
     refine AW.skip ?_
     exact to_L ⟨(a6.2.1, x19, a6.2.2.2.1, a6.2.2.2.2), (), h, rfl⟩
    refine AW.rg rfl fun K hK => bv rfl (v_fieldAddrP fo24_1 rfl rfl) (bv rfl (v_loadP ty3 rfl rfl (l_lit rfl rfl)) (bv rfl (v_bin rfl rfl b_gtr) (mv rfl rfl ?_)))
    by_cases hg30 : 0 < x16.1.2.1
    ·have h := ifT hg30 h
     refine b_T rfl rfl rfl rfl (decide_eq_true hg30) (o_val rfl (mv_val rfl rfl).2 ?_)
     refine b_T rfl rfl rfl rfl rfl (o_val rfl (v_bin rfl rfl b_eql) ?_)
     refine bv rfl (v_pickT rfl rfl rfl) ?_
     refine b_nil (hK _ ?_)
     exact to_L ⟨decide (a6.1 = 0), (), h, rfl⟩
    have h := ifF hg30 h
    refine b_F rfl rfl rfl rfl rfl (decide_eq_false hg30) ?_
    refine b_F rfl rfl rfl rfl rfl rfl ?_
    refine bv rfl (v_pickF rfl rfl rfl) ?_
    refine b_nil (hK _ ?_)
    exact to_L ⟨false, (), h, rfl⟩
   have h := ifF h26 h
   cases h
  obtain ⟨hc, h⟩ := cF hc h
  refine AW.exit ?_
  exact to_L ⟨(a6.2.1, a6.2.2.1, a6.2.2.2.1, a6.2.2.2.2), (), h, rfl⟩
 refine AW.rg rfl fun K hK => bv rfl (v_loadF ty24 rfl (l_litA rfl (lb rfl) rfl)) ?_
 obtain ⟨x35, h36, h⟩ := bS h
 refine b_op rfl (o_call rfl rfl rfl rfl (ACallD.pure0 (w_graph_Check h36)) ?_)
 refine bv rfl (v_bin rfl rfl b_neq) (mv rfl rfl ?_)
 by_cases hg39 : x35 ≠ 0
 ·have h := ifT hg39 h
  refine b_F rfl rfl rfl rfl rfl (decide_eq_true hg39) ?_
  iterate 2 refine b_F rfl rfl rfl rfl rfl rfl ?_
  refine bv rfl (v_pickT rfl rfl rfl) ?_
  refine b_nil (hK _ ?_)
  exact to_L ⟨true, (), h, rfl⟩
 have h := ifF hg39 h
 refine b_T rfl rfl rfl rfl (decide_eq_false hg39) (o_val rfl (v_loadF ty24 rfl (l_litA rfl (lb rfl) rfl)) ?_)
 obtain ⟨x37, h38, h⟩ := bS h
 refine b_T rfl rfl rfl rfl rfl (o_call rfl rfl rfl rfl (ACallD.pure0 (w_graph_Check h38)) ?_)
 refine b_T rfl rfl rfl rfl rfl (o_val rfl (v_bin rfl rfl b_neq) ?_)
 refine bv rfl (v_pickF rfl rfl rfl) ?_
 refine b_nil (hK _ ?_)
 exact to_L ⟨decide (x37 ≠ 0), (), h, rfl⟩
theorem w_minimal_one {p0 : TST} {r : Bool} (h : m_minimal_one p0 = some r) : Pure Tryz.prog 15 [.agg [hI p0.1, hI p0.2]] (· = HV.bool r) := by
 unfold m_minimal_one at h
 refine Pure.of_body Tryz.func15 rfl rfl (lb rfl) fun hf => ?_
 unfold Tryz.f15
 dsimp only [enumS, Nat.reduceAdd]
 refine AW.rgs rfl fun K hK => b_op rfl (o_box rfl rfl rfl ?_)
 refine mv rfl rfl ?_
 refine bf hK ⟨[(1, .fptr [hI p0.1, hI p0.2] 0)], []⟩ ?_
 refine AW.rgs rfl fun K hK => bv rfl (v_fieldAddrF fo44_0 rfl) (bv rfl (v_loadF ty3 rfl (l_lit rfl rfl)) (bv rfl (v_bin rfl rfl b_eql) (bv rfl (v_fieldAddrF fo44_1 rfl) (bv rfl (v_loadF ty3 rfl (l_lit rfl rfl)) (bv rfl (v_bin rfl rfl b_eql) ?_)))))
 refine bv rfl (v_bin rfl rfl (b_neB ty4)) (mv rfl rfl ?_)
 refine bf hK ⟨[(2, .bool (!((decide (p0.1 = (-1))) == (decide (p0.2 = (-1))))))], []⟩ ?_
 obtain rfl := oi h
 exact AW.ret (ret_pure (.inr rfl) (resT rfl rfl) rfl trivial)
theorem w_minimal_Equal {p0 : TLabelsStatesEdges} {p1 : TLabelsStatesEdges} {r : (List (Int)) × Bool × Int} (h : m_minimal_Equal p0 p1 = some r) : Pure Tryz.prog 6 [gA p0, gA p1] (· = HV.tup [slE eInt r.1, .bool r.2.1, hI r.2.2]) := by
 unfold m_minimal_Equal at h
 refine Pure.of_body Tryz.func6 rfl rfl (lb rfl) fun hf => ?_
 unfold Tryz.f6
 dsimp only [enumS, Nat.reduceAdd]
 refine AW.rgs rfl fun K hK => b_op rfl (o_box rfl rfl rfl ?_)
 refine b_op rfl (o_box rfl rfl rfl ?_)
 refine mv rfl rfl (mv rfl rfl (mv rfl rfl ?_))
 refine bf hK ⟨[(2, gF p0), (3, gF p1)], []⟩ ?_
 refine AW.rgs rfl fun K hK => bv rfl (v_loadF ty24 rfl (l_litA rfl (lb rfl) rfl)) (bv rfl (v_loadF ty24 rfl (l_litA rfl (lb rfl) rfl)) ?_)
 obtain ⟨x1, h2, h⟩ := bS h
 refine b_op rfl (o_call rfl rfl rfl rfl (ACallD.pure0 (w_minimal_search h2 (fun _ _ h => w_minimal_one h))) ?_)
 refine bv rfl (v_extract rfl rfl) (bv rfl (v_extract rfl rfl) (bv rfl (v_extract rfl rfl) (mv rfl rfl (mv rfl rfl (mv rfl rfl ?_)))))
 refine bf hK ⟨[(4, slE eInt x1.1), (5, .bool x1.2.1), (6, hI x1.2.2)], []⟩ ?_
 obtain rfl := oi h
 exact AW.ret (ret_pure (.inr rfl) (resT rfl (resT rfl (resT rfl rfl))) rfl ⟨(clean_slE fun _ _ => ⟨trivial, trivial⟩), trivial, trivial, trivial⟩)
theorem w_top_top27Golden  {r : TLabelsStatesEdges} (h : m_top_top27Golden  = some r) : Pure Tryz.prog 13 [] (· = gA r) := by
 unfold m_top_top27Golden at h
 refine Pure.of_body Tryz.func13 rfl rfl (lb rfl) fun hf => ?_
 unfold Tryz.f13
 dsimp only [enumS, Nat.reduceAdd]
 refine AW.rgs rfl fun K hK => b_op rfl (o_alloc (fid := 13) (zs := [hI 0, hI 0, .v (.slice none 0 0)]) 13000 rfl rfl ty24 rfl (fun v1 => ?_))
 refine bf hK ⟨[(0, .ptr 13000 v1 0)], [(13000, v1, .arr 3 24 [hI 0, hI 0, .v (.slice none 0 0)])]⟩ ?_
 refine AW.rgs rfl fun K hK => b_op rfl (o_build (cs := [hI 0, hI 0, hI 0]) rfl (bl_of ty55 rfl rfl rfl rfl) ?_)
 refine b_op rfl (o_build (cs := [hI 0, hI 1, hI 1]) rfl (bl_of ty55 rfl rfl rfl rfl) ?_)
 refine b_op rfl (o_build (cs := [hI 1, hI 0, hI 0]) rfl (bl_of ty55 rfl rfl rfl rfl) ?_)
 refine b_op rfl (o_bsl rfl rfl (as_of (cs := [hI 0, hI 0, hI 0, hI 0, hI 1, hI 1, hI 1, hI 0, hI 0]) ty22 ty55 rfl rfl rfl rfl rfl) ?_)
 refine b_op rfl (o_build (cs := [hI 2, hI 2, slE eFromLabelTo [(0, 0, 0), (0, 1, 1), (1, 0, 0)]]) rfl (bl_of ty24 rfl rfl rfl rfl) ?_)
 refine b_op rfl (o_store (cs := [hI 2, hI 2, slE eFromLabelTo [(0, 0, 0), (0, 1, 1), (1, 0, 0)]]) (zs := [hI 2, hI 2, slE eFromLabelTo [(0, 0, 0), (0, 1, 1), (1, 0, 0)]]) rfl rfl rfl ty24 rfl rfl rfl rfl rfl ?_)
 refine bf hK ⟨[(0, .ptr 13000 v1 0)], [(13000, v1, .arr 3 24 [hI 2, hI 2, slE eFromLabelTo [(0, 0, 0), (0, 1, 1), (1, 0, 0)]])]⟩ ?_
 obtain rfl := oi h
 exact AW.ret (ret_pure (.inr rfl) (resP ty24 rfl rfl (l_litA rfl (lb rfl) rfl) rfl) rfl ⟨trivial, trivial, (clean_slE fun _ _ => ⟨trivial, trivial, trivial, trivial⟩), trivial⟩)
theorem w_top_top27Awake  {r : Bool} (h : m_top_top27Awake  = some r) : Pure Tryz.prog 5 [] (· = HV.bool r) := by
 unfold m_top_top27Awake at h
 refine Pure.of_body Tryz.func5 rfl rfl (lb rfl) fun hf => ?_
 unfold Tryz.f5
 dsimp only [enumS, Nat.reduceAdd]
 refine AW.rgs rfl fun K hK => mv rfl rfl ?_
 refine bf hK ⟨[], []⟩ ?_
 refine AW.rgs rfl fun K hK => ?_
 obtain ⟨x1, h2, h⟩ := bS h
 refine b_op rfl (o_call rfl rfl rfl rfl (ACallD.pure0 (w_top_top27Golden h2)) ?_)
 obtain ⟨x3, h4, h⟩ := bS h
 refine b_op rfl (o_call rfl rfl rfl rfl (ACallD.pure0 (w_subset_Build h4)) ?_)
 refine mv rfl rfl (bv rfl (v_extract rfl rfl) (bv rfl (v_extract rfl rfl) (bv rfl (v_extract rfl rfl) ?_)))
 refine b_op rfl (o_alloc (fid := 5) (zs := [hI 0, hI 0, .v (.slice none 0 0)]) 5001 rfl rfl ty24 rfl (fun v5 => ?_))
 refine b_op rfl (o_store (cs := [hI x3.1.1, hI x3.1.2.1, slE eFromLabelTo x3.1.2.2]) (zs := [hI x3.1.1, hI x3.1.2.1, slE eFromLabelTo x3.1.2.2]) rfl rfl rfl ty24 rfl rfl rfl rfl rfl ?_)
 refine mv rfl rfl (mv rfl rfl ?_)
 let O12 : Nat × Nat × AObj := (5001, v5, .arr 3 24 [hI x3.1.1, hI x3.1.2.1, slE eFromLabelTo x3.1.2.2])
 refine bf hK ⟨[(1, .ptr 5001 v5 0), (3, hI x3.2.2)], [O12]⟩ ?_
 refine AW.dgs 10 follows rfl rfl fun K hK => ?_
 obtain ⟨x6, h7, h⟩ := bS h
 refine s_op rfl rfl (ops_call rfl rfl rfl rfl (ACallD.pure0 (w_top_top27Golden h7)) ?_)
 refine sv rfl (v_loadP ty24 rfl rfl (l_litA rfl (lb rfl) rfl)) ?_
 obtain ⟨x8, h9, h⟩ := bS h
 refine s_op rfl rfl (ops_call rfl rfl rfl rfl (ACallD.pure0 (w_minimal_Equal h9)) ?_)
 refine sm rfl rfl ?_
 refine sv rfl (v_extract rfl rfl) ?_
 refine sv rfl (v_extract rfl rfl) ?_
 refine sv rfl (v_extract rfl rfl) ?_
 iterate 3 refine sm rfl rfl ?_
 refine s_nil ?_
 refine bf hK ⟨[(1, .ptr 5001 v5 0), (3, hI x3.2.2), (5, .bool x8.2.1), (6, hI x8.2.2)], [O12]⟩ ?_
 refine AW.seqJ h (S := Bool) (V := Unit) (fun a v => ⟨[(0, .bool a)], []⟩) (fun a10 w11 h => ?_) (fun k12 h => ?_)
 ·obtain rfl := oi h
  exact AW.ret (ret_pure (.inr rfl) (resT rfl rfl) rfl trivial)
 refine AW.rg rfl fun K hK => mv rfl rfl (bv rfl (v_bin rfl rfl b_eql) (mv rfl rfl ?_))
 by_cases hg15 : x3.2.2 = 0
 ·have h := ifT hg15 h
  refine b_T rfl rfl rfl rfl (decide_eq_true hg15) (o_val rfl (mv_val rfl rfl).2 ?_)
  refine b_T rfl rfl rfl rfl rfl (o_val rfl (v_bin rfl rfl b_eql) ?_)
  refine bv rfl (v_pickT rfl rfl rfl) (mv rfl rfl ?_)
  by_cases hg14 : x8.2.2 = 0
  ·have h := ifT hg14 h
   refine b_T rfl rfl rfl rfl (decide_eq_true hg14) (o_val rfl (v_fieldAddrP fo24_1 rfl rfl) ?_)
   refine b_T rfl rfl rfl rfl rfl (o_val rfl (v_loadP ty3 rfl rfl (l_lit rfl rfl)) ?_)
   refine b_T rfl rfl rfl rfl rfl (o_val rfl (v_bin rfl rfl b_eql) ?_)
   refine bv rfl (v_pickT rfl rfl rfl) (mv rfl rfl ?_)
   by_cases hg13 : x3.1.2.1 = 3
   ·have h := ifT hg13 h
    refine b_T rfl rfl rfl rfl (decide_eq_true hg13) (o_val rfl (mv_val rfl rfl).2 ?_)
    refine bv rfl (v_pickT rfl rfl rfl) (mv rfl rfl ?_)
    refine b_nil (hK _ ?_)
    exact to_L ⟨x8.2.1, (), h, rfl⟩
   have h := ifF hg13 h
   refine b_F rfl rfl rfl rfl rfl (decide_eq_false hg13) ?_
   refine bv rfl (v_pickF rfl rfl rfl) (mv rfl rfl ?_)
   refine b_nil (hK _ ?_)
   exact to_L ⟨false, (), h, rfl⟩
  have h := ifF hg14 h
  refine b_F rfl rfl rfl rfl rfl (decide_eq_false hg14) ?_
  iterate 2 refine b_F rfl rfl rfl rfl rfl rfl ?_
  refine bv rfl (v_pickF rfl rfl rfl) (mv rfl rfl ?_)
  refine b_F rfl rfl rfl rfl rfl rfl ?_
  refine bv rfl (v_pickF rfl rfl rfl) (mv rfl rfl ?_)
  refine b_nil (hK _ ?_)
  exact to_L ⟨false, (), h, rfl⟩
 have h := ifF hg15 h
 refine b_F rfl rfl rfl rfl rfl (decide_eq_false hg15) ?_
 refine b_F rfl rfl rfl rfl rfl rfl ?_
 refine bv rfl (v_pickF rfl rfl rfl) (mv rfl rfl ?_)
 iterate 3 refine b_F rfl rfl rfl rfl rfl rfl ?_
 refine bv rfl (v_pickF rfl rfl rfl) (mv rfl rfl ?_)
 refine b_F rfl rfl rfl rfl rfl rfl ?_
 refine bv rfl (v_pickF rfl rfl rfl) (mv rfl rfl ?_)
 refine b_nil (hK _ ?_)
 exact to_L ⟨false, (), h, rfl⟩
theorem w_minimal_Included_1 {p0 : TST} {r : Bool} (h : m_minimal_Included_1 p0 = some r) : Pure Tryz.prog 16 [.agg [hI p0.1, hI p0.2]] (· = HV.bool r) := by
 unfold m_minimal_Included_1 at h
 refine Pure.of_body Tryz.func16 rfl rfl (lb rfl) fun hf => ?_
 unfold Tryz.f16
 dsimp only [enumS, Nat.reduceAdd]
 refine AW.rgs rfl fun K hK => b_op rfl (o_box rfl rfl rfl ?_)
 refine mv rfl rfl ?_
 refine bf hK ⟨[(1, .fptr [hI p0.1, hI p0.2] 0)], []⟩ ?_
 refine AW.seqJ h (S := Bool) (V := Unit) (fun a v => ⟨[(2, .bool a)], []⟩) (fun a1 w2 h => ?_) (fun k3 h => ?_)
 ·obtain rfl := oi h
  exact AW.ret (ret_pure (.inr rfl) (resT rfl rfl) rfl trivial)
 refine AW.rg rfl fun K hK => bv rfl (v_fieldAddrF fo44_0 rfl) (bv rfl (v_loadF ty3 rfl (l_lit rfl rfl)) (bv rfl (v_bin rfl rfl b_neq) (mv rfl rfl ?_)))
 by_cases hg4 : p0.1 ≠ (-1)
 ·have h := ifT hg4 h
  refine b_T rfl rfl rfl rfl (decide_eq_true hg4) (o_val rfl (v_fieldAddrF fo44_1 rfl) ?_)
  refine b_T rfl rfl rfl rfl rfl (o_val rfl (v_loadF ty3 rfl (l_lit rfl rfl)) ?_)
  refine b_T rfl rfl rfl rfl rfl (o_val rfl (v_bin rfl rfl b_eql) ?_)
  refine bv rfl (v_pickT rfl rfl rfl) (mv rfl rfl ?_)
  refine b_nil (hK _ ?_)
  exact to_L ⟨decide (p0.2 = (-1)), (), h, rfl⟩
 have h := ifF hg4 h
 refine b_F rfl rfl rfl rfl rfl (decide_eq_false hg4) ?_
 iterate 2 refine b_F rfl rfl rfl rfl rfl rfl ?_
 refine bv rfl (v_pickF rfl rfl rfl) (mv rfl rfl ?_)
 refine b_nil (hK _ ?_)
 exact to_L ⟨false, (), h, rfl⟩
theorem w_minimal_Included {p0 : TLabelsStatesEdges} {p1 : TLabelsStatesEdges} {r : (List (Int)) × Bool × Int} (h : m_minimal_Included p0 p1 = some r) : Pure Tryz.prog 7 [gA p0, gA p1] (· = HV.tup [slE eInt r.1, .bool r.2.1, hI r.2.2]) := by
 unfold m_minimal_Included at h
 refine Pure.of_body Tryz.func7 rfl rfl (lb rfl) fun hf => ?_
 unfold Tryz.f7
 dsimp only [enumS, Nat.reduceAdd]
 refine AW.rgs rfl fun K hK => b_op rfl (o_box rfl rfl rfl ?_)
 refine b_op rfl (o_box rfl rfl rfl ?_)
 refine mv rfl rfl (mv rfl rfl (mv rfl rfl ?_))
 refine bf hK ⟨[(2, gF p0), (3, gF p1)], []⟩ ?_
 refine AW.rgs rfl fun K hK => bv rfl (v_loadF ty24 rfl (l_litA rfl (lb rfl) rfl)) (bv rfl (v_loadF ty24 rfl (l_litA rfl (lb rfl) rfl)) ?_)
 obtain ⟨x1, h2, h⟩ := bS h
 refine b_op rfl (o_call rfl rfl rfl rfl (ACallD.pure0 (w_minimal_search h2 (fun _ _ h => w_minimal_Included_1 h))) ?_)
 refine bv rfl (v_extract rfl rfl) (bv rfl (v_extract rfl rfl) (bv rfl (v_extract rfl rfl) (mv rfl rfl (mv rfl rfl (mv rfl rfl ?_)))))
 refine bf hK ⟨[(4, slE eInt x1.1), (5, .bool x1.2.1), (6, hI x1.2.2)], []⟩ ?_
 obtain rfl := oi h
 exact AW.ret (ret_pure (.inr rfl) (resT rfl (resT rfl (resT rfl rfl))) rfl ⟨(clean_slE fun _ _ => ⟨trivial, trivial⟩), trivial, trivial, trivial⟩)
theorem w_language_Words {p0 : TLabelsStatesEdges} {p1 : Int} {r : (List (List UInt8)) × Int} (h : m_language_Words p0 p1 = some r) : Pure Tryz.prog 17 [gA p0, hI p1] (· = HV.tup [slE eStr r.1, hI r.2]) := by
 unfold m_language_Words at h
 refine Pure.of_body Tryz.func17 rfl rfl (lb rfl) fun hf => ?_
 unfold Tryz.f17
 dsimp only [enumS, Nat.reduceAdd]
 refine AW.rgs rfl fun K hK => b_op rfl (o_box rfl rfl rfl ?_)
 refine mv rfl rfl (mv rfl rfl ?_)
 refine bf hK ⟨[(1, hI p1), (2, gF p0)], []⟩ ?_
 refine AW.seq ?_
 refine AW.rgs rfl fun K hK => bv rfl (v_loadF ty24 rfl (l_litA rfl (lb rfl) rfl)) (mv rfl rfl ?_)
 obtain ⟨x1, h2, h⟩ := bS h
 refine b_op rfl (o_call rfl rfl rfl rfl (ACallD.pure0 (w_language_lengths h2)) ?_)
 refine mv rfl rfl ?_
 refine bf hK ⟨[(1, hI p1), (2, gF p0), (6, hI x1)], []⟩ ?_
 refine AW.rgs rfl fun K hK => mv rfl rfl (bv rfl (v_bin rfl rfl b_neq) ?_)
 refine bf hK ⟨[(1, hI p1), (2, gF p0), (6, hI x1), (13, .bool (decide (x1 ≠ 0)))], []⟩ ?_
 refine AW.cond rfl (fun hc => ?_) (fun hc => ?_)
 ·obtain ⟨hc, h⟩ := cT hc h
  refine AW.rgs rfl fun K hK => mv rfl rfl (mv rfl rfl (mv rfl rfl ?_))
  refine bf hK ⟨[(4, .v (.slice none 0 0)), (5, hI x1)], []⟩ ?_
  refine AW.to (to_weak ⟨[(4, slE eStr ([] : List (List UInt8))), (5, hI x1)], []⟩ ⟨⟨_, rfl, .nil _⟩, ⟨_, rfl, .refl _⟩, trivial⟩ trivial ?_)
  obtain rfl := oi h
  exact AW.ret (ret_pure (.inr rfl) (resT rfl (resT rfl rfl)) rfl ⟨(clean_slE fun _ _ => ⟨trivial, trivial⟩), trivial, trivial⟩)
 obtain ⟨hc, h⟩ := cF hc h
 refine AW.skip ?_
 refine AW.dys follows fun K hK => ?_
 refine y_st 4 rfl rfl ?_
 refine sv rfl (v_loadF ty24 rfl (l_litA rfl (lb rfl) rfl)) ?_
 refine sv rfl (v_loadF ty24 rfl (l_litA rfl (lb rfl) rfl)) ?_
 obtain ⟨x3, h4, h⟩ := bS h
 refine s_op rfl rfl (ops_call rfl rfl rfl rfl (ACallD.pure0 (w_language_states h4)) ?_)
 refine sm rfl rfl ?_
 refine s_nil ?_
 obtain ⟨x5, h6, h⟩ := bS h
 by_cases hg7 : x5.2 = true
 ·have h := ifT hg7 h
  refine y_op rfl rfl rfl rfl (o_callA rfl rfl rfl rfl (c_listT h6 hg7 fun i8 v9 es10 hes11 => ?_) )
  refine b_nil ?_
  refine y_st 10 rfl rfl ?_
  refine sm rfl rfl ?_
  refine sv rfl (v_extract rfl rfl) ?_
  refine sv rfl (v_extract rfl rfl) ?_
  iterate 2 refine sm rfl rfl ?_
  refine s_nil ?_
  refine y_nil rfl (hK _ (AW.to (to_le (s' := ⟨[(7, .mp i8 v9), (8, .bool true)], [(i8, v9, .map es10)]⟩) (AS.le_of ⟨rfl, rfl, trivial⟩ ⟨hget_0, trivial⟩) ?_)))
  refine AW.seq ?_
  refine AW.rgs rfl fun K hK => mv rfl rfl (bv rfl (v_not rfl) ?_)
  refine b_fin hK (s' := ⟨[(7, .mp i8 v9), (24, .bool false)], [(i8, v9, .map es10)]⟩) (AS.le_of ⟨rfl, rfl, trivial⟩ ⟨hget_0, trivial⟩) ?_
  refine AW.cond rfl (fun hc => by cases hc) (fun _ => ?_)
  refine AW.skip ?_
  refine AW.rgs rfl fun K hK => mv rfl rfl ?_
  refine b_op rfl (o_callK [(i8, v9, .map es10)] rfl rfl rfl rfl (fun K hK => w82 hK) ?_)
  refine b_op rfl (o_callK (q := slE eStr (sortS ((x5.1).map Prod.fst))) [] rfl rfl rfl rfl (fun K hK => c_sortedKeys hes11 hK) ?_)
  refine mv rfl rfl (mv rfl rfl ?_)
  refine bf hK ⟨[(4, slE eStr (sortS ((x5.1).map Prod.fst))), (5, hI 0)], []⟩ ?_
  obtain rfl := oi h
  exact AW.ret (ret_pure (.inr rfl) (resT rfl (resT rfl rfl)) rfl ⟨(clean_slE fun _ _ => ⟨trivial, trivial⟩), trivial, trivial⟩)
 have h := ifF hg7 h
 refine y_op rfl rfl rfl rfl (o_callA rfl rfl rfl rfl (c_listF h6 hg7 ?_) )
 refine b_nil ?_
 refine y_st 10 rfl rfl ?_
 refine sm rfl rfl ?_
 refine sv rfl (v_extract rfl rfl) ?_
 refine sv rfl (v_extract rfl rfl) ?_
 iterate 2 refine sm rfl rfl ?_
 refine s_nil ?_
 refine y_nil rfl (hK _ (AW.to (to_le (s' := ⟨[(7, .v (.map none)), (8, .bool false)], []⟩) (le_q rfl rfl) ?_)))
 refine AW.seq ?_
 refine AW.rgs rfl fun K hK => mv rfl rfl (bv rfl (v_not rfl) ?_)
 refine bf hK ⟨[(7, .v (.map none)), (24, .bool true)], []⟩ ?_
 refine AW.cond rfl (fun _ => ?_) (fun hc => by cases hc)
 refine AW.rgs rfl fun K hK => mv rfl rfl (mv rfl rfl ?_)
 refine bf hK ⟨[(4, .v (.slice none 0 0)), (5, hI 4)], []⟩ ?_
 refine AW.to (to_weak ⟨[(4, slE eStr ([] : List (List UInt8))), (5, hI 4)], []⟩ ⟨⟨_, rfl, .nil _⟩, ⟨_, rfl, .refl _⟩, trivial⟩ trivial ?_)
 obtain rfl := oi h
 exact AW.ret (ret_pure (.inr rfl) (resT rfl (resT rfl rfl)) rfl ⟨(clean_slE fun _ _ => ⟨trivial, trivial⟩), trivial, trivial⟩)
theorem w_slices_Equal_Lstring_string {p0 : List (List UInt8)} {p1 : List (List UInt8)} {r : Bool} (h : m_slices_Equal_Lstring_string p0 p1 = some r) : Pure Tryz.prog 18 [slE eStr p0, slE eStr p1] (· = HV.bool r) := by
 unfold m_slices_Equal_Lstring_string at h
 refine Pure.of_body Tryz.func18 rfl rfl (lb rfl) fun hf => ?_
 unfold Tryz.f18
 dsimp only [enumS, Nat.reduceAdd]
 refine AW.rgs rfl fun K hK => mv rfl rfl ?_
 let P3 : ASf := fun t H => ⟨(0, slE eStr p0) :: (1, slE eStr p1) :: t, H⟩
 refine bf hK (P3 [] []) ?_
 refine AW.seq ?_
 refine AW.rgs rfl fun K hK => mv rfl rfl (bv rfl (v_lenF rfl rfl ty45 rfl) (mv rfl rfl (bv rfl (v_lenF rfl rfl ty45 rfl) (bv rfl (v_bin rfl rfl b_neq) ?_))))
 refine bf hK (P3 [(10, .bool (decide (((p0).length : Int) ≠ ((p1).length : Int))))] []) ?_
 refine AW.cond rfl (fun hc => ?_) (fun hc => ?_)
 ·obtain ⟨hc, h⟩ := cT hc h
  refine AW.rgs rfl fun K hK => mv rfl rfl ?_
  refine bf hK ⟨[(4, .bool false)], []⟩ ?_
  obtain rfl := oi h
  exact AW.ret (ret_pure (.inr rfl) (resT rfl rfl) rfl trivial)
 obtain ⟨hc, h⟩ := cF hc h
 refine AW.skip ?_
 refine AW.seq ?_
 refine AW.rgs rfl fun K hK => mv rfl rfl (bv rfl (v_lenF rfl rfl ty45 rfl) (mv rfl rfl ?_))
 let E13 : Nat × HV := (12, hI ((p0).length : Int))
 refine bf hK (P3 [E13, (13, hI 0)] []) ?_
 refine AW.lpR h (by first | exact up_then | exact up_to) (S := Int) (V := Unit) (fun a v => (P3 [E13, (13, hI a)] [])) ?_ (X := Unit) (W := Unit) (fun a v => ⟨[], []⟩) (fun a9 w10 h => ?_) (fun a1 w2 st3 h hr4=> ?_)
 ·exact to_L ⟨(), rfl⟩
 ·refine AW.rgs rfl fun K hK => mv rfl rfl ?_
  refine bf hK ⟨[(4, .bool true)], []⟩ ?_
  obtain rfl := oi h
  exact AW.ret (ret_pure (.inr rfl) (resT rfl rfl) rfl trivial)
 refine AW.rgs rfl fun K hK => bv rfl (v_bin rfl rfl b_lss) ?_
 refine bf hK (P3 [E13, (13, hI a1), (14, .bool (decide (a1 < ((p0).length : Int))))] []) ?_
 refine AW.cseq rfl (fun hc => ?_) (fun hc => ?_)
 ·obtain ⟨hc, h⟩ := cT hc h
  refine AW.skip ?_
  refine AW.seq (AW.block ?_)
  refine AW.rgs rfl fun K hK => mv rfl rfl (mv rfl rfl ?_)
  refine bf hK (P3 [(5, hI a1), E13, (13, hI a1)] []) ?_
  refine AW.dgs 9 follows rfl rfl fun K hK => ?_
  iterate 2 refine sm rfl rfl ?_
  obtain ⟨x5, h6, h⟩ := bS h
  refine sv rfl (v_idxF ty45 es45 rfl rfl (idx_lt h6)) ?_
  refine sv rfl (v_loadF ty9 rfl (l_cell eStr h6 (o := 0) rfl rfl)) ?_
  iterate 2 refine sm rfl rfl ?_
  obtain ⟨x7, h8, h⟩ := bS h
  refine sv rfl (v_idxF ty45 es45 rfl rfl (idx_lt h8)) ?_
  refine sv rfl (v_loadF ty9 rfl (l_cell eStr h8 (o := 0) rfl rfl)) ?_
  refine sv rfl (v_bin rfl rfl b_sneq) ?_
  refine s_nil ?_
  refine bf hK (P3 [E13, (13, hI a1), (24, .bool (decide (x5 ≠ x7)))] []) ?_
  refine AW.cond rfl (fun hc => ?_) (fun hc => ?_)
  ·obtain ⟨hc, h⟩ := cT hc h
   refine AW.rgs rfl fun K hK => mv rfl rfl ?_
   refine bf hK ⟨[(4, .bool false)], []⟩ ?_
   have h := hr4 _ h
   obtain rfl := oi h
   exact AW.ret (ret_pure (.inr rfl) (resT rfl rfl) rfl trivial)
  obtain ⟨hc, h⟩ := cF hc h
  refine AW.skip ?_
  refine AW.rg rfl fun K hK => bv rfl (v_bin rfl rfl b_add) (mv rfl rfl ?_)
  refine b_nil (hK _ ?_)
  exact to_L ⟨IntKind.wrap .i64 (a1 + 1), (), h, rfl⟩
 obtain ⟨hc, h⟩ := cF hc h
 refine AW.exit ?_
 exact to_L ⟨(), (), h, rfl⟩
end Go.AW
