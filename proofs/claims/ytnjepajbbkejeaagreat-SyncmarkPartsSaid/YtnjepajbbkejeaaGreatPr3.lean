import Derived.Test.YtnjepajbbkejeaaGreatPr2
import Derived.Lib.Bytealg
import Derived.Lib.Slices
import Derived.Lib.Strings
import Derived.Lib.Walk
import Derived.Shelf.Slices.CompactI
import Derived.Shelf.SortM.Plain
import Derived.Shelf.SortM.SortNone
import Derived.Test.YtnjepajbbkejeaaGreatChecked
/- Lockstep walks: the states of a region as lists that grow at their heads. -/
namespace Go.AW
open Go

section
variable {P : Program} {ro : Option Nat} {N : Nat} {all : Array Oper} {s : AS}

def bops (P : Program) (ro : Option Nat) (N : Nat) (all : Array Oper) (l : List Oper) (K : AS → Prop) (s : AS) : Prop :=
  all.toList.all (fun o => okd N o.dst) = true → ∀ i, (∀ k, l[k]? = all[i + k]?) → AOps P ro N all (List.range' i l.length) K s

theorem AOps.le {is : List Nat} {K : AS → Prop} {s' : AS} (hl : s.le s') (h : AOps P ro N all is K s') : AOps P ro N all is K s :=
  fun w0 μ0 μ a w Q hs hE hK => h w0 μ0 _ a w Q (hs.weaken hl) (hE.trans (Evo.cut w μ s'.heap)) hK
theorem bops_le {l : List Oper} {K : AS → Prop} {s' : AS} (hl : s.le s') (h : bops P ro N all l K s') : bops P ro N all l K s := fun hok i hi => (h hok i hi).le hl

theorem put_le (d : Nat) (v : HV) : (s.put (some d) v).le ⟨(d, v) :: s.slots, s.heap⟩ := by
  refine ⟨fun t hv ht => ?_, fun _ _ h => h⟩
  simp only [sget] at ht
  simp only [AS.put, sget_sset]
  exact ht
theorem putH_le (id ver : Nat) (o : AObj) (d : Nat) (v : HV) : (({ s with heap := hset s.heap id ver o } : AS).put (some d) v).le ⟨(d, v) :: s.slots, (id, ver, o) :: s.heap⟩ := by
  refine ⟨fun t hv ht => ?_, fun i x hx => ?_⟩
  · simp only [sget] at ht
    simp only [AS.put, sget_sset]
    exact ht
  · simp only [hget] at hx
    simp only [AS.put, hget_hset]
    exact hx
theorem putN_le (id ver : Nat) (o : AObj) (v : HV) : (({ s with heap := hset s.heap id ver o } : AS).put none v).le ⟨s.slots, (id, ver, o) :: s.heap⟩ := by
  refine ⟨fun t hv ht => ht, fun i x hx => ?_⟩
  simp only [hget] at hx
  simp only [AS.put, hget_hset]
  exact hx

theorem arl {id ver k n m : Nat} (h : n = m) : some (HV.ar id ver k 0 n) = some (HV.ar id ver k 0 m) := by rw [h]
theorem hle {H : Heap} {i v : Nat} {o o' : AObj} (h : hget H i = some (v, o)) (e : o = o') : hget H i = some (v, o') := by rw [h, e]
theorem b_nil {K : AS → Prop} (h : K s) : bops P ro N all [] K s := fun _ _ _ => AOps.nil h
def gets (s : List (Nat × HV)) : List (Nat × HV) → List (Option HV)
  | [] => []
  | p :: l => sget s p.1 :: gets s l
def somes : List (Nat × HV) → List (Option HV)
  | [] => []
  | p :: l => some p.2 :: somes l
def hgets (h : Heap) : Heap → List (Option (Nat × AObj))
  | [] => []
  | p :: l => hget h p.1 :: hgets h l
def hsomes : Heap → List (Option (Nat × AObj))
  | [] => []
  | p :: l => some p.2 :: hsomes l
theorem leS_q {s : List (Nat × HV)} : ∀ {l : List (Nat × HV)}, gets s l = somes l → leS s l
  | [], _ => trivial
  | (i, h) :: l, e => ⟨(List.cons.inj e).1, leS_q (List.cons.inj e).2⟩
theorem leH_q {h : Heap} : ∀ {l : Heap}, hgets h l = hsomes l → leH h l
  | [], _ => trivial
  | (i, x) :: l, e => ⟨(List.cons.inj e).1, leH_q (List.cons.inj e).2⟩
theorem le_q {s s' : AS} (h1 : gets s.slots s'.slots = somes s'.slots) (h2 : hgets s.heap s'.heap = hsomes s'.heap) : s.le s' := AS.le_of (leS_q h1) (leH_q h2)
theorem b_fin {c : Code} {Q : Exit → AS → Prop} {K : AS → Prop} (hK : ∀ s', AW P ro N c Q s' → K s') {s' : AS} (hl : s.le s') (h : AW P ro N c Q s') : bops P ro N all [] K s := b_nil (hK _ (AW.to (to_le hl h)))

variable {rest : List Oper} {o : Oper} {K : AS → Prop} {fid : Nat} {mt : List Nat} {sl : List (Nat × HV)} {H : Heap}

theorem b_step {i : Nat} (hok : all.toList.all (fun o => okd N o.dst) = true) (hl : ∀ k, (o :: rest)[k]? = all[i + k]?) : all[i]? = some o ∧ okd N o.dst = true ∧ ∀ k, rest[k]? = all[i + 1 + k]? := by
  have ho : all[i]? = some o := by have := hl 0; simpa using this.symm
  refine ⟨ho, List.all_eq_true.1 hok o (by
    have := Array.getElem?_toList (xs := all) (i := i)
    rw [ho] at this
    exact List.mem_of_getElem? this), fun k => ?_⟩
  have := hl (k + 1)
  rw [List.getElem?_cons_succ] at this
  rw [this]; congr 1; omega

theorem b_op_z (hg : o.guard = none) (h : aop P fid mt o (fun s' => bops P ro N all rest K s') s) : bops P ro N all (o :: rest) K s := by
  intro hok i hl
  obtain ⟨ho, hN, hl'⟩ := b_step hok hl
  rw [List.length_cons, List.range'_succ]
  refine AOps.cons ho hg fun w0 μ0 μ a w next Q hs hE hK => ?_
  exact aop_sound (ro := ro) hN h w0 μ0 μ a w next Q hs hE fun μ' s' a' w' hk hs' hE' => hK μ' s' a' w' (hk hok (i + 1) hl') hs' hE'
theorem b_op (hg : o.guard = none) (h : aop P fid mt o (fun s' => bops P ro N all rest K s') ⟨sl, H⟩) : bops P ro N all (o :: rest) K ⟨sl, H⟩ := b_op_z (s := ⟨sl, H⟩) hg h
theorem b_T_z {j d : Nat} {oj : Oper} {want b : Bool} (hg : o.guard = some (j, want)) (hj : all[j]? = some oj) (hd : oj.dst = some d) (hb : sget s.slots d = some (.bool b)) (hw : b = want) (h : aop P fid mt o (fun s' => bops P ro N all rest K s') ⟨(d, .bool want) :: s.slots, s.heap⟩) : bops P ro N all (o :: rest) K s := by
  intro hok i hl
  obtain ⟨ho, hN, hl'⟩ := b_step hok hl
  rw [List.length_cons, List.range'_succ]
  refine AOps.guard ho hN hg hj hd hb (fun e => ?_) (fun e => by rw [hw] at e; cases want <;> cases e)
  have hs0 : AOp P ro N o (AOps P ro N all (List.range' (i + 1) rest.length) K) ⟨(d, .bool want) :: s.slots, s.heap⟩ := fun w0 μ0 μ a w next Q hs hE hK =>
    aop_sound (ro := ro) hN h w0 μ0 μ a w next Q hs hE fun μ' s' a' w' hk hs' hE' => hK μ' s' a' w' (hk hok (i + 1) hl') hs' hE'
  intro w0 μ0 μ a w next Q hs hE hK
  exact hs0 w0 μ0 _ a w next Q (hs.weaken (put_le d _)) (hE.trans (Evo.cut w μ _)) hK
theorem b_T {j d : Nat} {oj : Oper} {want b : Bool} (hg : o.guard = some (j, want)) (hj : all[j]? = some oj) (hd : oj.dst = some d) (hb : sget sl d = some (.bool b)) (hw : b = want) (h : aop P fid mt o (fun s' => bops P ro N all rest K s') ⟨(d, .bool want) :: sl, H⟩) : bops P ro N all (o :: rest) K ⟨sl, H⟩ := b_T_z (s := ⟨sl, H⟩) hg hj hd hb hw h
theorem b_F_z {j d : Nat} {oj : Oper} {want b : Bool} {d' : Nat} (hg : o.guard = some (j, want)) (hd' : o.dst = some d') (hj : all[j]? = some oj) (hd : oj.dst = some d) (hb : sget s.slots d = some (.bool b)) (hw : b = !want) (h : bops P ro N all rest K ⟨(d', .v undef) :: (d, .bool !want) :: s.slots, s.heap⟩) : bops P ro N all (o :: rest) K s := by
  intro hok i hl
  obtain ⟨ho, hN, hl'⟩ := b_step hok hl
  rw [List.length_cons, List.range'_succ]
  refine AOps.guard ho hN hg hj hd hb (fun e => by rw [hw] at e; cases want <;> cases e) (fun e => ?_)
  have h2 := h hok (i + 1) hl'
  subst hw
  rw [hd']
  refine AOps.le (s' := ⟨(d', .v undef) :: (d, .bool !want) :: s.slots, s.heap⟩) ⟨fun t hv ht => ?_, fun _ _ h => h⟩ h2
  simp only [sget] at ht
  simp only [AS.put, sget_sset]
  exact ht
theorem b_F {j d : Nat} {oj : Oper} {want b : Bool} {d' : Nat} (hg : o.guard = some (j, want)) (hd' : o.dst = some d') (hj : all[j]? = some oj) (hd : oj.dst = some d) (hb : sget sl d = some (.bool b)) (hw : b = !want) (h : bops P ro N all rest K ⟨(d', .v undef) :: (d, .bool !want) :: sl, H⟩) : bops P ro N all (o :: rest) K ⟨sl, H⟩ := b_F_z (s := ⟨sl, H⟩) hg hd' hj hd hb hw h
theorem b_U_z {j d : Nat} {oj : Oper} {want : Bool} {d' : Nat} (hg : o.guard = some (j, want)) (hd' : o.dst = some d') (hj : all[j]? = some oj) (hd : oj.dst = some d) (hb : sget s.slots d = some (.v undef)) (h : bops P ro N all rest K ⟨(d', .v undef) :: s.slots, s.heap⟩) : bops P ro N all (o :: rest) K s := by
  intro hok i hl
  obtain ⟨ho, hN, hl'⟩ := b_step hok hl
  rw [List.length_cons, List.range'_succ]
  refine AOps.guardU ho hN hg hj hd hb ?_
  rw [hd']
  exact (h hok (i + 1) hl').le (put_le d' _)

theorem b_U {j d : Nat} {oj : Oper} {want : Bool} {d' : Nat} (hg : o.guard = some (j, want)) (hd' : o.dst = some d') (hj : all[j]? = some oj) (hd : oj.dst = some d) (hb : sget sl d = some (.v undef)) (h : bops P ro N all rest K ⟨(d', .v undef) :: sl, H⟩) : bops P ro N all (o :: rest) K ⟨sl, H⟩ := b_U_z (s := ⟨sl, H⟩) hg hd' hj hd hb h
/-! the operations -/
def mvOf : Op → Option Operand
  | .move x => some x
  | .assign x => some x
  | _ => none
theorem mv_val {op : Op} {x : Operand} {hv : HV} (h : mvOf op = some x) (hx : s.ev x = some hv) : isVal op = true ∧ aval P op s (· = hv) := by
  unfold mvOf at h
  split at h
  · cases h; exact ⟨rfl, v_move hx⟩
  · cases h; exact ⟨rfl, v_assign hx⟩
  · cases h

theorem o_val_z {d : Nat} {hv : HV} (h0 : (o.dst, isVal o.op) = (some d, true)) (h : aval P o.op s (· = hv)) (k : bops P ro N all rest K ⟨(d, hv) :: s.slots, s.heap⟩) : aop P 0 [] o (fun s' => bops P ro N all rest K s') s := by
  obtain ⟨h1, h2⟩ := Prod.mk.inj h0
  refine op_val h2 h ?_
  rw [h1]
  exact bops_le (put_le d hv) k
theorem o_val {d : Nat} {hv : HV} (h0 : (o.dst, isVal o.op) = (some d, true)) (h : aval P o.op ⟨sl, H⟩ (· = hv)) (k : bops P ro N all rest K ⟨(d, hv) :: sl, H⟩) : aop P 0 [] o (fun s' => bops P ro N all rest K s') ⟨sl, H⟩ := o_val_z (s := ⟨sl, H⟩) h0 h k
theorem bv_z {d : Nat} {hv : HV} (h0 : (o.guard, o.dst, isVal o.op) = (none, some d, true)) (h : aval P o.op s (· = hv)) (k : bops P ro N all rest K ⟨(d, hv) :: s.slots, s.heap⟩) : bops P ro N all (o :: rest) K s := by
  obtain ⟨h1, h2⟩ := Prod.mk.inj h0
  exact b_op h1 (o_val h2 h k)
theorem bv {d : Nat} {hv : HV} (h0 : (o.guard, o.dst, isVal o.op) = (none, some d, true)) (h : aval P o.op ⟨sl, H⟩ (· = hv)) (k : bops P ro N all rest K ⟨(d, hv) :: sl, H⟩) : bops P ro N all (o :: rest) K ⟨sl, H⟩ := bv_z (s := ⟨sl, H⟩) h0 h k
theorem mv_z {d : Nat} {x : Operand} {hv : HV} (h0 : (o.guard, o.dst, mvOf o.op) = (none, some d, some x)) (hx : s.ev x = some hv) (k : bops P ro N all rest K ⟨(d, hv) :: s.slots, s.heap⟩) : bops P ro N all (o :: rest) K s := by
  obtain ⟨h1, h2⟩ := Prod.mk.inj h0
  obtain ⟨h3, h4⟩ := Prod.mk.inj h2
  obtain ⟨h5, h6⟩ := mv_val h4 hx
  exact b_op h1 (o_val (by rw [h3, h5]) h6 k)
theorem mv {d : Nat} {x : Operand} {hv : HV} (h0 : (o.guard, o.dst, mvOf o.op) = (none, some d, some x)) (hx : (⟨sl, H⟩ : AS).ev x = some hv) (k : bops P ro N all rest K ⟨(d, hv) :: sl, H⟩) : bops P ro N all (o :: rest) K ⟨sl, H⟩ := mv_z (s := ⟨sl, H⟩) h0 hx k
theorem o_box_z {d : Nat} {e : TypeId} {x : Operand} {hv : HV} {cs : List HV} (h0 : (o.dst, o.op) = (some d, .box e x)) (hx : s.ev x = some hv) (hc : hv.cells? = some cs) (k : bops P ro N all rest K ⟨(d, .fptr cs 0) :: s.slots, s.heap⟩) : aop P 0 [] o (fun s' => bops P ro N all rest K s') s := by
  obtain ⟨h1, h2⟩ := Prod.mk.inj h0
  refine op_box h2 hx hc (by rw [h1]; rfl) ?_
  rw [h1]
  exact bops_le (put_le d _) k
theorem o_box {d : Nat} {e : TypeId} {x : Operand} {hv : HV} {cs : List HV} (h0 : (o.dst, o.op) = (some d, .box e x)) (hx : (⟨sl, H⟩ : AS).ev x = some hv) (hc : hv.cells? = some cs) (k : bops P ro N all rest K ⟨(d, .fptr cs 0) :: sl, H⟩) : aop P 0 [] o (fun s' => bops P ro N all rest K s') ⟨sl, H⟩ := o_box_z (s := ⟨sl, H⟩) h0 hx hc k
theorem o_boxM_z {d : Nat} {e : TypeId} {x : Operand} {hv : HV} {cs : List HV} (id : Nat) (h0 : (o.dst, o.op) = (some d, .box e x)) (hid : fid * 1000 + d = id) (hx : s.ev x = some hv) (hc : hv.cells? = some cs) (k : ∀ ver, bops P ro N all rest K ⟨(d, .ptr id ver 0) :: s.slots, (id, ver, .arr cs.length e cs) :: s.heap⟩) : aop P fid [d] o (fun s' => bops P ro N all rest K s') s := by
  obtain ⟨h1, h2⟩ := Prod.mk.inj h0
  refine op_boxM h2 hx hc (by rw [h1]; simp [isMut, inL]) fun ver => ?_
  rw [h1]
  have : cid fid (some d) = id := hid
  rw [this]
  exact bops_le (putH_le id ver _ d _) (k ver)
theorem o_boxM {d : Nat} {e : TypeId} {x : Operand} {hv : HV} {cs : List HV} (id : Nat) (h0 : (o.dst, o.op) = (some d, .box e x)) (hid : fid * 1000 + d = id) (hx : (⟨sl, H⟩ : AS).ev x = some hv) (hc : hv.cells? = some cs) (k : ∀ ver, bops P ro N all rest K ⟨(d, .ptr id ver 0) :: sl, (id, ver, .arr cs.length e cs) :: H⟩) : aop P fid [d] o (fun s' => bops P ro N all rest K s') ⟨sl, H⟩ := o_boxM_z (s := ⟨sl, H⟩) id h0 hid hx hc k
theorem o_alloc_z {d : Nat} {e : TypeId} {T : TyI} {zs : List HV} (id : Nat) (h0 : (o.dst, o.op) = (some d, .alloc e)) (hid : fid * 1000 + d = id) (hT : ty P e = some T) (hz : zcells T.zero = some zs) (k : ∀ ver, bops P ro N all rest K ⟨(d, .ptr id ver 0) :: s.slots, (id, ver, .arr zs.length e zs) :: s.heap⟩) : aop P fid [] o (fun s' => bops P ro N all rest K s') s := by
  obtain ⟨h1, h2⟩ := Prod.mk.inj h0
  refine op_alloc h2 hT hz fun ver => ?_
  rw [h1]
  have : cid fid (some d) = id := hid
  rw [this]
  exact bops_le (putH_le id ver _ d _) (k ver)
theorem o_alloc {d : Nat} {e : TypeId} {T : TyI} {zs : List HV} (id : Nat) (h0 : (o.dst, o.op) = (some d, .alloc e)) (hid : fid * 1000 + d = id) (hT : ty P e = some T) (hz : zcells T.zero = some zs) (k : ∀ ver, bops P ro N all rest K ⟨(d, .ptr id ver 0) :: sl, (id, ver, .arr zs.length e zs) :: H⟩) : aop P fid [] o (fun s' => bops P ro N all rest K s') ⟨sl, H⟩ := o_alloc_z (s := ⟨sl, H⟩) id h0 hid hT hz k
theorem o_store_z {t : TypeId} {x y : Operand} {id ver off k : Nat} {e : TypeId} {hv : HV} {T : TyI} {cs xs zs : List HV} (h0 : (o.dst, o.op) = (none, .store t x y)) (hx : s.ev x = some (.ptr id ver off)) (hy : s.ev y = some hv) (hT : ty P t = some T) (hc : hv.cells? = some cs)
    (hg : hget s.heap id = some (ver, .arr k e xs)) (h1 : T.size = cs.length) (h2 : Nat.ble (off + cs.length) xs.length = true) (hz : splice xs off cs = zs) (kk : bops P ro N all rest K ⟨s.slots, (id, ver, .arr k e zs) :: s.heap⟩) : aop P 0 [] o (fun s' => bops P ro N all rest K s') s := by
  obtain ⟨h3, h4⟩ := Prod.mk.inj h0
  refine op_store h4 hx hy hT hc hg h1 (Nat.le_of_ble_eq_true h2) ?_
  rw [h3, hz]
  exact bops_le (putN_le id ver _ _) kk
theorem o_store {t : TypeId} {x y : Operand} {id ver off k : Nat} {e : TypeId} {hv : HV} {T : TyI} {cs xs zs : List HV} (h0 : (o.dst, o.op) = (none, .store t x y)) (hx : (⟨sl, H⟩ : AS).ev x = some (.ptr id ver off)) (hy : (⟨sl, H⟩ : AS).ev y = some hv) (hT : ty P t = some T) (hc : hv.cells? = some cs)
    (hg : hget H id = some (ver, .arr k e xs)) (h1 : T.size = cs.length) (h2 : Nat.ble (off + cs.length) xs.length = true) (hz : splice xs off cs = zs) (kk : bops P ro N all rest K ⟨sl, (id, ver, .arr k e zs) :: H⟩) : aop P 0 [] o (fun s' => bops P ro N all rest K s') ⟨sl, H⟩ := o_store_z (s := ⟨sl, H⟩) h0 hx hy hT hc hg h1 h2 hz kk
theorem o_storeE_z {α : Type} (c : EncL α) {t : TypeId} {x y : Operand} {id ver : Nat} {e : TypeId} {hv : HV} {T : TyI} {l : List α} {j : Int} {v : α} (h0 : (o.dst, o.op) = (none, .store t x y)) (hx : s.ev x = some (.ptr id ver (j.toNat * c.k))) (hy : s.ev y = some hv) (hT : ty P t = some T) (hc : hv.cells? = some (c.C v))
    (hg : hget s.heap id = some (ver, .arr c.k e (c.E l))) (h1 : T.size = c.k) (hj : 0 ≤ j ∧ j < l.length) (kk : bops P ro N all rest K ⟨s.slots, (id, ver, .arr c.k e (c.E (l.set j.toNat v))) :: s.heap⟩) : aop P 0 [] o (fun s' => bops P ro N all rest K s') s := by
  obtain ⟨h3, h4⟩ := Prod.mk.inj h0
  refine op_storeE c h4 hx hy hT hc hg h1 hj ?_
  rw [h3]
  exact bops_le (putN_le id ver _ _) kk
theorem o_storeE {α : Type} (c : EncL α) {t : TypeId} {x y : Operand} {id ver : Nat} {e : TypeId} {hv : HV} {T : TyI} {l : List α} {j : Int} {v : α} (h0 : (o.dst, o.op) = (none, .store t x y)) (hx : (⟨sl, H⟩ : AS).ev x = some (.ptr id ver (j.toNat * c.k))) (hy : (⟨sl, H⟩ : AS).ev y = some hv) (hT : ty P t = some T) (hc : hv.cells? = some (c.C v))
    (hg : hget H id = some (ver, .arr c.k e (c.E l))) (h1 : T.size = c.k) (hj : 0 ≤ j ∧ j < l.length) (kk : bops P ro N all rest K ⟨sl, (id, ver, .arr c.k e (c.E (l.set j.toNat v))) :: H⟩) : aop P 0 [] o (fun s' => bops P ro N all rest K s') ⟨sl, H⟩ := o_storeE_z (s := ⟨sl, H⟩) c h0 hx hy hT hc hg h1 hj kk
theorem o_bsl_z {d : Nat} {t : TypeId} {n k : Nat} {e : TypeId} {ps : Array (Nat × Operand)} {cs : List HV} (h0 : (o.dst, o.op) = (some d, .buildSlice t n ps)) (hn : (Nat.ble n 16777216 && !(n == 0)) = true) (h : aslice P s t n ps.toList fun k' e' cs' => k' = k ∧ e' = e ∧ cs' = cs) (kk : bops P ro N all rest K ⟨(d, .sl k n cs) :: s.slots, s.heap⟩) : aop P 0 [] o (fun s' => bops P ro N all rest K s') s := by
  obtain ⟨h1, h2⟩ := Prod.mk.inj h0
  simp only [Bool.and_eq_true, Bool.not_eq_true'] at hn
  refine op_bsl h2 hn.1 (by rw [h1, hn.2]; rfl) h ?_
  rw [h1]
  exact bops_le (put_le d _) kk
theorem o_bsl {d : Nat} {t : TypeId} {n k : Nat} {e : TypeId} {ps : Array (Nat × Operand)} {cs : List HV} (h0 : (o.dst, o.op) = (some d, .buildSlice t n ps)) (hn : (Nat.ble n 16777216 && !(n == 0)) = true) (h : aslice P ⟨sl, H⟩ t n ps.toList fun k' e' cs' => k' = k ∧ e' = e ∧ cs' = cs) (kk : bops P ro N all rest K ⟨(d, .sl k n cs) :: sl, H⟩) : aop P 0 [] o (fun s' => bops P ro N all rest K s') ⟨sl, H⟩ := o_bsl_z (s := ⟨sl, H⟩) h0 hn h kk
theorem o_makeE_z {α : Type} (en : EncL α) (z0 : α) {d : Nat} {t e : TypeId} {a b : Nat} {z : Value} {x y : Operand} {l c : Int} {Te : TyI} (id : Nat) (h0 : (o.dst, o.op) = (some d, .makeSlice t x y)) (hid : fid * 1000 + d = id) (hT : ty P t = some ⟨.slice e, a, b, z⟩) (hx : s.ev x = some (.int .i64 l)) (hy : s.ev y = some (.int .i64 c)) (hTe : ty P e = some Te) (hz : zcells Te.zero = some (en.C z0))
    (h1 : Te.size = en.k) (h2 : 0 ≤ l ∧ l ≤ c ∧ c * Te.bytes ≤ 281474976710656) (k : ∀ ver, bops P ro N all rest K ⟨(d, .ar id ver en.k 0 (List.replicate l.toNat z0).length) :: s.slots, (id, ver, .arr en.k e (en.E (List.replicate l.toNat z0))) :: s.heap⟩) : aop P fid [] o (fun s' => bops P ro N all rest K s') s := by
  obtain ⟨h3, h4⟩ := Prod.mk.inj h0
  refine op_makeE en z0 h4 hT hx hy hTe hz h1 h2 fun ver => ?_
  rw [h3]
  have : cid fid (some d) = id := hid
  rw [this]
  exact bops_le (putH_le id ver _ d _) (k ver)
theorem o_makeE {α : Type} (en : EncL α) (z0 : α) {d : Nat} {t e : TypeId} {a b : Nat} {z : Value} {x y : Operand} {l c : Int} {Te : TyI} (id : Nat) (h0 : (o.dst, o.op) = (some d, .makeSlice t x y)) (hid : fid * 1000 + d = id) (hT : ty P t = some ⟨.slice e, a, b, z⟩) (hx : (⟨sl, H⟩ : AS).ev x = some (.int .i64 l)) (hy : (⟨sl, H⟩ : AS).ev y = some (.int .i64 c)) (hTe : ty P e = some Te) (hz : zcells Te.zero = some (en.C z0))
    (h1 : Te.size = en.k) (h2 : 0 ≤ l ∧ l ≤ c ∧ c * Te.bytes ≤ 281474976710656) (k : ∀ ver, bops P ro N all rest K ⟨(d, .ar id ver en.k 0 (List.replicate l.toNat z0).length) :: sl, (id, ver, .arr en.k e (en.E (List.replicate l.toNat z0))) :: H⟩) : aop P fid [] o (fun s' => bops P ro N all rest K s') ⟨sl, H⟩ := o_makeE_z (s := ⟨sl, H⟩) en z0 id h0 hid hT hx hy hTe hz h1 h2 k
section
variable {α : Type} (c : EncL α) {d : Nat} {t xt e e2 : TypeId} {a b a2 b2 : Nat} {z z2 : Value} {aa : Array Operand} {ts : Array TypeId} {x y : Operand} {Te : TyI} {l m : List α} {id ver id2 ver2 : Nat} {e3 : TypeId}
theorem o_appE_z (h0 : (o.dst, o.op) = (some d, .call ⟨.builtin .append, aa, ts⟩)) (ha : (aa.toList, ts.toList) = ([x, y], [t, xt])) (hT : ty P t = some ⟨.slice e, a, b, z⟩) (hxt : ty P xt = some ⟨.slice e2, a2, b2, z2⟩) (hTe : ty P e = some Te)
    (hx : s.ev x = some (.ar id ver c.k 0 l.length)) (hg : hget s.heap id = some (ver, .arr c.k e (c.E l))) (hy : s.ev y = some (.sl c.k m.length (c.E m)))
    (hk : Te.size = c.k) (hz : (zcells Te.zero).any (fun zs => zs.length == Te.size) = true) (h : fits Te.bytes (l.length + m.length))
    (k : ∀ ver', bops P ro N all rest K ⟨(d, .ar id ver' c.k 0 (l ++ m).length) :: s.slots, (id, ver', .arr c.k e (c.E (l ++ m))) :: s.heap⟩) : aop P 0 [] o (fun s' => bops P ro N all rest K s') s := by
  obtain ⟨h3, h4⟩ := Prod.mk.inj h0
  obtain ⟨h5, h6⟩ := Prod.mk.inj ha
  refine op_appE c h4 h5 h6 hT hxt hTe hx hg hy hk hz h fun ver' => ?_
  rw [h3]
  exact bops_le (putH_le id ver' _ d _) (k ver')
theorem o_appE (h0 : (o.dst, o.op) = (some d, .call ⟨.builtin .append, aa, ts⟩)) (ha : (aa.toList, ts.toList) = ([x, y], [t, xt])) (hT : ty P t = some ⟨.slice e, a, b, z⟩) (hxt : ty P xt = some ⟨.slice e2, a2, b2, z2⟩) (hTe : ty P e = some Te)
    (hx : (⟨sl, H⟩ : AS).ev x = some (.ar id ver c.k 0 l.length)) (hg : hget H id = some (ver, .arr c.k e (c.E l))) (hy : (⟨sl, H⟩ : AS).ev y = some (.sl c.k m.length (c.E m)))
    (hk : Te.size = c.k) (hz : (zcells Te.zero).any (fun zs => zs.length == Te.size) = true) (h : fits Te.bytes (l.length + m.length))
    (k : ∀ ver', bops P ro N all rest K ⟨(d, .ar id ver' c.k 0 (l ++ m).length) :: sl, (id, ver', .arr c.k e (c.E (l ++ m))) :: H⟩) : aop P 0 [] o (fun s' => bops P ro N all rest K s') ⟨sl, H⟩ := o_appE_z (s := ⟨sl, H⟩) c h0 ha hT hxt hTe hx hg hy hk hz h k
end
theorem o_call_z {d : Nat} {aa : Array Operand} {ts : Array TypeId} {f : Operand} {g : FuncId} {fs hs cs args : List HV} {q : HV} (h0 : (o.dst, o.op) = (some d, .call ⟨.value f, aa, ts⟩)) (hf : s.ev f = some (.fn (.func g) fs cs)) (ha : aa.toList.mapM s.ev = some hs) (hargs : fs ++ hs ++ cs = args)
    (h : ACallD P g args s.heap q) (k : bops P ro N all rest K ⟨(d, q) :: s.slots, s.heap⟩) : aop P 0 [] o (fun s' => bops P ro N all rest K s') s := by
  obtain ⟨h1, h2⟩ := Prod.mk.inj h0
  refine op_callD h2 hf ha hargs h ?_
  rw [h1]
  exact bops_le (put_le d _) k
theorem o_call {d : Nat} {aa : Array Operand} {ts : Array TypeId} {f : Operand} {g : FuncId} {fs hs cs args : List HV} {q : HV} (h0 : (o.dst, o.op) = (some d, .call ⟨.value f, aa, ts⟩)) (hf : (⟨sl, H⟩ : AS).ev f = some (.fn (.func g) fs cs)) (ha : aa.toList.mapM (⟨sl, H⟩ : AS).ev = some hs) (hargs : fs ++ hs ++ cs = args)
    (h : ACallD P g args H q) (k : bops P ro N all rest K ⟨(d, q) :: sl, H⟩) : aop P 0 [] o (fun s' => bops P ro N all rest K s') ⟨sl, H⟩ := o_call_z (s := ⟨sl, H⟩) h0 hf ha hargs h k
theorem o_build_z {d : Nat} {t : TypeId} {ps : Array (Nat × Operand)} {cs : List HV} (h0 : (o.dst, o.op) = (some d, .build t ps)) (h : abuild P s t ps.toList (· = .agg cs)) (k : bops P ro N all rest K ⟨(d, .agg cs) :: s.slots, s.heap⟩) : aop P 0 [] o (fun s' => bops P ro N all rest K s') s := by
  obtain ⟨h1, h2⟩ := Prod.mk.inj h0
  refine op_build h2 h ?_
  rw [h1]
  exact bops_le (put_le d _) k

theorem o_build {d : Nat} {t : TypeId} {ps : Array (Nat × Operand)} {cs : List HV} (h0 : (o.dst, o.op) = (some d, .build t ps)) (h : abuild P ⟨sl, H⟩ t ps.toList (· = .agg cs)) (k : bops P ro N all rest K ⟨(d, .agg cs) :: sl, H⟩) : aop P 0 [] o (fun s' => bops P ro N all rest K s') ⟨sl, H⟩ := o_build_z (s := ⟨sl, H⟩) h0 h k
theorem AW.rg {id : Nat} {ops : Array Oper} {Q : Exit → AS → Prop} (hok : ops.toList.all (fun o => okd N o.dst) = true) (h : ∀ K : AS → Prop, (∀ s', Q .normal s' → K s') → bops P ro N ops ops.toList K s) : AW P ro N (.region id ops false) Q s := by
  intro w0 μ0 μ a w hs hE
  have hso := h (fun s' => Q .normal s') (fun _ h => h) hok 0 (fun k => by simp)
  refine wpIn_region ?_
  rw [List.range_eq_range', ← Array.length_toList]
  refine hso w0 μ0 μ a w _ hs hE fun μ' s' a' w' hk hs' hE' => ?_
  exact ⟨(fun _ h => by cases h), (fun h => by cases h), _, _, hk, hs', hE'⟩
theorem AW.rgs {id : Nat} {ops : Array Oper} {y : Code} {Q : Exit → AS → Prop} (hok : ops.toList.all (fun o => okd N o.dst) = true) (h : ∀ K : AS → Prop, (∀ s', AW P ro N y Q s' → K s') → bops P ro N ops ops.toList K s) : AW P ro N (.seq (.region id ops false) y) Q s :=
  AW.seq (AW.rg hok h)

/-! draws: the steady operations -/
theorem ev_eqv {s' : AS} (h : s.eqv s') : s'.ev = s.ev := by
  funext x
  cases x with
  | tmp t => exact h.2 t
  | _ => rfl
theorem aopS_eqv {o : Oper} {R : HV → Prop} {s' : AS} (h : s.eqv s') (hp : aopS P o R s') : aopS P o R s := by
  have he := ev_eqv h
  have hh := h.1
  unfold aopS at hp ⊢
  split at hp
  · rw [he] at hp; exact hp
  · refine ⟨hp.1, ?_⟩
    rw [← aslice_congr (s' := s') (s := s) fun p _ => by rw [he]]
    exact hp.2
  · rw [← abuild_congr (s' := s') (s := s) fun p _ => by rw [he]]
    exact hp
  · rw [he, hh] at hp; exact hp
  · rw [aval_congr (s' := s') (s := s) hh fun x _ => by rw [he]] at hp
    exact hp
theorem aopS_mono {o : Oper} {R R' : HV → Prop} (h : aopS P o R s) (hr : ∀ v, R v → R' v) : aopS P o R' s := by
  unfold aopS at h ⊢
  split at h
  · split at h
    · split at h
      · exact hr _ h
      · exact h.elim
    · exact h.elim
  · exact ⟨h.1, aslice_mono h.2 fun _ _ _ => hr _⟩
  · obtain ⟨cs, h1, h2⟩ := abuild_det h
    exact h2 _ (hr _ h1)
  · split at h
    · obtain ⟨v, h1, h2⟩ := h
      exact ⟨v, h1, hr _ h2⟩
    · exact h.elim
  · exact aval_mono h hr
def Eqc (K : AS → Prop) : Prop := ∀ s s' : AS, s.eqv s' → K s' → K s
theorem asteps_eqv {al : List Oper} (hK : Eqc K) : ∀ (l : List Oper) (s s' : AS), s.eqv s' → asteps P al l K s' → asteps P al l K s
  | [], s, s', h, hp => hK s s' h hp
  | o :: l, s, s', h, hp => by
    simp only [asteps] at hp ⊢
    split at hp
    · exact aopS_mono (aopS_eqv h hp) fun v hv => asteps_eqv hK l _ _ (h.put o.dst v) hv
    · split at hp
      · split at hp
        · rename_i hd
          rw [h.2] at hp
          split at hp
          · split at hp
            · rename_i hw
              rw [if_pos hw]
              exact aopS_mono (aopS_eqv (h.put _ _) hp) fun v hv => asteps_eqv hK l _ _ ((h.put _ _).put o.dst v) hv
            · rename_i hw
              rw [if_neg hw]
              exact asteps_eqv hK l _ _ ((h.put _ _).put _ _) hp
          · exact ⟨hp.1, asteps_eqv hK l _ _ (h.put _ _) hp.2⟩
          · exact hp.elim
        · exact hp.elim
      · exact hp.elim

structure stops (P : Program) (al l : List Oper) (K : AS → Prop) (s : AS) : Prop where
  go : Eqc K → asteps P al l K s
theorem cons_eqv (d : Nat) (v : HV) : (s.put (some d) v).eqv ⟨(d, v) :: s.slots, s.heap⟩ := ⟨rfl, fun t => by simp only [AS.put, sget_sset, sget]⟩
variable {al : List Oper}
theorem s_nil (h : K s) : stops P al [] K s := ⟨fun _ => h⟩
theorem s_op_z (hg : o.guard = none) {d : Nat} (hd : o.dst = some d) (h : aopS P o (fun v => stops P al rest K ⟨(d, v) :: s.slots, s.heap⟩) s) : stops P al (o :: rest) K s := stops.mk fun hK => by
  simp only [asteps, hg]
  refine aopS_mono h fun v hv => ?_
  rw [hd]
  exact asteps_eqv hK rest _ _ (cons_eqv d v) (hv.go hK)
theorem s_op (hg : o.guard = none) {d : Nat} (hd : o.dst = some d) (h : aopS P o (fun v => stops P al rest K ⟨(d, v) :: sl, H⟩) ⟨sl, H⟩) : stops P al (o :: rest) K ⟨sl, H⟩ := s_op_z (s := ⟨sl, H⟩) hg hd h
theorem s_T_z {j d d' : Nat} {oj : Oper} {want b : Bool} (hg : o.guard = some (j, want)) (hd' : o.dst = some d') (hj : al[j]? = some oj) (hd : oj.dst = some d) (hb : sget s.slots d = some (.bool b)) (hw : b = want) (h : aopS P o (fun v => stops P al rest K ⟨(d', v) :: (d, .bool want) :: s.slots, s.heap⟩) ⟨(d, .bool want) :: s.slots, s.heap⟩) : stops P al (o :: rest) K s := stops.mk fun hK => by
  simp only [asteps, hg, hj, hd, hb, if_pos hw]
  refine aopS_mono (aopS_eqv (cons_eqv d _) h) fun v hv => ?_
  rw [hd']
  refine asteps_eqv hK rest _ _ (((cons_eqv d (.bool want)).put (some d') v).trans ?_) (hv.go hK)
  exact cons_eqv (s := ⟨(d, .bool want) :: s.slots, s.heap⟩) d' v
theorem s_T {j d d' : Nat} {oj : Oper} {want b : Bool} (hg : o.guard = some (j, want)) (hd' : o.dst = some d') (hj : al[j]? = some oj) (hd : oj.dst = some d) (hb : sget sl d = some (.bool b)) (hw : b = want) (h : aopS P o (fun v => stops P al rest K ⟨(d', v) :: (d, .bool want) :: sl, H⟩) ⟨(d, .bool want) :: sl, H⟩) : stops P al (o :: rest) K ⟨sl, H⟩ := s_T_z (s := ⟨sl, H⟩) hg hd' hj hd hb hw h
theorem s_F_z {j d d' : Nat} {oj : Oper} {want b : Bool} (hg : o.guard = some (j, want)) (hd' : o.dst = some d') (hj : al[j]? = some oj) (hd : oj.dst = some d) (hb : sget s.slots d = some (.bool b)) (hw : b = !want) (h : stops P al rest K ⟨(d', .v undef) :: (d, .bool !want) :: s.slots, s.heap⟩) : stops P al (o :: rest) K s := stops.mk fun hK => by
  simp only [asteps, hg, hj, hd, hb]
  rw [if_neg (by rw [hw]; cases want <;> simp), hd']
  subst hw
  refine asteps_eqv hK rest _ _ (((cons_eqv d (.bool !want)).put (some d') (.v undef)).trans ?_) (h.go hK)
  exact cons_eqv (s := ⟨(d, .bool !want) :: s.slots, s.heap⟩) d' _
theorem s_F {j d d' : Nat} {oj : Oper} {want b : Bool} (hg : o.guard = some (j, want)) (hd' : o.dst = some d') (hj : al[j]? = some oj) (hd : oj.dst = some d) (hb : sget sl d = some (.bool b)) (hw : b = !want) (h : stops P al rest K ⟨(d', .v undef) :: (d, .bool !want) :: sl, H⟩) : stops P al (o :: rest) K ⟨sl, H⟩ := s_F_z (s := ⟨sl, H⟩) hg hd' hj hd hb hw h
theorem sv_z {d : Nat} {hv : HV} (h0 : (o.guard, o.dst, isVal o.op) = (none, some d, true)) (h : aval P o.op s (· = hv)) (k : stops P al rest K ⟨(d, hv) :: s.slots, s.heap⟩) : stops P al (o :: rest) K s := by
  obtain ⟨h1, h2⟩ := Prod.mk.inj h0
  obtain ⟨h3, h4⟩ := Prod.mk.inj h2
  exact s_op h1 h3 (ops_val h4 h k)
theorem sv {d : Nat} {hv : HV} (h0 : (o.guard, o.dst, isVal o.op) = (none, some d, true)) (h : aval P o.op ⟨sl, H⟩ (· = hv)) (k : stops P al rest K ⟨(d, hv) :: sl, H⟩) : stops P al (o :: rest) K ⟨sl, H⟩ := sv_z (s := ⟨sl, H⟩) h0 h k
theorem sm_z {d : Nat} {x : Operand} {hv : HV} (h0 : (o.guard, o.dst, mvOf o.op) = (none, some d, some x)) (hx : s.ev x = some hv) (k : stops P al rest K ⟨(d, hv) :: s.slots, s.heap⟩) : stops P al (o :: rest) K s := by
  obtain ⟨h1, h2⟩ := Prod.mk.inj h0
  obtain ⟨h3, h4⟩ := Prod.mk.inj h2
  obtain ⟨h5, h6⟩ := mv_val h4 hx
  exact s_op h1 h3 (ops_val h5 h6 k)

theorem sm {d : Nat} {x : Operand} {hv : HV} (h0 : (o.guard, o.dst, mvOf o.op) = (none, some d, some x)) (hx : (⟨sl, H⟩ : AS).ev x = some hv) (k : stops P al rest K ⟨(d, hv) :: sl, H⟩) : stops P al (o :: rest) K ⟨sl, H⟩ := sm_z (s := ⟨sl, H⟩) h0 hx k
theorem AOps.eqc {is : List Nat} : Eqc (AOps P ro N all is K) := fun s s' he h w0 μ0 μ a w Q hs hE hK => h w0 μ0 μ a w Q (hs.eqv he) hE hK

theorem AW.dg {id : Nat} {ops : Array Oper} {Q : Exit → AS → Prop} (p : Nat) (hm : P.follows .mixedOrders = true) (hok : ops.toList.all (fun o => okd N o.dst) = true) (hd : drawOk ops p = true)
    (h : ∀ K : AS → Prop, (∀ s', Q .normal s' → K s') → stops P ops.toList (ops.toList.take p) (bops P ro N ops (ops.toList.drop p) K) s) : AW P ro N (.region id ops true) Q s := by
  refine AW.conseq (Q' := fun e s' => e = .normal ∧ Q .normal s') (AW.drawX p (bops P ro N ops (ops.toList.drop p) (Q .normal)) hm hok hd (fun s1 h1 => ?_) ((h (Q .normal) (fun _ h => h)).go fun s s' he hp hok' i hi => AOps.eqc s s' he (hp hok' i hi))) fun e s1 ⟨he, h⟩ => he ▸ ⟨s1, AS.le_refl s1, h⟩
  have hso := h1 hok p (fun k => by rw [List.getElem?_drop, Array.getElem?_toList])
  have hld : (ops.toList.drop p).length = ops.size - p := by simp
  rw [hld] at hso
  intro w0 μ0 μ a w Q' hs hE hK
  exact hso w0 μ0 μ a w Q' hs hE fun μ' s' a' w' hk hs' hE' => hK μ' s' a' w' ⟨rfl, hk⟩ hs' hE'
theorem AW.dgs {id : Nat} {ops : Array Oper} {y : Code} {Q : Exit → AS → Prop} (p : Nat) (hm : P.follows .mixedOrders = true) (hok : ops.toList.all (fun o => okd N o.dst) = true) (hd : drawOk ops p = true)
    (h : ∀ K : AS → Prop, (∀ s', AW P ro N y Q s' → K s') → stops P ops.toList (ops.toList.take p) (bops P ro N ops (ops.toList.drop p) K) s) : AW P ro N (.seq (.region id ops true) y) Q s :=
  AW.seq (AW.dg p hm hok hd h)
end
end Go.AW

/- Lockstep walks: ranges over functions. -/
namespace Go.AW
open Go

def forL {S α X : Type} (body : S → α → Option (Stp S X)) : List α → S → Option (Ou S X)
  | [], s => some (.go s)
  | x :: l, s => match body s x with
    | some (.next s') => forL body l s'
    | some (.exit y) => some (.ret y)
    | none => none

def Yields (P : Program) (f : FuncId) (fs cs : List HV) (ys : List (List HV)) : Prop :=
  ∀ (id ver : Nat) (H : Heap) (J : Nat → Heap → Prop) (Stop : Heap → Prop) (K : HV → Heap → Prop), (∀ i H H', J i H → (∀ j x, hget H j = some x → hget H' j = some x) → J i H') → J 0 H →
    (∀ i y H, ys[i]? = some y → J i H → YCall P id ver y H fun r H' => ∃ b, r = .bool b ∧ (b = true → J (i + 1) H') ∧ (b = false → Stop H')) →
    (∀ H, J ys.length H → K (.tup []) H) → (∀ H, Stop H → K (.tup []) H) → ACall P f (fs ++ [.yl id ver] ++ cs) H K

theorem YCall.of {P : Program} {id ver fn n : Nat} {snap : List (Nat × HV)} {ps : Array Tmp} {assign body : Code} {hs : List HV} {H : Heap} {K : HV → Heap → Prop} (hg : hget H id = some (ver, .loop .ready none fn n snap ps assign body)) (hl : ps.size = hs.length) (hp : ∀ p ∈ ps.toList, p < n)
    (h : ∀ l, AW P (some l) n assign (fun e s1 => e = .normal ∧ hget s1.heap id = some (ver, .loop .ready none fn n snap ps assign body) ∧
      AW P (some l) n body (rndQ id ver fn n snap ps assign body K) { s1 with heap := hset s1.heap id ver (.loop .busy none fn n snap ps assign body) }) { slots := setPs snap ps.toList hs, heap := H }) : YCall P id ver hs H K :=
  ⟨fn, n, snap, ps, assign, body, hg, hl, hp, h⟩

section
variable {P : Program} {N : Nat} {Q : Exit → AS → Prop} {s : AS}

def rdQ (G J : AS → Prop) (c : Code) : Exit → AS → Prop
  | .normal, s => G s
  | .ret, s => c = .ret ∧ J s
  | .exit i, s => c = .exit i ∧ J s
  | _, _ => False

theorem hget_le {H H' : Heap} (h : ∀ i x, hget H' i = some x → hget H i = some x) {id ver : Nat} {o : AObj} (hn : hget H' id = none) : ∀ i x, hget H' i = some x → hget (hset H id ver o) i = some x := fun i x hx => by
  rw [hget_hset, if_neg (fun e => by rw [e, hn] at hx; cases hx)]
  exact h i x hx

theorem AW.rangeY {S α X R V W : Type} {g : Operand} {ps : Array Tmp} {assign body c : Code} {f : FuncId} {fs cs : List HV} {mb : S → α → Option (Stp S X)} {L : List α} {M : S → Option R} {Mx : X → Option R} {s0 : S} {r : R} {sl : List (Nat × HV)}
    (id : Nat) (ye : α → List HV) (h : lpO (forL mb L s0) M Mx = some r) (up : Up (Q .normal)) (hg : (⟨sl, []⟩ : AS).ev g = some (.fn (.func f) fs cs)) (hy : Yields P f fs cs (L.map ye))
    (St : S → V → Heap) (v0 : V) (Sx : X → W → Heap) (hno : ∀ a v, hget (St a v) id = none) (hnox : ∀ a v, hget (Sx a v) id = none) (hps : (ps.toList.all fun p => Nat.blt p N) = true) (hpl : ∀ x, ps.size = (ye x).length)
    (kdone : ∀ a v, M a = some r → Q .normal ⟨sl, St a v⟩) (kout : ∀ x w, Mx x = some r → AW P none N c Q ⟨sl, Sx x w⟩)
    (round : ∀ (Lo : LoopState → Option Code → AObj) (l ver : Nat) (a : S) (x : α) (v : V) (st : Stp S X), mb a x = some st →
      AW P (some l) N assign (fun e s1 => e = .normal ∧ hget s1.heap id = some (ver, Lo .ready none) ∧
        AW P (some l) N body (rdQ (fun s' => ∃ a' v', some (Stp.next a') = some st ∧ s'.le ⟨[], (id, ver, Lo .busy none) :: St a' v'⟩) (fun s' => ∃ x' w, some (Stp.exit x') = some st ∧ s'.le ⟨[], (id, ver, Lo .busy none) :: Sx x' w⟩) c)
          { s1 with heap := hset s1.heap id ver (Lo .busy none) }) ⟨setPs sl ps.toList (ye x), (id, ver, Lo .ready none) :: St a v⟩) :
    AW P none N (.rangeFunc g ps assign body) Q ⟨sl, St s0 v0⟩ := by
  have hg' : (⟨sl, St s0 v0⟩ : AS).ev g = some (.fn (.func f) fs cs) := by
    cases g <;> exact hg
  refine AW.rangeFunc id hg' fun fn ver => ?_
  obtain ⟨Lo, hLo⟩ : ∃ Lo : LoopState → Option Code → AObj, ∀ st p, Lo st p = .loop st p fn N sl ps assign body := ⟨_, fun _ _ => rfl⟩
  -- what the model comes to from a state on
  let J : Nat → Heap → Prop := fun i H => ∃ a v, lpO (forL mb (L.drop i) a) M Mx = some r ∧ hget H id = some (ver, Lo .ready none) ∧ ∀ j x, hget (St a v) j = some x → hget H j = some x
  let Stop : Heap → Prop := fun H => ∃ x w, Mx x = some r ∧ (hget H id = some (ver, Lo .done (some c))) ∧ ∀ j y, hget (Sx x w) j = some y → hget H j = some y
  refine hy id ver _ J Stop _ (fun i H H' ⟨a, v, h1, h2, h3⟩ hl => ⟨a, v, h1, hl _ _ h2, fun j x hx => hl _ _ (h3 j x hx)⟩) ⟨s0, v0, by rw [List.drop_zero]; exact h, by rw [hget_hset, if_pos rfl, hLo], fun j x hx => ?_⟩ ?_ ?_ ?_
  · exact hget_le (fun _ _ h => h) (hno s0 v0) j x hx
  · rintro i y H hyi ⟨a, v, hm, hlo, hle⟩
    rw [List.getElem?_map] at hyi
    cases hLi : L[i]? with
    | none => rw [hLi] at hyi; cases hyi
    | some x =>
      rw [hLi] at hyi
      cases hyi
      have hi := (List.getElem?_eq_some_iff.1 hLi).1
      have hx : L.drop i = x :: L.drop (i + 1) := by
        rw [List.drop_eq_getElem_cons hi]
        congr 1
        exact (List.getElem?_eq_some_iff.1 hLi).2
      rw [hx] at hm
      simp only [forL] at hm
      have hmb : ∃ st, mb a x = some st := by
        cases hb : mb a x with
        | none => rw [hb] at hm; cases hm
        | some st => exact ⟨st, rfl⟩
      obtain ⟨st, hst⟩ := hmb
      rw [hst] at hm
      rw [hLo] at hlo
      refine YCall.of hlo (hpl x) (fun p hp => by
        have := List.all_eq_true.1 hps p hp
        exact (Nat.blt_eq ▸ this : _)) fun l => ?_
      have hr := round Lo l ver a x v st hst
      refine AW.weaken ?_ (s' := ⟨setPs sl ps.toList (ye x), (id, ver, Lo .ready none) :: St a v⟩) ⟨fun _ _ h => h, fun j z hz => ?_⟩
      · refine hr.mono ?_
        rintro e s1 ⟨he, h1, h2⟩
        rw [hLo] at h1
        refine ⟨he, h1, ?_⟩
        rw [hLo] at h2
        refine h2.mono ?_
        rintro e s' h
        cases e with
        | normal =>
          obtain ⟨a', v', he', hl⟩ := h
          cases he'
          refine ⟨(hl.2 id _ (by simp only [hget, if_true])), true, rfl, fun _ => ⟨a', v', hm, (by rw [hget_hset, if_pos rfl, hLo]), ?_⟩, fun e => (by cases e)⟩
          refine hget_le (fun j z hz => hl.2 j z ?_) (hno a' v')
          simp only [hget]
          rw [if_neg (fun e => by rw [e, hno] at hz; cases hz)]
          exact hz
        | ret =>
          obtain ⟨hc, x', w, he', hl⟩ := h
          cases he'
          refine ⟨(hl.2 id _ (by simp only [hget, if_true])), false, rfl, fun e => (by cases e), fun _ => ⟨x', w, hm, (by rw [hget_hset, if_pos rfl, hLo, hc]), ?_⟩⟩
          refine hget_le (fun j z hz => hl.2 j z ?_) (hnox x' w)
          simp only [hget]
          rw [if_neg (fun e => by rw [e, hnox] at hz; cases hz)]
          exact hz
        | exit i' =>
          obtain ⟨hc, x', w, he', hl⟩ := h
          cases he'
          refine ⟨(hl.2 id _ (by simp only [hget, if_true])), false, rfl, fun e => (by cases e), fun _ => ⟨x', w, hm, (by rw [hget_hset, if_pos rfl, hLo, hc]), ?_⟩⟩
          refine hget_le (fun j z hz => hl.2 j z ?_) (hnox x' w)
          simp only [hget]
          rw [if_neg (fun e => by rw [e, hnox] at hz; cases hz)]
          exact hz
        | goto l => exact h.elim
        | panic ch => exact h.elim
        | outgrown => exact h.elim
      · simp only [hget] at hz
        split at hz
        · rename_i e
          subst e
          cases hz
          rw [hLo]; exact hlo
        · exact hle j z hz
  · rintro H ⟨a, v, hm, hlo, hle⟩
    rw [List.length_map, List.drop_length] at hm
    refine ⟨.ready, none, by rw [← hLo]; exact hlo, by simp, ?_⟩
    refine up _ (to_le (s' := ⟨sl, St a v⟩) ⟨fun _ _ h => h, ?_⟩ (kdone a v hm))
    exact hget_le hle (hno a v)
  · rintro H ⟨x, w, hm, hlo, hle⟩
    refine ⟨.done, some c, by rw [← hLo]; exact hlo, by simp, ?_⟩
    refine AW.weaken (kout x w hm) ⟨fun _ _ h => h, ?_⟩
    exact hget_le hle (hnox x w)
end
end Go.AW
namespace Go.AW
open Go

theorem ACall.freeze {P : Program} {f : FuncId} {args : List HV} {H : Heap} {K : HV → Heap → Prop} (n : Nat) (D H' : Heap)
    (h : ACall P f args H fun r H1 => (∀ j x, hget H' j = some x → hget H1 j = some x) ∧ (∀ j x, hget D j = some x → hget H1 j = some x ∧ hget H' j = none) ∧ K (frz n D r) H') : ACall P f args H K := by
  refine ⟨h.1, fun μ w vs hs hr hgl => (h.2 μ w vs hs hr hgl).mono ?_⟩
  rintro e w' ⟨v, r, H1, μ', rfl, ⟨h1, h2, k⟩, hs', hr', E⟩
  exact ⟨v, frz n D r, H', μ'.cut H', rfl, k, hs'.sub h1, frz_rep hs' h2 n r v hr', E.trans (Evo.cut w' μ' H')⟩

section
variable {P : Program} {ro : Option Nat} {N : Nat} {all : Array Oper} {rest : List Oper} {o : Oper} {K : AS → Prop} {sl : List (Nat × HV)} {H : Heap}
theorem o_yield {d : Nat} {aa : Array Operand} {ts : Array TypeId} {f : Operand} {id ver : Nat} {hs : List HV} (h0 : (o.dst, o.op) = (some d, .call ⟨.value f, aa, ts⟩)) (hf : (⟨sl, H⟩ : AS).ev f = some (.yl id ver)) (ha : aa.toList.mapM (⟨sl, H⟩ : AS).ev = some hs)
    (h : YCall P id ver hs H fun r H' => bops P ro N all rest K ⟨(d, r) :: sl, H'⟩) : aop P 0 [] o (fun s' => bops P ro N all rest K s') ⟨sl, H⟩ := by
  obtain ⟨h1, h2⟩ := Prod.mk.inj h0
  simp only [aop, h2, hf, ha]
  refine h.mono fun r H' hk => ?_
  rw [h1]
  exact bops_le (put_le (s := ⟨sl, H'⟩) d r) hk
theorem fresh_id (H : Heap) (d : Nat) : ∃ f, hget H (f * 1000 + d) = none := by
  have : ∀ H : Heap, ∃ m, ∀ j, m ≤ j → hget H j = none := by
    intro H
    induction H with
    | nil => exact ⟨0, fun _ _ => rfl⟩
    | cons p H ih =>
      obtain ⟨i, v, ob⟩ := p
      obtain ⟨m, hm⟩ := ih
      refine ⟨max m (i + 1), fun j hj => ?_⟩
      simp only [hget]
      rw [if_neg (by omega)]
      exact hm j (by omega)
  obtain ⟨m, hm⟩ := this H
  exact ⟨m, hm _ (by omega)⟩
theorem cons_le {H : Heap} {id ver : Nat} {ob : AObj} (hn : hget H id = none) : ∀ j x, hget H j = some x → hget ((id, ver, ob) :: H) j = some x := fun j x hx => by
  simp only [hget]
  rw [if_neg (fun e => by rw [e, hn] at hx; cases hx)]
  exact hx
theorem o_callK {d : Nat} {aa : Array Operand} {ts : Array TypeId} {f : Operand} {g : FuncId} {fs hs cs args : List HV} {q : HV} (H2 : Heap) (h0 : (o.dst, o.op) = (some d, .call ⟨.value f, aa, ts⟩)) (hf : (⟨sl, H⟩ : AS).ev f = some (.fn (.func g) fs cs)) (ha : aa.toList.mapM (⟨sl, H⟩ : AS).ev = some hs) (hargs : fs ++ hs ++ cs = args)
    (h : ∀ K : HV → Heap → Prop, K q H2 → ACall P g args H K) (k : bops P ro N all rest K ⟨(d, q) :: sl, H2⟩) : aop P 0 [] o (fun s' => bops P ro N all rest K s') ⟨sl, H⟩ := by
  obtain ⟨h1, h2⟩ := Prod.mk.inj h0
  refine op_call h2 hf ha hargs (h _ ?_)
  rw [h1]
  exact bops_le (put_le (s := ⟨sl, H2⟩) d q) k
theorem hset_le (H : Heap) (id ver : Nat) (ob : AObj) (sl : List (Nat × HV)) : (⟨sl, hset H id ver ob⟩ : AS).le ⟨sl, (id, ver, ob) :: H⟩ := ⟨fun _ _ h => h, fun i x hx => by
  simp only [hget] at hx
  simp only [hget_hset]
  exact hx⟩
theorem o_sortI {d : Nat} {aa : Array Operand} {ts : Array TypeId} {f : Operand} {g : FuncId} {id ver : Nat} {e : TypeId} {l : List Int} (hS : SortsI P g) (h0 : (o.dst, o.op) = (some d, .call ⟨.value f, aa, ts⟩)) (hf : (⟨sl, H⟩ : AS).ev f = some (.fn (.func g) [] [])) (ha : aa.toList.mapM (⟨sl, H⟩ : AS).ev = some [.ar id ver 1 0 l.length])
    (hg : hget H id = some (ver, .arr 1 e (l.map (.int .i64)))) (hl : l.length < 4611686018427387904) (k : bops P ro N all rest K ⟨(d, .tup []) :: sl, (id, ver, .arr 1 e ((sortI l).map (.int .i64))) :: H⟩) : aop P 0 [] o (fun s' => bops P ro N all rest K s') ⟨sl, H⟩ := by
  obtain ⟨h1, h2⟩ := Prod.mk.inj h0
  refine op_call h2 hf ha rfl (hS.arr H id ver e l _ hg hl ?_)
  rw [h1]
  exact bops_le (put_le (s := ⟨sl, hset H id ver _⟩) d _) (bops_le (hset_le H id ver _ _) k)
end

theorem SR.reobj {w : World} {μ : Mu} {H : Heap} (h : SR w μ H) {id ver : Nat} {o o' : AObj} (hg : hget H id = some (ver, o)) (ho : ∀ l, μ.loc id = some (ver, l) → OR w μ o l → OR w μ o' l) : SR w μ (hset H id ver o') where
  ok := h.ok
  has := fun j v x hj => by
    rw [hget_hset] at hj
    split at hj
    · rename_i e
      subst e
      cases hj
      obtain ⟨l, hl, hor⟩ := h.has j _ o hg
      exact ⟨l, hl, ho l hl hor⟩
    · exact h.has j v x hj
  only := fun j x hj => by
    rw [hget_hset]
    split
    · exact ⟨_, rfl⟩
    · exact h.only j x hj
  inj := h.inj
  held := h.held

theorem SR.le {w : World} {μ : Mu} {H H' : Heap} (h : SR w μ H) (he : ∀ j x, hget H' j = some x ↔ hget H j = some x) : SR w μ H' where
  ok := h.ok
  has := fun j v x hj => h.has j v x ((he j _).1 hj)
  only := fun j x hj => by
    obtain ⟨y, hy⟩ := h.only j x hj
    exact ⟨y, (he j y).2 hy⟩
  inj := h.inj
  held := h.held
section
variable {s : AS} {G : AS → Prop}
theorem to_ownC (id oid over n i k : Nat) (e e' : TypeId) {cells : List HV} (ho : hget s.heap oid = some (over, .arr n e' cells)) (hi : cells[i]? = some (.v (.slice none 0 0))) (hne : oid ≠ id)
    (h : ∀ ver, G { slots := s.slots, heap := (id, ver, .arr k e []) :: (oid, over, .arr n e' (cells.set i (.ar id ver k 0 0))) :: s.heap }) : s.to G := by
  intro ro N B μ a w hs
  have hE1 : Evo w μ w (μ.set id none) := Evo.repl hs.sr id none (Same.refl w) (Nat.le_refl _) (fun _ _ _ => rfl) (fun b hb => by cases hb)
  have hsr : SR w (μ.set id none) (hset s.heap id μ.nx (.arr k e [])) := hs.sr.repl id none _ (Same.refl w) (Nat.le_refl _) (fun _ _ _ => rfl) (fun b hb => by cases hb) rfl
  have hg : hget (hset s.heap id μ.nx (.arr k e [])) oid = some (over, .arr n e' cells) := by rw [hget_hset, if_neg hne]; exact ho
  have hsr2 := hsr.reobj (o' := .arr n e' (cells.set i (.ar id μ.nx k 0 0))) hg (fun l hl hor => by
    cases l with
    | none =>
      have : cells = [] := hor
      rw [this] at hi
      cases hi
    | some b =>
      obtain ⟨h0, cur, vs, rest, hrow, hcl, hrl⟩ := hor
      refine ⟨h0.set rfl i, cur, vs, rest, hrow, hcl, ?_⟩
      obtain ⟨x, hx, hxr⟩ := hrl.get hi
      have hset := RepL.set hrl (c := .ar id μ.nx k 0 0) (x := x) (.inl ⟨none, by simp [Mu.set], .inl ⟨rfl, hxr, rfl, rfl⟩⟩) i
      have hvs : vs.set i x = vs := by
        apply List.ext_getElem?
        intro j
        rw [List.getElem?_set]
        split
        · rename_i e
          subst e
          split
          · exact hx.symm
          · rename_i hlt
            rw [List.getElem?_eq_none (by omega)]
        · rfl
      rw [hvs] at hset
      exact hset)
  refine ⟨μ.set id none, _, h μ.nx, ⟨hs.size, hsr2.le fun j x => ?_, fun t hv ht => ⟨(hs.slot t hv ht).1, Rep.evo hE1 hs.sr.ok _ _ (hs.slot t hv ht).2⟩, hs.marks.evo hE1, hs.ro.evo hE1⟩, hE1⟩
  simp only [hget, hget_hset]
  by_cases h1 : j = id
  · subst h1
    rw [if_pos rfl, if_neg (Ne.symm hne), if_pos rfl]
  · rw [if_neg h1]
    by_cases h2 : j = oid
    · rw [if_pos h2, if_pos h2]
    · rw [if_neg h2, if_neg h2, if_neg h1]
end
end Go.AW

/- Regions that draw their order, piece by piece, in lockstep; guards of single operations. -/
namespace Go.AW
open Go
theorem ACall.conv' {P : Program} {f : FuncId} {args : List HV} {H : Heap} {K K' : HV → Heap → Prop} (h : ACall P f args H K) (hc : ∀ r H', K r H' → ∃ r2 H2, Conv H' r r2 H2 ∧ K' r2 H2) : ACall P f args H K' := by
  refine ⟨h.1, fun μ w vs hs hr hgl => (h.2 μ w vs hs hr hgl).mono ?_⟩
  rintro e w' ⟨v, r, H', μ', rfl, hk, hs', hr', E⟩
  obtain ⟨r2, H2, hcv, hk2⟩ := hc r H' hk
  obtain ⟨μ2, hs2, hr2, E2⟩ := hcv w' μ' v hs' hr'
  exact ⟨v, r2, H2, μ2, rfl, hk2, hs2, hr2, E.trans E2⟩
section
variable {P : Program} {ro : Option Nat} {N : Nat} {s : AS} {ops : Array Oper} {o : Oper} {sl : List (Nat × HV)} {H : Heap}

theorem AnyAt.eqc {Q : Exit → AS → Prop} {q : Nat} : Eqc (AnyAt P ro N ops Q q) := fun s s' he h w0 μ0 fuel listed μ1 a1 w1 h1 h2 h3 hs hE => h w0 μ0 fuel listed μ1 a1 w1 h1 h2 h3 (hs.eqv he) hE

theorem o_callA {all : Array Oper} {rest : List Oper} {K : AS → Prop} {d : Nat} {aa : Array Operand} {ts : Array TypeId} {f : Operand} {g : FuncId} {fs hs cs args : List HV} (h0 : (o.dst, o.op) = (some d, .call ⟨.value f, aa, ts⟩)) (hf : (⟨sl, H⟩ : AS).ev f = some (.fn (.func g) fs cs)) (ha : aa.toList.mapM (⟨sl, H⟩ : AS).ev = some hs) (hargs : fs ++ hs ++ cs = args)
    (h : ACall P g args H fun r H' => bops P ro N all rest K ⟨(d, r) :: sl, H'⟩) : aop P 0 [] o (fun s' => bops P ro N all rest K s') ⟨sl, H⟩ := by
  obtain ⟨h1, h2⟩ := Prod.mk.inj h0
  refine op_call h2 hf ha hargs (h.mono fun r H' hk => ?_)
  rw [h1]
  exact bops_le (put_le (s := ⟨sl, H'⟩) d r) hk

def nyops (P : Program) (ro : Option Nat) (N : Nat) (ops : Array Oper) (K : AS → Prop) (q : Nat) (s : AS) : Prop := AnyAt P ro N ops (fun e s' => e = .normal ∧ K s') q s

theorem AW.dy {id : Nat} {Q : Exit → AS → Prop} (hm : P.follows .mixedOrders = true) (h : ∀ K : AS → Prop, (∀ s', Q .normal s' → K s') → nyops P ro N ops K 0 s) : AW P ro N (.region id ops true) Q s :=
  AW.conseq (Q' := fun e s' => e = .normal ∧ Q .normal s') (AW.any hm (h (Q .normal) fun _ h => h)) fun e s1 ⟨he, h⟩ => he ▸ ⟨s1, AS.le_refl s1, h⟩
theorem AW.dys {id : Nat} {y : Code} {Q : Exit → AS → Prop} (hm : P.follows .mixedOrders = true) (h : ∀ K : AS → Prop, (∀ s', AW P ro N y Q s' → K s') → nyops P ro N ops K 0 s) : AW P ro N (.seq (.region id ops true) y) Q s :=
  AW.seq (AW.dy hm h)
variable {K : AS → Prop}
theorem y_st {q : Nat} (p : Nat) (hok : ops.toList.all (fun o => okd N o.dst) = true) (hc : (daOk ops && Nat.ble q p && Nat.ble p ops.size && waitOk ops q p && segOk ops q p) = true)
    (h : stops P ops.toList ((ops.toList.drop q).take (p - q)) (nyops P ro N ops K p) s) : nyops P ro N ops K q s := by
  simp only [Bool.and_eq_true] at hc
  obtain ⟨⟨⟨⟨h1, h2⟩, h3⟩, h4⟩, h5⟩ := hc
  exact AnyAt.steady p _ hok h1 (Nat.le_of_ble_eq_true h2) (Nat.le_of_ble_eq_true h3) h4 h5 (fun _ h => h) (h.go AnyAt.eqc)
theorem y_nil {q : Nat} (hc : (daOk ops && (ops.size == q)) = true) (h : K s) : nyops P ro N ops K q s := by
  simp only [Bool.and_eq_true, beq_iff_eq] at hc
  obtain ⟨h1, rfl⟩ := hc
  exact AnyAt.done h1 ⟨rfl, h⟩
theorem one_op {q : Nat} {fid : Nat} {mt : List Nat} (hN : okd N o.dst = true) (h : aop P fid mt o (fun s' => bops P ro N #[] [] (nyops P ro N ops K q) s') s) : AOp P ro N o (nyops P ro N ops K q) s := by
  have hk : AOp P ro N o _ s := aop_sound hN h
  intro w0 μ0 μ a w next Q hs hE hK
  refine hk w0 μ0 μ a w next Q hs hE fun μ' s' a' w' h' hs' hE' => ?_
  have hb := h' (by simp) 0 (fun k => by simp)
  have := hb w0 μ0 μ' a' w' (fun _ a w => next a w) hs' hE' (fun μ2 s2 a2 w2 hk2 hs2 hE2 => hK μ2 s2 a2 w2 hk2 hs2 hE2)
  simpa only [List.length_nil, List.range'_zero, wpOpsIn] using this
theorem y_op {q : Nat} {fid : Nat} {mt : List Nat} (hc : (daOk ops && Nat.ble (q + 1) ops.size && waitOk ops q (q + 1)) = true) (ho : ops[q]? = some o) (hg : o.guard = none) (hN : okd N o.dst = true)
    (h : aop P fid mt o (fun s' => bops P ro N #[] [] (nyops P ro N ops K (q + 1)) s') s) : nyops P ro N ops K q s := by
  simp only [Bool.and_eq_true] at hc
  obtain ⟨⟨h1, h2⟩, h3⟩ := hc
  exact AnyAt.op h1 (Nat.le_of_ble_eq_true h2) h3 (AOpI.plain ho hg (one_op hN h))
end
end Go.AW

/- Lists of texts and of numbers; counting. -/
namespace Go.AW
open Go

def strs (l : List (List UInt8)) : HV := .sl 1 l.length (l.map .str)
def ints (l : List Int) : HV := .sl 1 l.length (l.map (.int .i64))
def num (n : Int) : HV := .int .i64 n

theorem clean_strs (l : List (List UInt8)) : clean (strs l) := cleanL_map fun _ _ => trivial
theorem cnt_next {i n : Nat} (h : n ≤ 9223372036854775807) (hi : i < n) : IntKind.wrap .i64 ((i : Int) + 1) = ((i + 1 : Nat) : Int) := by
  rw [w64 (by omega) (by omega)]; omega
theorem cnt_ge {i n : Nat} (h : decide ((i : Int) < (n : Int)) = false) (hi : i ≤ n) : i = n := by
  have : ¬ i < n := by simpa using h
  omega

theorem Pure.use {P : Program} {f : FuncId} {args : List HV} {H : Heap} {K : HV → Heap → Prop} {R : HV → Prop} (hp : Pure P f args R) (hK : ∀ r, R r → K r H) : ACall P f args H K := ACall.pure0 hp hK

end Go.AW



namespace Go.Proofs
open Go

def Tryz.sortS_ren : Go.Shelf.Ren := ⟨fun | 6 => 55 | 8 => 82 | 9 => 81 | 19 => 113 | 20 => 114 | 21 => 104 | 22 => 105 | 23 => 106 | 24 => 107 | 25 => 108 | 26 => 109 | 27 => 110 | 28 => 111 | 29 => 112 | 36 => 126 | 31 => 127 | 32 => 128 | 37 => 129 | 38 => 130 | 39 => 131 | 41 => 147 | n => n, fun | 27 => 27 | 29 => 9 | 3 => 3 | 32 => 117 | 26 => 27 | 0 => 0 | 44 => 153 | 46 => 155 | 4 => 4 | 36 => 146 | 35 => 145 | 41 => 150 | 5 => 5 | 9 => 9 | 53 => 167 | 57 => 171 | 63 => 182 | 64 => 183 | n => n, fun | n => n⟩
theorem Tryz.sortS : Go.Proofs.SlLaysM.n6 Tryz.prog Tryz.sortS_ren where
  mixed := by kernel_rfl
  f6 := ⟨"slices.Sort[[]string,string]", by decide, Tryz.func55.trans (congrArg some (by kernel_rfl))⟩
  f8 := Tryz.func82.trans (congrArg some (by kernel_rfl))
  f9 := ⟨"slices.pdqsortOrdered[string]", by decide, Tryz.func81.trans (congrArg some (by kernel_rfl))⟩
  f19 := Tryz.func113.trans (congrArg some (by kernel_rfl))
  f20 := Tryz.func114.trans (congrArg some (by kernel_rfl))
  f21 := ⟨"slices.insertionSortOrdered[string]", by decide, Tryz.func104.trans (congrArg some (by kernel_rfl))⟩
  f22 := ⟨"slices.heapSortOrdered[string]", by decide, Tryz.func105.trans (congrArg some (by kernel_rfl))⟩
  f23 := ⟨"slices.breakPatternsOrdered[string]", by decide, Tryz.func106.trans (congrArg some (by kernel_rfl))⟩
  f24 := ⟨"slices.choosePivotOrdered[string]", by decide, Tryz.func107.trans (congrArg some (by kernel_rfl))⟩
  f25 := ⟨"slices.reverseRangeOrdered[string]", by decide, Tryz.func108.trans (congrArg some (by kernel_rfl))⟩
  f26 := ⟨"slices.partialInsertionSortOrdered[string]", by decide, Tryz.func109.trans (congrArg some (by kernel_rfl))⟩
  f27 := ⟨"cmp.Less[string]", by decide, Tryz.func110.trans (congrArg some (by kernel_rfl))⟩
  f28 := ⟨"slices.partitionEqualOrdered[string]", by decide, Tryz.func111.trans (congrArg some (by kernel_rfl))⟩
  f29 := ⟨"slices.partitionOrdered[string]", by decide, Tryz.func112.trans (congrArg some (by kernel_rfl))⟩
  f31 := Tryz.func127.trans (congrArg some (by kernel_rfl))
  f32 := Tryz.func128.trans (congrArg some (by kernel_rfl))
  f36 := ⟨"slices.siftDownOrdered[string]", by decide, Tryz.func126.trans (congrArg some (by kernel_rfl))⟩
  f37 := ⟨"slices.medianAdjacentOrdered[string]", by decide, Tryz.func129.trans (congrArg some (by kernel_rfl))⟩
  f38 := ⟨"slices.medianOrdered[string]", by decide, Tryz.func130.trans (congrArg some (by kernel_rfl))⟩
  f39 := ⟨"cmp.isNaN[string]", by decide, Tryz.func131.trans (congrArg some (by kernel_rfl))⟩
  f41 := ⟨"slices.order2Ordered[string]", by decide, Tryz.func147.trans (congrArg some (by kernel_rfl))⟩
  t0 := Tryz.underlying0
  a0 := Tryz.isAgg0
  z0 := Tryz.sizeOf0
  v0 := Tryz.zeroValue0
  t3 := Tryz.underlying3
  a3 := Tryz.isAgg3
  z3 := Tryz.sizeOf3
  v3 := Tryz.zeroValue3
  t4 := Tryz.underlying4
  a4 := Tryz.isAgg4
  z4 := Tryz.sizeOf4
  v4 := Tryz.zeroValue4
  t5 := Tryz.underlying5
  a5 := Tryz.isAgg5
  z5 := Tryz.sizeOf5
  v5 := Tryz.zeroValue5
  t9 := Tryz.underlying9
  a9 := Tryz.isAgg9
  z9 := Tryz.sizeOf9
  v9 := Tryz.zeroValue9
  t26 := Tryz.underlying27
  a26 := Tryz.isAgg27
  z26 := Tryz.sizeOf27
  v26 := Tryz.zeroValue27
  t27 := Tryz.underlying27
  a27 := Tryz.isAgg27
  z27 := Tryz.sizeOf27
  v27 := Tryz.zeroValue27
  t29 := Tryz.underlying9
  a29 := Tryz.isAgg9
  z29 := Tryz.sizeOf9
  v29 := Tryz.zeroValue9
  t32 := Tryz.underlying117
  a32 := Tryz.isAgg117
  z32 := Tryz.sizeOf117
  v32 := Tryz.zeroValue117
  t35 := Tryz.underlying145
  a35 := Tryz.isAgg145
  z35 := Tryz.sizeOf145
  v35 := Tryz.zeroValue145
  t36 := Tryz.underlying146
  a36 := Tryz.isAgg146
  z36 := Tryz.sizeOf146
  v36 := Tryz.zeroValue146
  t41 := Tryz.underlying150
  a41 := Tryz.isAgg150
  z41 := Tryz.sizeOf150
  v41 := Tryz.zeroValue150
  t44 := Tryz.underlying153
  a44 := Tryz.isAgg153
  z44 := Tryz.sizeOf153
  v44 := Tryz.zeroValue153
  t46 := Tryz.underlying155
  a46 := Tryz.isAgg155
  z46 := Tryz.sizeOf155
  v46 := Tryz.zeroValue155
  t53 := Tryz.underlying167
  a53 := Tryz.isAgg167
  z53 := Tryz.sizeOf167
  v53 := Tryz.zeroValue167
  t57 := Tryz.underlying171
  a57 := Tryz.isAgg171
  z57 := Tryz.sizeOf171
  v57 := Tryz.zeroValue171
  t63 := Tryz.underlying182
  a63 := Tryz.isAgg182
  z63 := Tryz.sizeOf182
  v63 := Tryz.zeroValue182
  t64 := Tryz.underlying183
  a64 := Tryz.isAgg183
  z64 := Tryz.sizeOf183
  v64 := Tryz.zeroValue183
def Tryz.sortI_ren : Go.Shelf.Ren := ⟨fun | 5 => 102 | 8 => 82 | 7 => 125 | 19 => 113 | 20 => 114 | 10 => 138 | 11 => 139 | 12 => 140 | 13 => 141 | 14 => 142 | 15 => 143 | 16 => 144 | 17 => 145 | 18 => 146 | 30 => 149 | 31 => 127 | 32 => 128 | 33 => 150 | 34 => 151 | 35 => 132 | 40 => 152 | n => n, fun | 23 => 55 | 25 => 3 | 3 => 3 | 32 => 117 | 22 => 55 | 0 => 0 | 44 => 153 | 46 => 155 | 4 => 4 | 36 => 146 | 35 => 145 | 41 => 150 | 5 => 5 | 9 => 9 | 53 => 167 | 57 => 171 | 63 => 182 | 64 => 183 | n => n, fun | n => n⟩
theorem Tryz.sortI : Go.Proofs.SlLaysM.n5 Tryz.prog Tryz.sortI_ren where
  mixed := by kernel_rfl
  f5 := ⟨"slices.Sort[[]int,int]", by decide, Tryz.func102.trans (congrArg some (by kernel_rfl))⟩
  f7 := ⟨"slices.pdqsortOrdered[int]", by decide, Tryz.func125.trans (congrArg some (by kernel_rfl))⟩
  f8 := Tryz.func82.trans (congrArg some (by kernel_rfl))
  f10 := ⟨"slices.insertionSortOrdered[int]", by decide, Tryz.func138.trans (congrArg some (by kernel_rfl))⟩
  f11 := ⟨"slices.heapSortOrdered[int]", by decide, Tryz.func139.trans (congrArg some (by kernel_rfl))⟩
  f12 := ⟨"slices.breakPatternsOrdered[int]", by decide, Tryz.func140.trans (congrArg some (by kernel_rfl))⟩
  f13 := ⟨"slices.choosePivotOrdered[int]", by decide, Tryz.func141.trans (congrArg some (by kernel_rfl))⟩
  f14 := ⟨"slices.reverseRangeOrdered[int]", by decide, Tryz.func142.trans (congrArg some (by kernel_rfl))⟩
  f15 := ⟨"slices.partialInsertionSortOrdered[int]", by decide, Tryz.func143.trans (congrArg some (by kernel_rfl))⟩
  f16 := ⟨"cmp.Less[int]", by decide, Tryz.func144.trans (congrArg some (by kernel_rfl))⟩
  f17 := ⟨"slices.partitionEqualOrdered[int]", by decide, Tryz.func145.trans (congrArg some (by kernel_rfl))⟩
  f18 := ⟨"slices.partitionOrdered[int]", by decide, Tryz.func146.trans (congrArg some (by kernel_rfl))⟩
  f19 := Tryz.func113.trans (congrArg some (by kernel_rfl))
  f20 := Tryz.func114.trans (congrArg some (by kernel_rfl))
  f30 := ⟨"slices.siftDownOrdered[int]", by decide, Tryz.func149.trans (congrArg some (by kernel_rfl))⟩
  f31 := Tryz.func127.trans (congrArg some (by kernel_rfl))
  f32 := Tryz.func128.trans (congrArg some (by kernel_rfl))
  f33 := ⟨"slices.medianAdjacentOrdered[int]", by decide, Tryz.func150.trans (congrArg some (by kernel_rfl))⟩
  f34 := ⟨"slices.medianOrdered[int]", by decide, Tryz.func151.trans (congrArg some (by kernel_rfl))⟩
  f35 := ⟨"cmp.isNaN[int]", by decide, Tryz.func132.trans (congrArg some (by kernel_rfl))⟩
  f40 := ⟨"slices.order2Ordered[int]", by decide, Tryz.func152.trans (congrArg some (by kernel_rfl))⟩
  t0 := Tryz.underlying0
  a0 := Tryz.isAgg0
  z0 := Tryz.sizeOf0
  v0 := Tryz.zeroValue0
  t3 := Tryz.underlying3
  a3 := Tryz.isAgg3
  z3 := Tryz.sizeOf3
  v3 := Tryz.zeroValue3
  t4 := Tryz.underlying4
  a4 := Tryz.isAgg4
  z4 := Tryz.sizeOf4
  v4 := Tryz.zeroValue4
  t5 := Tryz.underlying5
  a5 := Tryz.isAgg5
  z5 := Tryz.sizeOf5
  v5 := Tryz.zeroValue5
  t9 := Tryz.underlying9
  a9 := Tryz.isAgg9
  z9 := Tryz.sizeOf9
  v9 := Tryz.zeroValue9
  t22 := Tryz.underlying55
  a22 := Tryz.isAgg55
  z22 := Tryz.sizeOf55
  v22 := Tryz.zeroValue55
  t23 := Tryz.underlying55
  a23 := Tryz.isAgg55
  z23 := Tryz.sizeOf55
  v23 := Tryz.zeroValue55
  t25 := Tryz.underlying3
  a25 := Tryz.isAgg3
  z25 := Tryz.sizeOf3
  v25 := Tryz.zeroValue3
  t32 := Tryz.underlying117
  a32 := Tryz.isAgg117
  z32 := Tryz.sizeOf117
  v32 := Tryz.zeroValue117
  t35 := Tryz.underlying145
  a35 := Tryz.isAgg145
  z35 := Tryz.sizeOf145
  v35 := Tryz.zeroValue145
  t36 := Tryz.underlying146
  a36 := Tryz.isAgg146
  z36 := Tryz.sizeOf146
  v36 := Tryz.zeroValue146
  t41 := Tryz.underlying150
  a41 := Tryz.isAgg150
  z41 := Tryz.sizeOf150
  v41 := Tryz.zeroValue150
  t44 := Tryz.underlying153
  a44 := Tryz.isAgg153
  z44 := Tryz.sizeOf153
  v44 := Tryz.zeroValue153
  t46 := Tryz.underlying155
  a46 := Tryz.isAgg155
  z46 := Tryz.sizeOf155
  v46 := Tryz.zeroValue155
  t53 := Tryz.underlying167
  a53 := Tryz.isAgg167
  z53 := Tryz.sizeOf167
  v53 := Tryz.zeroValue167
  t57 := Tryz.underlying171
  a57 := Tryz.isAgg171
  z57 := Tryz.sizeOf171
  v57 := Tryz.zeroValue171
  t63 := Tryz.underlying182
  a63 := Tryz.isAgg182
  z63 := Tryz.sizeOf182
  v63 := Tryz.zeroValue182
  t64 := Tryz.underlying183
  a64 := Tryz.isAgg183
  z64 := Tryz.sizeOf183
  v64 := Tryz.zeroValue183
end Go.Proofs

namespace Go.AW
open Go Go.Proofs Go.Sort

theorem repL_map {α : Type} {w : World} {μ : Mu} {f : α → HV} {g : α → Value} : ∀ {l : List α}, RepL w μ (l.map f) (l.map g) ↔ ∀ x ∈ l, Rep w μ (f x) (g x)
  | [] => by simp [RepL]
  | a :: l => by
    simp only [List.map_cons, RepL, List.mem_cons, forall_eq_or_imp]
    constructor
    · rintro ⟨x, xs, e, h1, h2⟩
      cases e
      exact ⟨h1, repL_map.1 h2⟩
    · exact fun ⟨h1, h2⟩ => ⟨_, _, rfl, h1, repL_map.2 h2⟩

theorem sorted_world {α : Type} [Inhabited α] {enc : α → Value} {f : α → HV} (hf1 : ∀ x, (f x).one = true) {w : World} {μ : Mu} {H : Heap} {id ver b k : Nat} {e : TypeId} {l d : List α} (hs : SR w μ H) (hg : hget H id = some (ver, .arr k e (l.map f)))
    (hl : μ.loc id = some (ver, some b)) (hrep : ∀ x ∈ l, Rep w μ (f x) (enc x)) (hor : OR w μ (.arr k e (l.map f)) (some b)) (hv : ∀ vs, RepL w μ (l.map f) vs → vs = l.map enc) (hp : d.Perm l) (n : Nat) (os : Array Obj) :
    SR (grow (putRow enc (Sort.ahead w n) b 0 d.toArray) os) μ (hset H id ver (.arr k e (d.map f))) ∧ Evo w μ (grow (putRow enc (Sort.ahead w n) b 0 d.toArray) os) μ := by
  obtain ⟨h0, cur, vs, rest, hrow, hcl, hrl⟩ := hor
  have hvs := hv vs hrl
  subst hvs
  have hlen : d.length = l.length := hp.length_eq
  have hcsz : cur.size = l.length + rest.length := by rw [← Array.length_toList, hcl]; simp
  -- the world with the row put
  have hb := hrow.lt
  obtain ⟨lo, hi, hbk, hfr⟩ := hrow
  have hbk' : (putRow enc (Sort.ahead w n) b 0 d.toArray).heap[b]? = some (.cells (putCells enc 0 d.toArray cur) e (lo, hi)) := by
    show (w.heap.modify b _)[b]? = _
    rw [Array.getElem?_modify, if_pos rfl, hbk]
    rfl
  have hcur' : (putCells enc 0 d.toArray cur).toList = d.map enc ++ rest := by
    apply List.ext_getElem?
    intro i
    rw [Array.getElem?_toList]
    simp only [putCells, Array.getElem?_mapIdx]
    have hc : cur[i]? = (l.map enc ++ rest)[i]? := by rw [← hcl, Array.getElem?_toList]
    rw [hc]
    rcases Nat.lt_or_ge i d.length with hi | hi
    · rw [List.getElem?_append_left (by simp; omega), List.getElem?_append_left (by simpa using hi), List.getElem?_map, List.getElem?_map, List.getElem?_eq_getElem (by omega : i < l.length), List.getElem?_eq_getElem hi]
      simp only [Option.map_some]
      rw [if_pos ⟨Nat.zero_le _, by simpa using hi⟩]
      simp [hi]
    · rw [List.getElem?_append_right (by simp; omega), List.getElem?_append_right (by simpa using hi)]
      simp only [List.length_map, hlen]
      cases rest[i - l.length]? with
      | none => rfl
      | some x =>
        simp only [Option.map_some]
        rw [if_neg (by simp; omega)]
  have hsz1 : (putRow enc (Sort.ahead w n) b 0 d.toArray).heap.size = w.heap.size := by rw [size_putRow]; rfl
  have hrow1 : Row (putRow enc (Sort.ahead w n) b 0 d.toArray) b (putCells enc 0 d.toArray cur) e := ⟨lo, hi, hbk', by simpa [putCells] using hfr⟩
  have hold : ∀ b', b' ≠ b → (putRow enc (Sort.ahead w n) b 0 d.toArray).heap[b']? = w.heap[b']? := fun b' hne => by
    show (w.heap.modify b _)[b']? = _
    rw [Array.getElem?_modify, if_neg (fun e => hne e.symm)]
  obtain ⟨h1, h2⟩ := hs.updArr (cs' := d.map f) (w' := putRow enc (Sort.ahead w n) b 0 d.toArray) hg hl ⟨rfl, rfl, rfl⟩ hsz1 hold ⟨lo, hi, hbk, hfr⟩ hrow1 (by simp [putCells]) fun E => by
    refine ⟨fun c hc => ?_, _, d.map enc, rest, hrow1, hcur', repL_map.2 fun x hx => Rep.evo E hs.ok _ _ (hrep x (hp.mem_iff.1 hx))⟩
    obtain ⟨x, _, rfl⟩ := List.mem_map.1 hc
    exact hf1 x
  have g : Grow (putRow enc (Sort.ahead w n) b 0 d.toArray) (grow (putRow enc (Sort.ahead w n) b 0 d.toArray) os) :=
    ⟨⟨rfl, rfl, rfl⟩, by rw [size_grow]; omega, fun b' hb' => by
      show (_ ++ os)[b']? = _
      rw [Array.getElem?_append_left hb']⟩
  exact ⟨h1.grow g, h2.trans (Evo.grow h1 g)⟩

theorem holds_row {α : Type} [Inhabited α] {enc : α → Value} {w : World} {b : Nat} {cur : Array Value} {e : TypeId} {l : List α} {rest : List Value} (hrow : Row w b cur e) (hcl : cur.toList = l.map enc ++ rest) : Holds enc w b 0 l.toArray := by
  intro j hj
  have hj' : j < l.length := by simpa using hj
  have hc : cur[j]? = some (enc l[j]) := by
    rw [← Array.getElem?_toList, hcl, List.getElem?_append_left (by simpa using hj'), List.getElem?_map, List.getElem?_eq_getElem hj']
    rfl
  refine ⟨?_, ?_⟩
  · rw [Nat.zero_add, hrow.cell, hc]
    simp [hj']
  · rw [Nat.zero_add]
    exact hrow.free (Array.getElem?_eq_some_iff.1 hc).1

theorem repL_strs {w : World} {μ : Mu} : ∀ {l : List (List UInt8)} {vs : List Value}, RepL w μ (l.map .str) vs → vs = l.map encStr ∧ ∀ x ∈ l, Rep w μ (.str x) (encStr x)
  | [], vs, h => by simp only [List.map_nil, RepL] at h; subst h; exact ⟨rfl, by simp⟩
  | a :: l, vs, ⟨x, xs, e, h1, h2⟩ => by
    obtain ⟨h3, h4⟩ := repL_strs h2
    obtain ⟨rfl, hl⟩ := h1
    subst e
    rw [h3]
    exact ⟨rfl, by simpa using ⟨⟨rfl, hl⟩, h4⟩⟩

theorem repL_ints {w : World} {μ : Mu} : ∀ {l : List Int} {vs : List Value}, RepL w μ (l.map (.int .i64)) vs → vs = l.map (Value.int .i64) ∧ ∀ x ∈ l, Rep w μ (.int .i64 x) (Value.int .i64 x)
  | [], vs, h => by simp only [List.map_nil, RepL] at h; subst h; exact ⟨rfl, by simp⟩
  | a :: l, vs, ⟨x, xs, e, h1, h2⟩ => by
    obtain ⟨h3, h4⟩ := repL_ints h2
    obtain ⟨rfl, hl⟩ := h1
    subst e
    rw [h3]
    exact ⟨rfl, by simpa using ⟨⟨rfl, hl⟩, h4⟩⟩

theorem w45 {H : Heap} {id ver : Nat} {e : TypeId} {l : List (List UInt8)} {K : HV → Heap → Prop} (hg : hget H id = some (ver, .arr 1 e (l.map .str))) (hlen : l.length < 4611686018427387904)
    (hK : K (.tup []) (hset H id ver (.arr 1 e ((sortS l).map .str)))) : ACall Tryz.prog 55 [.ar id ver 1 0 l.length] H K := by
  refine ⟨enters' Tryz.func55 rfl rfl, fun μ w vs hs hr _ => ?_⟩
  obtain ⟨x, xs, rfl, hr, hn⟩ := hr
  cases hn
  obtain ⟨lo, hl, hor⟩ := hs.has _ _ _ hg
  rcases hr with ⟨lo', hl', h⟩ | ⟨hd, _⟩
  · rw [hl] at hl'
    cases hl'
    rcases h with ⟨rfl, rfl, h0, _⟩ | ⟨b, cap, cur, e', rfl, rfl, hcap, _, hrow, hsz⟩
    · have h0' : l = [] := List.eq_nil_of_length_eq_zero h0
      subst h0'
      refine (AnyM.slices_Sort_string_none Tryz.sortS none 0 w).mono ?_
      rintro e' w' ⟨rfl, rfl⟩
      have hset_same : SR w' μ (hset H id ver (.arr 1 e ((sortS []).map .str))) := by
        refine ⟨hs.ok, fun j v o ho => ?_, fun j x hx => ?_, hs.inj, hs.held⟩
        · rw [hget_hset] at ho
          split at ho
          · rename_i ej; subst ej; cases ho; exact ⟨none, hl, by show (sortS []).map HV.str = []; simp [sortS]⟩
          · exact hs.has _ _ _ ho
        · rw [hget_hset]
          split
          · exact ⟨_, rfl⟩
          · exact hs.only _ _ hx
      exact ⟨_, .tup [], _, μ, rfl, hK, hset_same, ⟨[], rfl, rfl⟩, Evo.refl _ _⟩
    · have hor' := hor
      obtain ⟨h0, cur', vs', rest, hrow', hcl, hrl⟩ := hor
      obtain ⟨hvs, hreps⟩ := repL_strs hrl
      subst hvs
      refine (AnyM.slices_Sort_string Tryz.sortS b 0 cap l w (holds_row hrow' hcl) hrow'.lt hlen).mono ?_
      rintro e2 w' ⟨rfl, n, os, rfl⟩
      obtain ⟨h1, h2⟩ := sorted_world (f := HV.str) (fun _ => rfl) hs hg hl hreps hor' (fun vs hv => (repL_strs hv).1) (List.mergeSort_perm l _) n os
      exact ⟨_, .tup [], _, μ, rfl, hK, h1, ⟨[], rfl, rfl⟩, h2⟩
  · exact absurd hl (hd.2 lo)

theorem w45n {H : Heap} {K : HV → Heap → Prop} (hK : K (.tup []) H) : ACall Tryz.prog 55 [.v (.slice none 0 0)] H K := by
  refine ⟨enters' Tryz.func55 rfl rfl, fun μ w vs hs hr _ => ?_⟩
  obtain ⟨x, xs, rfl, hr, hn⟩ := hr
  cases hn
  cases hr
  refine (AnyM.slices_Sort_string_none Tryz.sortS none 0 w).mono ?_
  rintro e' w' ⟨rfl, rfl⟩
  exact ⟨_, .tup [], _, μ, rfl, hK, hs, ⟨[], rfl, rfl⟩, Evo.refl _ _⟩

theorem w179 {H : Heap} {id ver : Nat} {e : TypeId} {l : List Int} {K : HV → Heap → Prop} (hg : hget H id = some (ver, .arr 1 e (l.map (.int .i64)))) (hlen : l.length < 4611686018427387904)
    (hK : K (.tup []) (hset H id ver (.arr 1 e ((sortI l).map (.int .i64))))) : ACall Tryz.prog 102 [.ar id ver 1 0 l.length] H K := by
  refine ⟨enters' Tryz.func102 rfl rfl, fun μ w vs hs hr _ => ?_⟩
  obtain ⟨x, xs, rfl, hr, hn⟩ := hr
  cases hn
  obtain ⟨lo, hl, hor⟩ := hs.has _ _ _ hg
  rcases hr with ⟨lo', hl', h⟩ | ⟨hd, _⟩
  · rw [hl] at hl'
    cases hl'
    rcases h with ⟨rfl, rfl, h0, _⟩ | ⟨b, cap, cur, e', rfl, rfl, hcap, _, hrow, hsz⟩
    · have h0' : l = [] := List.eq_nil_of_length_eq_zero h0
      subst h0'
      refine (AnyM.slices_Sort_int_none Tryz.sortI none 0 w).mono ?_
      rintro e' w' ⟨rfl, rfl⟩
      refine ⟨_, .tup [], _, μ, rfl, hK, ?_, ⟨[], rfl, rfl⟩, Evo.refl _ _⟩
      have : (sortI []).map (HV.int .i64) = [] := by simp [sortI]
      rw [this]
      exact hs.same hg
    · have hor' := hor
      obtain ⟨h0, cur', vs', rest, hrow', hcl, hrl⟩ := hor
      obtain ⟨hvs, hreps⟩ := repL_ints hrl
      subst hvs
      refine (AnyM.slices_Sort_int Tryz.sortI b 0 cap l w (holds_row hrow' hcl) hrow'.lt hlen).mono ?_
      rintro e2 w' ⟨rfl, n, os, rfl⟩
      obtain ⟨h1, h2⟩ := sorted_world (f := HV.int .i64) (fun _ => rfl) hs hg hl hreps hor' (fun vs hv => (repL_ints hv).1) (List.mergeSort_perm l _) n os
      exact ⟨_, .tup [], _, μ, rfl, hK, h1, ⟨[], rfl, rfl⟩, h2⟩
  · exact absurd hl (hd.2 lo)

theorem sorts179 : SortsI Tryz.prog 102 := by
  refine ⟨fun _ _ _ _ _ _ hg hl hK => w179 hg hl hK, fun H K hK => ⟨enters' Tryz.func102 rfl rfl, fun μ w vs hs hr _ => ?_⟩⟩
  obtain ⟨x, xs, rfl, hr, hn⟩ := hr
  cases hn
  cases hr
  refine (AnyM.slices_Sort_int_none Tryz.sortI none 0 w).mono ?_
  rintro e' w' ⟨rfl, rfl⟩
  exact ⟨_, .tup [], _, μ, rfl, hK, hs, ⟨[], rfl, rfl⟩, Evo.refl _ _⟩
end Go.AW

namespace Go.AW
open Go

def letters : List UInt8 := [48, 49, 50, 51, 52, 53, 54, 55, 56, 57, 97, 98, 99, 100, 101, 102]

abbrev WS := List UInt8 × List Int

def ext1 (stp : List Int → UInt8 → List Int) (cs : List UInt8) (x : WS) : List WS := cs.filterMap fun c => if stp x.2 c = [] then none else some (x.1 ++ [c], stp x.2 c)

def lvl (stp : List Int → UInt8 → List Int) (cs : List UInt8) (set : List Int) : Nat → List WS
  | 0 => if set = [] then [] else [([], set)]
  | i + 1 => (lvl stp cs set i).flatMap (ext1 stp cs)

def ent (x : WS) : List UInt8 × HV := (x.1, ints x.2)

section
variable {stp : List Int → UInt8 → List Int} {cs : List UInt8} {set : List Int}

theorem mem_ext1 {x y : WS} : y ∈ ext1 stp cs x ↔ ∃ c ∈ cs, stp x.2 c ≠ [] ∧ y = (x.1 ++ [c], stp x.2 c) := by
  simp only [ext1, List.mem_filterMap]
  constructor
  · rintro ⟨c, hc, h⟩
    split at h
    · cases h
    · rename_i hn; cases h; exact ⟨c, hc, hn, rfl⟩
  · rintro ⟨c, hc, hn, rfl⟩
    exact ⟨c, hc, by rw [if_neg hn]⟩

theorem ext1_keys (x : WS) (h : cs.Nodup) : ((ext1 stp cs x).map (·.1)).Nodup := by
  induction cs with
  | nil => simp [ext1]
  | cons c cs ih =>
    have hc := List.nodup_cons.1 h
    have ih' := ih hc.2
    simp only [ext1, List.filterMap_cons] at ih' ⊢
    split
    · exact ih'
    · rename_i y hy
      split at hy
      · cases hy
      · cases hy
        simp only [List.map_cons, List.nodup_cons]
        refine ⟨fun hm => ?_, ih'⟩
        obtain ⟨z, hz, he⟩ := List.mem_map.1 hm
        obtain ⟨d, hd, _, rfl⟩ := mem_ext1.1 hz
        have := List.append_cancel_left he
        cases this
        exact hc.1 hd

theorem flat_keys (h : cs.Nodup) : ∀ {l : List WS}, (l.map (·.1)).Nodup → ((l.flatMap (ext1 stp cs)).map (·.1)).Nodup
  | [], _ => by simp
  | x :: l, hl => by
    simp only [List.map_cons, List.nodup_cons] at hl
    simp only [List.flatMap_cons, List.map_append]
    refine List.nodup_append.2 ⟨ext1_keys x h, flat_keys h hl.2, ?_⟩
    intro a ha b hb e
    subst e
    obtain ⟨y, hy, rfl⟩ := List.mem_map.1 ha
    obtain ⟨c, _, _, rfl⟩ := mem_ext1.1 hy
    obtain ⟨z, hz, he⟩ := List.mem_map.1 hb
    obtain ⟨x', hx', hz'⟩ := List.mem_flatMap.1 hz
    obtain ⟨d, _, _, rfl⟩ := mem_ext1.1 hz'
    have h1 : x'.1 = x.1 := by
      have := congrArg List.dropLast he
      simpa using this
    exact hl.1 (h1 ▸ List.mem_map.2 ⟨x', hx', rfl⟩)

theorem lvl_keys (h : cs.Nodup) : ∀ i, ((lvl stp cs set i).map (·.1)).Nodup
  | 0 => by simp only [lvl]; split <;> simp
  | i + 1 => flat_keys h (lvl_keys h i)

theorem lvl_len : ∀ (i : Nat) (x : WS), x ∈ lvl stp cs set i → x.1.length = i
  | 0, x, h => by
    simp only [lvl] at h
    split at h
    · cases h
    · simp at h; subst h; rfl
  | i + 1, x, h => by
    obtain ⟨y, hy, hx⟩ := List.mem_flatMap.1 h
    obtain ⟨c, _, _, rfl⟩ := mem_ext1.1 hx
    have := lvl_len i y hy
    simp [this]

theorem lvl_all {A : List Int → Prop} (h0 : A set) (hs : ∀ a c, A a → c ∈ cs → A (stp a c)) : ∀ (i : Nat) (x : WS), x ∈ lvl stp cs set i → A x.2
  | 0, x, h => by
    simp only [lvl] at h
    split at h
    · cases h
    · simp at h; subst h; exact h0
  | i + 1, x, h => by
    obtain ⟨y, hy, hx⟩ := List.mem_flatMap.1 h
    obtain ⟨c, hc, _, rfl⟩ := mem_ext1.1 hx
    exact hs _ _ (lvl_all h0 hs i y hy) hc

theorem lvl_nil {i : Nat} (h : lvl stp cs set i = []) : ∀ {j : Nat}, i ≤ j → lvl stp cs set j = []
  | 0, hj => by
    have : i = 0 := by omega
    subst this; exact h
  | j + 1, hj => by
    rcases Nat.lt_or_ge i (j + 1) with h' | h'
    · simp only [lvl, lvl_nil h (j := j) (by omega), List.flatMap_nil]
    · have : i = j + 1 := by omega
      subst this; exact h

theorem perm_flat {l l' : List WS} (h : l.Perm l') : (l.flatMap (ext1 stp cs)).Perm (l'.flatMap (ext1 stp cs)) := h.flatMap_right _

theorem perm_keys {l : List WS} {es : List (List UInt8 × HV)} (h : es.Perm (l.map ent)) (hl : (l.map (·.1)).Nodup) : (es.map (·.1)).Nodup := by
  have h1 := h.map (·.1)
  rw [List.map_map] at h1
  exact h1.nodup_iff.2 (by simpa [Function.comp_def, ent] using hl)

theorem next_pick {vis rest l : List WS} {es : List (List UInt8 × HV)} {k : List UInt8} {v : HV} (hp : (vis ++ rest).Perm l) (he : es.Perm (l.map ent)) (hm : (k, v) ∈ es) (hk : k ∉ vis.map (·.1)) :
    ∃ x l1 l2, rest = l1 ++ x :: l2 ∧ (k, v) = ent x ∧ ((x :: vis) ++ (l1 ++ l2)).Perm l := by
  have h1 : (k, v) ∈ (vis ++ rest).map ent := ((hp.map ent).symm.mem_iff).1 (he.mem_iff.1 hm)
  obtain ⟨x, hx, hxe⟩ := List.mem_map.1 h1
  have hxr : x ∈ rest := by
    rcases List.mem_append.1 hx with h | h
    · exfalso
      refine hk (List.mem_map.2 ⟨x, h, ?_⟩)
      have := congrArg Prod.fst hxe
      exact this
    · exact h
  obtain ⟨l1, l2, rfl⟩ := List.append_of_mem hxr
  refine ⟨x, l1, l2, rfl, hxe.symm, List.Perm.trans ?_ hp⟩
  have e1 : (x :: vis) ++ (l1 ++ l2) = x :: ((vis ++ l1) ++ l2) := by simp
  have e2 : vis ++ (l1 ++ x :: l2) = (vis ++ l1) ++ x :: l2 := by simp
  rw [e1, e2]
  exact List.perm_middle.symm

theorem rest_nil {vis rest l : List WS} {es : List (List UInt8 × HV)} (hl : (l.map (·.1)).Nodup) (hp : (vis ++ rest).Perm l) (he : es.Perm (l.map ent)) (hall : ∀ p ∈ es, p.1 ∈ vis.map (·.1)) : rest = [] := by
  cases rest with
  | nil => rfl
  | cons x rest =>
    exfalso
    have hx : ent x ∈ es := he.mem_iff.2 (List.mem_map.2 ⟨x, hp.mem_iff.1 (by simp), rfl⟩)
    have hk := hall _ hx
    have hn : ((vis ++ x :: rest).map (·.1)).Nodup := (hp.map (·.1)).nodup_iff.2 hl
    simp only [List.map_append, List.map_cons] at hn
    exact (List.nodup_append.1 hn).2.2 _ hk _ (List.mem_cons_self ..) rfl

theorem ext1_take (x : WS) {j : Nat} (hj : j < cs.length) : ext1 stp (cs.take (j + 1)) x = ext1 stp (cs.take j) x ++ (if stp x.2 cs[j] = [] then [] else [(x.1 ++ [cs[j]], stp x.2 cs[j])]) := by
  rw [List.take_add_one, List.getElem?_eq_getElem hj]
  simp only [ext1, Option.toList_some, List.filterMap_append]
  congr 1
  simp only [List.filterMap_cons, List.filterMap_nil]
  split <;> simp_all

theorem key_new {vis : List WS} {x : WS} (hcs : cs.Nodup) (hx : x.1 ∉ vis.map (·.1)) {j : Nat} (hj : j < cs.length) {es : List (List UInt8 × HV)} (he : es.Perm ((vis.flatMap (ext1 stp cs) ++ ext1 stp (cs.take j) x).map ent)) :
    alook (x.1 ++ [cs[j]]) es = none := by
  rw [alook_none]
  intro hm
  have h1 := (he.map (·.1)).mem_iff.1 hm
  rw [List.map_map, List.map_append, List.mem_append] at h1
  rcases h1 with h | h
  · obtain ⟨y, hy, hye⟩ := List.mem_map.1 h
    obtain ⟨z, hz, hzy⟩ := List.mem_flatMap.1 hy
    obtain ⟨d, _, _, rfl⟩ := mem_ext1.1 hzy
    have h2 : z.1 = x.1 := by
      have := congrArg List.dropLast hye
      simpa [ent] using this
    exact hx (h2 ▸ List.mem_map.2 ⟨z, hz, rfl⟩)
  · obtain ⟨y, hy, hye⟩ := List.mem_map.1 h
    obtain ⟨d, hd, _, rfl⟩ := mem_ext1.1 hy
    have h2 : d = cs[j] := by
      have h3 : x.1 ++ [d] = x.1 ++ [cs[j]] := hye
      have := List.append_cancel_left h3
      simpa using this
    rw [h2] at hd
    obtain ⟨k, hk, hke⟩ := List.mem_take_iff_getElem.1 hd
    have := (List.getElem_inj (h₀ := by omega) (h₁ := hj) hcs).1 hke
    omega
end

def okLvl (stp : List Int → UInt8 → List Int) (cs : List UInt8) (set : List Int) (n : Nat) : Bool := (List.range n).all fun j => decide ((lvl stp cs set (j + 1)).length ≤ 4096)

theorem okLvl_iff {stp : List Int → UInt8 → List Int} {cs : List UInt8} {set : List Int} {n : Nat} : okLvl stp cs set n = true ↔ ∀ j, 1 ≤ j → j ≤ n → (lvl stp cs set j).length ≤ 4096 := by
  simp only [okLvl, List.all_eq_true, List.mem_range, decide_eq_true_eq]
  constructor
  · intro h j h1 h2
    have := h (j - 1) (by omega)
    rwa [show j - 1 + 1 = j by omega] at this
  · exact fun h j hj => h (j + 1) (by omega) (by omega)

theorem utf_letters : ∀ c ∈ letters, (Utf8.encode (c.toNat : Int)).data.toList = [c] := by decide
theorem letters_nodup : letters.Nodup := by decide

theorem fact_num {n : Int} (h : fact (.int .i64 n)) : -9223372036854775808 ≤ n ∧ n ≤ 9223372036854775807 := by
  simpa [fact, Lit.wf, IntKind.min, IntKind.max, IntKind.signed, IntKind.bits] using h
theorem dec_lt {a b : Nat} (h : decide ((a : Int) < (b : Int)) = true) : a < b := by simpa using h
theorem AW.cjoin2 {P : Program} {ro : Option Nat} {N : Nat} {s : AS} {Q : Exit → AS → Prop} {c : Operand} {x y z : Code} {t : Bool} {α : Type} (St : α → AS) (I : α → Prop) (hc : s.ev c = some (.bool t))
    (h1 : t = true → AW P ro N x (thenQ (fun s' => ∃ a, I a ∧ s'.le (St a)) Q) s) (h2 : t = false → AW P ro N y (thenQ (fun s' => ∃ a, I a ∧ s'.le (St a)) Q) s)
    (h3 : ∀ a, I a → AW P ro N z Q (St a)) : AW P ro N (.cond c x y) (thenQ (AW P ro N z Q) Q) s := by
  refine (AW.cond hc h1 h2).mono ?_
  rintro e s' h
  cases e with
  | normal => obtain ⟨a, ha, hl⟩ := h; exact AW.weaken (h3 a ha) hl
  | exit id => exact h
  | goto l => exact h
  | ret => exact h
  | panic ch => exact h
  | outgrown => exact h
end Go.AW

namespace Go.AW
open Go Go.Proofs
theorem fw24_0 : fieldOf Tryz.prog 24 0 = some (0, { desc := TypeDesc.int .i64, size := 1, bytes := 8, zero := Value.int .i64 0 }) := by kernel_rfl
theorem fw24_1 : fieldOf Tryz.prog 24 1 = some (1, { desc := TypeDesc.int .i64, size := 1, bytes := 8, zero := Value.int .i64 0 }) := by kernel_rfl
theorem fw24_2 : fieldOf Tryz.prog 24 2 = some (2, { desc := TypeDesc.slice 44, size := 1, bytes := 24, zero := Value.slice none 0 0 }) := by kernel_rfl
theorem fw44_0 : fieldOf Tryz.prog 44 0 = some (0, { desc := TypeDesc.int .i64, size := 1, bytes := 8, zero := Value.int .i64 0 }) := by kernel_rfl
theorem fw44_1 : fieldOf Tryz.prog 44 1 = some (1, { desc := TypeDesc.int .i64, size := 1, bytes := 8, zero := Value.int .i64 0 }) := by kernel_rfl
theorem fw44_2 : fieldOf Tryz.prog 44 2 = some (2, { desc := TypeDesc.int .i64, size := 1, bytes := 8, zero := Value.int .i64 0 }) := by kernel_rfl
attribute [go_sem high] fw24_0 fw24_1 fw24_2 fw44_0 fw44_1 fw44_2
end Go.AW

namespace Go.AW
open Go Go.Proofs

theorem hget_0 {id v : Nat} {o : AObj} {H : Heap} : hget ((id, v, o) :: H) id = some (v, o) := by simp [hget]

set_option linter.unusedSimpArgs false
set_option maxHeartbeats 1000000 in
theorem w79 {L n : Nat} {gS gE : HV} {stp : List Int → UInt8 → List Int} {set : List Int} {A : List Int → Prop} (hL : L ≤ 16) (h1g : gS.one = true) (h1e : gE.one = true) (hA0 : A set) (hA : ∀ a c, A a → c ∈ letters.take L → A (stp a c))
    (hstep : ∀ a c, A a → c ∈ letters.take L → Pure Tryz.prog 53 [.agg [num L, gS, gE], ints a, .int .u8 c.toNat] (· = ints (stp a c))) :
    ACall Tryz.prog 33 [.agg [num L, gS, gE], ints set, num n] [] fun r H' =>
      ((∀ j, 1 ≤ j → j ≤ n → (lvl stp (letters.take L) set j).length ≤ 4096) ∧ ∃ id ver es, r = .tup [.mp id ver, .bool true] ∧ H' = [(id, ver, .map es)] ∧ es.Perm ((lvl stp (letters.take L) set n).map ent)) ∨
      (∃ j, 1 ≤ j ∧ j ≤ n ∧ 4096 < (lvl stp (letters.take L) set j).length ∧ r = .tup [.v (.map none), .bool false] ∧ H' = []) := by
  refine ACall.facts (enters' Tryz.func33 rfl rfl) fun hf => ?_
  have hn : n ≤ 9223372036854775807 := by
    have := fact_num hf.2.2.1
    omega
  refine ACall.of_body Tryz.func33 rfl rfl (Nat.le_of_ble_eq_true rfl) ?_
  unfold Tryz.f33
  dsimp only [enumS, Nat.reduceAdd]
  simp only [num] at *
  refine AW.rseq (fid := 79) (mt := []) [1, 2, 3] rfl fun K hK => ?_
  simp only [go_sem, reduceIte, Nat.reduceEqDiff, Int.reduceLE]
  refine hK _ ?_
  clear hK K
  refine AW.rseq (fid := 79) (mt := []) [1, 2, 3, 8] rfl fun K hK => ?_
  simp only [go_sem, reduceIte, Nat.reduceEqDiff, Int.reduceLE]
  intro v0
  refine hK _ ?_
  clear hK K
  refine AW.seq ?_
  refine AW.rseq (fid := 79) (mt := []) [1, 2, 3, 8, 18] rfl fun K hK => ?_
  simp only [go_sem, ints, reduceIte, Nat.reduceEqDiff, Int.reduceLE]
  refine hK _ ?_
  clear hK K
  have h00 : ((0 : Nat) : Int) = 0 := rfl
  refine AW.cjoin2 (fun es : List (List UInt8 × HV) => ⟨[(2, .int .i64 n), (3, .fptr [.int .i64 L, gS, gE] 0), (8, .mp (79 * 1000 + 15) v0)], [(79 * 1000 + 15, v0, .map es)]⟩) (fun es => es = (lvl stp (letters.take L) set 0).map ent) rfl (fun hc => ?_) (fun hc => ?_) ?_
  · have hc : 0 < set.length := by simpa using hc
    refine AW.region (fid := 79) (mt := []) [2, 3, 8] rfl fun K hK => ?_
    simp only [go_sem, reduceIte, Nat.reduceEqDiff, Int.reduceLE, List.length_nil, Nat.zero_le, mput]
    refine hK _ ?_
    clear hK K
    have hne : set ≠ [] := by rintro rfl; simp at hc
    refine ⟨[([], ints set)], by simp [lvl, hne, ent], AS.le_of ⟨rfl, rfl, rfl, trivial⟩ ⟨hget_0, trivial⟩⟩
  · have hc : set = [] := by
      have : ¬ 0 < set.length := by simpa using hc
      exact List.eq_nil_of_length_eq_zero (by omega)
    refine AW.skip ⟨[], by simp [lvl, hc], AS.le_of ⟨rfl, rfl, rfl, trivial⟩ ⟨hget_0, trivial⟩⟩
  rintro es0 rfl
  refine AW.seq ?_
  refine AW.rseq (fid := 79) (mt := []) [3, 8, 21, 22] rfl fun K hK => ?_
  simp only [go_sem, reduceIte, Nat.reduceEqDiff, Int.reduceLE]
  refine hK _ ?_
  clear hK K
  refine AW.block ?_
  refine AW.loopS (fun p : Nat × Nat × Nat × List (List UInt8 × HV) => ⟨[(3, .fptr [.int .i64 L, gS, gE] 0), (8, .mp p.2.1 p.2.2.1), (21, .int .i64 n), (22, .int .i64 p.1)], [(p.2.1, p.2.2.1, .map p.2.2.2)]⟩)
    (fun p => p.1 ≤ n ∧ p.2.2.2.Perm ((lvl stp (letters.take L) set p.1).map ent) ∧ ∀ j, 1 ≤ j → j ≤ p.1 → (lvl stp (letters.take L) set j).length ≤ 4096) (fun p => n - p.1) (0, _, _, _)
    (AS.le_of ⟨rfl, rfl, rfl, rfl, trivial⟩ ⟨rfl, trivial⟩) ⟨Nat.zero_le _, List.Perm.refl _, fun j h1 h2 => by dsimp only at h2; omega⟩ ?_
  rintro ⟨i, aid, av, es⟩ ⟨hi, hes, hsz⟩
  dsimp only at hi hes hsz ⊢
  refine AW.rseq (fid := 79) (mt := []) [3, 8, 21, 22, 23] rfl fun K hK => ?_
  simp only [go_sem, reduceIte, Nat.reduceEqDiff, Int.reduceLE]
  refine hK _ ?_
  clear hK K
  refine AW.cseq rfl (fun hc => ?_) (fun hc => ?_)
  · have hi' := dec_lt hc
    obtain ⟨f, hf1, hf2⟩ : ∃ f : Nat, f * 1000 + 24 ≠ aid ∧ f * 1000 + 26 ≠ aid := ⟨aid + 1, by omega, by omega⟩
    have hf3 := Ne.symm hf1
    have hf4 := Ne.symm hf2
    refine AW.skip ?_
    refine AW.seq (AW.block ?_)
    refine AW.rseq (fid := f) (mt := []) [3, 8, 9, 21, 22] rfl fun K hK => ?_
    simp only [go_sem, reduceIte, Nat.reduceEqDiff, Int.reduceLE, hf1, hf2, hf3, hf4]
    intro nv
    refine hK _ ?_
    clear hK K
    refine AW.seq ?_
    refine AW.rseq (fid := f) (mt := []) [3, 9, 21, 22, 26] rfl fun K hK => ?_
    simp only [go_sem, reduceIte, Nat.reduceEqDiff, Int.reduceLE, hf1, hf2, hf3, hf4, Nat.add_left_cancel_iff]
    refine ⟨hf2, fun iv => hK _ ?_⟩
    clear hK K
    refine AW.block ?_
    have hlk := lvl_keys (stp := stp) (set := set) (cs := letters.take L) (letters_nodup.sublist (List.take_sublist _ _)) i
    refine AW.loopS (fun p : List WS × List WS × List (List UInt8 × HV) × Bool => ⟨[(3, .fptr [.int .i64 L, gS, gE] 0), (9, .mp (f * 1000 + 24) nv), (21, .int .i64 n), (22, .int .i64 i), (26, .it (f * 1000 + 26) iv)],
        [(aid, av, .map es), (f * 1000 + 24, nv, .map p.2.2.1), (f * 1000 + 26, iv, .iter aid av (p.1.map (·.1)) p.2.2.2)]⟩)
      (fun p => (p.1 ++ p.2.1).Perm (lvl stp (letters.take L) set i) ∧ p.2.2.1.Perm ((p.1.flatMap (ext1 stp (letters.take L))).map ent) ∧ (p.1.flatMap (ext1 stp (letters.take L))).length ≤ 4096) (fun p => p.2.1.length) ([], lvl stp (letters.take L) set i, [], false)
      (AS.le_of ⟨rfl, rfl, rfl, rfl, rfl, trivial⟩ ⟨hget_0, by simp [hget, hf1, hf2, hf3, hf4], by simp [hget, hf1, hf2, hf3, hf4], trivial⟩) ⟨List.Perm.refl _, List.Perm.refl _, Nat.zero_le _⟩ ?_
    rintro ⟨vis, rest, es', cur⟩ ⟨hvr, hes', hlen⟩
    dsimp only at hvr hes' hlen ⊢
    refine AW.rseq (fid := f) (mt := []) [3, 9, 21, 22, 26, 28] rfl fun K hK => ?_
    simp only [go_sem, reduceIte, Nat.reduceEqDiff, Int.reduceLE, hf1, hf2, hf3, hf4, Nat.add_left_cancel_iff]
    refine ⟨fun hall => hK _ ?_, fun k v hkv hks => hK _ ?_⟩
    · clear hK K
      have hr := rest_nil hlk hvr hes hall
      subst hr
      rw [List.append_nil] at hvr
      have hnx : es'.Perm ((lvl stp (letters.take L) set (i + 1)).map ent) := hes'.trans ((perm_flat hvr).map ent)
      have hln : (lvl stp (letters.take L) set (i + 1)).length ≤ 4096 := by
        have := (perm_flat (stp := stp) (cs := letters.take L) hvr).length_eq
        show ((lvl stp (letters.take L) set i).flatMap _).length ≤ 4096
        omega
      have hsz' : ∀ j, 1 ≤ j → j ≤ i + 1 → (lvl stp (letters.take L) set j).length ≤ 4096 := fun j h1 h2 => by
        rcases Nat.lt_or_ge i j with h | h
        · have : j = i + 1 := by omega
          subst this; exact hln
        · exact hsz j h1 h
      refine AW.cseq rfl (fun hc => by cases hc) (fun _ => ?_)
      refine AW.exit ?_
      refine AW.rseq (fid := f) (mt := []) [3, 8, 21, 22] rfl fun K hK => ?_
      simp only [go_sem, reduceIte, Nat.reduceEqDiff, Int.reduceLE, hf1, hf2, hf3, hf4, Nat.add_left_cancel_iff]
      refine hK _ ?_
      clear hK K
      refine AW.rseq (fid := f) (mt := []) [3, 8, 21, 22, 59] rfl fun K hK => ?_
      simp only [go_sem, reduceIte, Nat.reduceEqDiff, Int.reduceLE, hf1, hf2, hf3, hf4, Nat.add_left_cancel_iff]
      refine ⟨by rw [hes'.length_eq, List.length_map]; simp only [maxLen]; omega, hK _ ?_⟩
      clear hK K
      refine AW.cond rfl (fun hc => ?_) (fun hc => ?_)
      · have h0 : es' = [] := by
          have : (es'.length : Int) = 0 := by simpa using hc
          exact List.eq_nil_of_length_eq_zero (by omega)
        subst h0
        have hl0 : lvl stp (letters.take L) set (i + 1) = [] := by
          have := hnx.length_eq
          simp only [List.length_nil, List.length_map] at this
          exact List.eq_nil_of_length_eq_zero this.symm
        have hlj := @lvl_nil stp (letters.take L) set (i + 1) hl0
        refine AW.exit ?_
        refine AW.rseq (fid := 79) (mt := []) [6, 7] rfl fun K hK => ?_
        simp only [go_sem, reduceIte, Nat.reduceEqDiff, Int.reduceLE, hf1, hf2, hf3, hf4, Nat.add_left_cancel_iff]
        refine hK _ ?_
        clear hK K
        refine AW.ret ⟨.inr rfl, ?_⟩
        simp only [go_sem, reduceIte, Nat.reduceEqDiff]
        refine ⟨_, [(f * 1000 + 24, nv, .map [])], Conv.drop (leH_get ⟨by simp [hget, hf1, hf2, hf3, hf4], trivial⟩), .inl ⟨fun j h1 h2 => ?_, _, _, _, rfl, rfl, ?_⟩⟩
        · rcases Nat.lt_or_ge (i + 1) j with h | h
          · rw [hlj (by omega)]; simp
          · exact hsz' j h1 h
        · rw [hlj (by omega)]; exact List.Perm.refl _
      · refine AW.skip ?_
        refine AW.region (fid := 79) (mt := []) [3, 8, 21, 22] rfl fun K hK => ?_
        simp only [go_sem, reduceIte, Nat.reduceEqDiff, Int.reduceLE]
        refine hK _ ?_
        clear hK K
        refine ⟨(i + 1, f * 1000 + 24, nv, es'), ⟨by dsimp only; omega, hnx, hsz'⟩, by dsimp only; omega, ?_⟩
        dsimp only
        rw [cnt_next hn hi']
        exact AS.le_of ⟨rfl, rfl, rfl, rfl, trivial⟩ ⟨by simp [hget, hf1, hf2, hf3, hf4], trivial⟩
    · clear hK K
      obtain ⟨x, l1, l2, rfl, hx, hvr'⟩ := next_pick hvr hes hkv hks
      cases hx
      have hxl : x ∈ lvl stp (letters.take L) set i := hvr'.mem_iff.1 (by simp)
      have hxA : A x.2 := lvl_all hA0 hA i x hxl
      have hxn : x.1.length = i := lvl_len i x hxl
      refine AW.cseq rfl (fun _ => ?_) (fun hc => by cases hc)
      refine AW.skip ?_
      refine AW.block ?_
      refine AW.rseq (fid := f) (mt := []) [3, 9, 10, 11, 21, 22, 26] rfl fun K hK => ?_
      simp only [go_sem, reduceIte, Nat.reduceEqDiff, Int.reduceLE, hf1, hf2, hf3, hf4, Nat.add_left_cancel_iff]
      refine ⟨_, alook_mem (perm_keys hes hlk) hkv, hK _ ?_⟩
      clear hK K
      refine AW.seq ?_
      refine AW.rseq (fid := f) (mt := []) [3, 9, 10, 11, 21, 22, 26, 33, 34] rfl fun K hK => ?_
      simp only [go_sem, reduceIte, Nat.reduceEqDiff, Int.reduceLE, List.getElem?_cons_zero, Nat.add_zero]
      refine hK _ ?_
      clear hK K
      refine AW.block ?_
      refine AW.loopS (fun p : Nat × List (List UInt8 × HV) => ⟨[(3, .fptr [.int .i64 L, gS, gE] 0), (9, .mp (f * 1000 + 24) nv), (10, .str x.1), (11, ints x.2), (21, .int .i64 n), (22, .int .i64 i), (26, .it (f * 1000 + 26) iv), (33, .int .i64 L), (34, .int .i64 p.1)],
          [(aid, av, .map es), (f * 1000 + 24, nv, .map p.2), (f * 1000 + 26, iv, .iter aid av (x.1 :: vis.map (·.1)) true)]⟩)
        (fun p => p.1 ≤ L ∧ p.2.Perm ((vis.flatMap (ext1 stp (letters.take L)) ++ ext1 stp ((letters.take L).take p.1) x).map ent)) (fun p => L - p.1) (0, es')
        (AS.le_of ⟨rfl, rfl, rfl, rfl, rfl, rfl, rfl, rfl, rfl, trivial⟩ ⟨hget_0, by simp [hget, hf1, hf2, hf3, hf4], by simp [hget, hf1, hf2, hf3, hf4], trivial⟩) ⟨Nat.zero_le _, by simpa [ext1] using hes'⟩ ?_
      rintro ⟨j, es2⟩ ⟨hj, hes2⟩
      dsimp only at hj hes2 ⊢
      refine AW.rseq (fid := f) (mt := []) [3, 9, 10, 11, 21, 22, 26, 33, 34, 35] rfl fun K hK => ?_
      simp only [go_sem, reduceIte, Nat.reduceEqDiff, Int.reduceLE]
      refine hK _ ?_
      clear hK K
      refine AW.cseq rfl (fun hc => ?_) (fun hc => ?_)
      · have hj' := dec_lt hc
        have hjl : j < letters.length := by show j < 16; omega
        have hjt : j < (letters.take L).length := by rw [List.length_take]; exact Nat.lt_min.2 ⟨hj', hjl⟩
        have hcj : (letters.take L)[j] = letters[j] := List.getElem_take
        have hmem : letters[j] ∈ letters.take L := hcj ▸ List.getElem_mem hjt
        refine AW.skip ?_
        refine AW.seq (AW.block ?_)
        refine AW.rseq (fid := f) (mt := []) [3, 9, 10, 11, 12, 21, 22, 26, 33, 34] rfl fun K hK => ?_
        simp only [go_sem, reduceIte, Nat.reduceEqDiff, Int.reduceLE]
        refine hK _ ?_
        clear hK K
        have hlj : ([48, 49, 50, 51, 52, 53, 54, 55, 56, 57, 97, 98, 99, 100, 101, 102] : List UInt8)[j]? = some letters[j] := List.getElem?_eq_getElem (l := letters) hjl
        refine AW.rseq (fid := f) (mt := []) [3, 9, 10, 11, 13, 21, 22, 26, 33, 34] rfl fun K hK => ?_
        simp only [go_sem, reduceIte, Nat.reduceEqDiff, Int.reduceLE, List.length_nil, List.length_cons, Nat.reduceAdd, Nat.reduceLeDiff, hlj]
        refine ⟨by omega, hK _ ?_⟩
        clear hK K
        refine AW.rseq (fid := f) (mt := []) [3, 9, 10, 11, 13, 14, 21, 22, 26, 33, 34] rfl fun K hK => ?_
        simp only [go_sem, reduceIte, Nat.reduceEqDiff, Int.reduceLE, List.length_nil, List.length_cons, Nat.reduceAdd, Nat.reduceLeDiff, List.drop_zero, List.take_succ_cons, List.take_zero]
        refine (hstep x.2 letters[j] hxA hmem).use fun r hr => ?_
        subst hr
        refine hK _ ?_
        clear hK K
        refine AW.rseq (fid := f) (mt := []) [3, 9, 10, 11, 13, 14, 21, 22, 26, 33, 34, 45] rfl fun K hK => ?_
        simp only [go_sem, ints, reduceIte, Nat.reduceEqDiff, Int.reduceLE]
        refine hK _ ?_
        clear hK K
        have hxk : x.1 ∉ vis.map (·.1) := hks
        have htake := ext1_take (stp := stp) x hjt
        rw [hcj] at htake
        refine AW.cond rfl (fun hc => ?_) (fun hc => ?_)
        · have hne : stp x.2 letters[j] ≠ [] := by
            intro h0
            rw [h0] at hc
            simp at hc
          rw [if_neg hne] at htake
          have hnew : alook (x.1 ++ [letters[j]]) es2 = none := hcj ▸ key_new (letters_nodup.sublist (List.take_sublist _ _)) hxk hjt hes2
          refine AW.region (fid := f) (mt := []) [3, 9, 10, 11, 21, 22, 26, 33, 34] rfl fun K hK => ?_
          simp only [go_sem, reduceIte, Nat.reduceEqDiff, Int.reduceLE, hf1, hf2, hf3, hf4, Nat.add_left_cancel_iff, utf_letters _ (List.getElem_mem hjl)]
          refine ⟨by simp only [List.length_cons, List.length_nil, maxLen, hxn]; omega, hf3, hK _ ?_⟩
          clear hK K
          refine AW.region (fid := f) (mt := []) [3, 9, 10, 11, 21, 22, 26, 33, 34] rfl fun K hK => ?_
          simp only [go_sem, reduceIte, Nat.reduceEqDiff, Int.reduceLE]
          refine hK _ ?_
          clear hK K
          refine ⟨(j + 1, mput (x.1 ++ [letters[j]]) (ints (stp x.2 letters[j])) es2), ⟨by dsimp only; omega, ?_⟩, by dsimp only; omega, ?_⟩
          · dsimp only
            rw [mput_new hnew, htake, ← List.append_assoc, List.map_append]
            exact hes2.append (List.Perm.refl _)
          · dsimp only
            rw [cnt_next (by omega) hj']
            exact AS.le_of ⟨rfl, rfl, rfl, rfl, rfl, rfl, rfl, rfl, rfl, trivial⟩ ⟨hget_0, by simp [hget, hf1, hf2, hf3, hf4, ints], by simp [hget, hf1, hf2, hf3, hf4], trivial⟩
        · have he : stp x.2 letters[j] = [] := by
            have : ¬ 0 < (stp x.2 letters[j]).length := by simpa using hc
            exact List.eq_nil_of_length_eq_zero (by omega)
          rw [if_pos he, List.append_nil] at htake
          refine AW.skip ?_
          refine AW.region (fid := f) (mt := []) [3, 9, 10, 11, 21, 22, 26, 33, 34] rfl fun K hK => ?_
          simp only [go_sem, reduceIte, Nat.reduceEqDiff, Int.reduceLE]
          refine hK _ ?_
          clear hK K
          refine ⟨(j + 1, es2), ⟨by dsimp only; omega, ?_⟩, by dsimp only; omega, ?_⟩
          · dsimp only
            rw [htake]
            exact hes2
          · dsimp only
            rw [cnt_next (by omega) hj']
            exact AS.le_of ⟨rfl, rfl, rfl, rfl, rfl, rfl, rfl, rfl, rfl, trivial⟩ ⟨hget_0, by simp [hget, hf1, hf2, hf3, hf4], by simp [hget, hf1, hf2, hf3, hf4], trivial⟩
      · have hj2 := cnt_ge hc hj
        subst hj2
        have htk : (letters.take j).take j = letters.take j := by rw [List.take_take, Nat.min_self]
        rw [htk] at hes2
        have hes3 : es2.Perm (((x :: vis).flatMap (ext1 stp (letters.take j))).map ent) := by
          refine hes2.trans (List.Perm.map _ ?_)
          rw [List.flatMap_cons]
          exact List.perm_append_comm
        refine AW.exit ?_
        refine AW.rseq (fid := f) (mt := []) [3, 9, 21, 22, 26, 55] rfl fun K hK => ?_
        simp only [go_sem, reduceIte, Nat.reduceEqDiff, Int.reduceLE, hf1, hf2, hf3, hf4, Nat.add_left_cancel_iff]
        have hle2 : es2.length = ((x :: vis).flatMap (ext1 stp (letters.take j))).length := by rw [hes3.length_eq, List.length_map]
        have htot : ((x :: vis).flatMap (ext1 stp (letters.take j))).length ≤ (lvl stp (letters.take j) set (i + 1)).length := by
          have := (perm_flat (stp := stp) (cs := letters.take j) hvr').length_eq
          rw [List.flatMap_append, List.length_append] at this
          show _ ≤ ((lvl stp (letters.take j) set i).flatMap _).length
          omega
        have hsmall : es2.length ≤ maxLen := by
          have hb : ∀ (y : WS), (ext1 stp (letters.take j) y).length ≤ 16 := fun y => by
            refine Nat.le_trans (List.length_filterMap_le _ _) ?_
            rw [List.length_take]
            exact Nat.le_trans (Nat.min_le_left _ _) hL
          rw [hle2, List.flatMap_cons, List.length_append]
          have := hb x
          simp only [maxLen]
          omega
        refine ⟨hsmall, hK _ ?_⟩
        clear hK K
        refine AW.cond rfl (fun hc => ?_) (fun hc => ?_)
        · have hbig : 4096 < es2.length := by
            have : (4096 : Int) < es2.length := by simpa using hc
            omega
          refine AW.rseq (fid := 79) (mt := []) [6, 7] rfl fun K hK => ?_
          simp only [go_sem, reduceIte, Nat.reduceEqDiff, Int.reduceLE]
          refine hK _ ?_
          clear hK K
          refine AW.ret ⟨.inr rfl, ?_⟩
          simp only [go_sem, reduceIte, Nat.reduceEqDiff]
          exact ⟨_, [], Conv.drop (fun _ _ h => by cases h), .inr ⟨i + 1, by omega, by omega, by omega, rfl, rfl⟩⟩
        · have hsm : es2.length ≤ 4096 := by
            have : ¬ (4096 : Int) < es2.length := by simpa using hc
            omega
          refine AW.skip ?_
          refine ⟨(x :: vis, l1 ++ l2, es2, true), ⟨hvr', hes3, by dsimp only; omega⟩, by simp, ?_⟩
          exact AS.le_of ⟨rfl, rfl, rfl, rfl, rfl, trivial⟩ ⟨hget_0, by simp [hget, hf1, hf2, hf3, hf4], by simp [hget, hf1, hf2, hf3, hf4], trivial⟩
  · have hi2 := cnt_ge hc hi
    subst hi2
    refine AW.exit ?_
    refine AW.rseq (fid := 79) (mt := []) [6, 7] rfl fun K hK => ?_
    simp only [go_sem, reduceIte, Nat.reduceEqDiff, Int.reduceLE]
    refine hK _ ?_
    clear hK K
    refine AW.ret ⟨.inr rfl, ?_⟩
    simp only [go_sem, reduceIte, Nat.reduceEqDiff]
    exact ⟨_, _, Conv.refl _ _, .inl ⟨hsz, _, _, _, rfl, rfl, hes⟩⟩
end Go.AW

namespace Go.AW
open Go Go.Proofs

theorem pick_key {vis rest ks : List (List UInt8)} {k : List UInt8} (hp : (vis ++ rest).Perm ks) (hm : k ∈ ks) (hk : k ∉ vis) : ∃ l1 l2, rest = l1 ++ k :: l2 ∧ ((k :: vis) ++ (l1 ++ l2)).Perm ks := by
  have hx : k ∈ rest := (List.mem_append.1 (hp.mem_iff.2 hm)).resolve_left hk
  obtain ⟨l1, l2, rfl⟩ := List.append_of_mem hx
  refine ⟨l1, l2, rfl, List.Perm.trans ?_ hp⟩
  have e1 : (k :: vis) ++ (l1 ++ l2) = k :: ((vis ++ l1) ++ l2) := by simp
  have e2 : vis ++ (l1 ++ k :: l2) = (vis ++ l1) ++ k :: l2 := by simp
  rw [e1, e2]
  exact List.perm_middle.symm

theorem no_rest {vis rest ks : List (List UInt8)} (hn : ks.Nodup) (hp : (vis ++ rest).Perm ks) (hall : ∀ k ∈ ks, k ∈ vis) : rest = [] := by
  cases rest with
  | nil => rfl
  | cons x rest =>
    have h1 := hp.nodup_iff.2 hn
    have hx : x ∈ vis := hall x (hp.mem_iff.1 (by simp))
    exact absurd rfl ((List.nodup_append.1 h1).2.2 x hx x (List.mem_cons_self ..))

set_option linter.unusedSimpArgs false
theorem w127 {f mid mver lid lver : Nat} {es : List (List UInt8 × HV)} {H : Heap} {K : HV → Heap → Prop} (hn : (es.map (·.1)).Nodup) (hne : f * 1000 + 5 ≠ mid) (hm : hget H mid = some (mver, .map es)) (J : Nat → List (List UInt8) → Heap → Prop)
    (hJm : ∀ iv vis H, J iv vis H → hget H mid = some (mver, .map es)) (hJi : ∀ iv vis H, J iv vis H → ∃ cur, hget H (f * 1000 + 5) = some (iv, .iter mid mver vis cur))
    (h0 : ∀ iv, J iv [] (hset H (f * 1000 + 5) iv (.iter mid mver [] false)))
    (hstep : ∀ iv vis k H, J iv vis H → k ∈ es.map (·.1) → k ∉ vis → vis.length < es.length → YCall Tryz.prog lid lver [.str k] (hset H (f * 1000 + 5) iv (.iter mid mver (k :: vis) true)) fun r H' => r = .bool true ∧ J iv (k :: vis) H')
    (hdone : ∀ iv vis H, J iv vis H → vis.Perm (es.map (·.1)) → K (.tup []) H) : ACall Tryz.prog 56 [.yl lid lver, .fptr [.mp mid mver] 0] H K := by
  refine ACall.of_body Tryz.func56 rfl rfl (Nat.le_of_ble_eq_true rfl) ?_
  unfold Tryz.f56
  dsimp only [enumS, Nat.reduceAdd]
  refine AW.rseq (fid := f) (mt := []) [0, 5] rfl fun K1 hK1 => ?_
  simp only [go_sem, reduceIte, Nat.reduceEqDiff, Int.reduceLE, List.getElem?_cons_zero, hm]
  refine ⟨hne, fun iv => hK1 _ ?_⟩
  clear hK1 K1
  refine AW.block ?_
  refine AW.loopS (fun p : List (List UInt8) × List (List UInt8) × Heap => ⟨[(0, .yl lid lver), (5, .it (f * 1000 + 5) iv)], p.2.2⟩) (fun p => (p.1 ++ p.2.1).Perm (es.map (·.1)) ∧ J iv p.1 p.2.2) (fun p => p.2.1.length) ([], es.map (·.1), _)
    (AS.le_refl _) ⟨List.Perm.refl _, h0 iv⟩ ?_
  rintro ⟨vis, rest, H1⟩ ⟨hp, hj⟩
  dsimp only at hp hj ⊢
  have hm1 := hJm _ _ _ hj
  obtain ⟨cur, hi1⟩ := hJi _ _ _ hj
  refine AW.rseq (fid := f) (mt := []) [0, 5, 7] rfl fun K1 hK1 => ?_
  simp only [go_sem, reduceIte, Nat.reduceEqDiff, Int.reduceLE, hi1, hm1, List.getElem?_cons_zero]
  refine ⟨fun hall => hK1 _ ?_, fun k v hkv hks => hK1 _ ?_⟩
  · clear hK1 K1
    have hr := no_rest hn hp fun k hk => by
      obtain ⟨q, hq, rfl⟩ := List.mem_map.1 hk
      exact hall q hq
    subst hr
    rw [List.append_nil] at hp
    refine AW.cseq rfl (fun hc => by cases hc) (fun _ => ?_)
    refine AW.exit ?_
    refine ⟨.inl rfl, ?_⟩
    simp only [go_sem, reduceIte, Nat.reduceEqDiff]
    exact ⟨_, _, Conv.refl _ _, hdone _ _ _ hj hp⟩
  · clear hK1 K1
    have hk : k ∈ es.map (·.1) := List.mem_map.2 ⟨_, hkv, rfl⟩
    obtain ⟨l1, l2, rfl, hp'⟩ := pick_key hp hk hks
    refine AW.cseq rfl (fun _ => ?_) (fun hc => by cases hc)
    refine AW.skip ?_
    refine AW.block ?_
    refine AW.rseq (fid := f) (mt := []) [0, 3, 5] rfl fun K1 hK1 => ?_
    simp only [go_sem, reduceIte, Nat.reduceEqDiff, Int.reduceLE, hget_hset, hm1, if_neg (Ne.symm hne), List.getElem?_cons_zero]
    refine ⟨v, alook_mem hn hkv, hK1 _ ?_⟩
    clear hK1 K1
    refine AW.rseq (fid := f) (mt := []) [0, 5, 13] rfl fun K1 hK1 => ?_
    simp only [go_sem, reduceIte, Nat.reduceEqDiff, Int.reduceLE]
    refine (hstep iv vis k H1 hj hk hks (by have := hp.length_eq; simp at this; omega)).mono ?_
    rintro r H2 ⟨rfl, hj2⟩
    simp only [go_sem, reduceIte, Nat.reduceEqDiff, Int.reduceLE]
    refine hK1 _ ?_
    clear hK1 K1
    refine AW.cond rfl (fun hc => by cases hc) (fun _ => ?_)
    refine AW.skip ?_
    exact ⟨(k :: vis, l1 ++ l2, H2), ⟨hp', hj2⟩, by simp, ⟨leS_get ⟨rfl, rfl, trivial⟩, fun _ _ h => h⟩⟩

theorem AW.rangeFuncL {P : Program} {N : Nat} {s : AS} {Q : Exit → AS → Prop} {g : Operand} {ps : Array Tmp} {assign body : Code} {f : FuncId} {fs cs : List HV} (id : Nat) (hg : s.ev g = some (.fn (.func f) fs cs))
    (h : ∀ fn ver (L : LoopState → Option Code → AObj), (∀ st pend, L st pend = .loop st pend fn N s.slots ps assign body) → ACall P f (fs ++ [.yl id ver] ++ cs) (hset s.heap id ver (L .ready none)) fun _ H' =>
      ∃ st pend, hget H' id = some (ver, L st pend) ∧ st ≠ .busy ∧ match pend with
        | none => Q .normal { s with heap := hset H' id ver (L .exhausted none) }
        | some c => AW P none N c Q { s with heap := hset H' id ver (L .exhausted (some c)) }) :
    AW P none N (.rangeFunc g ps assign body) Q s :=
  AW.rangeFunc id hg fun fn ver => h fn ver (fun st pend => .loop st pend fn N s.slots ps assign body) fun _ _ => rfl

set_option maxHeartbeats 1000000 in
theorem w160 {f mid mver : Nat} {es : List (List UInt8 × HV)} (hn : (es.map (·.1)).Nodup) (hbig : es.length ≤ 1099511627776) (h2 : f * 1000 + 2 ≠ mid) (h5 : f * 1000 + 5 ≠ mid) (h11 : f * 1000 + 11 ≠ mid) (h9 : f * 1000 + 900 ≠ mid) :
    ACall Tryz.prog 80 [.v (.slice none 0 0), .fn (.func 56) [] [.fptr [.mp mid mver] 0]] [(mid, mver, .map es)] fun r H' => ∃ l, l.Perm (es.map (·.1)) ∧ ((l = [] ∧ r = .v (.slice none 0 0) ∧ H' = []) ∨
      ∃ id av, l ≠ [] ∧ r = .ar id av 1 0 l.length ∧ H' = [(id, av, .arr 1 9 (l.map .str))]) := by
  refine ACall.of_body Tryz.func80 rfl rfl (Nat.le_of_ble_eq_true rfl) ?_
  unfold Tryz.f80
  dsimp only [enumS, Nat.reduceAdd]
  refine AW.rseq (fid := f) (mt := [2]) [1, 2] rfl fun K hK => ?_
  simp only [go_sem, reduceIte, Nat.reduceEqDiff, Int.reduceLE, h2]
  intro bv
  refine hK _ ?_
  clear hK K
  refine AW.seq ?_
  refine AW.rseq (fid := f) (mt := [2]) [2, 6] rfl fun K hK => ?_
  simp only [go_sem, reduceIte, Nat.reduceEqDiff, Int.reduceLE]
  refine hK _ ?_
  clear hK K
  refine AW.block ?_
  have n95 : f * 1000 + 900 ≠ f * 1000 + 5 := by simp
  have n92 : f * 1000 + 900 ≠ f * 1000 + 2 := by simp
  have n911 : f * 1000 + 900 ≠ f * 1000 + 11 := by simp
  have n52 : f * 1000 + 5 ≠ f * 1000 + 2 := by simp
  have n511 : f * 1000 + 5 ≠ f * 1000 + 11 := by simp
  have n112 : f * 1000 + 11 ≠ f * 1000 + 2 := by simp
  refine AW.rangeFuncL (f * 1000 + 900) rfl fun fn lver L hL => ?_
  dsimp only [List.length_cons, List.length_nil, Nat.reduceAdd] at hL ⊢
  refine w127 (f := f) hn h5 (by rw [hget_hset, if_neg (Ne.symm h9)]; exact hget_0) (fun iv vis H => hget H mid = some (mver, .map es) ∧ (∃ cur, hget H (f * 1000 + 5) = some (iv, .iter mid mver vis cur)) ∧
    hget H (f * 1000 + 900) = some (lver, L .ready none) ∧
    ((vis = [] ∧ hget H (f * 1000 + 2) = some (bv, .arr 1 27 [.v (.slice none 0 0)])) ∨
      ∃ av, vis ≠ [] ∧ hget H (f * 1000 + 2) = some (bv, .arr 1 27 [.ar (f * 1000 + 11) av 1 0 vis.length]) ∧ hget H (f * 1000 + 11) = some (av, .arr 1 9 (vis.reverse.map .str)))) (fun _ _ _ h => h.1) (fun _ _ _ h => h.2.1) (fun iv => ?_) ?_ ?_
  · simp [hget_hset, hget, hset, h2, h5, h9, h11, Ne.symm h2, Ne.symm h5, Ne.symm h9, Ne.symm h11]
  · rintro iv vis k H1 ⟨hm, ⟨cur, hi⟩, hlp, hac⟩ hk hks hlt
    rw [hL] at hlp
    refine ⟨_, _, _, _, _, _, (by rw [hget_hset, if_neg n95]; exact hlp), rfl, by simp, fun l => ?_⟩
    dsimp only [setPs]
    refine AW.region (fid := f) (mt := [2]) [2, 5] rfl fun K hK => ?_
    simp only [go_sem, reduceIte, Nat.reduceEqDiff, Int.reduceLE]
    refine hK _ ?_
    clear hK K
    refine ⟨rfl, by rw [hget_hset, if_neg n95]; exact hlp, ?_⟩
    refine AW.block ?_
    have fin : ∀ (av : Nat) (H2 : Heap) (o : AObj), o = L .ready none → hget H2 mid = some (mver, .map es) → hget H2 (f * 1000 + 5) = some (iv, .iter mid mver (k :: vis) true) →
        hget H2 (f * 1000 + 2) = some (bv, .arr 1 27 [.ar (f * 1000 + 11) av 1 0 (vis.length + 1)]) → hget H2 (f * 1000 + 11) = some (av, .arr 1 9 ((k :: vis).reverse.map .str)) →
        HV.bool true = .bool true ∧ hget (hset H2 (f * 1000 + 900) lver o) mid = some (mver, .map es) ∧ (∃ cur, hget (hset H2 (f * 1000 + 900) lver o) (f * 1000 + 5) = some (iv, .iter mid mver (k :: vis) cur)) ∧
    hget (hset H2 (f * 1000 + 900) lver o) (f * 1000 + 900) = some (lver, L .ready none) ∧
    ((k :: vis = [] ∧ hget (hset H2 (f * 1000 + 900) lver o) (f * 1000 + 2) = some (bv, .arr 1 27 [.v (.slice none 0 0)])) ∨
      ∃ av, k :: vis ≠ [] ∧ hget (hset H2 (f * 1000 + 900) lver o) (f * 1000 + 2) = some (bv, .arr 1 27 [.ar (f * 1000 + 11) av 1 0 (k :: vis).length]) ∧ hget (hset H2 (f * 1000 + 900) lver o) (f * 1000 + 11) = some (av, .arr 1 9 ((k :: vis).reverse.map .str))) := by
      intro av H2 o ho g1 g2 g4 g5
      refine ⟨rfl, ?_, ⟨true, ?_⟩, ?_, .inr ⟨av, by simp, ?_, ?_⟩⟩
      · rw [hget_hset, if_neg (Ne.symm h9)]; exact g1
      · rw [hget_hset, if_neg (Ne.symm n95)]; exact g2
      · rw [hget_hset, if_pos rfl, ho]
      · rw [hget_hset, if_neg (Ne.symm n92)]; exact g4
      · rw [hget_hset, if_neg (Ne.symm n911)]; exact g5
    have hm2 : maxLen = 9223372036854775807 := rfl
    rcases hac with ⟨rfl, hb⟩ | ⟨av, _, hb, ha⟩
    · refine AW.region (fid := f) (mt := [2]) [2, 5] rfl fun K hK => ?_
      simp only [go_sem, reduceIte, Nat.reduceEqDiff, Int.reduceLE, hget_hset, Nat.add_left_cancel_iff, hb, List.getElem?_cons_zero, Nat.add_zero, List.length_nil, List.length_cons, Nat.zero_le, HV.one, zrep, List.replicate_succ, List.replicate_zero, List.flatten_cons, List.flatten_nil,
        List.set_cons_zero, Option.any_some, Nat.reduceAdd, Nat.reduceMul, Nat.reduceLeDiff, Nat.reduceBEq, Bool.or_false, BEq.rfl, List.take_succ_cons, List.take_zero, List.drop_zero]
      refine ⟨by simp [maxLen], fun av' => hK _ ?_⟩
      clear hK K
      refine ⟨?_, fin av' _ _ (hL _ _).symm ?_ ?_ ?_ ?_⟩
      · rw [hget_hset, if_neg n92, hget_hset, if_neg n911, hget_hset, if_pos rfl]
      · rw [hget_hset, if_neg (Ne.symm h2), hget_hset, if_neg (Ne.symm h11), hget_hset, if_neg (Ne.symm h9), hget_hset, if_neg (Ne.symm h5)]; exact hm
      · rw [hget_hset, if_neg n52, hget_hset, if_neg n511, hget_hset, if_neg (Ne.symm n95), hget_hset, if_pos rfl]
      · rw [hget_hset, if_pos rfl]; rfl
      · rw [hget_hset, if_neg n112, hget_hset, if_pos rfl]; simp
    · refine AW.region (fid := f) (mt := [2]) [2, 5] rfl fun K hK => ?_
      simp only [go_sem, reduceIte, Nat.reduceEqDiff, Int.reduceLE, hget_hset, Nat.add_left_cancel_iff, hb, ha, List.getElem?_cons_zero, Nat.add_zero, List.length_nil, List.length_cons, Nat.zero_le, HV.one, zrep, List.replicate_succ, List.replicate_zero, List.flatten_cons, List.flatten_nil,
        List.set_cons_zero, Option.any_some, Nat.reduceAdd, Nat.reduceMul, Nat.reduceLeDiff, Nat.reduceBEq, Bool.or_false, BEq.rfl, List.take_succ_cons, List.take_zero, List.drop_zero]
      have hb1 : (vis.length + 1) * 16 ≤ 140737488355328 := by clear fin hL hlp; omega
      have hb2 : vis.length + 1 ≤ maxLen := by clear fin hL hlp; omega
      refine ⟨by simp, hb1, hb2, fun av' => hK _ ?_⟩
      clear hK K
      refine ⟨?_, fin av' _ _ (hL _ _).symm ?_ ?_ ?_ ?_⟩
      · rw [hget_hset, if_neg n92, hget_hset, if_neg n911, hget_hset, if_pos rfl]
      · rw [hget_hset, if_neg (Ne.symm h2), hget_hset, if_neg (Ne.symm h11), hget_hset, if_neg (Ne.symm h9), hget_hset, if_neg (Ne.symm h5)]; exact hm
      · rw [hget_hset, if_neg n52, hget_hset, if_neg n511, hget_hset, if_neg (Ne.symm n95), hget_hset, if_pos rfl]
      · rw [hget_hset, if_pos rfl]
      · rw [hget_hset, if_neg n112, hget_hset, if_pos rfl, List.take_of_length_le (by simp)]; simp
  · rintro iv vis H1 ⟨hm, _, hlp, ⟨hv0, hb⟩ | ⟨av, hvn, hb, ha⟩⟩ hp
    · refine ⟨.ready, none, hlp, by simp, ?_⟩
      dsimp only [blockQ, thenQ]
      clear hL
      refine AW.rseq (fid := f) (mt := [2]) [4] rfl fun K hK => ?_
      simp only [go_sem, reduceIte, Nat.reduceEqDiff, Int.reduceLE, hget_hset, Nat.add_left_cancel_iff, hb, List.getElem?_cons_zero]
      refine hK _ ?_
      clear hK K
      refine AW.ret ⟨.inr rfl, ?_⟩
      simp only [go_sem, reduceIte, Nat.reduceEqDiff]
      exact ⟨_, [], Conv.drop (fun _ _ h => by cases h), [], hv0 ▸ hp, .inl ⟨rfl, rfl, rfl⟩⟩
    · refine ⟨.ready, none, hlp, by simp, ?_⟩
      dsimp only [blockQ, thenQ]
      clear hL
      refine AW.rseq (fid := f) (mt := [2]) [4] rfl fun K hK => ?_
      simp only [go_sem, reduceIte, Nat.reduceEqDiff, Int.reduceLE, hget_hset, Nat.add_left_cancel_iff, hb, List.getElem?_cons_zero]
      refine hK _ ?_
      clear hK K
      refine AW.ret ⟨.inr rfl, ?_⟩
      simp only [go_sem, reduceIte, Nat.reduceEqDiff]
      refine ⟨_, [(f * 1000 + 11, av, .arr 1 9 (vis.reverse.map .str))], Conv.drop (leH_get ⟨?_, trivial⟩), vis.reverse, (List.reverse_perm vis).trans hp, .inr ⟨_, av, by simpa using hvn, by rw [List.length_reverse], rfl⟩⟩
      rw [hget_hset, if_neg (Ne.symm n911)]; exact ha
end Go.AW

namespace Go.AW
open Go Go.Proofs

def nilS : HV := .v (.slice none 0 0)
def strsN (l : List (List UInt8)) : HV := if l = [] then nilS else strs l

set_option linter.unusedSimpArgs false
theorem w126 {f mid mver : Nat} {es : List (List UInt8 × HV)} (hn : (es.map (·.1)).Nodup) (hbig : es.length ≤ 1099511627776) (h2 : f * 1000 + 2 ≠ mid) (h5 : f * 1000 + 5 ≠ mid) (h11 : f * 1000 + 11 ≠ mid) (h9 : f * 1000 + 900 ≠ mid) :
    ACall Tryz.prog 54 [.fn (.func 56) [] [.fptr [.mp mid mver] 0]] [(mid, mver, .map es)] fun r H' => ∃ l, l.Perm (es.map (·.1)) ∧ ((l = [] ∧ r = .v (.slice none 0 0) ∧ H' = []) ∨
      ∃ id av, l ≠ [] ∧ r = .ar id av 1 0 l.length ∧ H' = [(id, av, .arr 1 9 (l.map .str))]) := by
  refine ACall.of_body Tryz.func54 rfl rfl (Nat.le_of_ble_eq_true rfl) ?_
  unfold Tryz.f54
  dsimp only [enumS, Nat.reduceAdd]
  refine AW.rseq (fid := f) (mt := []) [0] rfl fun K hK => ?_
  simp only [go_sem, reduceIte, Nat.reduceEqDiff, Int.reduceLE]
  refine hK _ ?_
  clear hK K
  refine AW.rseq (fid := f) (mt := []) [2] rfl fun K hK => ?_
  simp only [go_sem, reduceIte, Nat.reduceEqDiff, Int.reduceLE]
  refine (w160 hn hbig h2 h5 h11 h9).mono ?_
  rintro r H' hr
  refine hK _ ?_
  clear hK K
  refine AW.ret ⟨.inr rfl, ?_⟩
  simp only [go_sem, reduceIte, Nat.reduceEqDiff]
  exact ⟨_, _, Conv.refl _ _, hr⟩

theorem w81 {f mid mver : Nat} {es : List (List UInt8 × HV)} (hn : (es.map (·.1)).Nodup) (hbig : es.length ≤ 1099511627776) (h2 : f * 1000 + 2 ≠ mid) (h5 : f * 1000 + 5 ≠ mid) (h11 : f * 1000 + 11 ≠ mid) (h9 : f * 1000 + 900 ≠ mid) :
    ACall Tryz.prog 35 [.fn (.func 56) [] [.fptr [.mp mid mver] 0]] [(mid, mver, .map es)] fun r H' => (es = [] ∧ r = nilS ∧ H' = []) ∨
      ∃ id av, es ≠ [] ∧ r = .ar id av 1 0 es.length ∧ H' = [(id, av, .arr 1 9 ((sortS (es.map (·.1))).map .str))] := by
  refine ACall.of_body Tryz.func35 rfl rfl (Nat.le_of_ble_eq_true rfl) ?_
  unfold Tryz.f35
  dsimp only [enumS, Nat.reduceAdd]
  refine AW.rseq (fid := f) (mt := []) [0] rfl fun K hK => ?_
  simp only [go_sem, reduceIte, Nat.reduceEqDiff, Int.reduceLE]
  refine hK _ ?_
  clear hK K
  refine AW.rseq (fid := f) (mt := []) [3] rfl fun K hK => ?_
  simp only [go_sem, reduceIte, Nat.reduceEqDiff, Int.reduceLE]
  refine (w126 hn hbig h2 h5 h11 h9).mono ?_
  rintro r H' ⟨l, hp, ⟨rfl, rfl, rfl⟩ | ⟨id, av, hln, rfl, rfl⟩⟩
  · refine hK _ ?_
    clear hK K
    have he : es = [] := by
      have := hp.length_eq
      simp only [List.length_nil, List.length_map] at this
      exact List.eq_nil_of_length_eq_zero this.symm
    refine AW.rseq (fid := f) (mt := []) [3] rfl fun K hK => ?_
    simp only [go_sem, reduceIte, Nat.reduceEqDiff, Int.reduceLE]
    refine w45n ?_
    refine hK _ ?_
    clear hK K
    refine AW.rseq (fid := f) (mt := []) [2] rfl fun K hK => ?_
    simp only [go_sem, reduceIte, Nat.reduceEqDiff, Int.reduceLE]
    refine hK _ ?_
    clear hK K
    refine AW.ret ⟨.inr rfl, ?_⟩
    simp only [go_sem, reduceIte, Nat.reduceEqDiff]
    exact ⟨_, _, Conv.refl _ _, .inl ⟨he, rfl, rfl⟩⟩
  · refine hK _ ?_
    clear hK K
    have hlen := hp.length_eq
    rw [List.length_map] at hlen
    refine AW.rseq (fid := f) (mt := []) [3] rfl fun K hK => ?_
    simp only [go_sem, reduceIte, Nat.reduceEqDiff, Int.reduceLE]
    refine w45 hget_0 (by omega) ?_
    simp only [go_sem, reduceIte, Nat.reduceEqDiff, Int.reduceLE]
    refine hK _ ?_
    clear hK K
    refine AW.rseq (fid := f) (mt := []) [2] rfl fun K hK => ?_
    simp only [go_sem, reduceIte, Nat.reduceEqDiff, Int.reduceLE]
    refine hK _ ?_
    clear hK K
    refine AW.ret ⟨.inr rfl, ?_⟩
    simp only [go_sem, reduceIte, Nat.reduceEqDiff]
    exact ⟨_, _, Conv.refl _ _, .inr ⟨id, av, by rintro rfl; exact hln (List.eq_nil_of_length_eq_zero hlen), by rw [hlen], by rw [sortS_perm hp]⟩⟩

theorem w82 {id ver : Nat} {H : Heap} {K : HV → Heap → Prop} (hK : K (.fn (.func 56) [] [.fptr [.mp id ver] 0]) H) : ACall Tryz.prog 36 [.mp id ver] H K := by
  refine ACall.of_body Tryz.func36 rfl rfl (Nat.le_of_ble_eq_true rfl) ?_
  unfold Tryz.f36
  dsimp only [enumS, Nat.reduceAdd]
  refine AW.rseq (fid := 82) (mt := []) [1] rfl fun K1 hK1 => ?_
  simp only [go_sem, reduceIte, Nat.reduceEqDiff, Int.reduceLE, HV.one]
  refine hK1 _ ?_
  clear hK1 K1
  refine AW.rseq (fid := 82) (mt := []) [2] rfl fun K1 hK1 => ?_
  simp only [go_sem, reduceIte, Nat.reduceEqDiff, Int.reduceLE]
  refine hK1 _ ?_
  clear hK1 K1
  refine AW.ret ⟨.inr rfl, ?_⟩
  simp only [go_sem, reduceIte, Nat.reduceEqDiff]
  exact ⟨_, _, Conv.refl _ _, hK⟩

def wordsR (stp : List Int → UInt8 → List Int) (cs : List UInt8) (set : List Int) (n : Nat) : HV :=
  if okLvl stp cs set n = true then .tup [strsN (sortS ((lvl stp cs set n).map (·.1))), .int .i64 0] else .tup [nilS, .int .i64 4]

theorem clean_wordsR (stp : List Int → UInt8 → List Int) (cs : List UInt8) (set : List Int) (n : Nat) : clean (wordsR stp cs set n) := by
  unfold wordsR strsN
  split
  · split
    · exact ⟨trivial, trivial, trivial⟩
    · exact ⟨clean_strs _, trivial, trivial⟩
  · exact ⟨trivial, trivial, trivial⟩

set_option maxHeartbeats 1000000 in
theorem w36 {L n : Nat} {gS gE : HV} {stp : List Int → UInt8 → List Int} {set : List Int} {A : List Int → Prop} (hL : L ≤ 16) (h1g : gS.one = true) (h1e : gE.one = true) (hA0 : A set) (hA : ∀ a c, A a → c ∈ letters.take L → A (stp a c))
    (hstep : ∀ a c, A a → c ∈ letters.take L → Pure Tryz.prog 53 [.agg [num L, gS, gE], ints a, .int .u8 c.toNat] (· = ints (stp a c))) (h78 : Pure Tryz.prog 32 [.agg [num L, gS, gE], num n] (· = .int .i64 0)) (h80 : Pure Tryz.prog 34 [.agg [num L, gS, gE]] (· = ints set)) :
    Fresh Tryz.prog 10 [.agg [num L, gS, gE], num n] (wordsR stp (letters.take L) set n) := by
  refine Fresh.of_body 2 Tryz.func10 rfl rfl (Nat.le_of_ble_eq_true rfl) (clean_wordsR _ _ _ _) fun hf => ?_
  have h79 := w79 (n := n) hL h1g h1e hA0 hA hstep
  unfold Tryz.f10
  dsimp only [enumS, Nat.reduceAdd]
  simp only [num] at h78 h80 h79 ⊢
  refine AW.rseq (fid := 36) (mt := []) [1, 2] rfl fun K hK => ?_
  simp only [go_sem, reduceIte, Nat.reduceEqDiff, Int.reduceLE]
  refine hK _ ?_
  clear hK K
  refine AW.seq ?_
  refine AW.rseq (fid := 36) (mt := []) [1, 2, 6] rfl fun K hK => ?_
  simp only [go_sem, reduceIte, Nat.reduceEqDiff, Int.reduceLE, List.length_nil, List.length_cons, Nat.reduceAdd, Nat.reduceLeDiff, List.drop_zero, List.take_succ_cons, List.take_zero]
  refine h78.use fun r hr => ?_
  subst hr
  refine hK _ ?_
  clear hK K
  refine AW.rseq (fid := 36) (mt := []) [1, 2, 6, 13] rfl fun K hK => ?_
  simp only [go_sem, reduceIte, Nat.reduceEqDiff, Int.reduceLE]
  refine hK _ ?_
  clear hK K
  refine AW.cond rfl (fun hc => by simp at hc) (fun _ => ?_)
  refine AW.skip ?_
  refine AW.seq (AW.any follows ?_)
  refine AnyAt.steady (q := 0) 4 (AnyAt _ _ _ _ _ 4) rfl rfl (by decide) (by decide) rfl rfl (fun _ h => h) ?_
  dsimp only [List.take, List.drop, Nat.sub_zero]
  simp only [go_sem, reduceIte, Nat.reduceEqDiff, Int.reduceLE, List.length_nil, List.length_cons, Nat.reduceAdd, Nat.reduceLeDiff, List.drop_zero, List.take_succ_cons, List.take_zero]
  refine ⟨_, ACallD.pure0 h80, ?_⟩
  refine AnyAt.op rfl (by decide) rfl (AOpI.plain rfl rfl (aop_sound (fid := 36) (mt := []) rfl ?_))
  dsimp only [List.getElem_toArray, List.getElem_cons_succ, List.getElem_cons_zero]
  simp only [go_sem, ints, reduceIte, Nat.reduceEqDiff, Int.reduceLE, List.length_nil, List.length_cons, Nat.reduceAdd, Nat.reduceLeDiff, List.drop_zero, List.take_succ_cons, List.take_zero, List.getElem?_cons_zero, List.getElem?_cons_succ]
  simp only [ints] at h79
  refine h79.mono ?_
  rintro r H' (⟨hok, id, ver, es, rfl, rfl, hes⟩ | ⟨j, h1, h2, h3, rfl, rfl⟩)
  · have hok' := okLvl_iff.2 hok
    refine AnyAt.steady (q := 5) 10 (AnyAt _ _ _ _ _ 10) rfl rfl (by decide) (by decide) rfl rfl (fun _ h => h) ?_
    dsimp only [Nat.reduceSub, List.take, List.drop]
    simp only [go_sem, reduceIte, Nat.reduceEqDiff, Int.reduceLE, Nat.reduceSub, List.length_nil, List.length_cons, Nat.reduceAdd, Nat.reduceLeDiff, List.drop_zero, List.take_succ_cons, List.take_zero, List.getElem?_cons_zero, List.getElem?_cons_succ]
    refine AnyAt.done rfl ?_
    refine AW.seq ?_
    refine AW.rseq (fid := 36) (mt := []) [7, 24] rfl fun K hK => ?_
    simp only [go_sem, reduceIte, Nat.reduceEqDiff, Int.reduceLE]
    refine hK _ ?_
    clear hK K
    refine AW.cond rfl (fun hc => by simp at hc) (fun _ => ?_)
    refine AW.skip ?_
    refine AW.rseq (fid := 36) (mt := []) [4, 5] rfl fun K hK => ?_
    simp only [go_sem, reduceIte, Nat.reduceEqDiff, Int.reduceLE]
    refine w82 ?_
    have hkn : (es.map (·.1)).Nodup := perm_keys hes (lvl_keys (letters_nodup.sublist (List.take_sublist _ _)) n)
    have hlen : es.length = (lvl stp (letters.take L) set n).length := by rw [hes.length_eq, List.length_map]
    have hbig : es.length ≤ 1099511627776 := by
      rw [hlen]
      cases n with
      | zero => simp only [lvl]; split <;> simp
      | succ n => have := hok (n + 1) (by omega) (Nat.le_refl _); omega
    have hsk : sortS (es.map (·.1)) = sortS ((lvl stp (letters.take L) set n).map (·.1)) := by
      refine sortS_perm ?_
      have := hes.map (·.1)
      rw [List.map_map] at this
      exact this
    refine (w81 (f := id + 1) hkn hbig (by omega) (by omega) (by omega) (by omega)).mono ?_
    rintro r H' (⟨he, rfl, rfl⟩ | ⟨id', av, hen, rfl, rfl⟩)
    · refine hK _ ?_
      clear hK K
      refine AW.ret ⟨.inr rfl, ?_⟩
      simp only [go_sem, reduceIte, Nat.reduceEqDiff]
      have hl0 : lvl stp (letters.take L) set n = [] := List.eq_nil_of_length_eq_zero (by rw [← hlen, he]; rfl)
      refine ⟨_, _, Conv.refl _ _, rfl, rfl, ?_⟩
      simp only [wordsR, hok', if_true, hl0, List.map_nil, sortS, List.mergeSort_nil, strsN, frz, List.map_cons]
      rfl
    · refine hK _ ?_
      clear hK K
      refine AW.ret ⟨.inr rfl, ?_⟩
      simp only [go_sem, reduceIte, Nat.reduceEqDiff]
      refine ⟨_, _, Conv.refl _ _, rfl, ?_, ?_⟩
      · simp only [nfH, nfO, Bool.and_true]
        have : ∀ l : List (List UInt8), nfL (l.map HV.str) = true := fun l => by
          induction l with
          | nil => rfl
          | cons a l ih => simp only [List.map_cons, nfL, nf, ih, Bool.and_self]
        exact this _
      · have hne : sortS ((lvl stp (letters.take L) set n).map (·.1)) ≠ [] := by
          intro h0
          have h1 := congrArg List.length h0
          rw [sortS_len, List.length_map, ← hlen] at h1
          exact hen (List.eq_nil_of_length_eq_zero h1)
        have hll : (sortS (es.map (·.1))).length = es.length := by rw [sortS_len, List.length_map]
        have hfr : frz 2 [(id', av, AObj.arr 1 9 ((sortS (es.map (·.1))).map HV.str))] (.tup [.ar id' av 1 0 es.length, .int .i64 0]) = .tup [.sl 1 es.length ((sortS (es.map (·.1))).map HV.str), .int .i64 0] := by
          have h5 : ((sortS (es.map (·.1))).map HV.str).length = es.length := by rw [List.length_map, hll]
          simp only [frz, List.map_cons, List.map_nil, hget_0, Nat.zero_add, Nat.mul_one, h5, Nat.le_refl, and_self, if_true, List.drop_zero]
          rw [← h5, List.take_length]
          rw [List.map_id']
        refine hfr.trans ?_
        rw [hsk] at hll ⊢
        simp only [wordsR, hok', if_true, strsN, if_neg hne, strs]
        rw [hll]
  · have hok' : ¬ okLvl stp (letters.take L) set n = true := fun h => by
      have := okLvl_iff.1 h j h1 h2
      omega
    refine AnyAt.steady (q := 5) 10 (AnyAt _ _ _ _ _ 10) rfl rfl (by decide) (by decide) rfl rfl (fun _ h => h) ?_
    dsimp only [Nat.reduceSub, List.take, List.drop]
    simp only [go_sem, reduceIte, Nat.reduceEqDiff, Int.reduceLE, Nat.reduceSub, List.length_nil, List.length_cons, Nat.reduceAdd, Nat.reduceLeDiff, List.drop_zero, List.take_succ_cons, List.take_zero, List.getElem?_cons_zero, List.getElem?_cons_succ]
    refine AnyAt.done rfl ?_
    refine AW.seq ?_
    refine AW.rseq (fid := 36) (mt := []) [7, 24] rfl fun K hK => ?_
    simp only [go_sem, reduceIte, Nat.reduceEqDiff, Int.reduceLE]
    refine hK _ ?_
    clear hK K
    refine AW.cond rfl (fun _ => ?_) (fun hc => by simp at hc)
    refine AW.rseq (fid := 36) (mt := []) [4, 5] rfl fun K hK => ?_
    simp only [go_sem, reduceIte, Nat.reduceEqDiff, Int.reduceLE]
    refine hK _ ?_
    clear hK K
    refine AW.ret ⟨.inr rfl, ?_⟩
    simp only [go_sem, reduceIte, Nat.reduceEqDiff]
    refine ⟨_, _, Conv.refl _ _, rfl, rfl, ?_⟩
    simp only [wordsR, if_neg hok', frz, List.map_cons]
    rfl
end Go.AW

/- Laws of the loops of models. -/
namespace Go.AW
open Go

theorem loopN {S X : Type} {body : S → Option (Stp S X)} {Q : X → Prop} (n : Nat) (I : Nat → S → Prop)
    (step : ∀ i s, i < n → I i s → (∃ s', body s = some (.next s') ∧ I (i + 1) s') ∨ ∃ x, body s = some (.exit x) ∧ Q x) (fin : ∀ s, I n s → ∃ x, body s = some (.exit x) ∧ Q x) :
    ∀ (k : Nat) (s : S), k ≤ n → I k s → ∃ x, loopW body s = some x ∧ Q x := by
  intro k s hk h
  obtain ⟨d, rfl⟩ : ∃ d, n = k + d := ⟨n - k, by omega⟩
  induction d generalizing k s with
  | zero =>
    obtain ⟨x, h1, h2⟩ := fin s h
    exact ⟨x, loopW_exit h1, h2⟩
  | succ d ih =>
    rcases step k s (by omega) h with ⟨s', h1, h2⟩ | ⟨x, h1, h2⟩
    · have e : k + (d + 1) = (k + 1) + d := by omega
      rw [e] at step fin
      obtain ⟨x, h3, h4⟩ := ih (k + 1) s' h2 step fin (by omega)
      exact ⟨x, by rw [loopW_next h1]; exact h3, h4⟩
    · exact ⟨x, loopW_exit h1, h2⟩

theorem loop_any {S X : Type} {body : S → Option (Stp S X)} (st : Nat → S) (n : Nat) (p : Nat → Bool) (xr xf : X) (h : ∀ i, i < n → body (st i) = if p i = true then some (.exit xr) else some (.next (st (i + 1)))) (hf : body (st n) = some (.exit xf)) {s0 : S} (hs0 : s0 = st 0) :
    loopW body s0 = some (if (List.range n).any p = true then xr else xf) := by
  subst hs0
  obtain ⟨x, hx, hq⟩ := loopN (body := body) (Q := fun x => x = if (List.range n).any p = true then xr else xf) n (fun i s => s = st i ∧ (List.range i).any p = false) (fun i s hi ⟨hs, ha⟩ => by
    subst hs
    rw [h i hi]
    by_cases hp : p i = true
    · refine .inr ⟨xr, by rw [if_pos hp], ?_⟩
      rw [if_pos]
      exact List.any_eq_true.2 ⟨i, List.mem_range.2 hi, hp⟩
    · refine .inl ⟨_, by rw [if_neg hp], rfl, ?_⟩
      rw [List.range_succ, List.any_append, ha]
      simpa using hp) (fun s ⟨hs, ha⟩ => by subst hs; exact ⟨xf, hf, by rw [if_neg]; rw [ha]; simp⟩) 0 (st 0) (Nat.zero_le _) ⟨rfl, rfl⟩
  rw [hx, hq]

theorem loop_is {S X : Type} {body : S → Option (Stp S X)} (st : Nat → S) (n : Nat) (x : X) (h : ∀ i, i < n → body (st i) = some (.next (st (i + 1)))) (hf : body (st n) = some (.exit x)) {s0 : S} (hs0 : s0 = st 0) : loopW body s0 = some x := by
  subst hs0
  obtain ⟨y, hy, hq⟩ := loopN (body := body) (Q := fun y => y = x) n (fun i s => s = st i) (fun i s hi hs => by subst hs; exact .inl ⟨_, h i hi, rfl⟩) (fun s hs => by subst hs; exact ⟨x, hf, rfl⟩) 0 (st 0) (Nat.zero_le _) rfl
  rw [hy, hq]

theorem bindL {X R : Type} {o : Option X} {x : X} {M : X → Option R} {r : Option R} (h : o = some x) (k : M x = r) : o.bind M = r := by rw [h]; exact k
theorem lpL {V R Y : Type} {o : Option (Ou V R)} {x : Ou V R} {M : V → Option Y} {Rt : R → Option Y} {r : Option Y} (h : o = some x) (k : lpO (some x) M Rt = r) : lpO o M Rt = r := by rw [h]; exact k

theorem nx {i n : Nat} (hn : n ≤ 9223372036854775807) (h : i < n) : IntKind.wrap .i64 ((i : Int) + 1) = ((i + 1 : Nat) : Int) := by
  rw [w64 (by omega) (by omega)]; omega
theorem ix {α : Type} {l : List α} {i : Nat} (h : i < l.length) : idx l (i : Int) = some l[i] := by rw [idx_nat, List.getElem?_eq_getElem h]
theorem lt_int {i n : Nat} (h : i < n) : (i : Int) < (n : Int) := by omega
theorem not_lt_int (n : Nat) : ¬ (n : Int) < (n : Int) := by omega
end Go.AW

/- Structs of the program, and what the functions of the library that are not printed compute. -/
namespace Go.AW
open Go
abbrev TFromLabelTo := Int × Int × Int
abbrev cFromLabelTo (x : TFromLabelTo) : List HV := [HV.int .i64 x.1, HV.int .i64 x.2.1, HV.int .i64 x.2.2]
abbrev eFromLabelTo : EncL TFromLabelTo := encF 3 cFromLabelTo (fun _ => rfl)
abbrev TLabelsStatesEdges := Int × Int × (List (TFromLabelTo))
abbrev compact_ (l : List Int) : List Int := Lib.compact l
theorem compact_le (l : List Int) : (compact_ l).length ≤ l.length := by
  show (Lib.compactUpTo l.toArray l.length).length ≤ l.length
  unfold Lib.compactUpTo
  rw [List.length_map]
  exact Nat.le_trans (List.length_filter_le _ _) (by simp)
theorem compact_mem {l : List Int} {x : Int} (h : x ∈ compact_ l) : x ∈ l := by
  have h : x ∈ Lib.compactUpTo l.toArray l.length := h
  unfold Lib.compactUpTo at h
  obtain ⟨j, hj, rfl⟩ := List.mem_map.1 h
  have hj := List.mem_range.1 (List.mem_filter.1 hj).1
  have : l.toArray[j]! = l[j] := by simp [hj]
  rw [this]
  exact List.getElem_mem hj
noncomputable def m_strings_IndexByte (l : List UInt8) (c : Int) : Option Int := some (Lib.indexByte l c.toNat.toUInt8)
def leaveL (es : List TFromLabelTo) (s : Int) : List (Int × TFromLabelTo) := (es.zipIdx.filter fun p => decide (p.1.1 = s)).map fun p => ((p.2 : Int), p.1)
theorem leaveL_take (es : List TFromLabelTo) (s : Int) {i : Nat} (h : i < es.length) : leaveL (es.take (i + 1)) s = leaveL (es.take i) s ++ if es[i].1 = s then [((i : Int), es[i])] else [] := by
  have e : es.take (i + 1) = es.take i ++ [es[i]] := by rw [List.take_add_one, List.getElem?_eq_getElem h]; rfl
  rw [e]
  simp only [leaveL, List.zipIdx_append, List.filter_append, List.map_append, List.length_take, Nat.min_eq_left (Nat.le_of_lt h), Nat.zero_add]
  congr 1
  by_cases hs : es[i].1 = s <;> simp [List.zipIdx_cons, hs]
theorem leaveL_split (es : List TFromLabelTo) (s : Int) : ∀ (i : Nat), ∃ rest, leaveL es s = leaveL (es.take i) s ++ rest := fun i => by
  refine ⟨((es.drop i).zipIdx (es.take i).length |>.filter fun p => decide (p.1.1 = s)).map fun p => ((p.2 : Int), p.1), ?_⟩
  conv => lhs; rw [← List.take_append_drop i es]
  simp only [leaveL, List.zipIdx_append, List.filter_append, List.map_append, Nat.zero_add]
def y_graph_leaving (g : TLabelsStatesEdges) (s : Int) : Option (List (Int × TFromLabelTo)) := if g.2.2.length ≤ 9223372036854775807 then some (leaveL g.2.2 s) else none
end Go.AW

/- Models, printed by lk.py. -/
namespace Go.AW
open Go
set_option linter.unusedVariables false
abbrev TWordEnds := (List UInt8) × (List (Int))
noncomputable def m_graph_list (p0 : TFromLabelTo) : Option ((List (Int))) :=
  some [p0.1, p0.2.1, p0.2.2]

noncomputable def m_cmp_isNaN_int (p0 : Int) : Option (Bool) :=
  some (decide (p0 ≠ p0))

noncomputable def m_cmp_Compare_int (p0 : Int) (p1 : Int) : Option (Int) :=
  (m_cmp_isNaN_int p0).bind fun x1 =>
  (m_cmp_isNaN_int p1).bind fun x3 =>
  if x1 = true then
    if x3 = true then
      some 0
    else
      some (-1)
  else
    if x3 = true then
      some 1
    else
      if p0 < p1 then
        some (-1)
      else
        if p1 < p0 then
          some 1
        else
          some 0

noncomputable def m_slices_Compare_Lint_int (p0 : List (Int)) (p1 : List (Int)) : Option (Int) :=
  lpO (loopW (S := Int) (X := Ou (Unit) (Int)) (fun a1 =>
      if a1 < ((p0).length : Int) then
        (idx p0 a1).bind fun x5 =>
        if ((p1).length : Int) ≤ a1 then
          some (Stp.exit (Ou.ret 1))
        else
          (idx p1 a1).bind fun x7 =>
          (m_cmp_Compare_int x5 x7).bind fun x9 =>
          if x9 ≠ 0 then
            some (Stp.exit (Ou.ret x9))
          else
            some (Stp.next (IntKind.wrap .i64 (a1 + 1)))
      else
        some (Stp.exit (Ou.go ()))) 0) (fun a11 =>
      if ((p0).length : Int) < ((p1).length : Int) then
        some (-1)
      else
        some 0) some

noncomputable def m_graph_by_api_Edge_1 (p0 : TFromLabelTo) (p1 : TFromLabelTo) : Option (Int) :=
  (m_graph_list p0).bind fun x1 =>
  (m_graph_list p1).bind fun x3 =>
  (m_slices_Compare_Lint_int x1 x3).bind fun x5 =>
  some x5

noncomputable def m_graph_Check (p0 : TLabelsStatesEdges) : Option (Int) :=
  jp (fun (a1 : Bool) =>
    if a1 = true then
      some 12
    else
      if p0.2.1 < 0 then
        some 2
      else
        jp (fun (a4 : Bool) =>
          if a4 = true then
            some 4
          else
            lpO (loopW (S := Int) (X := Ou (Unit) (Int)) (fun a7 =>
                if a7 < ((p0.2.2).length : Int) then
                  (idx p0.2.2 a7).bind fun x11 =>
                  jp (fun (a14 : Bool) =>
                    if a14 = true then
                      some (Stp.exit (Ou.ret 2))
                    else
                      jp (fun (a17 : Bool) =>
                        if a17 = true then
                          some (Stp.exit (Ou.ret 10))
                        else
                          some (Stp.next (IntKind.wrap .i64 (a7 + 1))))
                        fun k19 =>
                        if 0 < a7 then
                          (idx p0.2.2 (IntKind.wrap .i64 (a7 - 1))).bind fun x20 =>
                          (m_graph_by_api_Edge_1 x20 x11).bind fun x22 =>
                          k19 (decide (0 ≤ x22))
                        else
                          k19 false)
                    fun k16 =>
                    if (min (min x11.1 x11.2.1) x11.2.2) < 0 then
                      k16 true
                    else
                      if p0.2.1 ≤ (max x11.1 x11.2.2) then
                        k16 true
                      else
                        k16 (decide (p0.1 ≤ x11.2.1))
                else
                  some (Stp.exit (Ou.go ()))) 0) (fun a27 =>
                some 0) some)
          fun k6 =>
          if 64 < p0.2.1 then
            k6 true
          else
            k6 (decide (1024 < ((p0.2.2).length : Int))))
    fun k3 =>
    if p0.1 < 1 then
      k3 true
    else
      k3 (decide (256 < p0.1))

noncomputable def m_graph_checkSet (p0 : TLabelsStatesEdges) (p1 : List (Int)) : Option (Int) :=
  lpO (loopW (S := Int) (X := Ou (Unit) (Int)) (fun a1 =>
      if a1 < ((p1).length : Int) then
        (idx p1 a1).bind fun x5 =>
        jp (fun (a7 : Bool) =>
          if a7 = true then
            some (Stp.exit (Ou.ret 25))
          else
            jp (fun (a10 : Bool) =>
              if a10 = true then
                some (Stp.exit (Ou.ret 10))
              else
                some (Stp.next (IntKind.wrap .i64 (a1 + 1))))
              fun k12 =>
              if 0 < a1 then
                (idx p1 (IntKind.wrap .i64 (a1 - 1))).bind fun x13 =>
                k12 (decide (x5 ≤ x13))
              else
                k12 false)
          fun k9 =>
          if x5 < 0 then
            k9 true
          else
            k9 (decide (p0.2.1 ≤ x5))
      else
        some (Stp.exit (Ou.go ()))) 0) (fun a17 =>
      some 0) some

noncomputable def m_graph_Step (p0 : TLabelsStatesEdges) (p1 : List (Int)) (p2 : Int) : Option ((List (Int)) × Int) :=
  (m_graph_Check p0).bind fun x1 =>
  if x1 ≠ 0 then
    some ([], 1)
  else
    (m_graph_checkSet p0 p1).bind fun x3 =>
    if x3 ≠ 0 then
      some ([], x3)
    else
      jp (fun (a5 : Bool) =>
        if a5 = true then
          some ([], 2)
        else
          (loopW (S := Int × (List Int)) (X := (List Int)) (fun a9 =>
              if a9.1 < ((p1).length : Int) then
                (idx p1 a9.1).bind fun x13 =>
                (y_graph_leaving p0 x13).bind fun L15 =>
                lpO (forL (S := (List Int)) (X := Unit) (fun a17 (x19 : Int × TFromLabelTo) =>
                    if x19.2.2.1 = p2 then
                      if fits 8 ((a17 : List Int).length + ([x19.2.2.2]).length) then
                        some (Stp.next (a17 ++ [x19.2.2.2]))
                      else none
                    else
                      some (Stp.next a17)) L15 a9.2) (fun a26 =>
                    some (Stp.next (IntKind.wrap .i64 (a9.1 + 1), a26))) fun a28 =>
                    none
              else
                some (Stp.exit a9.2)) (0, ([] : List Int))).bind fun a31 =>
          if (a31).length < 4611686018427387904 then
            some (compact_ (sortI a31), 0)
          else none)
        fun k7 =>
        if p2 < 0 then
          k7 true
        else
          k7 (decide (p0.1 ≤ p2))

noncomputable def m_ref09_Compare (p0 : TFromLabelTo) (p1 : TFromLabelTo) : Option (Int) :=
  lpO (loopW (S := Int) (X := Ou (Unit) (Int)) (fun a1 =>
      if a1 < 3 then
        (idx [p0.1, p0.2.1, p0.2.2] a1).bind fun x5 =>
        (idx [p1.1, p1.2.1, p1.2.2] a1).bind fun x7 =>
        if x5 < x7 then
          some (Stp.exit (Ou.ret (-1)))
        else
          (idx [p0.1, p0.2.1, p0.2.2] a1).bind fun x9 =>
          (idx [p1.1, p1.2.1, p1.2.2] a1).bind fun x11 =>
          if x11 < x9 then
            some (Stp.exit (Ou.ret 1))
          else
            some (Stp.next (IntKind.wrap .i64 (a1 + 1)))
      else
        some (Stp.exit (Ou.go ()))) 0) (fun a13 =>
      some 0) some

noncomputable def m_ref09_Check (p0 : TLabelsStatesEdges) : Option (Int) :=
  jp (fun (a1 : Bool) =>
    if a1 = true then
      some 12
    else
      if p0.2.1 < 0 then
        some 2
      else
        jp (fun (a4 : Bool) =>
          if a4 = true then
            some 4
          else
            lpO (loopW (S := Int) (X := Ou (Unit) (Int)) (fun a7 =>
                if a7 < ((p0.2.2).length : Int) then
                  (idx p0.2.2 a7).bind fun x11 =>
                  jp (fun (a14 : Bool) =>
                    if a14 = true then
                      some (Stp.exit (Ou.ret 2))
                    else
                      jp (fun (a17 : Bool) =>
                        if a17 = true then
                          some (Stp.exit (Ou.ret 10))
                        else
                          some (Stp.next (IntKind.wrap .i64 (a7 + 1))))
                        fun k19 =>
                        if 0 < a7 then
                          (idx p0.2.2 (IntKind.wrap .i64 (a7 - 1))).bind fun x20 =>
                          (m_ref09_Compare x20 x11).bind fun x22 =>
                          k19 (decide (0 ≤ x22))
                        else
                          k19 false)
                    fun k16 =>
                    if x11.1 < 0 then
                      k16 true
                    else
                      if p0.2.1 ≤ x11.1 then
                        k16 true
                      else
                        if x11.2.2 < 0 then
                          k16 true
                        else
                          if p0.2.1 ≤ x11.2.2 then
                            k16 true
                          else
                            if x11.2.1 < 0 then
                              k16 true
                            else
                              k16 (decide (p0.1 ≤ x11.2.1))
                else
                  some (Stp.exit (Ou.go ()))) 0) (fun a30 =>
                some 0) some)
          fun k6 =>
          if 64 < p0.2.1 then
            k6 true
          else
            k6 (decide (1024 < ((p0.2.2).length : Int))))
    fun k3 =>
    if p0.1 < 1 then
      k3 true
    else
      k3 (decide (256 < p0.1))

noncomputable def m_ref11_check (p0 : TLabelsStatesEdges) : Option (Int) :=
  (m_ref09_Check p0).bind fun x1 =>
  if x1 ≠ 0 then
    some 1
  else
    if 16 < p0.1 then
      some 12
    else
      some 0

noncomputable def m_ref11_checkNumber (p0 : TLabelsStatesEdges) (p1 : Int) : Option (Int) :=
  (m_ref11_check p0).bind fun x1 =>
  if x1 ≠ 0 then
    some x1
  else
    jp (fun (a3 : Bool) =>
      if a3 = true then
        some 2
      else
        some 0)
      fun k5 =>
      if p1 < 0 then
        k5 true
      else
        k5 (decide (4096 < p1))

noncomputable def m_ref11_has (p0 : List (Int)) (p1 : Int) : Option (Bool) :=
  lpO (loopW (S := Int) (X := Ou (Unit) (Bool)) (fun a1 =>
      if a1 < ((p0).length : Int) then
        (idx p0 a1).bind fun x5 =>
        if x5 = p1 then
          some (Stp.exit (Ou.ret true))
        else
          some (Stp.next (IntKind.wrap .i64 (a1 + 1)))
      else
        some (Stp.exit (Ou.go ()))) 0) (fun a7 =>
      some false) some

noncomputable def m_ref11_Step (p0 : TLabelsStatesEdges) (p1 : List (Int)) (p2 : Int) : Option ((List (Int))) :=
  (loopW (S := Int × (List Int)) (X := (List Int)) (fun a2 =>
      if a2.1 < p0.2.1 then
        jp (fun (a6 : (List Int)) =>
          some (Stp.next (IntKind.wrap .i64 (a2.1 + 1), a6)))
          fun k8 =>
          (loopW (S := Bool × Int) (X := Bool) (fun a9 =>
              if a9.2 < ((p0.2.2).length : Int) then
                jp (fun (a13 : Bool) =>
                  some (Stp.next (a13, IntKind.wrap .i64 (a9.2 + 1))))
                  fun k15 =>
                  jp (fun (a16 : Bool) =>
                    if a16 = true then
                      k15 true
                    else
                      k15 a9.1)
                    fun k18 =>
                    (idx p0.2.2 a9.2).bind fun x19 =>
                    if x19.2.2 = a2.1 then
                      (idx p0.2.2 a9.2).bind fun x21 =>
                      if x21.2.1 = p2 then
                        (idx p0.2.2 a9.2).bind fun x23 =>
                        (m_ref11_has p1 x23.1).bind fun x25 =>
                        k18 x25
                      else
                        k18 false
                    else
                      k18 false
              else
                some (Stp.exit a9.1)) (false, 0)).bind fun a29 =>
          if a29 = true then
            if fits 8 ((a2.2 : List Int).length + ([a2.1]).length) then
              k8 (a2.2 ++ [a2.1])
            else none
          else
            k8 a2.2
      else
        some (Stp.exit a2.2)) (0, [])).bind fun a33 =>
  some a33

noncomputable def m_ref11_grow (p0 : TLabelsStatesEdges) (p1 : List (TWordEnds)) : Option ((List (TWordEnds))) :=
  (loopW (S := Int × (List TWordEnds)) (X := (List TWordEnds)) (fun a2 =>
      if a2.1 < ((p1).length : Int) then
        (loopW (S := Int × (List TWordEnds)) (X := (List TWordEnds)) (fun a6 =>
            if a6.1 < p0.1 then
              jp (fun (a10 : (List TWordEnds)) =>
                some (Stp.next (IntKind.wrap .i64 (a6.1 + 1), a10)))
                fun k12 =>
                (idx p1 a2.1).bind fun x13 =>
                (m_ref11_Step p0 x13.2 a6.1).bind fun x15 =>
                if 0 < ((x15).length : Int) then
                  (idx p1 a2.1).bind fun x17 =>
                  if 0 ≤ (a6.1 : Int) ∧ (a6.1 : Int) ≤ IntKind.wrap .i64 (a6.1 + 1) ∧ IntKind.wrap .i64 (a6.1 + 1) ≤ (([48, 49, 50, 51, 52, 53, 54, 55, 56, 57, 97, 98, 99, 100, 101, 102] : List UInt8).length : Int) then
                    if x17.1.length + ((([48, 49, 50, 51, 52, 53, 54, 55, 56, 57, 97, 98, 99, 100, 101, 102] : List UInt8).take (IntKind.wrap .i64 (a6.1 + 1)).toNat).drop (a6.1).toNat).length ≤ maxLen then
                      if fits 40 ((a6.2 : List TWordEnds).length + ([(x17.1 ++ ((([48, 49, 50, 51, 52, 53, 54, 55, 56, 57, 97, 98, 99, 100, 101, 102] : List UInt8).take (IntKind.wrap .i64 (a6.1 + 1)).toNat).drop (a6.1).toNat), x15)]).length) then
                        k12 (a6.2 ++ [(x17.1 ++ ((([48, 49, 50, 51, 52, 53, 54, 55, 56, 57, 97, 98, 99, 100, 101, 102] : List UInt8).take (IntKind.wrap .i64 (a6.1 + 1)).toNat).drop (a6.1).toNat), x15)])
                      else none
                    else none
                  else none
                else
                  k12 a6.2
            else
              some (Stp.exit a6.2)) (0, a2.2)).bind fun a23 =>
        some (Stp.next (IntKind.wrap .i64 (a2.1 + 1), a23))
      else
        some (Stp.exit a2.2)) (0, [])).bind fun a25 =>
  some a25

noncomputable def m_ref11_words (p0 : TLabelsStatesEdges) (p1 : List (Int)) (p2 : Int) : Option ((List (TWordEnds)) × Int) :=
  jp (fun (a2 : (List TWordEnds)) =>
    lpO (loopW (S := (List TWordEnds) × Int) (X := Ou ((List TWordEnds)) ((List (TWordEnds)) × Int)) (fun a5 =>
        jp (fun (a9 : Bool) =>
          if a9 = true then
            (m_ref11_grow p0 a5.1).bind fun x12 =>
            if 4096 < ((x12).length : Int) then
              some (Stp.exit (Ou.ret ([], 4)))
            else
              some (Stp.next (x12, IntKind.wrap .i64 (a5.2 + 1)))
          else
            some (Stp.exit (Ou.go a5.1)))
          fun k11 =>
          if a5.2 < p2 then
            k11 (decide (0 < ((a5.1).length : Int)))
          else
            k11 false) (a2, 0)) (fun a15 =>
        some (a15, 0)) some)
    fun k4 =>
    if 0 < ((p1).length : Int) then
      if fits 40 (([] : List TWordEnds).length + ([(([] : List UInt8), p1)]).length) then
        k4 (([] : List TWordEnds) ++ [(([] : List UInt8), p1)])
      else none
    else
      k4 []

noncomputable def m_ref11_All (p0 : TLabelsStatesEdges) : Option ((List (Int))) :=
  (loopW (S := Int × (List Int)) (X := (List Int)) (fun a2 =>
      if a2.1 < p0.2.1 then
        if fits 8 ((a2.2 : List Int).length + ([a2.1]).length) then
          some (Stp.next (IntKind.wrap .i64 (a2.1 + 1), a2.2 ++ [a2.1]))
        else none
      else
        some (Stp.exit a2.2)) (0, [])).bind fun a8 =>
  some a8

noncomputable def m_ref11_texts (p0 : List (TWordEnds)) : Option ((List (List UInt8))) :=
  (loopW (S := Int × (List (List UInt8))) (X := (List (List UInt8))) (fun a2 =>
      if a2.1 < ((p0).length : Int) then
        (idx p0 a2.1).bind fun x6 =>
        if fits 16 ((a2.2 : List (List UInt8)).length + ([x6.1]).length) then
          some (Stp.next (IntKind.wrap .i64 (a2.1 + 1), a2.2 ++ [x6.1]))
        else none
      else
        some (Stp.exit a2.2)) (0, [])).bind fun a10 =>
  some a10

noncomputable def m_ref11_Words (p0 : TLabelsStatesEdges) (p1 : Int) : Option ((List (List UInt8)) × Int) :=
  (m_ref11_checkNumber p0 p1).bind fun x1 =>
  if x1 ≠ 0 then
    some ([], x1)
  else
    (m_ref11_All p0).bind fun x3 =>
    (m_ref11_words p0 x3 p1).bind fun x5 =>
    if x5.2 ≠ 0 then
      some ([], x5.2)
    else
      (m_ref11_texts x5.1).bind fun x7 =>
      some (x7, 0)

noncomputable def m_language_step (p0 : TLabelsStatesEdges) (p1 : List (Int)) (p2 : Int) : Option ((List (Int))) :=
  (m_strings_IndexByte [48, 49, 50, 51, 52, 53, 54, 55, 56, 57, 97, 98, 99, 100, 101, 102] p2).bind fun x1 =>
  (m_graph_Step p0 p1 x1).bind fun x3 =>
  some x3.1

noncomputable def m_language_states (p0 : TLabelsStatesEdges) : Option ((List (Int))) :=
  if 0 ≤ (p0.2.1 : Int) ∧ (p0.2.1 : Int) ≤ p0.2.1 ∧ (p0.2.1 : Int) * 8 ≤ 281474976710656 then
    (loopW (S := Int × (List Int)) (X := (List Int)) (fun a3 =>
        if a3.1 < (((List.replicate (p0.2.1).toNat (0 : Int)).length : Nat) : Int) then
          (idx a3.2 a3.1).bind fun x7 =>
          some (Stp.next (IntKind.wrap .i64 (a3.1 + 1), (a3.2).set (a3.1).toNat a3.1))
        else
          some (Stp.exit a3.2)) (0, List.replicate (p0.2.1).toNat (0 : Int))).bind fun a9 =>
    some a9
  else none

noncomputable def m_language_check (p0 : TLabelsStatesEdges) : Option (Int) :=
  (m_graph_Check p0).bind fun x1 =>
  if x1 ≠ 0 then
    some 1
  else
    if 16 < p0.1 then
      some 12
    else
      some 0

noncomputable def m_language_lengths (p0 : TLabelsStatesEdges) (p1 : Int) : Option (Int) :=
  (m_language_check p0).bind fun x1 =>
  if x1 ≠ 0 then
    some x1
  else
    jp (fun (a3 : Bool) =>
      if a3 = true then
        some 2
      else
        some 0)
      fun k5 =>
      if p1 < 0 then
        k5 true
      else
        k5 (decide (4096 < p1))

noncomputable def m_word_known (p0 : Int) : Option (Bool) :=
  jp (fun (a1 : Bool) =>
    some a1)
    fun k3 =>
    if 1 ≤ p0 then
      k3 (decide (p0 ≤ 16))
    else
      k3 false

noncomputable def m_word_Check (p0 : Int) (p1 : List UInt8) : Option (Int) :=
  (m_word_known p0).bind fun x1 =>
  if (!x1) = true then
    some 12
  else
    if 65536 < ((p1).length : Int) then
      some 4
    else
      lpO (loopW (S := Int) (X := Ou (Unit) (Int)) (fun a3 =>
          if a3 < ((p1).length : Int) then
            if 0 ≤ (0 : Int) ∧ (0 : Int) ≤ p0 ∧ p0 ≤ (([48, 49, 50, 51, 52, 53, 54, 55, 56, 57, 97, 98, 99, 100, 101, 102] : List UInt8).length : Int) then
              (idx p1 a3).bind fun x8 =>
              (m_strings_IndexByte ((([48, 49, 50, 51, 52, 53, 54, 55, 56, 57, 97, 98, 99, 100, 101, 102] : List UInt8).take (p0).toNat).drop (0 : Int).toNat) (x8.toNat : Int)).bind fun x10 =>
              if x10 < 0 then
                some (Stp.exit (Ou.ret 13))
              else
                some (Stp.next (IntKind.wrap .i64 (a3 + 1)))
            else none
          else
            some (Stp.exit (Ou.go ()))) 0) (fun a12 =>
          some 0) some

noncomputable def m_language_spells (p0 : TLabelsStatesEdges) (p1 : List UInt8) : Option (Int) :=
  (m_language_check p0).bind fun x1 =>
  if x1 ≠ 0 then
    some x1
  else
    (m_word_Check p0.1 p1).bind fun x3 =>
    some x3

end Go.AW

/- What language.list computes: the words level by level, each with its ends. -/
namespace Go.AW
open Go
noncomputable def stpM (g : TLabelsStatesEdges) (a : List Int) (c : UInt8) : List Int := (m_language_step g a (c.toNat : Int)).getD []
def StepsOk (g : TLabelsStatesEdges) (set : List Int) : Prop := ∃ A : List Int → Prop, A set ∧ ∀ a c, A a → c ∈ letters.take g.1.toNat → ∃ b, m_language_step g a (c.toNat : Int) = some b ∧ A b
open Classical in
noncomputable def m_language_list (g : TLabelsStatesEdges) (set : List Int) (n : Int) : Option (List WS × Bool) :=
  if 0 ≤ g.1 ∧ g.1 ≤ 16 ∧ 0 ≤ n ∧ StepsOk g set then
    some (if okLvl (stpM g) (letters.take g.1.toNat) set n.toNat = true then (lvl (stpM g) (letters.take g.1.toNat) set n.toNat, true) else ([], false))
  else none
noncomputable def m_language_Words (p0 : TLabelsStatesEdges) (p1 : Int) : Option ((List (List UInt8)) × Int) :=
  (m_language_lengths p0 p1).bind fun x1 =>
  if x1 ≠ 0 then
    some ([], x1)
  else
    (m_language_states p0).bind fun x3 =>
    (m_language_list p0 x3 p1).bind fun x5 =>
    if x5.2 = true then
      some (sortS ((x5.1).map Prod.fst), 0)
    else
      some ([], 4)

end Go.AW

namespace Go.AW
open Go Go.Proofs
theorem fo24_0 : fieldOf Tryz.prog 24 0 = some (0, { desc := TypeDesc.int IntKind.i64, size := 1, bytes := 8, zero := Value.int IntKind.i64 (0) }) := by kernel_rfl
theorem fo24_1 : fieldOf Tryz.prog 24 1 = some (1, { desc := TypeDesc.int IntKind.i64, size := 1, bytes := 8, zero := Value.int IntKind.i64 (0) }) := by kernel_rfl
theorem fo24_2 : fieldOf Tryz.prog 24 2 = some (2, { desc := TypeDesc.slice 44, size := 1, bytes := 24, zero := Value.slice none 0 0 }) := by kernel_rfl
theorem fo44_0 : fieldOf Tryz.prog 44 0 = some (0, { desc := TypeDesc.int IntKind.i64, size := 1, bytes := 8, zero := Value.int IntKind.i64 (0) }) := by kernel_rfl
theorem fo44_1 : fieldOf Tryz.prog 44 1 = some (1, { desc := TypeDesc.int IntKind.i64, size := 1, bytes := 8, zero := Value.int IntKind.i64 (0) }) := by kernel_rfl
theorem fo44_2 : fieldOf Tryz.prog 44 2 = some (2, { desc := TypeDesc.int IntKind.i64, size := 1, bytes := 8, zero := Value.int IntKind.i64 (0) }) := by kernel_rfl
theorem fo81_0 : fieldOf Tryz.prog 81 0 = some (0, { desc := TypeDesc.int IntKind.i64, size := 1, bytes := 8, zero := Value.int IntKind.i64 (0) }) := by kernel_rfl
theorem fo81_1 : fieldOf Tryz.prog 81 1 = some (1, { desc := TypeDesc.int IntKind.i64, size := 1, bytes := 8, zero := Value.int IntKind.i64 (0) }) := by kernel_rfl
theorem fo81_2 : fieldOf Tryz.prog 81 2 = some (2, { desc := TypeDesc.bool, size := 1, bytes := 1, zero := Value.bool false }) := by kernel_rfl
theorem fo81_3 : fieldOf Tryz.prog 81 3 = some (3, { desc := TypeDesc.int IntKind.i64, size := 1, bytes := 8, zero := Value.int IntKind.i64 (0) }) := by kernel_rfl
theorem fo86_1 : fieldOf Tryz.prog 86 1 = some (1, { desc := TypeDesc.slice 5, size := 1, bytes := 24, zero := Value.slice none 0 0 }) := by kernel_rfl
theorem fo91_1 : fieldOf Tryz.prog 91 1 = some (3, { desc := TypeDesc.string, size := 1, bytes := 16, zero := Value.string { data := #[] } }) := by kernel_rfl
theorem fo91_2 : fieldOf Tryz.prog 91 2 = some (4, { desc := TypeDesc.slice 121, size := 1, bytes := 24, zero := Value.slice none 0 0 }) := by kernel_rfl
theorem fo91_3 : fieldOf Tryz.prog 91 3 = some (5, { desc := TypeDesc.slice 22, size := 1, bytes := 24, zero := Value.slice none 0 0 }) := by kernel_rfl
theorem fo91_4 : fieldOf Tryz.prog 91 4 = some (6, { desc := TypeDesc.map 81 4, size := 1, bytes := 8, zero := Value.map none }) := by kernel_rfl
theorem es22 : elemSize Tryz.prog 22 = some 3 := by kernel_rfl
theorem es27 : elemSize Tryz.prog 27 = some 1 := by kernel_rfl
theorem es55 : elemSize Tryz.prog 55 = some 1 := by kernel_rfl
theorem es79 : elemSize Tryz.prog 79 = some 4 := by kernel_rfl
theorem es88 : elemSize Tryz.prog 88 = some 16 := by kernel_rfl
theorem es89 : elemSize Tryz.prog 89 = some 1 := by kernel_rfl
theorem es121 : elemSize Tryz.prog 121 = some 1 := by kernel_rfl
end Go.AW

namespace Go.AW
open Go Go.Proofs Go.Sort Go.Lib
theorem put_world {α : Type} [Inhabited α] {enc : α → Value} {f : α → HV} (hf1 : ∀ x, (f x).one = true) {w : World} {μ : Mu} {H : Heap} {id ver b k : Nat} {e : TypeId} {l d : List α} (hs : SR w μ H) (hg : hget H id = some (ver, .arr k e (l.map f)))
    (hl : μ.loc id = some (ver, some b)) (hrep : ∀ x ∈ d, Rep w μ (f x) (enc x)) (hor : OR w μ (.arr k e (l.map f)) (some b)) (hv : ∀ vs, RepL w μ (l.map f) vs → vs = l.map enc) (hlen : d.length = l.length) (n : Nat) :
    SR (putRow enc (Sort.ahead w n) b 0 d.toArray) μ (hset H id ver (.arr k e (d.map f))) ∧ Evo w μ (putRow enc (Sort.ahead w n) b 0 d.toArray) μ := by
  obtain ⟨h0, cur, vs, rest, hrow, hcl, hrl⟩ := hor
  have hvs := hv vs hrl
  subst hvs
  have hcsz : cur.size = l.length + rest.length := by rw [← Array.length_toList, hcl]; simp
  obtain ⟨lo, hi, hbk, hfr⟩ := hrow
  have hbk' : (putRow enc (Sort.ahead w n) b 0 d.toArray).heap[b]? = some (.cells (putCells enc 0 d.toArray cur) e (lo, hi)) := by
    show (w.heap.modify b _)[b]? = _
    rw [Array.getElem?_modify, if_pos rfl, hbk]
    rfl
  have hcur' : (putCells enc 0 d.toArray cur).toList = d.map enc ++ rest := by
    apply List.ext_getElem?
    intro i
    rw [Array.getElem?_toList]
    simp only [putCells, Array.getElem?_mapIdx]
    have hc : cur[i]? = (l.map enc ++ rest)[i]? := by rw [← hcl, Array.getElem?_toList]
    rw [hc]
    rcases Nat.lt_or_ge i d.length with hi | hi
    · rw [List.getElem?_append_left (by simp; omega), List.getElem?_append_left (by simpa using hi), List.getElem?_map, List.getElem?_map, List.getElem?_eq_getElem (by omega : i < l.length), List.getElem?_eq_getElem hi]
      simp only [Option.map_some]
      rw [if_pos ⟨Nat.zero_le _, by simpa using hi⟩]
      simp [hi]
    · rw [List.getElem?_append_right (by simp; omega), List.getElem?_append_right (by simpa using hi)]
      simp only [List.length_map, hlen]
      cases rest[i - l.length]? with
      | none => rfl
      | some x =>
        simp only [Option.map_some]
        rw [if_neg (by simp; omega)]
  have hsz1 : (putRow enc (Sort.ahead w n) b 0 d.toArray).heap.size = w.heap.size := by rw [size_putRow]; rfl
  have hrow1 : Row (putRow enc (Sort.ahead w n) b 0 d.toArray) b (putCells enc 0 d.toArray cur) e := ⟨lo, hi, hbk', by simpa [putCells] using hfr⟩
  have hold : ∀ b', b' ≠ b → (putRow enc (Sort.ahead w n) b 0 d.toArray).heap[b']? = w.heap[b']? := fun b' hne => by
    show (w.heap.modify b _)[b']? = _
    rw [Array.getElem?_modify, if_neg (fun e => hne e.symm)]
  exact hs.updArr (cs' := d.map f) (w' := putRow enc (Sort.ahead w n) b 0 d.toArray) hg hl ⟨rfl, rfl, rfl⟩ hsz1 hold ⟨lo, hi, hbk, hfr⟩ hrow1 (by simp [putCells]) fun E => by
    refine ⟨fun c hc => ?_, _, d.map enc, rest, hrow1, hcur', repL_map.2 fun x hx => Rep.evo E hs.ok _ _ (hrep x hx)⟩
    obtain ⟨x, _, rfl⟩ := List.mem_map.1 hc
    exact hf1 x
end Go.AW

namespace Go.Proofs
open Go

set_option maxHeartbeats 1000000 in
set_option maxRecDepth 100000 in
theorem Tryz.stringslite_IndexByte (s : ByteArray) (c : Int) (w : World) :
    Calls Tryz.prog 74 #[.string s, .int .u8 c] w fun e w' => e = .returned (.int .i64 (Lib.indexByte s.data.toList c.toNat.toUInt8)) ∧ w' = w := by
  go_enter Tryz.func74, Tryz.ntmps74
  go_wp2
  rw [run_callFunc_extern Tryz.func97 (by kernel_rfl) (by kernel_rfl) (by kernel_rfl) (e := Extern.BytealgIndexByte.indexByte) (by kernel_rfl), Lib.run_indexByteString]
  simp only [Result.andThen]
  rw [Oper.upon_value]
  go_wp2
  go_ret
  exact ⟨rfl, rfl⟩

set_option maxHeartbeats 1000000 in
theorem Tryz.strings_IndexByte (s : ByteArray) (c : Int) (w : World) :
    Calls Tryz.prog 48 #[.string s, .int .u8 c] w fun e w' => e = .returned (.int .i64 (Lib.indexByte s.data.toList c.toNat.toUInt8)) ∧ w' = w := by
  go_enter Tryz.func48, Tryz.ntmps48
  go_wp2_with (go_at_call 74; refine (Tryz.stringslite_IndexByte _ _ _).mono ?_; rintro e w' ⟨rfl, rfl⟩)
  go_ret
  exact ⟨rfl, rfl⟩

end Go.Proofs
namespace Go.AW
open Go Go.Proofs

theorem idx_wf (l : List UInt8) (c : UInt8) (hl : l.length ≤ maxLen) : (Lit.int .i64 (Lib.indexByte l c)).wf = true := by
  have h : ∀ l : List UInt8, -1 ≤ Lib.indexByte l c ∧ Lib.indexByte l c ≤ l.length := by
    intro l
    induction l with
    | nil => simp [Lib.indexByte]
    | cons a l ih =>
      simp only [Lib.indexByte, List.length_cons]
      split
      · omega
      · split
        · omega
        · omega
  have := h l
  simp only [maxLen] at hl
  simp only [Lit.wf, IntKind.min, IntKind.max, IntKind.signed, IntKind.bits, Bool.and_eq_true, decide_eq_true_eq]
  simp
  omega

theorem w51 (l : List UInt8) (c : Int) : Pure Tryz.prog 48 [.str l, .int .u8 c] (· = .int .i64 (Lib.indexByte l c.toNat.toUInt8)) := by
  refine ⟨enters' Tryz.func48 rfl rfl, fun μ w vs hs hr _ => ?_⟩
  obtain ⟨x, xs, rfl, ⟨rfl, hl⟩, y, ys, rfl, ⟨rfl, _⟩, hn⟩ := hr
  cases hn
  refine (Tryz.strings_IndexByte ⟨l.toArray⟩ c w).mono ?_
  rintro e w' ⟨rfl, rfl⟩
  exact ⟨_, _, [], μ, rfl, ⟨rfl, trivial, rfl⟩, hs, ⟨by simp, idx_wf l _ hl⟩, Evo.refl _ _⟩
end Go.AW

namespace Go.Proofs
open Go
def Tryz.compI_ren : Go.Shelf.Ren := ⟨fun | 20 => 103 | n => n, fun | 22 => 55 | 3 => 3 | 4 => 4 | 0 => 0 | n => n, fun | n => n⟩
theorem Tryz.compI : Go.Proofs.Lays2.n20 Tryz.prog Tryz.compI_ren where
  mixed := by kernel_rfl
  f20 := Tryz.func103.trans (congrArg some (by kernel_rfl))
  t0 := Tryz.underlying0
  a0 := Tryz.isAgg0
  z0 := Tryz.sizeOf0
  v0 := Tryz.zeroValue0
  t3 := Tryz.underlying3
  a3 := Tryz.isAgg3
  z3 := Tryz.sizeOf3
  v3 := Tryz.zeroValue3
  t4 := Tryz.underlying4
  a4 := Tryz.isAgg4
  z4 := Tryz.sizeOf4
  v4 := Tryz.zeroValue4
  t22 := Tryz.underlying55
  a22 := Tryz.isAgg55
  z22 := Tryz.sizeOf55
  v22 := Tryz.zeroValue55
  i3 := by kernel_rfl
end Go.Proofs
namespace Go.AW
open Go Go.Proofs Go.Sort Go.Lib
set_option linter.unusedVariables false

theorem c_sortI : SortsI Tryz.prog 102 := sorts179
theorem w180 {H : Heap} {id ver : Nat} {e : TypeId} {l : List Int} {K : HV → Heap → Prop} (hg : hget H id = some (ver, .arr 1 e (l.map (.int .i64))))
    (hK : K (.ar id ver 1 0 (compact_ l).length) (hset H id ver (.arr 1 e ((compact_ l ++ List.replicate (l.length - (compact_ l).length) 0).map (.int .i64))))) : ACall Tryz.prog 103 [.ar id ver 1 0 l.length] H K := by
  refine ⟨enters' Tryz.func103 rfl rfl, fun μ w vs hs hr _ => ?_⟩
  obtain ⟨x, xs, rfl, hr, hn⟩ := hr
  cases hn
  obtain ⟨lo, hl, hor⟩ := hs.has _ _ _ hg
  rcases hr with ⟨lo', hl', h⟩ | ⟨hd, _⟩
  · rw [hl] at hl'
    cases hl'
    rcases h with ⟨rfl, rfl, h0, _⟩ | ⟨b, cap, cur, e', rfl, rfl, hcap, hcm, hrow, hsz⟩
    · have hl0 := List.eq_nil_of_length_eq_zero h0
      subst hl0
      refine (Any.slices_Compact_int_empty Tryz.compI none 0 w).mono ?_
      rintro e2 w' ⟨rfl, rfl⟩
      refine ⟨_, .ar id ver 1 0 0, _, μ, rfl, hK, hs.reobj hg fun l hl hor => hor, .inl ⟨none, hl, .inl ⟨rfl, rfl, rfl, rfl⟩⟩, Evo.refl _ _⟩
    · have hor' := hor
      obtain ⟨h0, cur', vs', rest, hrow', hcl, hrl⟩ := hor
      obtain ⟨hvs, hreps⟩ := repL_ints hrl
      subst hvs
      refine (Any.slices_Compact_int Tryz.compI b 0 cap l w (holds_row hrow' hcl) (by have := hcm; simp only [maxLen] at this; omega) hcap).mono ?_
      · rintro e2 w' ⟨rfl, n, rfl⟩
        have hle := compact_le l
        have hlen : (compact_ l ++ List.replicate (l.length - (compact_ l).length) (0 : Int)).length = l.length := by simp; omega
        obtain ⟨h1, h2⟩ := put_world (f := HV.int .i64) (fun _ => rfl) hs hg hl (d := compact_ l ++ List.replicate (l.length - (compact_ l).length) 0) (fun x hx => by
          rcases List.mem_append.1 hx with hx | hx
          · exact hreps x (compact_mem hx)
          · rw [List.eq_of_mem_replicate hx]; exact ⟨rfl, rfl⟩) hor' (fun vs hv => (repL_ints hv).1) hlen n
        refine ⟨_, .ar id ver 1 0 (compact_ l).length, _, μ, rfl, hK, h1, .inl ⟨some b, hl, .inr ⟨b, cap, putCells (Value.int .i64) 0 (compact_ l ++ List.replicate (l.length - (compact_ l).length) 0).toArray cur, e', rfl, by simp, by omega, hcm, ?_, ?_⟩⟩, h2⟩
        · obtain ⟨lo, hi, hbk, hfr⟩ := hrow
          refine ⟨lo, hi, ?_, by simpa [putCells] using hfr⟩
          show (w.heap.modify b _)[b]? = _
          rw [Array.getElem?_modify, if_pos rfl, hbk]
          rfl
        · simp only [putCells, Array.size_mapIdx]; exact hsz
  · exact absurd hl (hd.2 lo)

theorem c_compactI {H H' : Heap} {id ver n : Nat} {e : TypeId} {l : List Int} {K : HV → Heap → Prop} (hn : n = l.length) (hg : hget H id = some (ver, .arr 1 e (l.map (.int .i64)))) (hle : ∀ j x, hget H' j = some x → hget H j = some x) (hno : hget H' id = none)
    (hK : K (slE eInt (compact_ l)) H') : ACall Tryz.prog 103 [.ar id ver 1 0 n] H K := by
  subst hn
  have hlen := compact_le l
  refine ACall.freeze 2 [(id, ver, .arr 1 e ((compact_ l ++ List.replicate (l.length - (compact_ l).length) 0).map (.int .i64)))] H' (w180 hg ⟨fun j x hx => ?_, fun j x hx => ?_, ?_⟩)
  · rw [hget_hset, if_neg (fun e => by rw [e, hno] at hx; cases hx)]
    exact hle j x hx
  · simp only [hget] at hx
    split at hx
    · rename_i e
      subst e
      cases hx
      exact ⟨by rw [hget_hset, if_pos rfl], hno⟩
    · cases hx
  · have : frz 2 [(id, ver, .arr 1 e ((compact_ l ++ List.replicate (l.length - (compact_ l).length) 0).map (.int .i64)))] (.ar id ver 1 0 (compact_ l).length) = slE eInt (compact_ l) := by
      have h0 : hget [(id, ver, AObj.arr 1 e ((compact_ l ++ List.replicate (l.length - (compact_ l).length) 0).map (.int .i64)))] id = some (ver, .arr 1 e ((compact_ l ++ List.replicate (l.length - (compact_ l).length) 0).map (.int .i64))) := by simp only [hget, if_true]
      rw [frz, h0]
      have h1 : ver = ver ∧ 0 + (compact_ l).length * 1 ≤ ((compact_ l ++ List.replicate (l.length - (compact_ l).length) (0 : Int)).map (HV.int .i64)).length := ⟨rfl, by simp⟩
      refine (if_pos h1).trans ?_
      rw [List.drop_zero, Nat.mul_one, List.map_append, List.take_left' (List.length_map _), List.map_map]
      rfl
    rw [this]
    exact hK

theorem w_strings_IndexByte {l : List UInt8} {c r : Int} (h : m_strings_IndexByte l c = some r) : Pure Tryz.prog 48 [HV.str l, HV.int .u8 c] (· = HV.int .i64 r) := by
  cases h
  exact w51 l c
end Go.AW

/- The iterators of graphs: leaving. -/
namespace Go.AW
open Go Go.Proofs
set_option linter.unusedVariables false
theorem le_slH {l l' : List (Nat × HV)} {H : Heap} (h : leS l l') : (⟨l, H⟩ : AS).le ⟨l', H⟩ := ⟨leS_get h, fun _ _ h => h⟩
set_option maxRecDepth 100000 in
theorem iy_graph_leaving {g : TLabelsStatesEdges} {s : Int} {L : List (Int × TFromLabelTo)} (h : y_graph_leaving g s = some L) : Yields Tryz.prog 124 [] [HV.fptr [HV.int .i64 g.1, HV.int .i64 g.2.1, slE eFromLabelTo g.2.2] 0, HV.fptr [HV.int .i64 s] 0] (L.map fun x => [HV.int .i64 x.1, HV.agg [HV.int .i64 x.2.1, HV.int .i64 x.2.2.1, HV.int .i64 x.2.2.2]]) := by
  unfold y_graph_leaving at h
  split at h
  · rename_i hm
    cases h
    obtain ⟨gl, gs, es⟩ := g
    dsimp only at hm ⊢
    intro id ver H J Stop K hmn h0 hstep hdone hstop
    refine ACall.of_body Tryz.func124 rfl rfl (Nat.le_of_ble_eq_true rfl) ?_
    unfold Tryz.f124
    dsimp only [enumS, Nat.reduceAdd]
    refine AW.rgs rfl fun K1 hK => ?_
    refine bv rfl (v_fieldAddrF fo24_2 rfl) ?_
    refine bv rfl (v_loadF ty22 rfl (l_lit rfl rfl)) ?_
    refine bv rfl (v_lenF rfl rfl ty22 rfl) ?_
    refine mv rfl rfl ?_
    refine b_nil (hK _ (AW.to (to_le (s' := ⟨[(0, .yl id ver), (2, HV.fptr [HV.int .i64 s] 0), (7, slE eFromLabelTo es), (8, .int .i64 (es.length : Int)), (9, .int .i64 ((0 : Nat) : Int))], H⟩) (le_slH ⟨rfl, rfl, rfl, rfl, rfl, trivial⟩) ?_)))
    clear hK K1
    refine AW.block ?_
    refine AW.loopS (fun p : Nat × Heap => ⟨[(0, .yl id ver), (2, HV.fptr [HV.int .i64 s] 0), (7, slE eFromLabelTo es), (8, .int .i64 (es.length : Int)), (9, .int .i64 (p.1 : Int))], p.2⟩)
      (fun p => p.1 ≤ es.length ∧ J (leaveL (es.take p.1) s).length p.2) (fun p => es.length - p.1) (0, H) (AS.le_refl _) ⟨Nat.zero_le _, h0⟩ ?_
    rintro ⟨i, H1⟩ ⟨hi, hj⟩
    dsimp only at hi hj ⊢
    refine AW.rgs rfl fun K1 hK => ?_
    refine bv rfl (v_bin rfl rfl b_lss) ?_
    refine b_nil (hK _ ?_)
    clear hK K1
    refine AW.cseq rfl (fun hc => ?_) (fun hc => ?_)
    · have hi' : i < es.length := by have := of_decide_eq_true hc; omega
      have hx : idx es (i : Int) = some es[i] := ix hi'
      obtain ⟨f, hf⟩ := fresh_id H1 5
      refine AW.skip ?_
      refine AW.seq (AW.block ?_)
      refine AW.rgs rfl fun K1 hK => ?_
      refine mv rfl rfl ?_
      refine bv rfl (v_idxF ty22 es22 rfl rfl (idx_lt hx)) ?_
      refine bv rfl (v_loadF ty44 rfl (l_agg eFromLabelTo hx rfl rfl)) ?_
      refine b_op rfl (o_alloc (fid := f) (zs := [HV.int .i64 0, HV.int .i64 0, HV.int .i64 0]) (f * 1000 + 5) rfl rfl ty44 rfl (fun ov => ?_))
      refine mv rfl rfl ?_
      refine b_op rfl (o_store (cs := cFromLabelTo es[i]) (zs := cFromLabelTo es[i]) rfl rfl rfl ty44 rfl hget_0 rfl rfl rfl ?_)
      refine b_nil (hK _ (AW.to (to_le (s' := ⟨[(0, .yl id ver), (2, HV.fptr [HV.int .i64 s] 0), (4, .int .i64 (i : Int)), (5, .ptr (f * 1000 + 5) ov 0), (7, slE eFromLabelTo es), (8, .int .i64 (es.length : Int)), (9, .int .i64 (i : Int))], (f * 1000 + 5, ov, .arr 3 44 (cFromLabelTo es[i])) :: H1⟩) ⟨leS_get ⟨rfl, rfl, rfl, rfl, rfl, rfl, rfl, trivial⟩, fun j x hx => ?_⟩ ?_)))
      · simp only [hget] at hx ⊢
        split <;> rename_i hij
        · rw [if_pos hij] at hx; exact hx
        · first | exact hx | (rw [if_neg hij] at hx; first | exact hx | (rw [if_neg hij]; exact hx)) | (rw [if_neg hij]; exact hx)
      clear hK K1
      have hJ1 := hmn _ _ _ hj (cons_le (ver := ov) (ob := .arr 3 44 (cFromLabelTo es[i])) hf)
      refine AW.rgs rfl fun K1 hK => ?_
      refine bv rfl (v_fieldAddrP fo44_0 rfl hget_0) ?_
      refine bv rfl (v_loadP ty28 rfl hget_0 (l_lit rfl rfl)) ?_
      refine bv rfl (v_loadF ty28 rfl (l_lit rfl rfl)) ?_
      refine bv rfl (v_bin rfl rfl b_eql) ?_
      refine mv rfl rfl ?_
      have htk := leaveL_take es s hi'
      by_cases hs : es[i].1 = s
      · rw [if_pos hs] at htk
        obtain ⟨rest, hr⟩ := leaveL_split es s (i + 1)
        rw [htk] at hr
        refine b_T rfl rfl rfl rfl (decide_eq_true hs) (o_val rfl (mv_val rfl rfl).2 ?_)
        refine b_T rfl rfl rfl rfl rfl (o_val rfl (mv_val rfl rfl).2 ?_)
        refine b_T rfl rfl rfl rfl rfl (o_val rfl (v_loadP ty44 rfl hget_0 (l_litA (ds := cFromLabelTo es[i]) rfl (Nat.le_of_ble_eq_true rfl) rfl)) ?_)
        refine b_T rfl rfl rfl rfl rfl (o_yield (hs := [HV.int .i64 (i : Int), HV.agg (cFromLabelTo es[i])]) rfl rfl rfl ?_)
        refine (hstep (leaveL (es.take i) s).length [HV.int .i64 (i : Int), HV.agg (cFromLabelTo es[i])] _ ?_ hJ1).mono ?_
        · rw [List.getElem?_map, hr, List.append_assoc, List.getElem?_append_right (Nat.le_refl _), Nat.sub_self]
          rfl
        rintro r H2 ⟨b, rfl, h3, h4⟩
        refine b_T rfl rfl rfl rfl rfl (o_val rfl (v_not rfl) ?_)
        refine bv rfl (v_pickT rfl rfl rfl) ?_
        refine b_nil (hK _ (AW.to (to_le (s' := ⟨[(0, .yl id ver), (2, HV.fptr [HV.int .i64 s] 0), (7, slE eFromLabelTo es), (8, .int .i64 (es.length : Int)), (9, .int .i64 (i : Int)), (24, .bool (!b))], H2⟩) (le_slH ⟨rfl, rfl, rfl, rfl, rfl, rfl, trivial⟩) ?_)))
        clear hK K1
        refine AW.cond rfl (fun hc => ?_) (fun hc => ?_)
        · have hb : b = false := by simpa using hc
          refine AW.ret ⟨.inr rfl, ?_⟩
          simp only [go_sem, reduceIte, Nat.reduceEqDiff]
          exact ⟨_, _, Conv.refl _ _, hstop _ (h4 hb)⟩
        · have hb : b = true := by simpa using hc
          refine AW.skip ?_
          refine AW.region (fid := f) (mt := []) [0, 2, 7, 8, 9] rfl fun K hK => ?_
          simp only [go_sem, reduceIte, Nat.reduceEqDiff, Int.reduceLE]
          refine hK _ ?_
          clear hK K
          refine ⟨(i + 1, H2), ⟨by dsimp only; omega, ?_⟩, by dsimp only; omega, ?_⟩
          · dsimp only
            rw [htk, List.length_append]
            exact h3 hb
          · dsimp only
            rw [cnt_next hm hi']
            exact AS.le_refl _
      · rw [if_neg hs, List.append_nil] at htk
        refine b_F rfl rfl rfl rfl rfl (decide_eq_false hs) ?_
        refine b_F rfl rfl rfl rfl rfl rfl ?_
        refine b_F rfl rfl rfl rfl rfl rfl ?_
        refine b_F rfl rfl rfl rfl rfl rfl ?_
        refine b_F rfl rfl rfl rfl rfl rfl ?_
        refine bv rfl (v_pickF rfl rfl rfl) ?_
        refine b_nil (hK _ (AW.to (to_le (s' := ⟨[(0, .yl id ver), (2, HV.fptr [HV.int .i64 s] 0), (7, slE eFromLabelTo es), (8, .int .i64 (es.length : Int)), (9, .int .i64 (i : Int)), (24, .bool false)], _⟩) (le_slH ⟨rfl, rfl, rfl, rfl, rfl, rfl, trivial⟩) ?_)))
        clear hK K1
        refine AW.cond rfl (fun hc => by cases hc) (fun _ => ?_)
        refine AW.skip ?_
        refine AW.region (fid := f) (mt := []) [0, 2, 7, 8, 9] rfl fun K hK => ?_
        simp only [go_sem, reduceIte, Nat.reduceEqDiff, Int.reduceLE]
        refine hK _ ?_
        clear hK K
        refine ⟨(i + 1, (f * 1000 + 5, ov, .arr 3 44 (cFromLabelTo es[i])) :: H1), ⟨by dsimp only; omega, ?_⟩, by dsimp only; omega, ?_⟩
        · dsimp only
          rw [htk]
          exact hJ1
        · dsimp only
          rw [cnt_next hm hi']
          exact AS.le_refl _
    · have hi2 : es.length ≤ i := by have := of_decide_eq_false hc; omega
      have hie : i = es.length := by omega
      subst hie
      rw [List.take_length] at hj
      refine AW.exit ?_
      refine ⟨.inl rfl, ?_⟩
      simp only [go_sem, reduceIte, Nat.reduceEqDiff]
      exact ⟨_, _, Conv.refl _ _, hdone _ (by rw [List.length_map]; exact hj)⟩
  · cases h
end Go.AW

/- Regions that draw their order, with one operation that may be done late. -/
namespace Go.AW
open Go

section
variable {P : Program} {ro : Option Nat} {N : Nat} {s : AS}

def AnyAtZ (P : Program) (ro : Option Nat) (N : Nat) (ops : Array Oper) (Q : Exit → AS → Prop) (q z : Nat) (s : AS) : Prop :=
  ∀ (w0 : World) (μ0 : Mu) (fuel : Nat) (listed : Array Bool) (μ1 : Mu) (a1 : Act) (w1 : World) (s1 : AS), listed.size = ops.size → cnt listed ≤ fuel → (∀ i, i < ops.size → i ≠ z → listed.getD i false = decide (i < q)) →
    s1.heap = s.heap → (∀ t, dstOf ops z ≠ some t → sget s1.slots t = sget s.slots t) → (listed.getD z false = true → ∀ t, sget s1.slots t = sget s.slots t) →
    SRel ro N w0.heap.size μ1 s1 a1 w1 → Evo w0 μ0 w1 μ1 → wpAnyIn (fence ro) 0 P .any ops (Post ro N Q w0 μ0) fuel listed a1 w1

theorem AnyAtZ.op {ops : Array Oper} {Q : Exit → AS → Prop} {q z : Nat} {t : AS} (hda : daOk ops = true) (hq : q < ops.size) (hzq : z < q) (hw : waitOk ops q (q + 1) = true) (hwz : ∀ i, q < i → i < ops.size → z ∈ clos ops i) (hno : ∀ k, k ≤ q → k ≠ z → ¬ z ∈ da ops k)
    (hz0 : ∀ s1 : AS, s1.heap = s.heap → (∀ u, dstOf ops z ≠ some u → sget s1.slots u = sget s.slots u) → AOpI P ro N ops z (fun s2 => s2.heap = s.heap ∧ ∀ u, sget s2.slots u = sget s.slots u) s1)
    (hz1 : ∀ s1 : AS, s1.heap = t.heap → (∀ u, dstOf ops z ≠ some u → sget s1.slots u = sget t.slots u) → AOpI P ro N ops z (fun s2 => s2.heap = t.heap ∧ ∀ u, sget s2.slots u = sget t.slots u) s1)
    (hop : ∀ s1 : AS, s1.heap = s.heap → (∀ u, dstOf ops z ≠ some u → sget s1.slots u = sget s.slots u) → AOpI P ro N ops q (fun s2 => s2.heap = t.heap ∧ (∀ u, dstOf ops z ≠ some u → sget s2.slots u = sget t.slots u) ∧ ((∀ u, sget s1.slots u = sget s.slots u) → ∀ u, sget s2.slots u = sget t.slots u)) s1)
    (h : AnyAt P ro N ops Q (q + 1) t) : AnyAtZ P ro N ops Q q z s := by
  intro w0 μ0 fuel listed μ1 a1 w1 s1 hl hc hlist hh hsl hall hs hE
  have hda' := daOk_spec hda
  -- when z is done
  have done : ∀ (fuel : Nat) (listed : Array Bool) (μ1 : Mu) (a1 : Act) (w1 : World) (s1 : AS), listed.size = ops.size → cnt listed ≤ fuel → (∀ i, i < ops.size → listed.getD i false = decide (i < q)) → s1.heap = s.heap → (∀ u, sget s1.slots u = sget s.slots u) →
      SRel ro N w0.heap.size μ1 s1 a1 w1 → Evo w0 μ0 w1 μ1 → wpAnyIn (fence ro) 0 P .any ops (Post ro N Q w0 μ0) fuel listed a1 w1 := by
    intro fuel listed μ1 a1 w1 s1 hl hc hlist hh hsl hs hE
    refine AnyAt.op (s := s1) hda hq hw ?_ w0 μ0 fuel listed μ1 a1 w1 hl hc hlist hs hE
    have hk := hop s1 hh (fun u _ => hsl u)
    intro w0 μ0 μ a w next Q' hs hE hK
    refine hk w0 μ0 μ a w next Q' hs hE fun μ2 s2 a2 w2 hk2 hs2 hE2 => hK μ2 s2 a2 w2 ?_ hs2 hE2
    intro w3 μ3 fuel3 listed3 μ4 a4 w4 h1 h2 h3 h4 h5
    exact h w3 μ3 fuel3 listed3 μ4 a4 w4 h1 h2 h3 (h4.eqv ⟨hk2.1.symm, fun u => (hk2.2.2 hsl u).symm⟩) h5
  by_cases hlz : listed.getD z false = true
  · refine done fuel listed μ1 a1 w1 s1 hl hc (fun i hi => ?_) hh (hall hlz) hs hE
    by_cases e : i = z
    · rw [e, hlz]; simp [hzq]
    · exact hlist i hi e
  · have hzf : listed.getD z false = false := by simpa using hlz
    have hqn : listed.getD q false = false := by rw [hlist q hq (by omega)]; simp
    cases fuel with
    | zero =>
      have := cnt_pos (listed := listed) (i := q) (by rw [getD_tf (by omega)]; exact hqn)
      omega
    | succ fuel =>
      refine ⟨fun hr => ?_, fun i hi => ?_⟩
      · exfalso
        have := ready_of hda' hl (by omega : z < ops.size) hzf fun k hk => by rw [hlist k (by omega) (by omega)]; simp; omega
        rw [hr] at this
        cases this
      · have hdone := deps_done hi
        obtain ⟨h0, o, ho, _⟩ := mem_ready.1 hi
        have his := (Array.getElem?_eq_some_iff.1 ho).1
        by_cases hiz : i = z
        · subst hiz
          refine hz0 s1 hh hsl w0 μ0 μ1 a1 w1 _ _ hs hE fun μ2 s2 a2 w2 hk hs2 hE2 => done fuel _ μ2 a2 w2 s2 (by simp [hl]) ?_ (fun k hk => ?_) hk.1 hk.2 hs2 hE2
          · have := cnt_set (listed := listed) (i := i) h0
            omega
          · by_cases hki : i = k
            · subst hki
              have : i < listed.size := by omega
              simp [this, hzq]
            · rw [getD_set_ne false hki, hlist k hk (fun e => hki e.symm)]
        · rw [getD_tf (by omega), hlist i his hiz] at h0
          have hqi : q ≤ i := by simpa using h0
          have hiq : i = q := by
            rcases Nat.lt_or_ge q i with hlt | hge
            · exfalso
              have hc := waitOk_spec hw i hlt his q (Nat.le_refl _) (Nat.lt_succ_self _)
              have := clos_ind (fun k => k < q) (fun k hk => by
                have hd := hdone k hk
                by_cases e : k = z
                · omega
                · rw [hlist k (Nat.lt_trans (hda' i his k hk) his) e] at hd
                  simpa using hd) (fun k hki hkq m hm => Nat.lt_trans (hda' k (by omega) m hm) hkq) q hc
              omega
            · omega
          subst hiq
          refine hop s1 hh hsl w0 μ0 μ1 a1 w1 _ _ hs hE fun μ2 s2 a2 w2 hk hs2 hE2 => ?_
          -- now z alone is ready
          have hl2 : (listed.setIfInBounds i true).size = ops.size := by simp [hl]
          have hc2 := cnt_set (listed := listed) (i := i) (by rw [getD_tf (by omega)]; exact hqn)
          have hz2 : (listed.setIfInBounds i true).getD z false = false := by rw [getD_set_ne false hiz]; exact hzf
          have hlist2 : ∀ k, k < ops.size → k ≠ z → (listed.setIfInBounds i true).getD k false = decide (k < i + 1) := fun k hk hkz => by
            by_cases hki : i = k
            · subst hki
              have : i < listed.size := by omega
              simp [this]
            · rw [getD_set_ne false hki, hlist k hk hkz]
              congr 1
              apply propext
              omega
          cases fuel with
          | zero =>
            have := cnt_pos (listed := listed.setIfInBounds i true) (i := z) (by rw [getD_tf (by omega)]; exact hz2)
            omega
          | succ fuel =>
            refine ⟨fun hr => ?_, fun j hj => ?_⟩
            · exfalso
              have := ready_of hda' hl2 (by omega : z < ops.size) hz2 fun k hk => by rw [hlist2 k (by omega) (by omega)]; simp; omega
              rw [hr] at this
              cases this
            · have hdone2 := deps_done hj
              obtain ⟨h02, o2, ho2, _⟩ := mem_ready.1 hj
              have hjs := (Array.getElem?_eq_some_iff.1 ho2).1
              have hjz : j = z := by
                apply Classical.byContradiction
                intro hjz
                rw [getD_tf (by omega), hlist2 j hjs hjz] at h02
                have hij : i + 1 ≤ j := by simpa using h02
                have hcz := hwz j (by omega) hjs
                have := clos_ind (fun k => k ≠ z ∧ k < i + 1) (fun k hk => by
                  have hd := hdone2 k hk
                  have hkz : k ≠ z := fun e => by rw [e, hz2] at hd; cases hd
                  rw [hlist2 k (Nat.lt_trans (hda' j hjs k hk) hjs) hkz] at hd
                  exact ⟨hkz, by simpa using hd⟩) (fun k hkj hkz m hm => ?_) z hcz
                · exact this.1 rfl
                · have hmk := hda' k (by omega) m hm
                  refine ⟨fun e => ?_, by omega⟩
                  -- an operation that is done waits on z: it would not be done
                  exact absurd e (by intro e; exact hno k (by omega) hkz.1 (by rw [← e]; exact hm))
              subst hjz
              refine hz1 s2 hk.1 hk.2.1 w0 μ0 μ2 a2 w2 _ _ hs2 hE2 fun μ3 s3 a3 w3 hk3 hs3 hE3 => h w0 μ0 fuel _ μ3 a3 w3 (by simp [hl]) ?_ (fun k hk => ?_) (hs3.eqv ⟨hk3.1.symm, fun u => (hk3.2 u).symm⟩) hE3
              · have := cnt_set (listed := listed.setIfInBounds i true) (i := j) h02
                omega
              · by_cases hkj : j = k
                · subst hkj
                  have : j < (listed.setIfInBounds i true).size := by omega
                  simp only [Array.getD_eq_getD_getElem?]
                  rw [Array.getElem?_setIfInBounds_self_of_lt this]
                  simp; omega
                · rw [getD_set_ne false hkj, hlist2 k hk (fun e => hkj e.symm)]
end
end Go.AW

/- copy in lockstep; a region with an operation that may be done late. -/
namespace Go.AW
open Go
section
variable {P : Program} {ro : Option Nat} {N : Nat} {s : AS} {ops : Array Oper} {o : Oper} {sl : List (Nat × HV)} {H : Heap} {all : Array Oper} {rest : List Oper} {K : AS → Prop}

theorem AnyAtZ.eqc {Q : Exit → AS → Prop} {q z : Nat} : Eqc (AnyAtZ P ro N ops Q q z) := fun _ _ he h w0 μ0 fuel listed μ1 a1 w1 s1 h1 h2 h3 h4 h5 h6 h7 h8 =>
  h w0 μ0 fuel listed μ1 a1 w1 s1 h1 h2 h3 (h4.trans he.1.symm) (fun t ht => (h5 t ht).trans (he.2 t).symm) (fun hl t => (h6 hl t).trans (he.2 t).symm) h7 h8
end
end Go.AW

/- Maps with texts as keys, in lockstep. -/
namespace Go.AW
open Go
def entE {β : Type} (f : β → HV) (l : List (List UInt8 × β)) : List (List UInt8 × HV) := l.map fun x => (x.1, f x.2)
section
variable {P : Program} {ro : Option Nat} {N : Nat} {s : AS} {o : Oper} {sl : List (Nat × HV)} {H : Heap} {all : Array Oper} {rest : List Oper} {K : AS → Prop} {fid : Nat} {β : Type}

theorem o_makeMap (f : β → HV) {d : Nat} {t : TypeId} (id : Nat) (h0 : (o.dst, o.op) = (some d, .makeMap t none)) (hid : fid * 1000 + d = id)
    (k : ∀ ver, bops P ro N all rest K ⟨(d, .mp id ver) :: sl, (id, ver, .map (entE f [])) :: H⟩) : aop P fid [] o (fun s' => bops P ro N all rest K s') ⟨sl, H⟩ := by
  obtain ⟨h1, h2⟩ := Prod.mk.inj h0
  simp only [aop, h2, h1]
  intro ver
  have e : cid fid (some d) = id := hid
  rw [e]
  exact bops_le (putH_le (s := ⟨sl, H⟩) id ver (.map (entE f [])) d (.mp id ver)) (k ver)

end
end Go.AW

/- What functions of the library compute that chapter 11 uses (not printed). -/
namespace Go.AW
open Go
end Go.AW

/- Models, printed by lk.py. -/
namespace Go.AW
open Go
set_option linter.unusedVariables false
noncomputable def m_slices_Equal_Lint_int (p0 : List (Int)) (p1 : List (Int)) : Option (Bool) :=
  if ((p0).length : Int) ≠ ((p1).length : Int) then
    some false
  else
    lpO (loopW (S := Int) (X := Ou (Unit) (Bool)) (fun a1 =>
        if a1 < ((p0).length : Int) then
          (idx p0 a1).bind fun x5 =>
          (idx p1 a1).bind fun x7 =>
          if x5 ≠ x7 then
            some (Stp.exit (Ou.ret false))
          else
            some (Stp.next (IntKind.wrap .i64 (a1 + 1)))
        else
          some (Stp.exit (Ou.go ()))) 0) (fun a9 =>
        some true) some

noncomputable def m_language_ends (p0 : TLabelsStatesEdges) (p1 : List (Int)) (p2 : List UInt8) : Option ((List (Int))) :=
  (loopW (S := (List Int) × Int) (X := (List Int)) (fun a1 =>
      jp (fun (a5 : Bool) =>
        if a5 = true then
          (idx p2 a1.2).bind fun x8 =>
          (m_language_step p0 a1.1 (x8.toNat : Int)).bind fun x10 =>
          some (Stp.next (x10, IntKind.wrap .i64 (a1.2 + 1)))
        else
          some (Stp.exit a1.1))
        fun k7 =>
        if a1.2 < ((p2).length : Int) then
          k7 (decide (0 < ((a1.1).length : Int)))
        else
          k7 false) (p1, 0)).bind fun a13 =>
  some a13

noncomputable def m_language_Accepts (p0 : TLabelsStatesEdges) (p1 : List UInt8) : Option (Bool × Int) :=
  (m_language_spells p0 p1).bind fun x1 =>
  if x1 ≠ 0 then
    some (false, x1)
  else
    (m_language_states p0).bind fun x3 =>
    (m_language_ends p0 x3 p1).bind fun x5 =>
    some (decide (0 < ((x5).length : Int)), 0)

end Go.AW

/- Lockstep walks: a call whose body is walked in its place, with what the caller owns. -/
namespace Go.AW
open Go
section
variable {P : Program} {ro : Option Nat} {N : Nat} {s : AS} {o : Oper} {sl : List (Nat × HV)} {H : Heap} {all : Array Oper} {rest l : List Oper} {K : AS → Prop} {Q : Exit → AS → Prop}

theorem AW.fin {c : Code} (h : AW P ro N c (thenQ (fun s' => s'.to (Q .normal)) Q) s) : AW P ro N c Q s := by
  intro w0 μ0 μ a w hs hE
  refine wpIn_mono (h w0 μ0 μ a w hs hE) ?_
  rintro e a' w' ⟨h1, h2, μ', s', h3, h4, h5⟩
  cases e with
  | normal =>
    obtain ⟨μ2, t, ht, hs2, E2⟩ := h3 ro N w0.heap.size μ' a' w' h4
    exact ⟨h1, h2, μ2, t, ht, hs2, h5.trans E2⟩
  | exit id => exact ⟨h1, h2, μ', s', h3, h4, h5⟩
  | goto l => exact ⟨h1, h2, μ', s', h3, h4, h5⟩
  | ret => exact ⟨h1, h2, μ', s', h3, h4, h5⟩
  | panic ch => exact absurd rfl (h1 ch)
  | outgrown => exact absurd rfl h2

theorem resAll_mono : ∀ {rvs : List ResultVar} {F G : List HV → Prop}, resAll P s rvs F → (∀ h, F h → G h) → resAll P s rvs G := by
  intro rvs
  induction rvs with
  | nil => intro F G h hg; exact hg _ h
  | cons rv rvs ih =>
    intro F G h hg
    have one : ∀ {R R' : HV → Prop}, resOne P s rv R → (∀ v, R v → R' v) → resOne P s rv R' := by
      intro R R' h hr
      unfold resOne at h ⊢
      split at h
      · split at h
        · exact hr _ h
        · exact h.elim
      · split at h
        · exact loadK_mono h hr
        · split at h
          · exact ⟨h.1, loadK_mono h.2 hr⟩
          · exact h.elim
        · exact h.elim
    exact one h fun v hv => ih hv fun hs => hg _

end
end Go.AW

/- Maps: looking up with an answer whether there is an entry; deleting while the map is ranged over. -/
namespace Go.AW
open Go Go.MapKept
section
variable {P : Program} {ro : Option Nat} {N : Nat} {s : AS} {w w' : World} {μ : Mu} {H : Heap}

section
variable {o : Oper} {sl : List (Nat × HV)} {H : Heap} {all : Array Oper} {rest : List Oper} {K : AS → Prop} {β : Type}
theorem b_opX (hg : o.guard = none) (h : okd N o.dst = true → AOp P ro N o (fun s' => bops P ro N all rest K s') ⟨sl, H⟩) : bops P ro N all (o :: rest) K ⟨sl, H⟩ := by
  intro hok i hl
  obtain ⟨ho, hN, hl'⟩ := b_step hok hl
  rw [List.length_cons, List.range'_succ]
  refine AOps.cons ho hg fun w0 μ0 μ a w next Q hs hE hK => ?_
  exact h hN w0 μ0 μ a w next Q hs hE fun μ' s' a' w' hk hs' hE' => hK μ' s' a' w' (hk hok (i + 1) hl') hs' hE'

theorem one_opX {G : AS → Prop} {s : AS} (hk : AOp P ro N o (fun s' => bops P ro N #[] [] G s') s) : AOp P ro N o G s := by
  intro w0 μ0 μ a w next Q hs hE hK
  refine hk w0 μ0 μ a w next Q hs hE fun μ' s' a' w' h' hs' hE' => ?_
  have hb := h' (by simp) 0 (fun k => by simp)
  have := hb w0 μ0 μ' a' w' (fun _ a w => next a w) hs' hE' (fun μ2 s2 a2 w2 hk2 hs2 hE2 => hK μ2 s2 a2 w2 hk2 hs2 hE2)
  simpa only [List.length_nil, List.range'_zero, wpOpsIn] using this
theorem y_opX {ops : Array Oper} {s : AS} {q : Nat} (hc : (daOk ops && Nat.ble (q + 1) ops.size && waitOk ops q (q + 1)) = true) (ho : ops[q]? = some o) (hg : o.guard = none) (hN : okd N o.dst = true)
    (h : okd N o.dst = true → AOp P ro N o (fun s' => bops P ro N #[] [] (nyops P ro N ops K (q + 1)) s') s) : nyops P ro N ops K q s := by
  simp only [Bool.and_eq_true] at hc
  obtain ⟨⟨h1, h2⟩, h3⟩ := hc
  exact AnyAt.op h1 (Nat.le_of_ble_eq_true h2) h3 (AOpI.plain ho hg (one_opX (h hN)))
end

end
end Go.AW

/- Regions that draw their order, by the sets of the operations that are done. -/
namespace Go.AW
open Go
section
variable {P : Program} {ro : Option Nat} {N : Nat} {s : AS} {ops : Array Oper} {o : Oper} {K : AS → Prop} {G : AS → Prop} {F : List Nat → AS → Prop} {L : List Nat}

def AnyL (P : Program) (ro : Option Nat) (N : Nat) (ops : Array Oper) (K : AS → Prop) (L : List Nat) (s : AS) : Prop :=
  ∀ (w0 : World) (μ0 : Mu) (fuel : Nat) (listed : Array Bool) (μ1 : Mu) (a1 : Act) (w1 : World), listed.size = ops.size → cnt listed ≤ fuel → (∀ i, i < ops.size → listed.getD i false = L.contains i) →
    SRel ro N w0.heap.size μ1 s a1 w1 → Evo w0 μ0 w1 μ1 → wpAnyIn (fence ro) 0 P .any ops (Post ro N (fun e s' => e = .normal ∧ K s') w0 μ0) fuel listed a1 w1

def readyL (ops : Array Oper) (L : List Nat) : List Nat := (List.range ops.size).filter fun i => !L.contains i && (da ops i).all L.contains
def allR : List Nat → (Nat → Prop) → Prop
  | [], _ => True
  | i :: l, f => f i ∧ allR l f
theorem allR_mem {f : Nat → Prop} : ∀ {l : List Nat}, allR l f → ∀ i ∈ l, f i
  | [], _, _, h => by cases h
  | j :: l, h, i, hi => by
    rcases List.mem_cons.1 hi with rfl | hi
    · exact h.1
    · exact allR_mem h.2 i hi

theorem l_step (hF : F = AnyL P ro N ops K) (hda : daOk ops = true) (rs : List Nat) (hr : readyL ops L = rs) (hne : rs.isEmpty = false) (h : allR rs fun i => AOpI P ro N ops i (F (i :: L)) s) : F L s := by
  subst hF
  intro w0 μ0 fuel listed μ1 a1 w1 hl hc hlist hs hE
  have hda' := daOk_spec hda
  obtain ⟨q, hq⟩ : ∃ q, q ∈ rs := by
    cases rs with
    | nil => cases hne
    | cons q l => exact ⟨q, List.mem_cons_self ..⟩
  have hq' := hq
  rw [← hr] at hq'
  simp only [readyL, List.mem_filter, List.mem_range, Bool.and_eq_true, Bool.not_eq_true', List.all_eq_true] at hq'
  obtain ⟨hqs, hqL, hqd⟩ := hq'
  have hqn : listed.getD q false = false := by rw [hlist q hqs]; exact hqL
  cases fuel with
  | zero =>
    have := cnt_pos (listed := listed) (i := q) (by rw [getD_tf (by omega)]; exact hqn)
    omega
  | succ fuel =>
    refine ⟨fun hr0 => ?_, fun i hi => ?_⟩
    · exfalso
      have : q ∈ Region.ready .any ops listed := by
        refine mem_ready.2 ⟨by rw [getD_tf (by omega)]; exact hqn, ops[q], by simp [hqs], fun e he hb => ?_⟩
        have hk : e.on ∈ da ops q := by
          simp only [da, Array.getElem?_eq_getElem hqs, List.mem_map, List.mem_filter]
          exact ⟨e, ⟨by simpa using he, hb⟩, rfl⟩
        rw [hlist _ (Nat.lt_trans (hda' q hqs _ hk) hqs)]
        exact hqd _ hk
      rw [hr0] at this
      cases this
    · have hdone := deps_done hi
      obtain ⟨h0, o, ho, _⟩ := mem_ready.1 hi
      have his := (Array.getElem?_eq_some_iff.1 ho).1
      have h0' := h0
      rw [getD_tf (by omega), hlist i his] at h0'
      have hir : i ∈ rs := by
        rw [← hr]
        simp only [readyL, List.mem_filter, List.mem_range, Bool.and_eq_true, Bool.not_eq_true', List.all_eq_true]
        refine ⟨his, h0', fun k hk => ?_⟩
        rw [← hlist k (Nat.lt_trans (hda' i his k hk) his)]
        exact hdone k hk
      refine allR_mem h i hir w0 μ0 μ1 a1 w1 _ _ hs hE fun μ2 s2 a2 w2 hk hs2 hE2 => hk w0 μ0 fuel _ μ2 a2 w2 (by simp [hl]) ?_ (fun k hk => ?_) hs2 hE2
      · have := cnt_set (listed := listed) (i := i) h0
        omega
      · by_cases hki : i = k
        · subst hki
          have : i < listed.size := by omega
          simp [this]
        · rw [getD_set_ne false hki, hlist k hk]
          simp only [List.contains_cons]
          have : (k == i) = false := by simpa using fun e => hki e.symm
          rw [this, Bool.false_or]

theorem l_done (hF : F = AnyL P ro N ops K) (hda : daOk ops = true) (hall : (List.range ops.size).all L.contains = true) (h : K s) : F L s := by
  subst hF
  intro w0 μ0 fuel listed μ1 a1 w1 hl hc hlist hs hE
  have ha : AnyAt P ro N ops (fun e s' => e = .normal ∧ K s') ops.size s := AnyAt.done hda ⟨rfl, h⟩
  refine ha w0 μ0 fuel listed μ1 a1 w1 hl hc (fun i hi => ?_) hs hE
  rw [hlist i hi, decide_eq_true hi]
  exact List.all_eq_true.1 hall i (List.mem_range.2 hi)

theorem l_go {L' : List Nat} {s' : AS} (hF : F = AnyL P ro N ops K) (hsame : (List.range ops.size).all (fun i => L.contains i == L'.contains i) = true) (h : F L' s') (hle : s.le s') : F L s := by
  subst hF
  intro w0 μ0 fuel listed μ1 a1 w1 hl hc hlist hs hE
  refine h w0 μ0 fuel listed (μ1.cut s'.heap) a1 w1 hl hc (fun i hi => ?_) (hs.weaken hle) (hE.trans (Evo.cut w1 μ1 s'.heap))
  rw [hlist i hi]
  exact eq_of_beq (List.all_eq_true.1 hsame i (List.mem_range.2 hi))

theorem l_one {fid : Nat} {mt : List Nat} (hN : okd N o.dst = true) (h : aop P fid mt o (fun s' => bops P ro N #[] [] G s') s) : AOp P ro N o G s := by
  have hk : AOp P ro N o _ s := aop_sound hN h
  intro w0 μ0 μ a w next Q hs hE hK
  refine hk w0 μ0 μ a w next Q hs hE fun μ' s' a' w' h' hs' hE' => ?_
  have hb := h' (by simp) 0 (fun k => by simp)
  have := hb w0 μ0 μ' a' w' (fun _ a w => next a w) hs' hE' (fun μ2 s2 a2 w2 hk2 hs2 hE2 => hK μ2 s2 a2 w2 hk2 hs2 hE2)
  simpa only [List.length_nil, List.range'_zero, wpOpsIn] using this
theorem l_op {i : Nat} {fid : Nat} {mt : List Nat} (ho : ops[i]? = some o) (hg : o.guard = none) (hN : okd N o.dst = true) (h : aop P fid mt o (fun s' => bops P ro N #[] [] G s') s) : AOpI P ro N ops i G s := AOpI.plain ho hg (l_one hN h)
theorem AW.dl {id : Nat} {Q : Exit → AS → Prop} (hm : P.follows .mixedOrders = true) (h : ∀ K : AS → Prop, (∀ s', Q .normal s' → K s') → ∀ F : List Nat → AS → Prop, F = AnyL P ro N ops K → F [] s) : AW P ro N (.region id ops true) Q s := by
  refine AW.conseq (Q' := fun e s' => e = .normal ∧ Q .normal s') (AW.any hm ?_) fun e s1 ⟨he, h⟩ => he ▸ ⟨s1, AS.le_refl s1, h⟩
  intro w0 μ0 fuel listed μ1 a1 w1 hl hc hlist hs hE
  exact h (Q .normal) (fun _ h => h) _ rfl w0 μ0 fuel listed μ1 a1 w1 hl hc (fun i hi => by rw [hlist i hi]; simp) hs hE
theorem AW.dls {id : Nat} {y : Code} {Q : Exit → AS → Prop} (hm : P.follows .mixedOrders = true) (h : ∀ K : AS → Prop, (∀ s', AW P ro N y Q s' → K s') → ∀ F : List Nat → AS → Prop, F = AnyL P ro N ops K → F [] s) : AW P ro N (.seq (.region id ops true) y) Q s :=
  AW.seq (AW.dl hm h)
end
end Go.AW

/- Regions that draw their order: an operation that looks at no world may be taken first. -/
namespace Go.AW
open Go

section
variable {P : Program} {ro : Option Nat} {N B : Nat} {s : AS} {μ : Mu} {a : Act} {w : World}
end

section
variable {P : Program} {N : Nat} {s : AS} {ops : Array Oper} {o : Oper} {K : AS → Prop} {F : List Nat → AS → Prop} {L : List Nat}
end
end Go.AW

/- Arrays of arrays in lockstep: an owned array in a place of an owned array of frozen ones (a place that is filled later). -/
namespace Go.AW
open Go

theorem SR.frzH {w : World} {μ : Mu} {H D H' : Heap} (n : Nat) (h : SR w μ H) (hD : ∀ id x, hget D id = some x → hget H id = some x ∧ hget H' id = none)
    (hs : ∀ id ver o, hget H' id = some (ver, o) → hget H id = some (ver, o) ∨ ∃ k e cs, hget H id = some (ver, .arr k e cs) ∧ o = .arr k e (cs.map (frz n D))) : SR w (μ.cut H') H' where
  ok := fun id ver b hb => h.ok id ver b (Mu.cut_some hb)
  has := fun id ver o ho => by
    rcases hs id ver o ho with h1 | ⟨k, e, cs, h1, rfl⟩
    · obtain ⟨l, hl, hor⟩ := h.has id ver o h1
      exact ⟨l, by simp [Mu.cut, ho, hl], hor.evo (Evo.cut w μ H') h.ok (fun _ _ => rfl) (fun _ _ _ _ _ _ _ _ => rfl)⟩
    · obtain ⟨l, hl, hor⟩ := h.has id ver _ h1
      refine ⟨l, by simp [Mu.cut, ho, hl], ?_⟩
      cases l with
      | none =>
        have : cs = [] := hor
        subst this
        exact (rfl : ([] : List HV).map (frz n D) = [])
      | some b =>
        obtain ⟨h0, cur, vs, rest, hrow, hcl, hrl⟩ := hor
        exact ⟨ones_frz h0, cur, vs, rest, hrow, hcl, RepL.mapF (fun c x _ => frz_rep h hD n c x) hrl⟩
  only := fun id x hx => by
    simp only [Mu.cut] at hx
    split at hx
    · rename_i hi; exact Option.isSome_iff_exists.1 hi
    · cases hx
  inj := fun i j v u b hi hj => h.inj i j v u b (Mu.cut_some hi) (Mu.cut_some hj)
  held := fun b hb => ⟨(h.held b hb).1, fun ⟨id, ver, hl⟩ => (h.held b hb).2 ⟨id, ver, Mu.cut_some hl⟩⟩

def leO (n : Nat) (D : Heap) (l : Heap) : Heap → Prop
  | [] => True
  | (i, v, o) :: l' => (hget l i = some (v, o) ∨ ∃ k e cs, hget l i = some (v, .arr k e cs) ∧ o = .arr k e (cs.map (frz n D))) ∧ leO n D l l'
theorem leO_get {n : Nat} {D l : Heap} : ∀ {l' : Heap}, leO n D l l' → ∀ t v o, hget l' t = some (v, o) → hget l t = some (v, o) ∨ ∃ k e cs, hget l t = some (v, .arr k e cs) ∧ o = .arr k e (cs.map (frz n D))
  | [], _, _, _, _, h => by cases h
  | (i, g, u) :: l', h, t, v, o, ht => by
    simp only [hget] at ht
    split at ht
    · rename_i e; subst e; cases ht; exact h.1
    · exact leO_get h.2 t v o ht

theorem to_fill {s : AS} {G : AS → Prop} (n : Nat) (D : Heap) (s' : AS) (h1 : leF n D s.slots s'.slots) (h2 : leO n D s.heap s'.heap) (h3 : leH s.heap D) (h4 : noneH s'.heap D) (h : G s') : s.to G := by
  intro ro N B μ a w hs
  have hD : ∀ id x, hget D id = some x → hget s.heap id = some x ∧ hget s'.heap id = none := fun id x hx => ⟨leH_get h3 id x hx, noneH_get h4 id x hx⟩
  refine ⟨μ.cut s'.heap, s', h, ⟨hs.size, hs.sr.frzH n hD (leO_get h2), fun t hv ht => ?_, hs.marks.evo (Evo.cut w μ s'.heap), hs.ro.evo (Evo.cut w μ s'.heap)⟩, Evo.cut w μ s'.heap⟩
  obtain ⟨g, hg, rfl⟩ := leF_get h1 t hv ht
  exact ⟨(hs.slot t g hg).1, frz_rep hs.sr hD n g _ (hs.slot t g hg).2⟩

theorem LeL.ones : ∀ {aa bs : List HV} (_ : LeL aa bs), ones aa → ones bs
  | _, _, .nil, h => h
  | _, _, .cons h h', h0 => fun c hc => by
    rcases List.mem_cons.1 hc with rfl | hc
    · have := h0 _ (List.mem_cons_self ..)
      cases h with
      | refl => exact this
      | nil => rfl
      | empty => rfl
    · exact LeL.ones h' (fun d hd => h0 d (List.mem_cons_of_mem _ hd)) c hc

section
variable {P : Program} {ro : Option Nat} {N : Nat} {all : Array Oper} {s : AS} {rest : List Oper} {o : Oper} {K : AS → Prop} {fid : Nat} {sl : List (Nat × HV)} {H : Heap}

theorem AOps.to {is : List Nat} (h : s.to (AOps P ro N all is K)) : AOps P ro N all is K s := fun w0 μ0 μ a w Q hs hE hK => by
  obtain ⟨μ1, t, ht, hs1, E1⟩ := h ro N w0.heap.size μ a w hs
  exact ht w0 μ0 μ1 a w Q hs1 (hE.trans E1) hK
theorem b_to {l : List Oper} (h : s.to (bops P ro N all l K)) : bops P ro N all l K s := fun hok i hi => AOps.to (to_mono h fun t ht => ht hok i hi)

end
end Go.AW
