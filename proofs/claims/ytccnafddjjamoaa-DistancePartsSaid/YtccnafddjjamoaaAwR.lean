/- Renaming the versions of an abstract state: what an evaluation of closed code may count, and how the count is read in a run. -/
import Derived.Test.YtccnafddjjamoaaAwO
namespace Go.AW
open Go

mutual
def HV.ren (ρ : Nat → Nat) : HV → HV
  | .int k n => .int k n
  | .bool b => .bool b
  | .str l => .str l
  | .v x => .v x
  | .agg cs => .agg (renL ρ cs)
  | .tup cs => .tup (renL ρ cs)
  | .sl k n cs => .sl k n (renL ρ cs)
  | .ar id ver k off n => .ar id (ρ ver) k off n
  | .ptr id ver off => .ptr id (ρ ver) off
  | .fptr cs off => .fptr (renL ρ cs) off
  | .fn f fs cs => .fn f (renL ρ fs) (renL ρ cs)
  | .mp id ver => .mp id (ρ ver)
  | .yl id ver => .yl id (ρ ver)
  | .it id ver => .it id (ρ ver)
def renL (ρ : Nat → Nat) : List HV → List HV
  | [] => []
  | c :: cs => c.ren ρ :: renL ρ cs
end

theorem renL_map (ρ : Nat → Nat) : ∀ cs, renL ρ cs = cs.map (HV.ren ρ)
  | [] => by simp [renL]
  | c :: cs => by simp [renL, renL_map ρ cs]

def renS (ρ : Nat → Nat) : List (Nat × HV) → List (Nat × HV)
  | [] => []
  | (t, h) :: l => (t, h.ren ρ) :: renS ρ l

def renE (ρ : Nat → Nat) : List (List UInt8 × HV) → List (List UInt8 × HV)
  | [] => []
  | (t, h) :: l => (t, h.ren ρ) :: renE ρ l

def AObj.ren (ρ : Nat → Nat) : AObj → AObj
  | .arr k e cs => .arr k e (renL ρ cs)
  | .map es => .map (renE ρ es)
  | .iter mid mver seen cur => .iter mid (ρ mver) seen cur
  | .loop st pend f n snap ps assign body => .loop st pend (ρ f) n (renS ρ snap) ps assign body

def renH (ρ : Nat → Nat) : Heap → Heap
  | [] => []
  | (i, v, o) :: l => (i, ρ v, o.ren ρ) :: renH ρ l

def AS.ren (ρ : Nat → Nat) (s : AS) : AS := ⟨renS ρ s.slots, renH ρ s.heap⟩

theorem sget_ren (ρ : Nat → Nat) : ∀ (l : List (Nat × HV)) (t : Nat), sget (renS ρ l) t = (sget l t).map (HV.ren ρ)
  | [], t => rfl
  | (i, h) :: l, t => by
    simp only [renS, sget]
    split
    · rfl
    · exact sget_ren ρ l t

theorem hget_ren (ρ : Nat → Nat) : ∀ (l : Heap) (t : Nat), hget (renH ρ l) t = (hget l t).map fun x => (ρ x.1, x.2.ren ρ)
  | [], t => rfl
  | (i, v, o) :: l, t => by
    simp only [renH, hget]
    split
    · rfl
    · exact hget_ren ρ l t

theorem renS_set (ρ : Nat → Nat) : ∀ (l : List (Nat × HV)) (t : Nat) (h : HV), renS ρ (sset l t h) = sset (renS ρ l) t (h.ren ρ)
  | [], t, h => rfl
  | (i, g) :: l, t, h => by
    simp only [renS, sset]
    split
    · rfl
    · simp only [renS, renS_set ρ l t h]

theorem renH_set (ρ : Nat → Nat) : ∀ (l : Heap) (t v : Nat) (o : AObj), renH ρ (hset l t v o) = hset (renH ρ l) t (ρ v) (o.ren ρ)
  | [], t, v, o => rfl
  | (i, w, p) :: l, t, v, o => by
    simp only [renH, hset]
    split
    · rfl
    · simp only [renH, renH_set ρ l t v o]

theorem ren_put (ρ : Nat → Nat) (s : AS) (d : Option Tmp) (h : HV) : (s.put d h).ren ρ = (s.ren ρ).put d (h.ren ρ) := by
  cases d with
  | none => rfl
  | some t => simp [AS.put, AS.ren, renS_set]

theorem constHV_ren (ρ : Nat → Nat) (v : Value) : (constHV v).map (HV.ren ρ) = constHV v := by
  cases v with
  | int k n => simp only [constHV]; split <;> rfl
  | string s => simp only [constHV]; split <;> rfl
  | _ => rfl

theorem ev_ren (ρ : Nat → Nat) (s : AS) (x : Operand) : (s.ren ρ).ev x = (s.ev x).map (HV.ren ρ) := by
  cases x with
  | tmp t => exact sget_ren ρ s.slots t
  | const v => exact (constHV_ren ρ v).symm
  | global g => rfl
  | func f => rfl

theorem evL_ren (ρ : Nat → Nat) (s : AS) : ∀ xs : List Operand, xs.mapM (s.ren ρ).ev = (xs.mapM s.ev).map (renL ρ)
  | [] => rfl
  | x :: xs => by
    simp only [List.mapM_cons, Option.pure_def, Option.bind_eq_bind, ev_ren, evL_ren ρ s xs]
    cases s.ev x with
    | none => rfl
    | some h => cases xs.mapM s.ev <;> rfl

theorem one_ren (ρ : Nat → Nat) (h : HV) : (h.ren ρ).one = h.one := by cases h <;> rfl

theorem cells_ren (ρ : Nat → Nat) (h : HV) : (h.ren ρ).cells? = h.cells?.map (renL ρ) := by
  cases h with
  | v x => simp only [HV.ren, HV.cells?]; split <;> rfl
  | _ => rfl

theorem renL_len (ρ : Nat → Nat) (cs : List HV) : (renL ρ cs).length = cs.length := by simp [renL_map]
theorem renL_get (ρ : Nat → Nat) (cs : List HV) (i : Nat) : (renL ρ cs)[i]? = cs[i]?.map (HV.ren ρ) := by simp [renL_map]
theorem renL_drop (ρ : Nat → Nat) (cs : List HV) (i : Nat) : renL ρ (cs.drop i) = (renL ρ cs).drop i := by simp [renL_map]
theorem renL_take (ρ : Nat → Nat) (cs : List HV) (i : Nat) : renL ρ (cs.take i) = (renL ρ cs).take i := by simp [renL_map]
theorem renL_append (ρ : Nat → Nat) (cs ds : List HV) : renL ρ (cs ++ ds) = renL ρ cs ++ renL ρ ds := by simp [renL_map]
theorem renL_set (ρ : Nat → Nat) (cs : List HV) (i : Nat) (c : HV) : renL ρ (cs.set i c) = (renL ρ cs).set i (c.ren ρ) := by simp [renL_map, List.map_set]
theorem renL_splice (ρ : Nat → Nat) (xs : List HV) (off : Nat) (cs : List HV) : renL ρ (splice xs off cs) = splice (renL ρ xs) off (renL ρ cs) := by
  match cs with
  | [] => simp [splice, renL, renL_append, renL_take, renL_drop]
  | [c] => simp [splice, renL, renL_set]
  | c :: d :: cs => simp [splice, renL, renL_append, renL_take, renL_drop, renL_len]

/-! versions below n -/
mutual
def HV.sc (n : Nat) : HV → Bool
  | .agg cs | .tup cs | .sl _ _ cs | .fptr cs _ => scL n cs
  | .ar _ ver _ _ _ | .ptr _ ver _ | .mp _ ver | .yl _ ver | .it _ ver => Nat.blt ver n
  | .fn _ fs cs => scL n fs && scL n cs
  | _ => true
def scL (n : Nat) : List HV → Bool
  | [] => true
  | c :: cs => c.sc n && scL n cs
end
def scS (n : Nat) : List (Nat × HV) → Bool
  | [] => true
  | (_, h) :: l => h.sc n && scS n l
def scE (n : Nat) : List (List UInt8 × HV) → Bool
  | [] => true
  | (_, h) :: l => h.sc n && scE n l
def AObj.sc (n : Nat) : AObj → Bool
  | .arr _ _ cs => scL n cs
  | .map es => scE n es
  | .iter _ mver _ _ => Nat.blt mver n
  | .loop _ _ f _ snap _ _ _ => Nat.blt f n && scS n snap
def scH (n : Nat) : Heap → Bool
  | [] => true
  | (i, v, o) :: l => (Nat.blt i n && Nat.blt v n) && o.sc n && scH n l
def AS.sc (n : Nat) (s : AS) : Bool := scS n s.slots && scH n s.heap

def Agree (n : Nat) (ρ ρ' : Nat → Nat) : Prop := ∀ v, v < n → ρ v = ρ' v
theorem Agree.refl (n : Nat) (ρ : Nat → Nat) : Agree n ρ ρ := fun _ _ => rfl
theorem Agree.trans {n m : Nat} {ρ ρ' ρ'' : Nat → Nat} (h : Agree n ρ ρ') (hn : n ≤ m) (h' : Agree m ρ' ρ'') : Agree n ρ ρ'' := fun v hv => (h v hv).trans (h' v (by omega))
def upd (ρ : Nat → Nat) (n v : Nat) : Nat → Nat := fun x => if x = n then v else ρ x
theorem Agree.upd (n v : Nat) (ρ : Nat → Nat) : Agree n ρ (upd ρ n v) := fun x hx => by simp only [AW.upd]; rw [if_neg (by omega)]
theorem upd_at (ρ : Nat → Nat) (n v : Nat) : upd ρ n v n = v := by simp [AW.upd]

section
variable {n m : Nat} {ρ ρ' : Nat → Nat}
theorem blt_lt {a b : Nat} (h : Nat.blt a b = true) : a < b := by simpa [Nat.blt_eq] using h

mutual
theorem HV.ren_agree (ha : Agree n ρ ρ') : ∀ h : HV, h.sc n = true → h.ren ρ = h.ren ρ'
  | .int _ _, _ => rfl
  | .bool _, _ => rfl
  | .str _, _ => rfl
  | .v _, _ => rfl
  | .agg cs, h => congrArg HV.agg (renL_agree ha cs h)
  | .tup cs, h => congrArg HV.tup (renL_agree ha cs h)
  | .sl k m cs, h => congrArg (HV.sl k m) (renL_agree ha cs h)
  | .ar id ver k off m, h => by simp only [HV.ren]; rw [ha ver (blt_lt h)]
  | .ptr id ver off, h => by simp only [HV.ren]; rw [ha ver (blt_lt h)]
  | .fptr cs off, h => congrArg (fun x => HV.fptr x off) (renL_agree ha cs h)
  | .fn f fs cs, h => by
    simp only [HV.sc, Bool.and_eq_true] at h
    simp only [HV.ren]
    rw [renL_agree ha fs h.1, renL_agree ha cs h.2]
  | .mp id ver, h => by simp only [HV.ren]; rw [ha ver (blt_lt h)]
  | .yl id ver, h => by simp only [HV.ren]; rw [ha ver (blt_lt h)]
  | .it id ver, h => by simp only [HV.ren]; rw [ha ver (blt_lt h)]
theorem renL_agree (ha : Agree n ρ ρ') : ∀ cs : List HV, scL n cs = true → renL ρ cs = renL ρ' cs
  | [], _ => rfl
  | c :: cs, h => by
    simp only [scL, Bool.and_eq_true] at h
    simp only [renL]
    rw [HV.ren_agree ha c h.1, renL_agree ha cs h.2]
end
theorem renS_agree (ha : Agree n ρ ρ') : ∀ l, scS n l = true → renS ρ l = renS ρ' l
  | [], _ => rfl
  | (_, c) :: cs, h => by
    simp only [scS, Bool.and_eq_true] at h
    simp only [renS]
    rw [HV.ren_agree ha c h.1, renS_agree ha cs h.2]
theorem renE_agree (ha : Agree n ρ ρ') : ∀ l, scE n l = true → renE ρ l = renE ρ' l
  | [], _ => rfl
  | (_, c) :: cs, h => by
    simp only [scE, Bool.and_eq_true] at h
    simp only [renE]
    rw [HV.ren_agree ha c h.1, renE_agree ha cs h.2]
theorem AObj.ren_agree (ha : Agree n ρ ρ') : ∀ o : AObj, o.sc n = true → o.ren ρ = o.ren ρ'
  | .arr k e cs, h => congrArg (AObj.arr k e) (renL_agree ha cs h)
  | .map es, h => congrArg AObj.map (renE_agree ha es h)
  | .iter mid mver seen cur, h => by simp only [AObj.ren]; rw [ha mver (blt_lt h)]
  | .loop st pend f n' snap ps a b, h => by
    simp only [AObj.sc, Bool.and_eq_true] at h
    simp only [AObj.ren]; rw [ha f (blt_lt h.1), renS_agree ha snap h.2]
theorem renH_agree (ha : Agree n ρ ρ') : ∀ l, scH n l = true → renH ρ l = renH ρ' l
  | [], _ => rfl
  | (i, v, o) :: cs, h => by
    simp only [scH, Bool.and_eq_true] at h
    simp only [renH]
    rw [ha v (blt_lt h.1.1.2), AObj.ren_agree ha o h.1.2, renH_agree ha cs h.2]
theorem AS.ren_agree (ha : Agree n ρ ρ') (s : AS) (h : s.sc n = true) : s.ren ρ = s.ren ρ' := by
  simp only [AS.sc, Bool.and_eq_true] at h
  simp only [AS.ren]
  rw [renS_agree ha _ h.1, renH_agree ha _ h.2]

theorem blt_mono {a : Nat} (hm : n ≤ m) (h : Nat.blt a n = true) : Nat.blt a m = true := by
  have := blt_lt h
  simp [Nat.blt_eq]; omega
mutual
theorem HV.sc_mono (hm : n ≤ m) : ∀ h : HV, h.sc n = true → h.sc m = true
  | .int _ _, _ => rfl
  | .bool _, _ => rfl
  | .str _, _ => rfl
  | .v _, _ => rfl
  | .agg cs, h => scL_mono hm cs h
  | .tup cs, h => scL_mono hm cs h
  | .sl k _ cs, h => scL_mono hm cs h
  | .ar id ver k off _, h => blt_mono hm h
  | .ptr id ver off, h => blt_mono hm h
  | .fptr cs off, h => scL_mono hm cs h
  | .fn f fs cs, h => by
    simp only [HV.sc, Bool.and_eq_true] at h ⊢
    exact ⟨scL_mono hm fs h.1, scL_mono hm cs h.2⟩
  | .mp id ver, h => blt_mono hm h
  | .yl id ver, h => blt_mono hm h
  | .it id ver, h => blt_mono hm h
theorem scL_mono (hm : n ≤ m) : ∀ cs : List HV, scL n cs = true → scL m cs = true
  | [], _ => rfl
  | c :: cs, h => by
    simp only [scL, Bool.and_eq_true] at h ⊢
    exact ⟨HV.sc_mono hm c h.1, scL_mono hm cs h.2⟩
end
theorem scS_mono (hm : n ≤ m) : ∀ l, scS n l = true → scS m l = true
  | [], _ => rfl
  | (_, c) :: cs, h => by
    simp only [scS, Bool.and_eq_true] at h ⊢
    exact ⟨HV.sc_mono hm c h.1, scS_mono hm cs h.2⟩
theorem scE_mono (hm : n ≤ m) : ∀ l, scE n l = true → scE m l = true
  | [], _ => rfl
  | (_, c) :: cs, h => by
    simp only [scE, Bool.and_eq_true] at h ⊢
    exact ⟨HV.sc_mono hm c h.1, scE_mono hm cs h.2⟩
theorem AObj.sc_mono (hm : n ≤ m) : ∀ o : AObj, o.sc n = true → o.sc m = true
  | .arr k e cs, h => scL_mono hm cs h
  | .map es, h => scE_mono hm es h
  | .iter mid mver seen cur, h => blt_mono hm h
  | .loop st pend f n' snap ps a b, h => by
    simp only [AObj.sc, Bool.and_eq_true] at h ⊢
    exact ⟨blt_mono hm h.1, scS_mono hm snap h.2⟩
theorem scH_mono (hm : n ≤ m) : ∀ l, scH n l = true → scH m l = true
  | [], _ => rfl
  | (i, v, o) :: cs, h => by
    simp only [scH, Bool.and_eq_true] at h ⊢
    exact ⟨⟨⟨blt_mono hm h.1.1.1, blt_mono hm h.1.1.2⟩, AObj.sc_mono hm o h.1.2⟩, scH_mono hm cs h.2⟩
theorem AS.sc_mono (hm : n ≤ m) (s : AS) (h : s.sc n = true) : s.sc m = true := by
  simp only [AS.sc, Bool.and_eq_true] at h ⊢
  exact ⟨scS_mono hm _ h.1, scH_mono hm _ h.2⟩

theorem scS_set : ∀ (l : List (Nat × HV)) (t : Nat) (h : HV), scS n l = true → h.sc n = true → scS n (sset l t h) = true
  | [], t, h, _, hh => by simp [sset, scS, hh]
  | (i, g) :: l, t, h, hl, hh => by
    simp only [scS, Bool.and_eq_true] at hl
    simp only [sset]
    split
    · simp [scS, hh, hl.2]
    · simp only [scS, Bool.and_eq_true]
      exact ⟨hl.1, scS_set l t h hl.2 hh⟩
theorem scH_set : ∀ (l : Heap) (t v : Nat) (o : AObj), scH n l = true → t < n → v < n → o.sc n = true → scH n (hset l t v o) = true
  | [], t, v, o, _, ht, hv, hh => by simp [hset, scH, hh, Nat.blt_eq, hv, ht]
  | (i, w, g) :: l, t, v, o, hl, ht, hv, hh => by
    simp only [scH, Bool.and_eq_true] at hl
    simp only [hset]
    split
    · rename_i e
      subst e
      simp [scH, hh, hl.2, Nat.blt_eq, hv, ht]
    · simp only [scH, Bool.and_eq_true]
      exact ⟨hl.1, scH_set l t v o hl.2 ht hv hh⟩
theorem sc_put {s : AS} {d : Option Tmp} {h : HV} (hs : s.sc n = true) (hh : h.sc n = true) : (s.put d h).sc n = true := by
  cases d with
  | none => exact hs
  | some t =>
    simp only [AS.sc, Bool.and_eq_true] at hs
    simp only [AS.put, AS.sc, Bool.and_eq_true]
    exact ⟨scS_set _ _ _ hs.1 hh, hs.2⟩
theorem sc_heap {s : AS} {id v : Nat} {o : AObj} (hs : s.sc n = true) (ht : id < n) (hv : v < n) (hh : o.sc n = true) : ({ s with heap := hset s.heap id v o } : AS).sc n = true := by
  simp only [AS.sc, Bool.and_eq_true] at hs ⊢
  exact ⟨hs.1, scH_set _ _ _ _ hs.2 ht hv hh⟩
theorem sc_get {l : List (Nat × HV)} {t : Nat} {h : HV} (hl : scS n l = true) (hg : sget l t = some h) : h.sc n = true := by
  induction l with
  | nil => cases hg
  | cons x l ih =>
    obtain ⟨i, g⟩ := x
    simp only [scS, Bool.and_eq_true] at hl
    simp only [sget] at hg
    split at hg
    · cases hg; exact hl.1
    · exact ih hl.2 hg
theorem sch_get {l : Heap} {id v : Nat} {o : AObj} (hl : scH n l = true) (hg : hget l id = some (v, o)) : (id < n ∧ v < n) ∧ o.sc n = true := by
  induction l with
  | nil => cases hg
  | cons x l ih =>
    obtain ⟨i, w, g⟩ := x
    simp only [scH, Bool.and_eq_true] at hl
    simp only [hget] at hg
    split at hg
    · rename_i e; subst e; cases hg; exact ⟨⟨blt_lt hl.1.1.1, blt_lt hl.1.1.2⟩, hl.1.2⟩
    · exact ih hl.2 hg
end
end Go.AW
