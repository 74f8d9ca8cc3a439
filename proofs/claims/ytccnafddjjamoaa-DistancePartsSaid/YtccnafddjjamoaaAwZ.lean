/- Long regions with guards: the guards' slots from a small table, and a region cut into pieces. -/
import Derived.Test.YtccnafddjjamoaaAwL
namespace Go.AW
open Go

def tget : List (Nat × Nat) → Nat → Option Nat
  | [], _ => none
  | (i, d) :: l, j => if j = i then some d else tget l j

/-- the table names slots of guards -/
def tabOk (ops : Array Oper) (tab : List (Nat × Nat)) : Bool := tab.all fun p => match ops[p.1]? with
  | some o => o.dst == some p.2
  | none => false

def aopsD (P : Program) (fid : Nat) (mt : List Nat) (tab : List (Nat × Nat)) : List Oper → (AS → Prop) → AS → Prop
  | [], K, s => K s
  | o :: rest, K, s => match o.guard with
    | none => aop P fid mt o (aopsD P fid mt tab rest K) s
    | some (j, want) => match tget tab j with
      | some d => match sget s.slots d with
        | some (.bool b) => if b = want then aop P fid mt o (aopsD P fid mt tab rest K) (s.put (some d) (.bool want))
            else aopsD P fid mt tab rest K ((s.put (some d) (.bool !want)).put o.dst (.v undef))
        | some (.v x) => x = undef ∧ aopsD P fid mt tab rest K (s.put o.dst (.v undef))
        | _ => False
      | none => False

section
variable {P : Program} {ro : Option Nat} {N : Nat} {s : AS} {fid : Nat} {mt : List Nat} {Q : Exit → AS → Prop}

theorem tget_ok {ops : Array Oper} : ∀ {tab : List (Nat × Nat)}, tabOk ops tab = true → ∀ {j d : Nat}, tget tab j = some d → ∃ o, ops.toList[j]? = some o ∧ o.dst = some d
  | [], _, _, _, h => by cases h
  | (i, e) :: tab, ht, j, d, h => by
    simp only [tabOk, List.all_cons, Bool.and_eq_true] at ht
    simp only [tget] at h
    split at h
    · rename_i hj
      subst hj
      cases h
      have h1 := ht.1
      split at h1
      · rename_i o ho
        exact ⟨o, by rw [Array.getElem?_toList]; exact ho, by simpa using h1⟩
      · cases h1
    · exact tget_ok (tab := tab) ht.2 h

theorem aops_mono {all : List Oper} {K K' : AS → Prop} (hk : ∀ s, K s → K' s) {o : Oper} : True := trivial

/-- a guard that has itself been passed over -/
theorem AOps.guardU {ops : Array Oper} {K : AS → Prop} {i j d : Nat} {is : List Nat} {o oj : Oper} {want : Bool} (ho : ops[i]? = some o) (hN : okd N o.dst = true) (hg : o.guard = some (j, want)) (hj : ops[j]? = some oj) (hd : oj.dst = some d)
    (hb : sget s.slots d = some (.v undef)) (h2 : AOps P ro N ops is K (s.put o.dst (.v undef))) : AOps P ro N ops (i :: is) K s := by
  intro w0 μ0 μ a w Q hs hE hK
  obtain ⟨hdN, hbv⟩ := hs.slot d _ hb
  have hy : yielded ops a.tmps j = none := by
    have hlt : d < a.tmps.size := by rw [hs.size]; exact hdN
    have hv : a.tmps[d]? = some undef := by
      have hbv' : a.tmps.getD d undef = undef := hbv
      rw [Array.getD_eq_getD_getElem?, Array.getElem?_eq_getElem hlt] at hbv'
      rw [Array.getElem?_eq_getElem hlt]
      simpa using hbv'
    simp [yielded, hj, hd, hv, undef]
  simp only [wpOpsIn, ho, Region.wanted, hg, hy]
  have : ((none : Option Bool) == some want) = false := rfl
  simp only [this, Bool.false_eq_true, if_false]
  refine ⟨fun _ _ => trivial, ?_⟩
  have hru : Rep w μ (.v undef) undef := rfl
  have hs2 := hs.put (Evo.refl w μ) hs.sr hN hru
  exact h2 w0 μ0 μ _ w Q hs2 hE hK

theorem aopsD_sound {ops : Array Oper} {tab : List (Nat × Nat)} (ht : tabOk ops tab = true) (hok : ops.toList.all (fun o => okd N o.dst) = true) {K : AS → Prop} : ∀ (l : List Oper) (i : Nat) (s : AS), (∀ k, l[k]? = ops[i + k]?) → aopsD P fid mt tab l K s →
    AOps P ro N ops (List.range' i l.length) K s
  | [], i, s, _, h => AOps.nil h
  | o :: l, i, s, hl, h => by
    have ho : ops[i]? = some o := by have := hl 0; simpa using this.symm
    have hN : okd N o.dst = true := List.all_eq_true.1 hok o (by
      have := Array.getElem?_toList (xs := ops) (i := i)
      rw [ho] at this
      exact List.mem_of_getElem? this)
    have hl' : ∀ k, l[k]? = ops[i + 1 + k]? := fun k => by
      have := hl (k + 1)
      rw [List.getElem?_cons_succ] at this
      rw [this]; congr 1; omega
    have ih := fun s' => aopsD_sound (K := K) ht hok l (i + 1) s'
    rw [List.length_cons, List.range'_succ]
    simp only [aopsD] at h
    split at h
    · rename_i hg
      have hop := aop_sound (ro := ro) hN h
      refine AOps.cons ho hg ?_
      intro w0 μ0 μ a w next Q hs hE hK
      exact hop w0 μ0 μ a w next Q hs hE fun μ' s' a' w' hk hs' hE' => hK μ' s' a' w' (ih s' hl' hk) hs' hE'
    · rename_i j want hg
      split at h
      · rename_i d hd
        obtain ⟨oj, hoj, hdj⟩ := tget_ok ht hd
        split at h
        · rename_i b hb
          refine AOps.guard ho hN hg (by simpa using hoj) hdj hb (fun e => ?_) (fun e => ih _ hl' (by rw [if_neg (by rw [e]; cases want <;> simp)] at h; exact h))
          have hop := aop_sound (ro := ro) hN (by rw [if_pos e] at h; exact h)
          intro w0 μ0 μ a w next Q hs hE hK
          exact hop w0 μ0 μ a w next Q hs hE fun μ' s' a' w' hk hs' hE' => hK μ' s' a' w' (ih s' hl' hk) hs' hE'
        · rename_i x hb
          obtain ⟨rfl, h⟩ := h
          exact AOps.guardU ho hN hg (by simpa using hoj) hdj hb (ih _ hl' h)
        · exact h.elim
      · exact h.elim

theorem aopsD_append {tab : List (Nat × Nat)} {K : AS → Prop} : ∀ (l1 l2 : List Oper) (s : AS), aopsD P fid mt tab l1 (aopsD P fid mt tab l2 K) s = aopsD P fid mt tab (l1 ++ l2) K s
  | [], l2, s => rfl
  | o :: l1, l2, s => by
    have ih : aopsD P fid mt tab l1 (aopsD P fid mt tab l2 K) = aopsD P fid mt tab (l1 ++ l2) K := funext (aopsD_append l1 l2)
    simp only [List.cons_append, aopsD, ih]

theorem aopsD_split {tab : List (Nat × Nat)} {K : AS → Prop} {l : List Oper} (k : Nat) (h : aopsD P fid mt tab (l.take k) (aopsD P fid mt tab (l.drop k) K) s) : aopsD P fid mt tab l K s := by
  rw [aopsD_append, List.take_append_drop] at h
  exact h

theorem aopsD_cut {tab : List (Nat × Nat)} {K : AS → Prop} {l : List Oper} (k : Nat) (h : ∀ G : AS → Prop, (∀ s', aopsD P fid mt tab (l.drop k) K s' → G s') → aopsD P fid mt tab (l.take k) G s) : aopsD P fid mt tab l K s :=
  aopsD_split k (h _ fun _ h => h)

theorem AW.regionD {id : Nat} {ops : Array Oper} (tab : List (Nat × Nat)) (ks : List Nat) (ht : tabOk ops tab = true) (hok : ops.toList.all (fun o => okd N o.dst) = true)
    (h : ∀ K : AS → Prop, (∀ s', Q .normal s' → K s') → aopsD P fid mt tab ops.toList (fun s' => K (s'.keep ks)) s) : AW P ro N (.region id ops false) Q s := by
  intro w0 μ0 μ a w hs hE
  have hso := aopsD_sound (ro := ro) ht hok ops.toList 0 s (fun k => by simp) (h (fun s' => Q .normal s') fun _ h => h)
  refine wpIn_region ?_
  rw [List.range_eq_range', ← Array.length_toList]
  refine hso w0 μ0 μ a w _ hs hE fun μ' s' a' w' hk hs' hE' => ?_
  exact ⟨(fun _ h => by cases h), (fun h => by cases h), _, _, hk, hs'.weaken (AS.le_keep s' ks), hE'.trans (Evo.cut w' μ' _)⟩

theorem AW.rseqD {id : Nat} {ops : Array Oper} {y : Code} (tab : List (Nat × Nat)) (ks : List Nat) (ht : tabOk ops tab = true) (hok : ops.toList.all (fun o => okd N o.dst) = true)
    (h : ∀ K : AS → Prop, (∀ s', AW P ro N y Q s' → K s') → aopsD P fid mt tab ops.toList (fun s' => K (s'.keep ks)) s) : AW P ro N (.seq (.region id ops false) y) Q s :=
  AW.seq (AW.regionD tab ks ht hok h)
end

attribute [go_sem] aopsD tget
end Go.AW
