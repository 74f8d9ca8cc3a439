/- Sorting in place, as a contract, and how it is reckoned. -/
import Derived.Test.YtccnafddjjamoaaAwL
namespace Go.AW
open Go

def sortS (l : List (List UInt8)) : List (List UInt8) := l.mergeSort fun x y => decide (x ≤ y)
def sortI (l : List Int) : List Int := l.mergeSort fun x y => decide (x ≤ y)

section
variable {α : Type} (le : α → α → Bool)
def ins (x : α) : List α → List α
  | [] => [x]
  | y :: l => bif le x y then x :: y :: l else y :: ins x l
def isort : List α → List α
  | [] => []
  | x :: l => ins le x (isort l)

theorem ins_perm (x : α) : ∀ l, (ins le x l).Perm (x :: l)
  | [] => List.Perm.refl _
  | y :: l => by
    simp only [ins]
    cases le x y with
    | true => exact List.Perm.refl _
    | false => exact ((ins_perm x l).cons y).trans (List.Perm.swap x y l)
theorem isort_perm : ∀ l, (isort le l).Perm l
  | [] => List.Perm.refl _
  | x :: l => (ins_perm le x (isort le l)).trans ((isort_perm l).cons x)

theorem ins_sorted (tr : ∀ a b c, le a b = true → le b c = true → le a c = true) (tot : ∀ a b, (le a b || le b a) = true) (x : α) : ∀ l : List α, l.Pairwise (fun a b => le a b = true) → (ins le x l).Pairwise (fun a b => le a b = true)
  | [], _ => by simp [ins]
  | y :: l, h => by
    simp only [List.pairwise_cons] at h
    simp only [ins]
    cases hb : le x y with
    | true =>
      simp only [cond_true, List.pairwise_cons]
      refine ⟨fun z hz => ?_, h⟩
      rcases List.mem_cons.1 hz with rfl | hz
      · exact hb
      · exact tr _ _ _ hb (h.1 z hz)
    | false =>
      simp only [cond_false, List.pairwise_cons]
      refine ⟨fun z hz => ?_, ins_sorted tr tot x l h.2⟩
      rcases List.mem_cons.1 ((ins_perm le x l).mem_iff.1 hz) with rfl | hz
      · have := tot z y
        rw [hb] at this
        simpa using this
      · exact h.1 z hz
theorem isort_sorted (tr : ∀ a b c, le a b = true → le b c = true → le a c = true) (tot : ∀ a b, (le a b || le b a) = true) : ∀ l, (isort le l).Pairwise (fun a b => le a b = true)
  | [] => List.Pairwise.nil
  | x :: l => ins_sorted le tr tot x _ (isort_sorted tr tot l)
end

theorem le_total_bytes (a b : List UInt8) : (decide (a ≤ b) || decide (b ≤ a)) = true := by
  have := List.le_total a b
  simpa using this
theorem le_trans_bytes (a b c : List UInt8) (h1 : decide (a ≤ b) = true) (h2 : decide (b ≤ c) = true) : decide (a ≤ c) = true := by
  simp only [decide_eq_true_eq] at *
  exact List.le_trans h1 h2
theorem le_total_ints (a b : Int) : (decide (a ≤ b) || decide (b ≤ a)) = true := by
  simp only [Bool.or_eq_true, decide_eq_true_eq]; omega
theorem le_trans_ints (a b c : Int) (h1 : decide (a ≤ b) = true) (h2 : decide (b ≤ c) = true) : decide (a ≤ c) = true := by
  simp only [decide_eq_true_eq] at *; omega

theorem sortS_eq {l l' : List (List UInt8)} (h : l.Perm l') (hs : l'.Pairwise fun a b => decide (a ≤ b) = true) : sortS l = l' := by
  refine List.Perm.eq_of_pairwise (le := fun a b => decide (a ≤ b) = true) (fun a b _ _ h1 h2 => ?_) (List.pairwise_mergeSort le_trans_bytes le_total_bytes l) hs ((List.mergeSort_perm l _).trans h)
  simp only [decide_eq_true_eq] at h1 h2
  exact List.le_antisymm h1 h2
theorem sortI_eq {l l' : List Int} (h : l.Perm l') (hs : l'.Pairwise fun a b => decide (a ≤ b) = true) : sortI l = l' := by
  refine List.Perm.eq_of_pairwise (le := fun a b => decide (a ≤ b) = true) (fun a b _ _ h1 h2 => ?_) (List.pairwise_mergeSort le_trans_ints le_total_ints l) hs ((List.mergeSort_perm l _).trans h)
  simp only [decide_eq_true_eq] at h1 h2
  omega

theorem sortS_perm {l l' : List (List UInt8)} (h : l.Perm l') : sortS l = sortS l' :=
  sortS_eq (h.trans (List.mergeSort_perm l' _).symm) (List.pairwise_mergeSort le_trans_bytes le_total_bytes l')
theorem sortI_perm {l l' : List Int} (h : l.Perm l') : sortI l = sortI l' :=
  sortI_eq (h.trans (List.mergeSort_perm l' _).symm) (List.pairwise_mergeSort le_trans_ints le_total_ints l')
theorem sortS_len (l : List (List UInt8)) : (sortS l).length = l.length := (List.mergeSort_perm l _).length_eq
theorem sortI_len (l : List Int) : (sortI l).length = l.length := (List.mergeSort_perm l _).length_eq
theorem sortS_isort (l : List (List UInt8)) : sortS l = isort (fun a b => decide (a ≤ b)) l := sortS_eq (isort_perm _ l).symm (isort_sorted _ le_trans_bytes le_total_bytes l)
theorem sortI_isort (l : List Int) : sortI l = isort (fun a b => decide (a ≤ b)) l := sortI_eq (isort_perm _ l).symm (isort_sorted _ le_trans_ints le_total_ints l)

/-- a function that sorts in place -/
structure SortsS (P : Program) (f : FuncId) : Prop where
  arr : ∀ (H : Heap) (id ver : Nat) (e : TypeId) (l : List (List UInt8)) (K : HV → Heap → Prop), hget H id = some (ver, .arr 1 e (l.map .str)) → l.length < 4611686018427387904 → K (.tup []) (hset H id ver (.arr 1 e ((sortS l).map .str))) → ACall P f [.ar id ver 1 0 l.length] H K
  nil : ∀ (H : Heap) (K : HV → Heap → Prop), K (.tup []) H → ACall P f [.v (.slice none 0 0)] H K
structure SortsI (P : Program) (f : FuncId) : Prop where
  arr : ∀ (H : Heap) (id ver : Nat) (e : TypeId) (l : List Int) (K : HV → Heap → Prop), hget H id = some (ver, .arr 1 e (l.map (.int .i64))) → l.length < 4611686018427387904 → K (.tup []) (hset H id ver (.arr 1 e ((sortI l).map (.int .i64)))) → ACall P f [.ar id ver 1 0 l.length] H K
  nil : ∀ (H : Heap) (K : HV → Heap → Prop), K (.tup []) H → ACall P f [.v (.slice none 0 0)] H K
end Go.AW
