import Derived.Test.YtibfjjmglgabdaaDoorBa5
/- Integers: digits to the base 2^32, bytes. -/
namespace Go.AW
open Go
set_option linter.unusedSimpArgs false
set_option linter.unusedVariables false

theorem wu8 (n : Int) : IntKind.wrap .u8 n = n % 256 := by simp [IntKind.wrap, IntKind.bits, IntKind.signed]
theorem wu32 (n : Int) : IntKind.wrap .u32 n = n % 4294967296 := by simp [IntKind.wrap, IntKind.bits, IntKind.signed]
theorem wu64 (n : Int) : IntKind.wrap .u64 n = n % 18446744073709551616 := by simp [IntKind.wrap, IntKind.bits, IntKind.signed]

/-- an invariant, and what the loop comes to -/
theorem loopW_to {S X : Type} {body : S → Option (Stp S X)} {x0 : X} (I : S → Prop) (m : S → Nat) (step : ∀ s, I s → (∃ s', body s = some (.next s') ∧ I s' ∧ m s' < m s) ∨ body s = some (.exit x0)) {s : S} (hI : I s) : loopW body s = some x0 := by
  obtain ⟨x, hx, rfl⟩ := loopW_inv I m (fun x => x = x0) (fun s hs => (step s hs).imp id fun h => ⟨_, h, rfl⟩) s hI
  exact hx

/-- the bytes of a number, the highest first -/
def be (n : Nat) : List UInt8 := if n = 0 then [] else be (n / 256) ++ [UInt8.ofNat n]
termination_by n
decreasing_by omega

theorem be0 : be 0 = [] := by rw [be]; simp
theorem be_step (m c : Nat) (hc : c < 256) (h : ¬ (m = 0 ∧ c = 0)) : be (256 * m + c) = be m ++ [UInt8.ofNat c] := by
  rw [be, if_neg (by omega), show (256 * m + c) / 256 = m by omega]
  congr 2
  apply UInt8.toNat_inj.1
  simp
theorem be_nil {n : Nat} : be n = [] ↔ n = 0 := by
  constructor
  · intro h
    rw [be] at h
    by_cases e : n = 0
    · exact e
    · rw [if_neg e] at h; simp at h
  · rintro rfl; exact be0
theorem be_pos {n : Nat} (h : n ≠ 0) : 0 < (be n).length := List.length_pos_iff.2 fun e => h (be_nil.1 e)

/-- the value of bytes, the highest first -/
def valB (l : List UInt8) : Nat := l.foldl (fun a b => 256 * a + b.toNat) 0
theorem valB_app (l : List UInt8) (b : UInt8) : valB (l ++ [b]) = 256 * valB l + b.toNat := by simp [valB]
theorem valB_be (n : Nat) : valB (be n) = n := by
  induction n using Nat.strongRecOn with
  | _ n ih =>
    rw [be]
    by_cases e : n = 0
    · simp [e, valB]
    · rw [if_neg e, valB_app, ih (n / 256) (by omega)]
      simp
      omega
theorem be_len {n : Nat} : ∀ k, n < 256 ^ k → (be n).length ≤ k
  | 0, h => by
    have : n = 0 := by simpa using h
    rw [this, be0]; simp
  | k + 1, h => by
    rw [be]
    by_cases e : n = 0
    · simp [e]
    · rw [if_neg e, List.length_append]
      have := be_len (n := n / 256) k (by rw [Nat.pow_succ] at h; omega)
      simp
      omega
/-- the value of digits to the base 2^32, the lowest first -/
def valN : List Int → Nat
  | [] => 0
  | d :: l => d.toNat + 4294967296 * valN l
def wfN (x : List Int) : Prop := ∀ d ∈ x, 0 ≤ d ∧ d < 4294967296
theorem valN_zeros : ∀ (x : List Int), (∀ d ∈ x, d = 0) → valN x = 0
  | [], _ => rfl
  | d :: l, h => by
    have h0 := h d (by simp)
    subst h0
    simp [valN, valN_zeros l fun d hd => h d (by simp [hd])]
theorem valN_app : ∀ (x y : List Int), valN (x ++ y) = valN x + 4294967296 ^ x.length * valN y
  | [], y => by simp [valN]
  | d :: l, y => by
    simp only [List.cons_append, valN, valN_app l y, List.length_cons, Nat.pow_succ]
    rw [Nat.mul_add]
    have : 4294967296 ^ l.length * 4294967296 * valN y = 4294967296 * (4294967296 ^ l.length * valN y) := by rw [Nat.mul_comm (4294967296 ^ l.length), Nat.mul_assoc]
    omega
theorem valN_lt : ∀ {x : List Int}, wfN x → valN x < 4294967296 ^ x.length
  | [], _ => by simp [valN]
  | d :: l, h => by
    have h0 := h d (by simp)
    have := valN_lt (x := l) fun d hd => h d (by simp [hd])
    simp only [valN, List.length_cons, Nat.pow_succ]
    omega

/-- without zeros at the end -/
theorem trim_eq : ∀ (n : Nat) (x : List Int), x.length = n → x.length ≤ 9223372036854775807 → ∃ y k, m_integer_trim x = some y ∧ x = y ++ List.replicate k 0 ∧ (y = [] ∨ ∃ z d, y = z ++ [d] ∧ d ≠ 0) := by
  intro n
  induction n with
  | zero =>
    intro x hx _
    have : x = [] := List.length_eq_zero_iff.1 hx
    subst this
    refine ⟨[], 0, ?_, rfl, .inl rfl⟩
    unfold m_integer_trim
    rw [loopW_eq]
    simp [jp]
  | succ n ih =>
    intro x hx hm
    obtain ⟨z, d, rfl⟩ : ∃ z d, x = z ++ [d] := ⟨x.dropLast, x.getLast (by intro e; simp [e] at hx), (List.dropLast_concat_getLast _).symm⟩
    simp only [List.length_append, List.length_cons, List.length_nil, Nat.zero_add] at hx hm
    have hw : IntKind.wrap .i64 (((z ++ [d]).length : Int) - 1) = (z.length : Int) := by
      rw [w64 (by simp only [List.length_append, List.length_cons, List.length_nil]; omega) (by simp only [List.length_append, List.length_cons, List.length_nil]; omega)]
      simp only [List.length_append, List.length_cons, List.length_nil]; omega
    have hi : idx (z ++ [d]) ((z.length : Nat) : Int) = some d := by
      unfold idx
      rw [if_pos (by omega)]
      simp
    by_cases h0 : d = 0
    · subst h0
      obtain ⟨y, k, h1, h2, h3⟩ := ih z (by omega) (by omega)
      refine ⟨y, k + 1, ?_, ?_, h3⟩
      · rw [← h1]
        unfold m_integer_trim
        rw [loopW_eq]
        simp only [jp, hw, hi, Option.bind_some]
        rw [if_pos (by simp)]
        simp only [decide_true, if_true]
        rw [if_pos (by simp; omega)]
        have ht : (((z ++ [(0 : Int)]).take ((z.length : Nat) : Int).toNat).drop (0 : Int).toNat) = z := by simp
        simp only [ht]
      · rw [h2, List.append_assoc]
        congr 1
        rw [show ([(0 : Int)] : List Int) = List.replicate 1 0 from rfl, List.replicate_append_replicate]
    · refine ⟨z ++ [d], 0, ?_, by simp, .inr ⟨z, d, rfl, h0⟩⟩
      unfold m_integer_trim
      rw [loopW_eq]
      simp only [jp, hw, hi, Option.bind_some]
      rw [if_pos (by simp)]
      simp [h0]

theorem trim_spec {x : List Int} (hw : wfN x) (hm : x.length ≤ 9223372036854775807) : ∃ y, m_integer_trim x = some y ∧ valN y = valN x ∧ wfN y ∧ y.length ≤ x.length ∧ (y = [] ↔ valN x = 0) := by
  obtain ⟨y, k, h1, h2, h3⟩ := trim_eq _ x rfl hm
  have hv : valN y = valN x := by
    rw [h2, valN_app, valN_zeros (List.replicate k 0) (fun d hd => (List.mem_replicate.1 hd).2)]
    simp
  have hwy : wfN y := fun d hd => hw d (by rw [h2]; simp [hd])
  refine ⟨y, h1, hv, hwy, by rw [h2]; simp, ?_⟩
  constructor
  · rintro rfl; rw [← hv]; rfl
  · intro h
    rcases h3 with h3 | ⟨z, d, rfl, hd⟩
    · exact h3
    · exfalso
      have h4 := hwy d (by simp)
      rw [← hv, valN_app] at h
      have h5 : valN [d] = 0 := by
        rcases Nat.mul_eq_zero.1 (by omega : 4294967296 ^ z.length * valN [d] = 0) with h6 | h6
        · have := Nat.pow_pos (n := z.length) (show 0 < 4294967296 by decide); omega
        · exact h6
      simp only [valN] at h5
      omega

def bI (l : List UInt8) : List Int := l.map fun c => (c.toNat : Int)
theorem bI_back (l : List UInt8) : (bI l).map (fun n => UInt8.ofNat n.toNat) = l := by
  unfold bI
  rw [List.map_map]
  exact (List.map_congr_left fun c _ => by simp).trans (List.map_id l)
theorem bI_len (l : List UInt8) : (bI l).length = l.length := List.length_map _

theorem byte_at (xi m : Nat) (h : m < 4) : IntKind.wrap .u8 (Int.fdiv (xi : Int) (2 ^ (min ((IntKind.wrap .i64 (8 * (m : Int)))).toNat (IntKind.bits .u32)))) = ((xi / 256 ^ m % 256 : Nat) : Int) := by
  rw [wu8, w64 (by omega) (by omega)]
  have hm : m = 0 ∨ m = 1 ∨ m = 2 ∨ m = 3 := by omega
  rcases hm with rfl | rfl | rfl | rfl
  · have : (2 : Int) ^ (min ((8 * ((0 : Nat) : Int))).toNat (IntKind.bits .u32)) = 1 := by decide
    rw [this, Int.fdiv_eq_ediv_of_nonneg _ (by omega)]; omega
  · have : (2 : Int) ^ (min ((8 * ((1 : Nat) : Int))).toNat (IntKind.bits .u32)) = 256 := by decide
    rw [this, Int.fdiv_eq_ediv_of_nonneg _ (by omega)]; omega
  · have : (2 : Int) ^ (min ((8 * ((2 : Nat) : Int))).toNat (IntKind.bits .u32)) = 65536 := by decide
    rw [this, Int.fdiv_eq_ediv_of_nonneg _ (by omega)]; omega
  · have : (2 : Int) ^ (min ((8 * ((3 : Nat) : Int))).toNat (IntKind.bits .u32)) = 16777216 := by decide
    rw [this, Int.fdiv_eq_ediv_of_nonneg _ (by omega)]; omega

theorem byte_low {N xi H m : Nat} (h : m < 4) (hN : N = xi + 4294967296 * H) : N / 256 ^ m % 256 = xi / 256 ^ m % 256 := by
  have hm : m = 0 ∨ m = 1 ∨ m = 2 ∨ m = 3 := by omega
  rcases hm with rfl | rfl | rfl | rfl <;> omega

theorem fits1 {n : Nat} (h : n ≤ 35184372088832) : fits 1 n := by
  unfold fits
  simp only [maxLen]
  omega

theorem bytes_loop {x2 : List Int} {i : Int} {xi : Nat} (hi : idx x2 i = some (xi : Int)) {N H K : Nat} (hx : xi < 4294967296) (hN : N = xi + 4294967296 * H) (hK : N < 256 ^ K) (hK2 : K ≤ 35184372088830) :
    loopW (S := Int × (List Int)) (X := (List Int)) (fun a10 =>
                if 0 ≤ a10.1 then
                  jp (fun (a14 : (List Int)) =>
                    some (Stp.next (IntKind.wrap .i64 (a10.1 - 1), a14)))
                    fun k16 =>
                    (idx x2 i).bind fun x17 =>
                    if 0 ≤ (IntKind.wrap .i64 (8 * a10.1)) then
                      jp (fun (a20 : Bool) =>
                        if a20 = true then
                          if fits 1 ((a10.2 : List Int).length + ([IntKind.wrap .u8 (Int.fdiv x17 (2 ^ (min ((IntKind.wrap .i64 (8 * a10.1))).toNat (IntKind.bits .u32))))]).length) then
                            k16 (a10.2 ++ [IntKind.wrap .u8 (Int.fdiv x17 (2 ^ (min ((IntKind.wrap .i64 (8 * a10.1))).toNat (IntKind.bits .u32))))])
                          else none
                        else
                          k16 a10.2)
                        fun k22 =>
                        if (IntKind.wrap .u8 (Int.fdiv x17 (2 ^ (min ((IntKind.wrap .i64 (8 * a10.1))).toNat (IntKind.bits .u32))))) ≠ 0 then
                          k22 true
                        else
                          k22 (decide (0 < (((a10.2).length : Nat) : Int)))
                    else none
                else
                  some (Stp.exit a10.2)) (3, bI (be H)) = some (bI (be N)) := by
  have hle : ∀ M, M ≤ N → (be M).length ≤ K := fun M hM => be_len K (by omega)
  refine loopW_to (fun s : Int × List Int => ∃ m : Nat, m ≤ 4 ∧ s = ((m : Int) - 1, bI (be (N / 256 ^ m)))) (fun s => (s.1 + 1).toNat) (fun s hs => ?_) ⟨4, Nat.le_refl _, by
      have : N / 256 ^ 4 = H := by omega
      rw [this]; rfl⟩
  · obtain ⟨m, hm, rfl⟩ := hs
    dsimp only
    cases m with
    | zero =>
      right
      rw [if_neg (by omega)]
      simp
    | succ j =>
      left
      have e : (((j + 1 : Nat) : Int) - 1) = (j : Int) := by omega
      rw [e, if_pos (by omega)]
      simp only [jp, hi, Option.bind_some, byte_at xi j (by omega)]
      rw [if_pos (by rw [w64 (by omega) (by omega)]; omega)]
      have hb := byte_low (m := j) (by omega) hN
      have hs : N / 256 ^ j = 256 * (N / 256 ^ (j + 1)) + xi / 256 ^ j % 256 := by
        rw [← hb, Nat.pow_succ, ← Nat.div_div_eq_div_mul]
        omega
      have hl2 := hle (N / 256 ^ (j + 1)) (Nat.div_le_self _ _)
      generalize xi / 256 ^ j % 256 = c at *
      generalize N / 256 ^ (j + 1) = M at *
      have hc : c < 256 := by
        rw [← hb]; exact Nat.mod_lt _ (by decide)
      have hwj : IntKind.wrap .i64 ((j : Int) - 1) = (j : Int) - 1 := w64 (by omega) (by omega)
      have app : fits 1 ((bI (be M)).length + ([(c : Int)]).length) := fits1 (by simp [bI_len]; omega)
      have hcc : [((c : Nat) : Int)] = bI [UInt8.ofNat c] := by simp [bI]; omega
      by_cases hz : M = 0 ∧ c = 0
      · obtain ⟨rfl, rfl⟩ := hz
        simp only [be0, bI, List.map_nil, List.length_nil]
        refine ⟨_, rfl, ⟨j, by omega, ?_⟩, ?_⟩
        · simp only [hwj, Prod.mk.injEq, true_and]
          rw [hs, Nat.mul_zero, be0]; simp
        · simp [hwj]
      · have hbe := be_step M c hc hz
        by_cases hc0 : c = 0
        · subst hc0
          have hM : M ≠ 0 := fun e => hz ⟨e, rfl⟩
          rw [if_neg (by simp)]
          have : decide (0 < (((bI (be M)).length : Nat) : Int)) = true := by
            have := be_pos hM
            simp [bI_len]; omega
          simp only [this, if_true]
          rw [if_pos app]
          refine ⟨_, rfl, ⟨j, by omega, ?_⟩, ?_⟩
          · simp only [hwj, Prod.mk.injEq, true_and]
            rw [hs, hbe, hcc]; simp [bI]
          · simp [hwj]
        · rw [if_pos (by omega)]
          simp only [if_true]
          rw [if_pos app]
          refine ⟨_, rfl, ⟨j, by omega, ?_⟩, ?_⟩
          · simp only [hwj, Prod.mk.injEq, true_and]
            rw [hs, hbe, hcc]; simp [bI]
          · simp [hwj]

theorem number_spec {x : List Int} (hw : wfN x) (hm : x.length ≤ 1099511627776) (neg : Bool) : m_integer_number neg x = some (if valN x = 0 then (false, []) else (neg, be (valN x))) := by
  obtain ⟨y, h1, hv, hwy, hyl, hy0⟩ := trim_spec hw (by omega)
  unfold m_integer_number
  rw [h1, Option.bind_some]
  by_cases h0 : valN x = 0
  · rw [if_pos h0]
    have := hy0.2 h0
    subst this
    simp
  · rw [if_neg h0]
    have hy : y ≠ [] := fun e => h0 (hy0.1 e)
    have hyp : 0 < y.length := List.length_pos_iff.2 hy
    rw [if_neg (by omega), if_pos (by rw [w64 (by omega) (by omega)]; omega)]
    have main : ∃ b, loopW (S := Int × (List Int)) (X := (List Int)) (fun a6 =>
          if 0 ≤ a6.1 then
            (loopW (S := Int × (List Int)) (X := (List Int)) (fun a10 =>
                if 0 ≤ a10.1 then
                  jp (fun (a14 : (List Int)) =>
                    some (Stp.next (IntKind.wrap .i64 (a10.1 - 1), a14)))
                    fun k16 =>
                    (idx y a6.1).bind fun x17 =>
                    if 0 ≤ (IntKind.wrap .i64 (8 * a10.1)) then
                      jp (fun (a20 : Bool) =>
                        if a20 = true then
                          if fits 1 ((a10.2 : List Int).length + ([IntKind.wrap .u8 (Int.fdiv x17 (2 ^ (min ((IntKind.wrap .i64 (8 * a10.1))).toNat (IntKind.bits .u32))))]).length) then
                            k16 (a10.2 ++ [IntKind.wrap .u8 (Int.fdiv x17 (2 ^ (min ((IntKind.wrap .i64 (8 * a10.1))).toNat (IntKind.bits .u32))))])
                          else none
                        else
                          k16 a10.2)
                        fun k22 =>
                        if (IntKind.wrap .u8 (Int.fdiv x17 (2 ^ (min ((IntKind.wrap .i64 (8 * a10.1))).toNat (IntKind.bits .u32))))) ≠ 0 then
                          k22 true
                        else
                          k22 (decide (0 < (((a10.2).length : Nat) : Int)))
                    else none
                else
                  some (Stp.exit a10.2)) (3, a6.2)).bind fun a26 =>
            some (Stp.next (IntKind.wrap .i64 (a6.1 - 1), a26))
          else
            some (Stp.exit a6.2)) (IntKind.wrap .i64 (((y).length : Int) - 1), List.replicate (0 : Int).toNat (0 : Int)) = some b ∧ b = bI (be (valN y)) := by
      refine loopW_inv (fun s : Int × List Int => ∃ i : Nat, i ≤ y.length ∧ s = ((i : Int) - 1, bI (be (valN (y.drop i))))) (fun s => (s.1 + 1).toNat) (fun b => b = bI (be (valN y))) (fun s hs => ?_) _ ⟨y.length, Nat.le_refl _, by
        rw [w64 (by omega) (by omega)]
        simp [valN, be0, bI]⟩
      obtain ⟨i, hi, rfl⟩ := hs
      dsimp only
      cases i with
      | zero =>
        right
        rw [if_neg (by omega)]
        exact ⟨_, rfl, by simp⟩
      | succ j =>
        left
        have e : (((j + 1 : Nat) : Int) - 1) = (j : Int) := by omega
        rw [e, if_pos (by omega)]
        have hdj : y.drop j = y[j] :: y.drop (j + 1) := List.drop_eq_getElem_cons (by omega)
        have hd := hwy y[j] (List.getElem_mem _)
        have hix : idx y (j : Int) = some ((y[j].toNat : Nat) : Int) := by
          unfold idx
          rw [if_pos (by omega)]
          simp only [Int.toNat_natCast, List.getElem?_eq_getElem (show j < y.length by omega)]
          congr 1
          omega
        have hwd : wfN (y.drop j) := fun d hd => hwy d (List.mem_of_mem_drop hd)
        have hlt := valN_lt hwd
        have hK : valN (y.drop j) < 256 ^ (4 * y.length) := by
          refine Nat.lt_of_lt_of_le hlt ?_
          rw [show (4294967296 : Nat) = 256 ^ 4 by decide, ← Nat.pow_mul]
          exact Nat.pow_le_pow_right (by decide) (by simp; omega)
        rw [bytes_loop hix (H := valN (y.drop (j + 1))) (N := valN (y.drop j)) (K := 4 * y.length) (by omega) (by rw [hdj, valN]) hK (by omega)]
        refine ⟨_, rfl, ⟨j, by omega, ?_⟩, ?_⟩
        · rw [w64 (by omega) (by omega)]
        · dsimp only
          rw [w64 (by omega) (by omega)]; omega
    obtain ⟨b, hb, rfl⟩ := main
    rw [hb, Option.bind_some, bI_back, hv]

theorem of_spec {n : Int} (h0 : 0 ≤ n) (h1 : n ≤ 9223372036854775807) : m_integer_Of n = some (false, be n.toNat) := by
  unfold m_integer_Of
  simp only [jp]
  rw [if_neg (by omega)]
  have e : IntKind.wrap .u64 n = n := by rw [wu64]; omega
  have e2 : Int.fdiv n (2 ^ (min (32 : Int).toNat (IntKind.bits .u64))) = n / 4294967296 := by
    have : (2 : Int) ^ (min (32 : Int).toNat (IntKind.bits .u64)) = 4294967296 := by decide
    rw [this, Int.fdiv_eq_ediv_of_nonneg _ (by omega)]
  rw [e, e2, wu32, wu32]
  have hv : valN [n % 4294967296, n / 4294967296 % 4294967296] = n.toNat := by
    simp only [valN]; omega
  rw [number_spec (x := [n % 4294967296, n / 4294967296 % 4294967296]) (by intro d hd; simp at hd; omega) (by simp), hv, Option.bind_some]
  by_cases h : n.toNat = 0
  · rw [if_pos h, h, be0]
  · rw [if_neg h]
    have : decide (n < 0) = false := by simp; omega
    rw [this]

theorem valB_cons (c : UInt8) (l : List UInt8) : valB (c :: l) = c.toNat * 256 ^ l.length + valB l := by
  have gen : ∀ (l : List UInt8) (a : Nat), l.foldl (fun a b => 256 * a + b.toNat) a = a * 256 ^ l.length + valB l := by
    intro l
    induction l with
    | nil => intro a; simp [valB]
    | cons b l ih =>
      intro a
      have e1 := ih (256 * a + b.toNat)
      have e2 := ih b.toNat
      simp only [List.foldl_cons, valB, List.length_cons, Nat.pow_succ] at e1 e2 ⊢
      rw [e1, show 256 * 0 + b.toNat = b.toNat by omega, e2, Nat.add_mul, Nat.mul_comm 256 a, Nat.mul_assoc, Nat.mul_comm 256 (256 ^ l.length)]
      omega
  have := gen l c.toNat
  simp only [valB, List.foldl_cons, Nat.mul_zero, Nat.zero_add] at this ⊢
  exact this
theorem valB_lt : ∀ l : List UInt8, valB l < 256 ^ l.length
  | [] => by simp [valB]
  | c :: l => by
    rw [valB_cons, List.length_cons, Nat.pow_succ]
    have h1 := valB_lt l
    have h2 := c.toNat_lt
    have h3 : c.toNat * 256 ^ l.length ≤ 255 * 256 ^ l.length := Nat.mul_le_mul_right _ (by omega)
    omega

theorem valN_set : ∀ (x : List Int) (q : Nat) (d : Int) (h : q < x.length), valN (x.set q d) + 4294967296 ^ q * x[q].toNat = valN x + 4294967296 ^ q * d.toNat
  | [], _, _, h => by simp at h
  | e :: l, 0, d, _ => by simp [valN]; omega
  | e :: l, q + 1, d, h => by
    have ih := valN_set l q d (by simpa using h)
    simp only [List.set_cons_succ, valN, List.getElem_cons_succ, Nat.pow_succ]
    have a1 : 4294967296 ^ q * 4294967296 * (l[q]'(by simpa using h)).toNat = 4294967296 * (4294967296 ^ q * (l[q]'(by simpa using h)).toNat) := by rw [Nat.mul_comm (4294967296 ^ q), Nat.mul_assoc]
    have a2 : 4294967296 ^ q * 4294967296 * d.toNat = 4294967296 * (4294967296 ^ q * d.toNat) := by rw [Nat.mul_comm (4294967296 ^ q), Nat.mul_assoc]
    omega
theorem wfN_set {x : List Int} (h : wfN x) {q : Nat} {d : Int} (hd : 0 ≤ d ∧ d < 4294967296) : wfN (x.set q d) := fun e he => by
  rcases List.mem_or_eq_of_mem_set he with h1 | rfl
  · exact h e h1
  · exact hd
theorem valN_drop (x : List Int) (q : Nat) : valN x = valN (x.take q) + 4294967296 ^ (x.take q).length * valN (x.drop q) := by
  have := valN_app (x.take q) (x.drop q)
  rwa [List.take_append_drop] at this

theorem or_case (a c m : Nat) (hm : m < 4) (ha : a < 256 ^ m) (hc : c < 256) :
    IntKind.wrap .u32 (BitVec.ofInt (IntKind.bits .u32) (a : Int) ||| BitVec.ofInt (IntKind.bits .u32) (IntKind.wrap .u32 ((IntKind.wrap .u32 (c : Int)) * 2 ^ (min ((IntKind.wrap .i64 (8 * (m : Int)))).toNat (IntKind.bits .u32))))).toNat = ((a + c * 256 ^ m : Nat) : Int) := by
  have key : ∀ k : Nat, 256 ^ m = 2 ^ k → k < 25 → IntKind.wrap .u32 (BitVec.ofInt (IntKind.bits .u32) (a : Int) ||| BitVec.ofInt (IntKind.bits .u32) (((c * 2 ^ k : Nat) : Int))).toNat = ((a + c * 256 ^ m : Nat) : Int) := by
    intro k hk hk2
    have hlt : c * 2 ^ k < 4294967296 := by
      have h1 : (2 : Nat) ^ k ≤ 2 ^ 24 := Nat.pow_le_pow_right (by decide) (by omega)
      have h2 : c * 2 ^ k ≤ 255 * 2 ^ 24 := Nat.mul_le_mul (by omega) h1
      omega
    have ha2 : a < 2 ^ k := by rw [← hk]; exact ha
    have ha3 : a < 4294967296 := by
      have h1 : (2 : Nat) ^ k ≤ 2 ^ 24 := Nat.pow_le_pow_right (by decide) (by omega)
      omega
    rw [BitVec.toNat_or]
    have e1 : (BitVec.ofInt (IntKind.bits .u32) ((a : Nat) : Int)).toNat = a := by
      rw [BitVec.toNat_ofInt]
      show (((a : Nat) : Int) % ((2 ^ 32 : Nat) : Int)).toNat = a
      omega
    have e2 : (BitVec.ofInt (IntKind.bits .u32) ((c * 2 ^ k : Nat) : Int)).toNat = c * 2 ^ k := by
      rw [BitVec.toNat_ofInt]
      show (((c * 2 ^ k : Nat) : Int) % ((2 ^ 32 : Nat) : Int)).toNat = c * 2 ^ k
      omega
    rw [e1, e2, Nat.or_comm, Nat.mul_comm c, ← Nat.two_pow_add_eq_or_of_lt ha2, hk, wu32, Nat.mul_comm c]
    have hlt2 : 2 ^ k * c + a < 4294967296 := by
      have h1 : (2 : Nat) ^ k ≤ 2 ^ 24 := Nat.pow_le_pow_right (by decide) (by omega)
      have h2 : 2 ^ k * c ≤ 2 ^ k * 255 := Nat.mul_le_mul_left _ (by omega)
      omega
    omega
  rw [wu32 (c : Int), w64 (by omega) (by omega)]
  have hcm : (c : Int) % 4294967296 = c := by omega
  rw [hcm]
  have hm' : m = 0 ∨ m = 1 ∨ m = 2 ∨ m = 3 := by omega
  rcases hm' with rfl | rfl | rfl | rfl
  · rw [← key 0 (by decide) (by decide), wu32 ((c : Int) * _), show (2 : Int) ^ (min ((8 * ((0 : Nat) : Int))).toNat (IntKind.bits .u32)) = 1 by decide]
    congr 5; omega
  · rw [← key 8 (by decide) (by decide), wu32 ((c : Int) * _), show (2 : Int) ^ (min ((8 * ((1 : Nat) : Int))).toNat (IntKind.bits .u32)) = 256 by decide]
    congr 5; omega
  · rw [← key 16 (by decide) (by decide), wu32 ((c : Int) * _), show (2 : Int) ^ (min ((8 * ((2 : Nat) : Int))).toNat (IntKind.bits .u32)) = 65536 by decide]
    congr 5; omega
  · rw [← key 24 (by decide) (by decide), wu32 ((c : Int) * _), show (2 : Int) ^ (min ((8 * ((3 : Nat) : Int))).toNat (IntKind.bits .u32)) = 16777216 by decide]
    congr 5; omega

theorem digits_spec {neg : Bool} {l : List UInt8} (hl : l.length ≤ 1099511627776) : ∃ y, m_integer_digits (neg, l) = some y ∧ valN y = valB l ∧ wfN y ∧ y.length ≤ (l.length + 3) / 4 := by
  unfold m_integer_digits
  dsimp only
  have hL : IntKind.wrap .i64 (Int.tdiv (IntKind.wrap .i64 ((l.length : Int) + 3)) 4) = (((l.length + 3) / 4 : Nat) : Int) := by
    rw [w64 (n := (l.length : Int) + 3) (by omega) (by omega), Int.tdiv_eq_ediv_of_nonneg (by omega), w64 (by omega) (by omega)]
    omega
  rw [hL]
  generalize hLL : (l.length + 3) / 4 = L
  rw [if_pos (by omega), Int.toNat_natCast]
  have main : ∃ z, loopW (S := Int × (List Int)) (X := (List Int)) (fun a3 =>
        if a3.1 < ((l).length : Int) then
          (idx l (IntKind.wrap .i64 ((IntKind.wrap .i64 (((l).length : Int) - 1)) - a3.1))).bind fun x7 =>
          (idx a3.2 (IntKind.wrap .i64 (Int.tdiv a3.1 4))).bind fun x9 =>
          (idx a3.2 (IntKind.wrap .i64 (Int.tdiv a3.1 4))).bind fun x11 =>
          if 0 ≤ (IntKind.wrap .i64 (8 * (Int.tmod a3.1 4))) then
            (idx a3.2 (IntKind.wrap .i64 (Int.tdiv a3.1 4))).bind fun x14 =>
            some (Stp.next (IntKind.wrap .i64 (a3.1 + 1), (a3.2).set (IntKind.wrap .i64 (Int.tdiv a3.1 4)).toNat (IntKind.wrap .u32 (BitVec.ofInt (IntKind.bits .u32) x11 ||| BitVec.ofInt (IntKind.bits .u32) (IntKind.wrap .u32 ((IntKind.wrap .u32 (x7.toNat : Int)) * 2 ^ (min ((IntKind.wrap .i64 (8 * (Int.tmod a3.1 4)))).toNat (IntKind.bits .u32))))).toNat)))
          else none
        else
          some (Stp.exit a3.2)) (0, List.replicate L (0 : Int)) = some z ∧ (z.length = L ∧ wfN z ∧ valN z = valB l) := by
    refine loopN l.length (fun i s => ∃ out : List Int, s = ((i : Int), out) ∧ out.length = L ∧ wfN out ∧ valN out = valB (l.drop (l.length - i))) (fun i s hi hs => ?_) (fun s hs => ?_) 0 _ (Nat.zero_le _) ⟨_, rfl, by simp, ?_, ?_⟩
    · left
      obtain ⟨out, rfl, ho, hw, hv⟩ := hs
      dsimp only
      rw [if_pos (lt_int hi)]
      have e1 : IntKind.wrap .i64 (IntKind.wrap .i64 ((l.length : Int) - 1) - (i : Int)) = ((l.length - 1 - i : Nat) : Int) := by
        rw [w64 (n := (l.length : Int) - 1) (by omega) (by omega), w64 (by omega) (by omega)]; omega
      have e2 : IntKind.wrap .i64 (Int.tdiv (i : Int) 4) = ((i / 4 : Nat) : Int) := by
        rw [Int.tdiv_eq_ediv_of_nonneg (by omega), w64 (by omega) (by omega)]; omega
      have e3 : Int.tmod (i : Int) 4 = ((i % 4 : Nat) : Int) := by
        rw [Int.tmod_eq_emod_of_nonneg (by omega)]; omega
      have hq : i / 4 < out.length := by omega
      rw [e1, e2, e3, idx_nat, idx_nat, List.getElem?_eq_getElem (show l.length - 1 - i < l.length by omega), List.getElem?_eq_getElem hq]
      simp only [Option.bind_some, Int.toNat_natCast]
      rw [if_pos (by rw [w64 (by omega) (by omega)]; omega)]
      have hd := hw out[i / 4] (List.getElem_mem _)
      obtain ⟨a, ha⟩ := Int.eq_ofNat_of_zero_le hd.1
      have hdrop : l.drop (l.length - (i + 1)) = l[l.length - 1 - i] :: l.drop (l.length - i) := by
        rw [List.drop_eq_getElem_cons (show l.length - (i + 1) < l.length by omega)]
        congr 1
        · congr 1; omega
        · congr 1; omega
      have hvl : valN out < 256 ^ i := by
        rw [hv]
        have := valB_lt (l.drop (l.length - i))
        rwa [List.length_drop, show l.length - (l.length - i) = i by omega] at this
      have hpow : (4294967296 : Nat) ^ (i / 4) * 256 ^ (i % 4) = 256 ^ i := by
        rw [show (4294967296 : Nat) = 256 ^ 4 by decide, ← Nat.pow_mul, ← Nat.pow_add]
        congr 1; omega
      have hp0 : 0 < (4294967296 : Nat) ^ (i / 4) := Nat.pow_pos (by decide)
      have ha2 : a < 256 ^ (i % 4) := by
        have h1 := valN_drop out (i / 4)
        rw [List.length_take, Nat.min_eq_left (by omega), List.drop_eq_getElem_cons hq, valN, ha, Int.toNat_natCast] at h1
        have h2 : 4294967296 ^ (i / 4) * a ≤ 4294967296 ^ (i / 4) * (a + 4294967296 * valN (out.drop (i / 4 + 1))) := Nat.mul_le_mul_left _ (by omega)
        have h3 : 4294967296 ^ (i / 4) * a < 4294967296 ^ (i / 4) * 256 ^ (i % 4) := by rw [hpow]; omega
        exact Nat.lt_of_mul_lt_mul_left h3
      have hc := (l[l.length - 1 - i]).toNat_lt
      rw [ha, or_case a _ (i % 4) (by omega) ha2 (by omega)]
      refine ⟨_, rfl, _, Prod.ext (nx (n := l.length) (by omega) hi) rfl, by simp [ho], wfN_set hw ?_, ?_⟩
      · have h1 : (256 : Nat) ^ (i % 4) ≤ 256 ^ 3 := Nat.pow_le_pow_right (by decide) (by omega)
        have h2 : (l[l.length - 1 - i]).toNat * 256 ^ (i % 4) ≤ 255 * 256 ^ (i % 4) := Nat.mul_le_mul_right _ (by omega)
        omega
      · have h1 := valN_set out (i / 4) ((a + (l[l.length - 1 - i]).toNat * 256 ^ (i % 4) : Nat) : Int) hq
        rw [ha, Int.toNat_natCast, Int.toNat_natCast, Nat.mul_add] at h1
        rw [hdrop, valB_cons, List.length_drop, show l.length - (l.length - i) = i by omega, ← hv]
        have h2 : 4294967296 ^ (i / 4) * ((l[l.length - 1 - i]).toNat * 256 ^ (i % 4)) = (l[l.length - 1 - i]).toNat * 256 ^ i := by
          rw [← hpow, Nat.mul_left_comm]
        omega
    · obtain ⟨out, rfl, ho, hw, hv⟩ := hs
      dsimp only
      rw [if_neg (by omega)]
      refine ⟨_, rfl, ho, hw, ?_⟩
      rw [hv, Nat.sub_self, List.drop_zero]
    · intro d hd
      rw [(List.mem_replicate.1 hd).2]; omega
    · rw [valN_zeros _ fun d hd => (List.mem_replicate.1 hd).2]
      simp [valB]
  obtain ⟨z, hz, h1, h2, h3⟩ := main
  rw [hz, Option.bind_some]
  obtain ⟨y, hy, hv, hwy, hyl, _⟩ := trim_spec h2 (by omega)
  exact ⟨y, by rw [hy, Option.bind_some], by rw [hv, h3], hwy, by omega⟩

theorem valN_snoc (x : List Int) (d : Int) : valN (x ++ [d]) = valN x + 4294967296 ^ x.length * d.toNat := by rw [valN_app]; simp [valN]
theorem take_snoc {x : List Int} {i : Nat} (h : i < x.length) : x.take (i + 1) = x.take i ++ [x[i]] := (List.take_append_getElem h).symm

theorem add_core {u v : List Int} (hu : wfN u) (hv : wfN v) (hlu : u.length ≤ 1099511627776) (hlv : v.length ≤ u.length) :
    ∃ z, ((loopW (S := Int × Int × (List Int)) (X := (List Int) × Int) (fun a6 =>
          if a6.2.1 < ((u).length : Int) then
            (idx u a6.2.1).bind fun x10 =>
            jp (fun (a12 : Int) =>
              (idx a6.2.2 a6.2.1).bind fun x15 =>
              some (Stp.next (Int.fdiv a12 (2 ^ (min (32 : Int).toNat (IntKind.bits .u64))), IntKind.wrap .i64 (a6.2.1 + 1), (a6.2.2).set (a6.2.1).toNat (IntKind.wrap .u32 a12))))
              fun k14 =>
              if a6.2.1 < ((v).length : Int) then
                (idx v a6.2.1).bind fun x17 =>
                k14 (IntKind.wrap .u64 ((IntKind.wrap .u64 ((IntKind.wrap .u64 x10) + a6.1)) + (IntKind.wrap .u64 x17)))
              else
                k14 (IntKind.wrap .u64 ((IntKind.wrap .u64 x10) + a6.1))
          else
            some (Stp.exit (a6.2.2, a6.1))) (0, 0, List.replicate (IntKind.wrap .i64 (((u).length : Int) + 1)).toNat (0 : Int))).bind fun a19 =>
      (idx a19.1 ((u).length : Int)).bind fun x21 =>
      (m_integer_trim ((a19.1).set (((u).length : Int)).toNat (IntKind.wrap .u32 a19.2))).bind fun x23 =>
      some x23) = some z ∧ valN z = valN u + valN v ∧ wfN z ∧ z.length ≤ u.length + 1 := by
  have hL : IntKind.wrap .i64 ((u.length : Int) + 1) = ((u.length + 1 : Nat) : Int) := by rw [w64 (by omega) (by omega)]; omega
  rw [hL, Int.toNat_natCast]
  have hsh : (2 : Int) ^ (min (32 : Int).toNat (IntKind.bits .u64)) = 4294967296 := by decide
  simp only [hsh]
  have main : ∃ r, loopW (S := Int × Int × (List Int)) (X := (List Int) × Int) (fun a6 =>
          if a6.2.1 < ((u).length : Int) then
            (idx u a6.2.1).bind fun x10 =>
            jp (fun (a12 : Int) =>
              (idx a6.2.2 a6.2.1).bind fun x15 =>
              some (Stp.next (Int.fdiv a12 4294967296, IntKind.wrap .i64 (a6.2.1 + 1), (a6.2.2).set (a6.2.1).toNat (IntKind.wrap .u32 a12))))
              fun k14 =>
              if a6.2.1 < ((v).length : Int) then
                (idx v a6.2.1).bind fun x17 =>
                k14 (IntKind.wrap .u64 ((IntKind.wrap .u64 ((IntKind.wrap .u64 x10) + a6.1)) + (IntKind.wrap .u64 x17)))
              else
                k14 (IntKind.wrap .u64 ((IntKind.wrap .u64 x10) + a6.1))
          else
            some (Stp.exit (a6.2.2, a6.1))) (0, 0, List.replicate (u.length + 1) (0 : Int)) = some r ∧ (r.1.length = u.length + 1 ∧ wfN r.1 ∧ (0 ≤ r.2 ∧ r.2 ≤ 1) ∧ ∃ h : u.length < r.1.length, r.1[u.length] = 0 ∧ valN r.1 + 4294967296 ^ u.length * r.2.toNat = valN u + valN v) := by
    refine loopN u.length (fun i s => ∃ (c : Nat) (out : List Int), s = ((c : Int), (i : Int), out) ∧ out.length = u.length + 1 ∧ wfN out ∧ c ≤ 1 ∧ (∀ j (h : j < out.length), i ≤ j → out[j] = 0) ∧ valN out + 4294967296 ^ i * c = valN (u.take i) + valN (v.take i)) (fun i s hi hs => ?_) (fun s hs => ?_) 0 _ (Nat.zero_le _) ⟨0, _, rfl, by simp, ?_, by omega, ?_, ?_⟩
    · left
      obtain ⟨c, out, rfl, ho, hw, hc, hz, hv2⟩ := hs
      dsimp only
      rw [if_pos (lt_int hi), idx_nat, List.getElem?_eq_getElem hi]
      have hio : i < out.length := by omega
      have ht := hu u[i] (List.getElem_mem _)
      simp only [jp, Option.bind_some, idx_nat, List.getElem?_eq_getElem hio, Int.toNat_natCast]
      have fin : ∀ t : Nat, t < 4294967296 → (t : Int) = (if h : i < v.length then v[i] else 0) →
          ∃ s', some (Stp.next (X := (List Int) × Int) (Int.fdiv ((u[i] + c + t : Int)) 4294967296, IntKind.wrap .i64 ((i : Int) + 1), out.set i (IntKind.wrap .u32 (u[i] + c + t)))) = some (.next s') ∧ ∃ (c : Nat) (out : List Int), s' = ((c : Int), ((i + 1 : Nat) : Int), out) ∧ out.length = u.length + 1 ∧ wfN out ∧ c ≤ 1 ∧ (∀ j (h : j < out.length), i + 1 ≤ j → out[j] = 0) ∧ valN out + 4294967296 ^ (i + 1) * c = valN (u.take (i + 1)) + valN (v.take (i + 1)) := by
        intro t ht2 hte
        obtain ⟨a, ha⟩ := Int.eq_ofNat_of_zero_le ht.1
        rw [ha]
        have e1 : Int.fdiv ((a : Int) + c + t) 4294967296 = (((a + c + t) / 4294967296 : Nat) : Int) := by
          rw [Int.fdiv_eq_ediv_of_nonneg _ (by omega)]; omega
        have e2 : IntKind.wrap .u32 ((a : Int) + c + t) = (((a + c + t) % 4294967296 : Nat) : Int) := by rw [wu32]; omega
        rw [e1, e2, nx (n := u.length) (by omega) hi]
        refine ⟨_, rfl, (a + c + t) / 4294967296, _, rfl, by simp [ho], wfN_set hw (by omega), by omega, ?_, ?_⟩
        · intro j hj hij
          rw [List.getElem_set_ne (by omega)]
          exact hz j (by simpa using hj) (by omega)
        · have h1 := valN_set out i (((a + c + t) % 4294967296 : Nat) : Int) hio
          rw [hz i hio (Nat.le_refl _), Int.toNat_natCast] at h1
          have hut : valN (u.take (i + 1)) = valN (u.take i) + 4294967296 ^ i * a := by
            rw [take_snoc hi, valN_snoc, ha, Int.toNat_natCast, List.length_take, Nat.min_eq_left (by omega)]
          have hvt : valN (v.take (i + 1)) = valN (v.take i) + 4294967296 ^ i * t := by
            by_cases hiv : i < v.length
            · rw [dif_pos hiv] at hte
              rw [take_snoc hiv, valN_snoc, ← hte, Int.toNat_natCast, List.length_take, Nat.min_eq_left (by omega)]
            · rw [dif_neg hiv] at hte
              have : t = 0 := by omega
              subst this
              rw [List.take_of_length_le (by omega), List.take_of_length_le (by omega)]; omega
          rw [hut, hvt, Nat.pow_succ]
          have h2 : 4294967296 ^ i * 4294967296 * ((a + c + t) / 4294967296) + 4294967296 ^ i * ((a + c + t) % 4294967296) = 4294967296 ^ i * (a + c + t) := by
            rw [Nat.mul_assoc, ← Nat.mul_add, Nat.div_add_mod]
          rw [Nat.mul_add, Nat.mul_add] at h2
          simp only [Int.toNat_zero, Nat.mul_zero, Nat.add_zero] at h1
          omega
      have e0 : IntKind.wrap .u64 (IntKind.wrap .u64 u[i] + (c : Int)) = u[i] + c := by rw [wu64, wu64]; omega
      by_cases hiv : i < v.length
      · rw [if_pos (lt_int hiv), List.getElem?_eq_getElem hiv, Option.bind_some]
        have hvi := hv v[i] (List.getElem_mem _)
        have := fin v[i].toNat (by omega) (by rw [dif_pos hiv]; omega)
        rw [show ((v[i].toNat : Nat) : Int) = v[i] by omega] at this
        have e3 : IntKind.wrap .u64 (u[i] + c + IntKind.wrap .u64 v[i]) = u[i] + c + v[i] := by rw [wu64, wu64]; omega
        rw [e0, e3]
        exact this
      · rw [if_neg (by omega), e0]
        have := fin 0 (by decide) (by rw [dif_neg hiv]; rfl)
        simpa using this
    · obtain ⟨c, out, rfl, ho, hw, hc, hz, hv2⟩ := hs
      dsimp only
      rw [if_neg (by omega)]
      refine ⟨_, rfl, ho, hw, by omega, by dsimp only; omega, hz _ _ (Nat.le_refl _), ?_⟩
      rw [List.take_of_length_le (Nat.le_refl _), List.take_of_length_le hlv] at hv2
      simpa using hv2
    · intro d hd
      rw [(List.mem_replicate.1 hd).2]; omega
    · intro j hj _
      simp
    · rw [valN_zeros _ fun d hd => (List.mem_replicate.1 hd).2]
      simp [valN]
  obtain ⟨⟨out, c⟩, hr, ho, hw, hc, hlt, h0, hval⟩ := main
  rw [hr, Option.bind_some]
  dsimp only at ho hw hc hlt h0 hval ⊢
  rw [idx_nat, List.getElem?_eq_getElem hlt, Option.bind_some, Int.toNat_natCast]
  have hc2 : IntKind.wrap .u32 c = c := by rw [wu32]; omega
  rw [hc2]
  have hwz : wfN (out.set u.length c) := wfN_set hw (by omega)
  obtain ⟨y, hy, hv2, hwy, hyl, _⟩ := trim_spec hwz (by simp [ho]; omega)
  refine ⟨y, by rw [hy, Option.bind_some], ?_, hwy, by simp [ho] at hyl; omega⟩
  have h1 := valN_set out u.length c hlt
  rw [h0] at h1
  simp only [Int.toNat_zero, Nat.mul_zero, Nat.add_zero] at h1
  rw [hv2, h1, hval]

theorem add_spec {x y : List Int} (hx : wfN x) (hy : wfN y) (lx : x.length ≤ 1099511627776) (ly : y.length ≤ 1099511627776) :
    ∃ z, m_integer_add x y = some z ∧ valN z = valN x + valN y ∧ wfN z ∧ z.length ≤ max x.length y.length + 1 := by
  unfold m_integer_add
  simp only [jp]
  by_cases h : x.length < y.length
  · rw [if_pos (lt_int h), if_pos (by rw [w64 (by omega) (by omega)]; omega)]
    obtain ⟨z, h1, h2, h3, h4⟩ := add_core hy hx ly (by omega)
    exact ⟨z, h1, by rw [h2, Nat.add_comm], h3, by omega⟩
  · rw [if_neg (by omega), if_pos (by rw [w64 (by omega) (by omega)]; omega)]
    obtain ⟨z, h1, h2, h3, h4⟩ := add_core hx hy lx (by omega)
    exact ⟨z, h1, h2, h3, by omega⟩

theorem Add_spec {a b : Nat} (ha : (be a).length ≤ 1099511627776) (hb : (be b).length ≤ 1099511627776) : m_integer_Add (false, be a) (false, be b) = some (false, be (a + b)) := by
  unfold m_integer_Add
  obtain ⟨x, hx, hvx, hwx, hlx⟩ := digits_spec (neg := false) ha
  obtain ⟨y, hy, hvy, hwy, hly⟩ := digits_spec (neg := false) hb
  obtain ⟨z, hz, hvz, hwz, hlz⟩ := add_spec hwx hwy (by omega) (by omega)
  rw [hx, Option.bind_some, hy, Option.bind_some]
  simp only [beq_self_eq_true, if_true, hz, Option.bind_some]
  rw [number_spec hwz (by omega), Option.bind_some, hvz, hvx, hvy, valB_be, valB_be]
  by_cases h : a + b = 0
  · rw [if_pos h, h, be0]
  · rw [if_neg h]
end Go.AW

/- Graphs of sets: the number of words. -/
namespace Go.AW
open Go
set_option linter.unusedSimpArgs false
set_option linter.unusedVariables false

theorem getD_lt {α : Type} {l : List α} {d : α} {i : Nat} (h : i < l.length) : l.getD i d = l[i] := by simp [List.getD, h]

section
variable {g : Gr}
def bz (n : Nat) : TNegMag := (false, be n)
/-- an edge carries the number of its beginning to its end -/
def addE (c : List Nat) (nxt : List Nat) (x : Ed) : List Nat := nxt.set x.2.2.toNat (nxt.getD x.2.2.toNat 0 + c.getD x.1.toNat 0)
def cstep (E : List Ed) (n : Nat) (c : List Nat) : List Nat := E.foldl (addE c) (List.replicate n 0)
def cinit (n : Nat) : List Nat := (List.replicate n 0).set 0 1
def crun (E : List Ed) (n : Nat) : Nat → List Nat
  | 0 => cinit n
  | k + 1 => cstep E n (crun E n k)
def csum (c : List Nat) : Nat := c.foldl (· + ·) 0

theorem addE_len (c nxt : List Nat) (x : Ed) : (addE c nxt x).length = nxt.length := List.length_set
theorem foldE_len (c : List Nat) : ∀ (E : List Ed) (nxt : List Nat), (E.foldl (addE c) nxt).length = nxt.length
  | [], _ => rfl
  | x :: E, nxt => by rw [List.foldl_cons, foldE_len c E, addE_len]
theorem cstep_len (E : List Ed) (n : Nat) (c : List Nat) : (cstep E n c).length = n := by unfold cstep; rw [foldE_len]; simp
theorem crun_len (E : List Ed) (n : Nat) : ∀ k, (crun E n k).length = n
  | 0 => by simp [crun, cinit]
  | k + 1 => cstep_len _ _ _

theorem addE_le {c nxt : List Nat} {x : Ed} {M B : Nat} (hc : ∀ y ∈ c, y ≤ M) (hn : ∀ y ∈ nxt, y ≤ B) : ∀ y ∈ addE c nxt x, y ≤ B + M := by
  intro y hy
  have hgc : c.getD x.1.toNat 0 ≤ M := by
    by_cases h : x.1.toNat < c.length
    · exact hc _ (getD_mem h)
    · simp [List.getD, h]
  have hgn : nxt.getD x.2.2.toNat 0 ≤ B := by
    by_cases h : x.2.2.toNat < nxt.length
    · exact hn _ (getD_mem h)
    · simp [List.getD, h]
  rcases List.mem_or_eq_of_mem_set hy with h | rfl
  · have := hn y h; omega
  · omega
theorem foldE_le {c : List Nat} {M : Nat} (hc : ∀ y ∈ c, y ≤ M) : ∀ (E : List Ed) (nxt : List Nat) (B : Nat), (∀ y ∈ nxt, y ≤ B) → ∀ y ∈ E.foldl (addE c) nxt, y ≤ B + E.length * M
  | [], nxt, B, hn => fun y hy => by have := hn y hy; simp; exact this
  | x :: E, nxt, B, hn => fun y hy => by
    have := foldE_le hc E (addE c nxt x) (B + M) (addE_le hc hn) y hy
    rw [List.length_cons, Nat.succ_mul]
    omega
theorem cstep_le {E : List Ed} {n M : Nat} {c : List Nat} (hc : ∀ y ∈ c, y ≤ M) (hE : E.length ≤ 1024) : ∀ y ∈ cstep E n c, y ≤ 1024 * M := fun y hy => by
  have := foldE_le hc E (List.replicate n 0) 0 (fun y hy => by rw [(List.mem_replicate.1 hy).2]; exact Nat.le_refl _) y hy
  have h2 : E.length * M ≤ 1024 * M := Nat.mul_le_mul_right _ hE
  omega
theorem crun_le {E : List Ed} {n : Nat} (hE : E.length ≤ 1024) : ∀ k, ∀ y ∈ crun E n k, y ≤ 1024 ^ k
  | 0 => fun y hy => by
    rcases List.mem_or_eq_of_mem_set hy with h | rfl
    · rw [(List.mem_replicate.1 h).2]; simp
    · simp
  | k + 1 => fun y hy => by
    have := cstep_le (crun_le hE k) hE y hy
    rw [Nat.pow_succ, Nat.mul_comm]
    exact this
theorem be_small {n k : Nat} (hk : k ≤ 40) (h : n ≤ 2048 * 1024 ^ k) : (be n).length ≤ 1099511627776 := by
  have h1 : (1024 : Nat) ^ k ≤ 1024 ^ 40 := Nat.pow_le_pow_right (by decide) hk
  have h2 : 2048 * 1024 ^ k ≤ 2048 * 1024 ^ 40 := Nat.mul_le_mul_left _ h1
  have h3 : (2048 * 1024 ^ 40 : Nat) < 256 ^ 60 := by decide
  have := be_len (n := n) 60 (by omega)
  omega

theorem bz_at {l : List Nat} {i : Nat} (h : i < l.length) : idx (l.map bz) (i : Int) = some (bz l[i]) := by
  rw [ix (by simpa using h)]
  simp
theorem bz_set (l : List Nat) (i n : Nat) : (l.map bz).set i (bz n) = (l.set i n).map bz := by rw [List.map_set]
theorem bz_zero (n : Nat) : List.replicate n ((false, ([] : List UInt8)) : TNegMag) = (List.replicate n 0).map bz := by
  rw [List.map_replicate]
  unfold bz
  rw [be0]
theorem bz_add {a b k : Nat} (hk : k ≤ 40) (ha : a ≤ 2048 * 1024 ^ k) (hb : b ≤ 2048 * 1024 ^ k) : m_integer_Add (bz a) (bz b) = some (bz (a + b)) := Add_spec (be_small hk ha) (be_small hk hb)

/-- what Count gives, the graph's errors being e -/
def countE (g : Gr) (e n : Int) : TNegMag × Int :=
  if e ≠ 0 then ((false, []), 1) else if n < 0 ∨ 4096 < n then ((false, []), 2)
  else if (buildE g e).2.2 ≠ 0 ∨ (buildE g e).1.2.1 = 0 then ((false, []), (buildE g e).2.2)
  else (bz (csum (crun (buildE g e).1.2.2 (buildE g e).2.1.length n.toNat)), 0)

theorem csum_snoc (c : List Nat) (x : Nat) : csum (c ++ [x]) = csum c + x := by simp [csum, List.foldl_append]
theorem csum_le {c : List Nat} {M : Nat} (h : ∀ y ∈ c, y ≤ M) : csum c ≤ c.length * M := by
  have : ∀ (c : List Nat) (s : Nat), (∀ y ∈ c, y ≤ M) → c.foldl (· + ·) s ≤ s + c.length * M := by
    intro c
    induction c with
    | nil => intro s _; simp
    | cons x c ih =>
      intro s hc
      have h1 := ih (s + x) fun y hy => hc y (List.mem_cons_of_mem _ hy)
      have h2 := hc x (List.mem_cons_self ..)
      rw [List.foldl_cons, List.length_cons, Nat.succ_mul]
      omega
  have := this c 0 h
  unfold csum
  omega

theorem Count_eq {e : Int} (he : m_ref09_Check g = some e) (hz : e = 0 ↔ VG g) {n : Int} (hn : n ≤ 40 ∨ 4096 < n) : m_subset_Count g n = some (countE g e n) := by
  unfold m_subset_Count countE
  rw [Check_ref, he, Option.bind_some]
  by_cases h0 : e = 0
  case neg => rw [if_pos h0, if_pos h0]
  rw [if_neg (show ¬ e ≠ 0 from fun h => h h0), if_neg (show ¬ e ≠ 0 from fun h => h h0)]
  simp only [jp]
  by_cases c1 : n < 0
  · rw [if_pos c1, if_pos trivial, if_pos (.inl c1)]
  rw [if_neg c1]
  by_cases c2 : 4096 < n
  · rw [if_pos (decide_eq_true c2), if_pos (.inr c2)]
  rw [if_neg (by simpa using c2), if_neg (show ¬ (n < 0 ∨ 4096 < n) from fun h => h.elim c1 c2), Build_eq he hz, Option.bind_some]
  by_cases hb : (buildE g e).2.2 = 0
  case neg => rw [if_pos hb, if_pos trivial, if_pos (.inl hb)]
  rw [if_neg (by simpa using hb)]
  by_cases hs : (buildE g e).1.2.1 = 0
  case pos => rw [if_pos (decide_eq_true hs), if_pos (.inr hs)]
  rw [if_neg (show ¬ decide ((buildE g e).1.2.1 = 0) = true by simpa using hs), if_neg (show ¬ ((buildE g e).2.2 ≠ 0 ∨ (buildE g e).1.2.1 = 0) from fun h => h.elim (fun h => h hb) hs)]
  have hv := hz.1 h0
  have hne : g.2.1 ≠ 0 := fun h => by
    unfold buildE buildG at hs
    rw [if_neg (show ¬ e ≠ 0 from fun h => h h0), if_pos h] at hs
    exact hs rfl
  have hpos : 0 < g.2.1 := by have := hv.s0; omega
  have hbe : buildE g e = buildR g (upto g.2.1) := by
    unfold buildE buildG
    rw [if_neg (show ¬ e ≠ 0 from fun h => h h0), if_neg hne]
  rcases buildR_cases (upto_ok g) (upto_ne hpos) with h | ⟨E, L, hS, hrun, h⟩
  · rw [hbe, h] at hb; cases hb
  rw [hbe, h]
  dsimp only
  have hL := hS.s1
  have hE := hS.s2
  have hlp := hS.len_pos
  have hg : 0 ≤ (L.length : Int) ∧ (L.length : Int) ≤ (L.length : Int) ∧ (L.length : Int) * 24 ≤ 281474976710656 := by omega
  rw [if_pos hg, of_spec (by decide) (by decide), Option.bind_some, ix0 (by simp; omega), Option.bind_some]
  simp only [Int.toNat_natCast]
  rw [bz_zero]
  have hn40 : n.toNat ≤ 40 := by omega
  refine bindL (loop_is (fun k => ((crun E L.length k).map bz, (k : Int))) n.toNat ((crun E L.length n.toNat).map bz) (fun k hk => ?_) ?_ ?_) ?_
  · dsimp only
    rw [if_pos (by omega), if_pos hg]
    have hck := crun_le (n := L.length) hE k
    have hlen := crun_len E L.length k
    refine bindL (loop_is (fun m => ((m : Int), ((E.take m).foldl (addE (crun E L.length k)) (List.replicate L.length 0)).map bz)) E.length ((crun E L.length (k + 1)).map bz) (fun m hm => ?_) ?_ rfl) ?_
    · dsimp only
      obtain ⟨j, lab, hj, hlab, hnz, hx⟩ := hS.mem.1 (List.getElem_mem hm)
      have hto := hS.to_lt hj hlab hnz
      have e1 : E[m].1 = (j : Int) := by rw [hx]
      have e2 : E[m].2.2 = ((L.idxOf (stepL g (L.getD j []) (lab : Int)) : Nat) : Int) := by rw [hx]
      generalize hto' : L.idxOf (stepL g (L.getD j []) (lab : Int)) = t at hto e2
      have hN : ((E.take m).foldl (addE (crun E L.length k)) (List.replicate L.length 0)).length = L.length := by rw [foldE_len]; simp
      have hB := foldE_le hck (E.take m) (List.replicate L.length 0) 0 (fun y hy => by rw [(List.mem_replicate.1 hy).2]; exact Nat.le_refl _)
      have htk : E.take (m + 1) = E.take m ++ [E[m]] := by rw [List.take_add_one, List.getElem?_eq_getElem hm]; rfl
      rw [if_pos (lt_int hm), ix hm]
      simp only [Option.bind_some]
      rw [e1, e2, bz_at (by omega), bz_at (by omega)]
      simp only [Option.bind_some]
      have hml : (E.take m).length ≤ 1024 := by simp; omega
      have hmul : (E.take m).length * 1024 ^ k ≤ 1024 * 1024 ^ k := Nat.mul_le_mul_right _ hml
      have hb1 := hB _ (List.getElem_mem (show t < _ by omega))
      have hb2 := hck _ (List.getElem_mem (show j < _ by omega))
      rw [bz_add (k := k) (by omega) (by omega) (by omega)]
      simp only [Option.bind_some, Int.toNat_natCast]
      rw [bz_set, nx (by omega : E.length ≤ _) hm, htk, List.foldl_append]
      simp only [List.foldl_cons, List.foldl_nil]
      congr 4
      rw [show ∀ (c nx : List Nat) (x : Ed), addE c nx x = nx.set x.2.2.toNat (nx.getD x.2.2.toNat 0 + c.getD x.1.toNat 0) from fun _ _ _ => rfl, e1, e2]
      simp only [Int.toNat_natCast]
      congr 1
      rw [getD_lt (show t < _ by omega), getD_lt (show j < _ by omega)]
    · dsimp only
      rw [if_neg (not_lt_int _), List.take_length]
      rfl
    · rw [w64 (by omega) (by omega)]
      rfl
  · dsimp only
    rw [if_neg (by omega)]
  · show _ = ((cinit L.length).map bz, (0 : Int))
    unfold cinit
    rw [← bz_set]
    rfl
  · have hcn := crun_le (n := L.length) hE n.toNat
    have hlen := crun_len E L.length n.toNat
    generalize hcc : crun E L.length n.toNat = c at *
    refine bindL (loop_is (fun k => ((k : Int), (bz (csum (c.take k))).1, (bz (csum (c.take k))).2)) c.length (bz (csum c)) (fun k hk => ?_) ?_ (by simp [csum, bz, be0])) rfl
    · dsimp only
      rw [if_pos (by simp; omega), bz_at hk]
      simp only [Option.bind_some]
      have hs1 : csum (c.take k) ≤ 64 * 1024 ^ n.toNat := by
        have h1 := csum_le (c := c.take k) (M := 1024 ^ n.toNat) fun y hy => hcn y (List.mem_of_mem_take hy)
        have h2 : (c.take k).length ≤ 64 := by simp; omega
        have h3 : (c.take k).length * 1024 ^ n.toNat ≤ 64 * 1024 ^ n.toNat := Nat.mul_le_mul_right _ h2
        omega
      have hb2 := hcn _ (List.getElem_mem hk)
      have := bz_add (k := n.toNat) hn40 (a := csum (c.take k)) (b := c[k]) (by omega) (by omega)
      rw [show ((bz (csum (c.take k))).1, (bz (csum (c.take k))).2) = bz (csum (c.take k)) from rfl, this]
      simp only [Option.bind_some]
      rw [nx (by omega : c.length ≤ _) hk, show c.take (k + 1) = c.take k ++ [c[k]] by rw [List.take_add_one, List.getElem?_eq_getElem hk]; rfl, csum_snoc]
    · dsimp only
      rw [if_neg (by simp), List.take_length]
end
end Go.AW

/- The anchor of chapter 12; SubsetBuilds. -/
namespace Go.AW
open Go
set_option linter.unusedSimpArgs false
set_option linter.unusedVariables false

def even12 : Gr := (2, 2, [(0, 0, 1), (0, 1, 0), (1, 0, 0)])
theorem even12_ok : VG even12 where
  l1 := by decide
  l2 := by decide
  s0 := by decide
  s1 := by decide
  el := by decide
  ed := by decide
  ord := fun i h => match i, h with
    | 0, _ => show cmp3 (0, 0, 1) (0, 1, 0) < 0 by decide
    | 1, _ => show cmp3 (0, 1, 0) (1, 0, 0) < 0 by decide
    | _ + 2, h => absurd h (by simp [even12])

theorem be_7 : be 7 = [7] := by
  rw [be, if_neg (by decide), show 7 / 256 = 0 from rfl, be0]
  rfl

theorem awake12_eq : m_law12_awakeG = some true := by
  obtain ⟨e, he, hz⟩ := Check_tot even12
  have h0 := hz.2 even12_ok
  subst h0
  have hB := Build_eq he hz
  have hF := Focus_eq he hz
  have hC := Count_eq he hz (n := 3) (.inl (by decide))
  have b : buildE even12 0 = ((2, 3, [(0, 0, 0), (0, 1, 1), (1, 0, 2), (1, 1, 1), (2, 0, 1)]), [[0, 1], [0], [1]], 0) := by decide +kernel
  have f : focusE even12 0 = ([1], 0, true, 0) := by unfold focusE; rw [b]; decide +kernel
  have c : countE even12 0 3 = ((false, [7]), 0) := by
    unfold countE
    rw [b, if_neg (by decide), if_neg (by decide), if_neg (by decide)]
    have : csum (crun [(0, 0, 0), (0, 1, 1), (1, 0, 2), (1, 1, 1), (2, 0, 1)] 3 3) = 7 := by decide +kernel
    show (bz (csum (crun [(0, 0, 0), (0, 1, 1), (1, 0, 2), (1, 1, 1), (2, 0, 1)] 3 3)), (0 : Int)) = _
    rw [this]
    unfold bz
    rw [be_7]
  unfold m_law12_awakeG
  have h4 : m_law12_even = some even12 := rfl
  simp only [h4, Option.bind_some, hB, hF, hC, b, f, c, jp]
  have h7 : m_ref01_Of 7 = some (false, [7]) := by
    unfold m_ref01_Of m_ref01_mag
    rfl
  rw [SameSets_eq (by decide) (by decide), Same12_eq (by decide), h7]
  decide +kernel

section
variable {g : Gr} {e : Int}
theorem great12_tot (g : Gr) : ∃ b, m_law12_great g = some b := by
  unfold m_law12_great m_ref09_Great
  simp only [jp]
  by_cases h1 : (30 : Int) < (g.2.2.length : Int)
  · rw [if_pos h1]; exact ⟨_, rfl⟩
  · rw [if_neg h1]
    by_cases h2 : 10 < g.2.1
    · rw [if_pos h2]; exact ⟨_, rfl⟩
    · rw [if_neg h2]; exact ⟨_, rfl⟩
theorem Same09_eq {a b : Gr} (hm : a.2.2.length ≤ 1000000) : m_ref09_Same a b = some (decide (a = b)) := by
  obtain ⟨a1, a2, a3⟩ := a
  obtain ⟨b1, b2, b3⟩ := b
  have hm : a3.length ≤ 1000000 := hm
  unfold m_ref09_Same
  simp only [jp]
  by_cases h1 : a1 = b1
  case neg => simp [h1]
  by_cases h2 : a2 = b2
  case neg => simp [h1, h2]
  by_cases hl : a3.length = b3.length
  case neg =>
    have : ¬ a3 = b3 := fun e => hl (by rw [e])
    simp [h1, h2, this]
    omega
  rw [if_neg (by simpa using h1), if_neg (by simpa using h2)]
  have hd : decide ((a3.length : Int) ≠ (b3.length : Int)) = false := decide_eq_false (by omega)
  simp only [hd, Bool.false_eq_true, if_false]
  refine lpL (loop_eqL (fun i => (i : Int)) a3 b3 hl (Ou.ret false) (Ou.go ()) (fun i h1 h2 => ?_) (by rw [if_neg (not_lt_int _)]) rfl) ?_
  · rw [if_pos (lt_int h1), ix h1, ix h2]
    simp only [Option.bind_some, nx (by omega : a3.length ≤ _) h1]
    by_cases he : a3[i] = b3[i]
    · rw [if_pos he, if_neg (by simpa using he)]
    · rw [if_neg he, if_pos he]
  · subst h1; subst h2
    by_cases he : a3 = b3 <;> simp [he, lpO]

theorem buildE_size (hz : e = 0 ↔ VG g) : (buildE g e).1.2.2.length ≤ 1024 ∧ (buildE g e).2.1.length ≤ 64 ∧ ∀ x ∈ (buildE g e).2.1, x.length ≤ 64 := by
  unfold buildE
  split
  · simp
  · rename_i h0
    have hv := hz.1 (by simpa using h0)
    unfold buildG
    split
    · simp
    · rename_i hne
      have := hv.s0
      rcases buildR_cases (upto_ok g) (upto_ne (by omega)) with h | ⟨E, L, hS, hrun, h⟩
      · rw [h]; simp
      · rw [h]; exact ⟨hS.s2, hS.s1, fun x hx => setOk_len hv (hS.good x hx)⟩
theorem fromR_size (hz : e = 0 ↔ VG g) (a : List Int) : (fromR g e a).1.2.2.length ≤ 1024 ∧ (fromR g e a).2.1.length ≤ 64 ∧ ∀ x ∈ (fromR g e a).2.1, x.length ≤ 64 := by
  unfold fromR
  split
  · simp
  · rename_i h0
    have hv := hz.1 (by simpa using h0)
    split
    · simp
    · rename_i hne
      rcases scanC_cases (bad1 g a) (bad2 a) a.length 0 with h | h | ⟨h, _⟩
      · rw [show checkS g a = 1 from h]; simp [pick3]
      · rw [show checkS g a = 2 from h]; simp [pick3]
      · have hs : SetOk g a := checkS_ok h
        rw [show checkS g a = 0 from h]
        simp only [pick3]
        rcases buildR_cases hs (fun e => hne (by rw [e]; rfl)) with h | ⟨E, L, hS, hrun, h⟩
        · rw [h]; simp
        · rw [h]; exact ⟨hS.s2, hS.s1, fun x hx => setOk_len hv (hS.good x hx)⟩

theorem law_builds (g : Gr) (a : List Int) : m_law12_SubsetBuilds g a = some true := by
  obtain ⟨b, hb⟩ := great12_tot g
  unfold m_law12_SubsetBuilds
  rw [hb]
  simp only [Option.bind_some, jp]
  cases b with
  | true => rfl
  | false =>
    rw [if_neg (by decide)]
    by_cases hl : (10 : Int) < (a.length : Int)
    · rw [if_pos (decide_eq_true hl)]; rfl
    · rw [if_neg (by simpa using hl)]
      obtain ⟨e, he, hz⟩ := Check_tot g
      have ha : a.length ≤ 1000000 := by omega
      obtain ⟨s1, s2, s3⟩ := buildE_size hz
      obtain ⟨t1, t2, t3⟩ := fromR_size hz a
      rw [Build_eq he hz, Build_ref he hz, From_eq he hz ha, From_ref he hz ha]
      simp only [Option.bind_some]
      rw [Same09_eq (by omega), SameSets_eq (by omega) (fun x hx => Nat.le_trans (s3 x hx) (by decide)), Same09_eq (by omega), SameSets_eq (by omega) (fun x hx => Nat.le_trans (t3 x hx) (by decide))]
      simp only [Option.bind_some, decide_true, if_true]
      rfl
end
end Go.AW

/- The anchor of chapter 12. -/
namespace Go.AW
open Go Go.Proofs
theorem w_law12_awake {r : Bool} (h : m_law12_awake = some r) : Pure Tryd.prog 10 [] (· = HV.bool r) := by
  cases h
  exact w_law12_awakeG awake12_eq
end Go.AW

namespace Go.AW
open Go Go.Proofs
set_option linter.unusedVariables false
set_option maxHeartbeats 1600000 in
set_option maxRecDepth 100000 in
theorem w_ref09_Great {p0 : TLabelsStatesEdges} {r : Bool} (h : m_ref09_Great p0 = some r) : Pure Tryd.prog 28 [HV.agg [HV.int .i64 p0.1, HV.int .i64 p0.2.1, slE eFromLabelTo p0.2.2]] (· = HV.bool r) := by
 unfold m_ref09_Great at h
 refine Pure.of_body Tryd.func28 rfl rfl (Nat.le_of_ble_eq_true rfl) fun hf => ?_
 unfold Tryd.f28
 dsimp only [enumS, Nat.reduceAdd]
 refine AW.rgs rfl fun K hK => ?_
 refine b_op rfl (o_box rfl rfl rfl ?_)
 refine mv rfl rfl ?_
 refine b_fin hK (s' := ⟨[(1, HV.fptr [HV.int .i64 p0.1, HV.int .i64 p0.2.1, slE eFromLabelTo p0.2.2] 0)], []⟩) (le_q rfl rfl) ?_
 clear hK K
 refine AW.seqJ h (S := Bool) (V := Unit) (fun a v => ⟨[(2, HV.bool a)], []⟩) (fun a1 w2 h => ?_) (fun k3 h => ?_)
 ·refine AW.ret ?_
  have h := Option.some.inj h
  subst h
  exact ret_pure (hs := [HV.bool a1]) (q := HV.bool a1) (.inr rfl) (resT rfl rfl) rfl trivial
 ·refine AW.rg rfl fun K hK => ?_
  refine bv rfl (v_fieldAddrF fo24_2 rfl) ?_
  refine bv rfl (v_loadF ty22 rfl (l_lit rfl rfl)) ?_
  refine bv rfl (v_lenF rfl rfl ty22 rfl) ?_
  refine bv rfl (v_bin rfl rfl b_gtr) ?_
  refine mv rfl rfl ?_
  by_cases hg5 : 30 < ((p0.2.2).length : Int)
  ·have h := ifT hg5 h
   refine b_F rfl rfl rfl rfl rfl (decide_eq_true hg5) ?_
   refine b_F rfl rfl rfl rfl rfl rfl ?_
   refine b_F rfl rfl rfl rfl rfl rfl ?_
   refine b_F rfl rfl rfl rfl rfl rfl ?_
   refine b_U rfl rfl rfl rfl rfl ?_
   refine b_U rfl rfl rfl rfl rfl ?_
   refine b_U rfl rfl rfl rfl rfl ?_
   refine b_F rfl rfl rfl rfl rfl rfl ?_
   refine bv rfl (v_pickT rfl rfl rfl) ?_
   refine mv rfl rfl ?_
   refine b_nil (hK _ ?_)
   clear hK K
   exact to_le (s' := ⟨[(2, HV.bool true)], []⟩) (AS.le_of ⟨rfl, trivial⟩ trivial) ⟨true, (), h, rfl⟩
  ·have h := ifF hg5 h
   refine b_T rfl rfl rfl rfl (decide_eq_false hg5) (o_val rfl (v_fieldAddrF fo24_1 rfl) ?_)
   refine b_T rfl rfl rfl rfl rfl (o_val rfl (v_loadF ty3 rfl (l_lit rfl rfl)) ?_)
   refine b_T rfl rfl rfl rfl rfl (o_val rfl (v_bin rfl rfl b_gtr) ?_)
   refine b_T rfl rfl rfl rfl rfl (o_val rfl (mv_val rfl rfl).2 ?_)
   by_cases hg4 : 10 < p0.2.1
   ·have h := ifT hg4 h
    refine b_T rfl rfl rfl rfl (decide_eq_true hg4) (o_val rfl (v_fieldAddrF fo24_1 rfl) ?_)
    refine b_T rfl rfl rfl rfl rfl (o_val rfl (v_loadF ty3 rfl (l_lit rfl rfl)) ?_)
    refine b_T rfl rfl rfl rfl rfl (o_val rfl (v_bin rfl rfl b_leq) ?_)
    refine b_T rfl rfl rfl rfl rfl (o_val rfl (v_pickT rfl rfl rfl) ?_)
    refine bv rfl (v_pickF rfl rfl rfl) ?_
    refine mv rfl rfl ?_
    refine b_nil (hK _ ?_)
    clear hK K
    exact to_le (s' := ⟨[(2, HV.bool (decide (p0.2.1 ≤ 64)))], []⟩) (AS.le_of ⟨rfl, trivial⟩ trivial) ⟨decide (p0.2.1 ≤ 64), (), h, rfl⟩
   ·have h := ifF hg4 h
    refine b_F rfl rfl rfl rfl rfl (decide_eq_false hg4) ?_
    refine b_F rfl rfl rfl rfl rfl rfl ?_
    refine b_F rfl rfl rfl rfl rfl rfl ?_
    refine b_T rfl rfl rfl rfl rfl (o_val rfl (v_pickF rfl rfl rfl) ?_)
    refine bv rfl (v_pickF rfl rfl rfl) ?_
    refine mv rfl rfl ?_
    refine b_nil (hK _ ?_)
    clear hK K
    exact to_le (s' := ⟨[(2, HV.bool false)], []⟩) (AS.le_of ⟨rfl, trivial⟩ trivial) ⟨false, (), h, rfl⟩

set_option maxHeartbeats 1600000 in
set_option maxRecDepth 100000 in
theorem w_law12_great {p0 : TLabelsStatesEdges} {r : Bool} (h : m_law12_great p0 = some r) : Pure Tryd.prog 8 [HV.agg [HV.int .i64 p0.1, HV.int .i64 p0.2.1, slE eFromLabelTo p0.2.2]] (· = HV.bool r) := by
 unfold m_law12_great at h
 refine Pure.of_body Tryd.func8 rfl rfl (Nat.le_of_ble_eq_true rfl) fun hf => ?_
 unfold Tryd.f8
 dsimp only [enumS, Nat.reduceAdd]
 refine AW.rgs rfl fun K hK => ?_
 refine b_op rfl (o_box rfl rfl rfl ?_)
 refine mv rfl rfl ?_
 refine b_fin hK (s' := ⟨[(1, HV.fptr [HV.int .i64 p0.1, HV.int .i64 p0.2.1, slE eFromLabelTo p0.2.2] 0)], []⟩) (le_q rfl rfl) ?_
 clear hK K
 refine AW.rgs rfl fun K hK => ?_
 refine bv rfl (v_loadF ty24 rfl (l_litA rfl (Nat.le_of_ble_eq_true rfl) rfl)) ?_
 obtain ⟨x1, h2, h⟩ := bS h
 refine b_op rfl (o_call rfl rfl rfl rfl (ACallD.pure0 (w_ref09_Great h2)) ?_)
 refine mv rfl rfl ?_
 refine b_fin hK (s' := ⟨[(2, HV.bool x1)], []⟩) (le_q rfl rfl) ?_
 clear hK K
 refine AW.ret ?_
 have h := Option.some.inj h
 subst h
 exact ret_pure (hs := [HV.bool x1]) (q := HV.bool x1) (.inr rfl) (resT rfl rfl) rfl trivial

set_option maxHeartbeats 1600000 in
set_option maxRecDepth 100000 in
theorem w_ref09_Compare {p0 : TFromLabelTo} {p1 : TFromLabelTo} {r : Int} (h : m_ref09_Compare p0 p1 = some r) : Pure Tryd.prog 45 [HV.agg [HV.int .i64 p0.1, HV.int .i64 p0.2.1, HV.int .i64 p0.2.2], HV.agg [HV.int .i64 p1.1, HV.int .i64 p1.2.1, HV.int .i64 p1.2.2]] (· = HV.int .i64 r) := by
 unfold m_ref09_Compare at h
 refine Pure.of_body Tryd.func45 rfl rfl (Nat.le_of_ble_eq_true rfl) fun hf => ?_
 unfold Tryd.f45
 dsimp only [enumS, Nat.reduceAdd]
 refine AW.rgs rfl fun K hK => ?_
 refine b_op rfl (o_box rfl rfl rfl ?_)
 refine b_op rfl (o_box rfl rfl rfl ?_)
 refine mv rfl rfl ?_
 refine b_fin hK (s' := ⟨[(2, HV.fptr [HV.int .i64 p0.1, HV.int .i64 p0.2.1, HV.int .i64 p0.2.2] 0), (3, HV.fptr [HV.int .i64 p1.1, HV.int .i64 p1.2.1, HV.int .i64 p1.2.2] 0)], []⟩) (le_q rfl rfl) ?_
 clear hK K
 refine AW.dgs 16 follows rfl rfl fun K hK => ?_
 refine sv rfl (v_fieldAddrF fo49_0 rfl) ?_
 refine sv rfl (v_loadF ty3 rfl (l_lit rfl rfl)) ?_
 refine sv rfl (v_fieldAddrF fo49_1 rfl) ?_
 refine sv rfl (v_loadF ty3 rfl (l_lit rfl rfl)) ?_
 refine sv rfl (v_fieldAddrF fo49_2 rfl) ?_
 refine sv rfl (v_loadF ty3 rfl (l_lit rfl rfl)) ?_
 refine s_op rfl rfl (ops_bsl rfl rfl (as_of (cs := [HV.int .i64 p0.1, HV.int .i64 p0.2.1, HV.int .i64 p0.2.2]) ty30 ty3 rfl rfl rfl rfl rfl) ?_)
 refine sv rfl (v_fieldAddrF fo49_0 rfl) ?_
 refine sv rfl (v_loadF ty3 rfl (l_lit rfl rfl)) ?_
 refine sv rfl (v_fieldAddrF fo49_1 rfl) ?_
 refine sv rfl (v_loadF ty3 rfl (l_lit rfl rfl)) ?_
 refine sv rfl (v_fieldAddrF fo49_2 rfl) ?_
 refine sv rfl (v_loadF ty3 rfl (l_lit rfl rfl)) ?_
 refine s_op rfl rfl (ops_bsl rfl rfl (as_of (cs := [HV.int .i64 p1.1, HV.int .i64 p1.2.1, HV.int .i64 p1.2.2]) ty30 ty3 rfl rfl rfl rfl rfl) ?_)
 refine sm rfl rfl ?_
 refine sm rfl rfl ?_
 refine s_nil ?_
 refine b_fin hK (s' := ⟨[(5, slE eInt [p0.1, p0.2.1, p0.2.2]), (6, slE eInt [p1.1, p1.2.1, p1.2.2])], []⟩) (le_q rfl rfl) ?_
 clear hK K
 refine AW.seq ?_
 refine AW.rgs rfl fun K hK => ?_
 refine mv rfl rfl ?_
 refine b_fin hK (s' := ⟨[(5, slE eInt [p0.1, p0.2.1, p0.2.2]), (6, slE eInt [p1.1, p1.2.1, p1.2.2]), (7, HV.int .i64 0)], []⟩) (le_q rfl rfl) ?_
 clear hK K
 refine AW.lpR h (by first | exact up_then | exact up_to) (S := Int) (V := Unit) (fun a v => ⟨[(5, slE eInt [p0.1, p0.2.1, p0.2.2]), (6, slE eInt [p1.1, p1.2.1, p1.2.2]), (7, HV.int .i64 a)], []⟩) ?_ (X := Unit) (W := Unit) (fun a v => ⟨[], []⟩) (fun a13 w14 h => ?_) (fun a1 w2 st3 h hr4=> ?_)
 ·exact to_le (s' := ⟨[(5, slE eInt [p0.1, p0.2.1, p0.2.2]), (6, slE eInt [p1.1, p1.2.1, p1.2.2]), (7, HV.int .i64 0)], []⟩) (AS.le_of ⟨rfl, rfl, rfl, trivial⟩ trivial) ⟨(), rfl⟩
 ·refine AW.rgs rfl fun K hK => ?_
  refine mv rfl rfl ?_
  refine b_fin hK (s' := ⟨[(4, HV.int .i64 0)], []⟩) (le_q rfl rfl) ?_
  clear hK K
  refine AW.ret ?_
  have h := Option.some.inj h
  subst h
  exact ret_pure (hs := [HV.int .i64 0]) (q := HV.int .i64 0) (.inr rfl) (resT rfl rfl) rfl trivial
 ·refine AW.seq ?_
  refine AW.rgs rfl fun K hK => ?_
  refine mv rfl rfl ?_
  refine bv rfl (v_bin rfl rfl b_lss) ?_
  refine b_fin hK (s' := ⟨[(5, slE eInt [p0.1, p0.2.1, p0.2.2]), (6, slE eInt [p1.1, p1.2.1, p1.2.2]), (7, HV.int .i64 a1), (23, HV.bool (decide (a1 < 3)))], []⟩) (le_q rfl rfl) ?_
  clear hK K
  refine AW.cond rfl (fun hc => ?_) (fun hc => ?_)
  ·have hc := of_decide_eq_true hc
   have h := ifT hc h
   refine AW.skip ?_
   refine AW.seq (AW.block ?_)
   refine AW.seq ?_
   refine AW.dgs 9 follows rfl rfl fun K hK => ?_
   refine sm rfl rfl ?_
   refine sm rfl rfl ?_
   obtain ⟨x5, h6, h⟩ := bS h
   refine sv rfl (v_idxF ty30 es30 rfl rfl (idx_lt h6)) ?_
   refine sv rfl (v_loadF ty3 rfl (l_cell eInt h6 (o := 0) rfl rfl)) ?_
   refine sm rfl rfl ?_
   refine sm rfl rfl ?_
   obtain ⟨x7, h8, h⟩ := bS h
   refine sv rfl (v_idxF ty30 es30 rfl rfl (idx_lt h8)) ?_
   refine sv rfl (v_loadF ty3 rfl (l_cell eInt h8 (o := 0) rfl rfl)) ?_
   refine sv rfl (v_bin rfl rfl b_lss) ?_
   refine s_nil ?_
   refine b_fin hK (s' := ⟨[(5, slE eInt [p0.1, p0.2.1, p0.2.2]), (6, slE eInt [p1.1, p1.2.1, p1.2.2]), (7, HV.int .i64 a1), (34, HV.bool (decide (x5 < x7)))], []⟩) (le_q rfl rfl) ?_
   clear hK K
   refine AW.cond rfl (fun hc => ?_) (fun hc => ?_)
   ·have hc := of_decide_eq_true hc
    have h := ifT hc h
    refine AW.rgs rfl fun K hK => ?_
    refine mv rfl rfl ?_
    refine b_fin hK (s' := ⟨[(4, HV.int .i64 (-1))], []⟩) (le_q rfl rfl) ?_
    clear hK K
    have h := hr4 _ h
    refine AW.ret ?_
    have h := Option.some.inj h
    subst h
    exact ret_pure (hs := [HV.int .i64 (-1)]) (q := HV.int .i64 (-1)) (.inr rfl) (resT rfl rfl) rfl trivial
   ·have hc := of_decide_eq_false hc
    have h := ifF hc h
    refine AW.skip ?_
    refine AW.dgs 9 follows rfl rfl fun K hK => ?_
    refine sm rfl rfl ?_
    refine sm rfl rfl ?_
    obtain ⟨x9, h10, h⟩ := bS h
    refine sv rfl (v_idxF ty30 es30 rfl rfl (idx_lt h10)) ?_
    refine sv rfl (v_loadF ty3 rfl (l_cell eInt h10 (o := 0) rfl rfl)) ?_
    refine sm rfl rfl ?_
    refine sm rfl rfl ?_
    obtain ⟨x11, h12, h⟩ := bS h
    refine sv rfl (v_idxF ty30 es30 rfl rfl (idx_lt h12)) ?_
    refine sv rfl (v_loadF ty3 rfl (l_cell eInt h12 (o := 0) rfl rfl)) ?_
    refine sv rfl (v_bin rfl rfl b_gtr) ?_
    refine s_nil ?_
    refine b_fin hK (s' := ⟨[(5, slE eInt [p0.1, p0.2.1, p0.2.2]), (6, slE eInt [p1.1, p1.2.1, p1.2.2]), (7, HV.int .i64 a1), (43, HV.bool (decide (x11 < x9)))], []⟩) (le_q rfl rfl) ?_
    clear hK K
    refine AW.cond rfl (fun hc => ?_) (fun hc => ?_)
    ·have hc := of_decide_eq_true hc
     have h := ifT hc h
     refine AW.rgs rfl fun K hK => ?_
     refine mv rfl rfl ?_
     refine b_fin hK (s' := ⟨[(4, HV.int .i64 1)], []⟩) (le_q rfl rfl) ?_
     clear hK K
     have h := hr4 _ h
     refine AW.ret ?_
     have h := Option.some.inj h
     subst h
     exact ret_pure (hs := [HV.int .i64 1]) (q := HV.int .i64 1) (.inr rfl) (resT rfl rfl) rfl trivial
    ·have hc := of_decide_eq_false hc
     have h := ifF hc h
     refine AW.skip ?_
     refine AW.rg rfl fun K hK => ?_
     refine mv rfl rfl ?_
     refine bv rfl (v_bin rfl rfl b_add) ?_
     refine mv rfl rfl ?_
     refine b_nil (hK _ ?_)
     clear hK K
     exact to_le (s' := ⟨[(5, slE eInt [p0.1, p0.2.1, p0.2.2]), (6, slE eInt [p1.1, p1.2.1, p1.2.2]), (7, HV.int .i64 (IntKind.wrap .i64 (a1 + 1)))], []⟩) (AS.le_of ⟨rfl, rfl, rfl, trivial⟩ trivial) ⟨IntKind.wrap .i64 (a1 + 1), (), h, rfl⟩
  ·have hc := of_decide_eq_false hc
   have h := ifF hc h
   refine AW.exit ?_
   exact to_le (s' := ⟨[], []⟩) (AS.le_of trivial trivial) ⟨(), (), h, rfl⟩

set_option maxHeartbeats 1600000 in
set_option maxRecDepth 100000 in
theorem w_ref09_Check {p0 : TLabelsStatesEdges} {r : Int} (h : m_ref09_Check p0 = some r) : Pure Tryd.prog 23 [HV.agg [HV.int .i64 p0.1, HV.int .i64 p0.2.1, slE eFromLabelTo p0.2.2]] (· = HV.int .i64 r) := by
 unfold m_ref09_Check at h
 refine Pure.of_body Tryd.func23 rfl rfl (Nat.le_of_ble_eq_true rfl) fun hf => ?_
 unfold Tryd.f23
 dsimp only [enumS, Nat.reduceAdd]
 refine AW.rgs rfl fun K hK => ?_
 refine b_op rfl (o_box rfl rfl rfl ?_)
 refine mv rfl rfl ?_
 refine b_fin hK (s' := ⟨[(1, HV.fptr [HV.int .i64 p0.1, HV.int .i64 p0.2.1, slE eFromLabelTo p0.2.2] 0)], []⟩) (le_q rfl rfl) ?_
 clear hK K
 refine AW.seq ?_
 refine AW.seqJ h (S := Bool) (V := Unit) (fun a v => ⟨[(1, HV.fptr [HV.int .i64 p0.1, HV.int .i64 p0.2.1, slE eFromLabelTo p0.2.2] 0), (12, HV.bool a)], []⟩) (fun a1 w2 h => ?_) (fun k3 h => ?_)
 ·refine AW.cond rfl (fun hc => ?_) (fun hc => ?_)
  ·have h := ifT hc h
   refine AW.rgs rfl fun K hK => ?_
   refine mv rfl rfl ?_
   refine b_fin hK (s' := ⟨[(2, HV.int .i64 12)], []⟩) (le_q rfl rfl) ?_
   clear hK K
   refine AW.ret ?_
   have h := Option.some.inj h
   subst h
   exact ret_pure (hs := [HV.int .i64 12]) (q := HV.int .i64 12) (.inr rfl) (resT rfl rfl) rfl trivial
  ·have h := ifF (bF' hc) h
   refine AW.skip ?_
   refine AW.seq ?_
   refine AW.rgs rfl fun K hK => ?_
   refine bv rfl (v_fieldAddrF fo24_1 rfl) ?_
   refine bv rfl (v_loadF ty3 rfl (l_lit rfl rfl)) ?_
   refine bv rfl (v_bin rfl rfl b_lss) ?_
   refine b_fin hK (s' := ⟨[(1, HV.fptr [HV.int .i64 p0.1, HV.int .i64 p0.2.1, slE eFromLabelTo p0.2.2] 0), (15, HV.bool (decide (p0.2.1 < 0)))], []⟩) (le_q rfl rfl) ?_
   clear hK K
   refine AW.cond rfl (fun hc => ?_) (fun hc => ?_)
   ·have hc := of_decide_eq_true hc
    have h := ifT hc h
    refine AW.rgs rfl fun K hK => ?_
    refine mv rfl rfl ?_
    refine b_fin hK (s' := ⟨[(2, HV.int .i64 2)], []⟩) (le_q rfl rfl) ?_
    clear hK K
    refine AW.ret ?_
    have h := Option.some.inj h
    subst h
    exact ret_pure (hs := [HV.int .i64 2]) (q := HV.int .i64 2) (.inr rfl) (resT rfl rfl) rfl trivial
   ·have hc := of_decide_eq_false hc
    have h := ifF hc h
    refine AW.skip ?_
    refine AW.seq ?_
    refine AW.seqJ h (S := Bool) (V := Unit) (fun a v => ⟨[(1, HV.fptr [HV.int .i64 p0.1, HV.int .i64 p0.2.1, slE eFromLabelTo p0.2.2] 0), (24, HV.bool a)], []⟩) (fun a4 w5 h => ?_) (fun k6 h => ?_)
    ·refine AW.cond rfl (fun hc => ?_) (fun hc => ?_)
     ·have h := ifT hc h
      refine AW.rgs rfl fun K hK => ?_
      refine mv rfl rfl ?_
      refine b_fin hK (s' := ⟨[(2, HV.int .i64 4)], []⟩) (le_q rfl rfl) ?_
      clear hK K
      refine AW.ret ?_
      have h := Option.some.inj h
      subst h
      exact ret_pure (hs := [HV.int .i64 4]) (q := HV.int .i64 4) (.inr rfl) (resT rfl rfl) rfl trivial
     ·have h := ifF (bF' hc) h
      refine AW.skip ?_
      refine AW.seq ?_
      refine AW.rgs rfl fun K hK => ?_
      refine mv rfl rfl ?_
      refine b_fin hK (s' := ⟨[(1, HV.fptr [HV.int .i64 p0.1, HV.int .i64 p0.2.1, slE eFromLabelTo p0.2.2] 0), (3, HV.int .i64 0)], []⟩) (le_q rfl rfl) ?_
      clear hK K
      refine AW.lpR h (by first | exact up_then | exact up_to) (S := Int) (V := Unit) (fun a v => ⟨[(1, HV.fptr [HV.int .i64 p0.1, HV.int .i64 p0.2.1, slE eFromLabelTo p0.2.2] 0), (3, HV.int .i64 a)], []⟩) ?_ (X := Unit) (W := Unit) (fun a v => ⟨[], []⟩) (fun a30 w31 h => ?_) (fun a7 w8 st9 h hr10=> ?_)
      ·exact to_le (s' := ⟨[(1, HV.fptr [HV.int .i64 p0.1, HV.int .i64 p0.2.1, slE eFromLabelTo p0.2.2] 0), (3, HV.int .i64 0)], []⟩) (AS.le_of ⟨rfl, rfl, trivial⟩ trivial) ⟨(), rfl⟩
      ·refine AW.rgs rfl fun K hK => ?_
       refine mv rfl rfl ?_
       refine b_fin hK (s' := ⟨[(2, HV.int .i64 0)], []⟩) (le_q rfl rfl) ?_
       clear hK K
       refine AW.ret ?_
       have h := Option.some.inj h
       subst h
       exact ret_pure (hs := [HV.int .i64 0]) (q := HV.int .i64 0) (.inr rfl) (resT rfl rfl) rfl trivial
      ·refine AW.seq ?_
       refine AW.rgs rfl fun K hK => ?_
       refine mv rfl rfl ?_
       refine bv rfl (v_fieldAddrF fo24_2 rfl) ?_
       refine bv rfl (v_loadF ty22 rfl (l_lit rfl rfl)) ?_
       refine bv rfl (v_lenF rfl rfl ty22 rfl) ?_
       refine bv rfl (v_bin rfl rfl b_lss) ?_
       refine b_fin hK (s' := ⟨[(1, HV.fptr [HV.int .i64 p0.1, HV.int .i64 p0.2.1, slE eFromLabelTo p0.2.2] 0), (3, HV.int .i64 a7), (29, HV.bool (decide (a7 < ((p0.2.2).length : Int))))], []⟩) (le_q rfl rfl) ?_
       clear hK K
       refine AW.cond rfl (fun hc => ?_) (fun hc => ?_)
       ·have hc := of_decide_eq_true hc
        have h := ifT hc h
        refine AW.skip ?_
        refine AW.seq (AW.block ?_)
        refine AW.rgs rfl fun K hK => ?_
        refine bv rfl (v_fieldAddrF fo24_2 rfl) ?_
        refine bv rfl (v_loadF ty22 rfl (l_lit rfl rfl)) ?_
        refine mv rfl rfl ?_
        obtain ⟨x11, h12, h⟩ := bS h
        refine bv rfl (v_idxF ty22 es22 rfl rfl (idx_lt h12)) ?_
        refine bv rfl (v_loadF ty49 rfl (l_agg eFromLabelTo h12 rfl rfl)) ?_
        refine b_op rfl (o_alloc (fid := 23) (zs := [HV.int .i64 0, HV.int .i64 0, HV.int .i64 0]) 23004 rfl rfl ty49 rfl (fun v13 => ?_))
        refine b_op rfl (o_store (cs := [HV.int .i64 x11.1, HV.int .i64 x11.2.1, HV.int .i64 x11.2.2]) (zs := [HV.int .i64 x11.1, HV.int .i64 x11.2.1, HV.int .i64 x11.2.2]) rfl rfl rfl ty49 rfl rfl rfl rfl rfl ?_)
        refine b_fin hK (s' := ⟨[(1, HV.fptr [HV.int .i64 p0.1, HV.int .i64 p0.2.1, slE eFromLabelTo p0.2.2] 0), (3, HV.int .i64 a7), (4, HV.ptr 23004 v13 0)], [(23004, v13, .arr 3 49 [HV.int .i64 x11.1, HV.int .i64 x11.2.1, HV.int .i64 x11.2.2])]⟩) (le_q rfl rfl) ?_
        clear hK K
        refine AW.seq ?_
        refine AW.seqJ h (S := Bool) (V := Unit) (fun a v => ⟨[(1, HV.fptr [HV.int .i64 p0.1, HV.int .i64 p0.2.1, slE eFromLabelTo p0.2.2] 0), (3, HV.int .i64 a7), (4, HV.ptr 23004 v13 0), (70, HV.bool a)], [(23004, v13, .arr 3 49 [HV.int .i64 x11.1, HV.int .i64 x11.2.1, HV.int .i64 x11.2.2])]⟩) (fun a14 w15 h => ?_) (fun k16 h => ?_)
        ·refine AW.cond rfl (fun hc => ?_) (fun hc => ?_)
         ·have h := ifT hc h
          refine AW.rgs rfl fun K hK => ?_
          refine mv rfl rfl ?_
          refine b_fin hK (s' := ⟨[(2, HV.int .i64 2)], []⟩) (le_q rfl rfl) ?_
          clear hK K
          have h := hr10 _ h
          refine AW.ret ?_
          have h := Option.some.inj h
          subst h
          exact ret_pure (hs := [HV.int .i64 2]) (q := HV.int .i64 2) (.inr rfl) (resT rfl rfl) rfl trivial
         ·have h := ifF (bF' hc) h
          refine AW.skip ?_
          refine AW.seqJ h (S := Bool) (V := Unit) (fun a v => ⟨[(1, HV.fptr [HV.int .i64 p0.1, HV.int .i64 p0.2.1, slE eFromLabelTo p0.2.2] 0), (3, HV.int .i64 a7), (83, HV.bool a)], []⟩) (fun a17 w18 h => ?_) (fun k19 h => ?_)
          ·refine AW.cond rfl (fun hc => ?_) (fun hc => ?_)
           ·have h := ifT hc h
            refine AW.rgs rfl fun K hK => ?_
            refine mv rfl rfl ?_
            refine b_fin hK (s' := ⟨[(2, HV.int .i64 10)], []⟩) (le_q rfl rfl) ?_
            clear hK K
            have h := hr10 _ h
            refine AW.ret ?_
            have h := Option.some.inj h
            subst h
            exact ret_pure (hs := [HV.int .i64 10]) (q := HV.int .i64 10) (.inr rfl) (resT rfl rfl) rfl trivial
           ·have h := ifF (bF' hc) h
            refine AW.skip ?_
            refine AW.rg rfl fun K hK => ?_
            refine mv rfl rfl ?_
            refine bv rfl (v_bin rfl rfl b_add) ?_
            refine mv rfl rfl ?_
            refine b_nil (hK _ ?_)
            clear hK K
            exact to_le (s' := ⟨[(1, HV.fptr [HV.int .i64 p0.1, HV.int .i64 p0.2.1, slE eFromLabelTo p0.2.2] 0), (3, HV.int .i64 (IntKind.wrap .i64 (a7 + 1)))], []⟩) (AS.le_of ⟨rfl, rfl, trivial⟩ trivial) ⟨IntKind.wrap .i64 (a7 + 1), (), h, rfl⟩
          ·refine AW.dg 13 follows rfl rfl fun K hK => ?_
           refine sm rfl rfl ?_
           refine sv rfl (v_bin rfl rfl b_gtr) ?_
           refine sm rfl rfl ?_
           by_cases hg24 : 0 < a7
           ·have h := ifT hg24 h
            refine s_T rfl rfl rfl rfl rfl (decide_eq_true hg24) (ops_val rfl (v_fieldAddrF fo24_2 rfl) ?_)
            refine s_T rfl rfl rfl rfl rfl rfl (ops_val rfl (v_loadF ty22 rfl (l_lit rfl rfl)) ?_)
            refine s_T rfl rfl rfl rfl rfl rfl (ops_val rfl (mv_val rfl rfl).2 ?_)
            refine s_T rfl rfl rfl rfl rfl rfl (ops_val rfl (v_bin rfl rfl b_sub) ?_)
            obtain ⟨x20, h21, h⟩ := bS h
            refine s_T rfl rfl rfl rfl rfl rfl (ops_val rfl (v_idxF ty22 es22 rfl rfl (idx_lt h21)) ?_)
            refine s_T rfl rfl rfl rfl rfl rfl (ops_val rfl (v_loadF ty49 rfl (l_agg eFromLabelTo h21 rfl rfl)) ?_)
            refine s_T rfl rfl rfl rfl rfl rfl (ops_val rfl (v_loadP ty49 rfl rfl (l_litA rfl (Nat.le_of_ble_eq_true rfl) rfl)) ?_)
            obtain ⟨x22, h23, h⟩ := bS h
            refine s_T rfl rfl rfl rfl rfl rfl (ops_call rfl rfl rfl rfl (ACallD.pure0 (w_ref09_Compare h23)) ?_)
            refine s_T rfl rfl rfl rfl rfl rfl (ops_val rfl (v_bin rfl rfl b_geq) ?_)
            refine sv rfl (v_pickT rfl rfl rfl) ?_
            refine s_nil ?_
            refine b_nil (hK _ ?_)
            clear hK K
            exact to_le (s' := ⟨[(1, HV.fptr [HV.int .i64 p0.1, HV.int .i64 p0.2.1, slE eFromLabelTo p0.2.2] 0), (3, HV.int .i64 a7), (83, HV.bool (decide (0 ≤ x22)))], []⟩) (AS.le_of ⟨rfl, rfl, rfl, trivial⟩ trivial) ⟨decide (0 ≤ x22), (), h, rfl⟩
           ·have h := ifF hg24 h
            refine s_F rfl rfl rfl rfl rfl (decide_eq_false hg24) ?_
            refine s_F rfl rfl rfl rfl rfl rfl ?_
            refine s_F rfl rfl rfl rfl rfl rfl ?_
            refine s_F rfl rfl rfl rfl rfl rfl ?_
            refine s_F rfl rfl rfl rfl rfl rfl ?_
            refine s_F rfl rfl rfl rfl rfl rfl ?_
            refine s_F rfl rfl rfl rfl rfl rfl ?_
            refine s_F rfl rfl rfl rfl rfl rfl ?_
            refine s_F rfl rfl rfl rfl rfl rfl ?_
            refine sv rfl (v_pickF rfl rfl rfl) ?_
            refine s_nil ?_
            refine b_nil (hK _ ?_)
            clear hK K
            exact to_le (s' := ⟨[(1, HV.fptr [HV.int .i64 p0.1, HV.int .i64 p0.2.1, slE eFromLabelTo p0.2.2] 0), (3, HV.int .i64 a7), (83, HV.bool false)], []⟩) (AS.le_of ⟨rfl, rfl, rfl, trivial⟩ trivial) ⟨false, (), h, rfl⟩
        ·refine AW.rg rfl fun K hK => ?_
         refine bv rfl (v_fieldAddrP fo49_0 rfl rfl) ?_
         refine bv rfl (v_loadP ty3 rfl rfl (l_lit rfl rfl)) ?_
         refine bv rfl (v_bin rfl rfl b_lss) ?_
         refine mv rfl rfl ?_
         by_cases hg29 : x11.1 < 0
         ·have h := ifT hg29 h
          refine b_F rfl rfl rfl rfl rfl (decide_eq_true hg29) ?_
          refine b_F rfl rfl rfl rfl rfl rfl ?_
          refine b_F rfl rfl rfl rfl rfl rfl ?_
          refine b_F rfl rfl rfl rfl rfl rfl ?_
          refine b_F rfl rfl rfl rfl rfl rfl ?_
          refine bv rfl (v_pickT rfl rfl rfl) ?_
          refine mv rfl rfl ?_
          refine b_F rfl rfl rfl rfl rfl rfl ?_
          refine b_F rfl rfl rfl rfl rfl rfl ?_
          refine b_F rfl rfl rfl rfl rfl rfl ?_
          refine bv rfl (v_pickT rfl rfl rfl) ?_
          refine mv rfl rfl ?_
          refine b_F rfl rfl rfl rfl rfl rfl ?_
          refine b_F rfl rfl rfl rfl rfl rfl ?_
          refine b_F rfl rfl rfl rfl rfl rfl ?_
          refine b_F rfl rfl rfl rfl rfl rfl ?_
          refine b_F rfl rfl rfl rfl rfl rfl ?_
          refine bv rfl (v_pickT rfl rfl rfl) ?_
          refine mv rfl rfl ?_
          refine b_F rfl rfl rfl rfl rfl rfl ?_
          refine b_F rfl rfl rfl rfl rfl rfl ?_
          refine b_F rfl rfl rfl rfl rfl rfl ?_
          refine bv rfl (v_pickT rfl rfl rfl) ?_
          refine mv rfl rfl ?_
          refine b_F rfl rfl rfl rfl rfl rfl ?_
          refine b_F rfl rfl rfl rfl rfl rfl ?_
          refine b_F rfl rfl rfl rfl rfl rfl ?_
          refine b_F rfl rfl rfl rfl rfl rfl ?_
          refine b_F rfl rfl rfl rfl rfl rfl ?_
          refine bv rfl (v_pickT rfl rfl rfl) ?_
          refine b_nil (hK _ ?_)
          clear hK K
          exact to_le (s' := ⟨[(1, HV.fptr [HV.int .i64 p0.1, HV.int .i64 p0.2.1, slE eFromLabelTo p0.2.2] 0), (3, HV.int .i64 a7), (4, HV.ptr 23004 v13 0), (70, HV.bool true)], [(23004, v13, .arr 3 49 [HV.int .i64 x11.1, HV.int .i64 x11.2.1, HV.int .i64 x11.2.2])]⟩) (AS.le_of ⟨rfl, rfl, rfl, rfl, trivial⟩ ⟨rfl, trivial⟩) ⟨true, (), h, rfl⟩
         ·have h := ifF hg29 h
          refine b_T rfl rfl rfl rfl (decide_eq_false hg29) (o_val rfl (v_fieldAddrP fo49_0 rfl rfl) ?_)
          refine b_T rfl rfl rfl rfl rfl (o_val rfl (v_loadP ty3 rfl rfl (l_lit rfl rfl)) ?_)
          refine b_T rfl rfl rfl rfl rfl (o_val rfl (v_fieldAddrF fo24_1 rfl) ?_)
          refine b_T rfl rfl rfl rfl rfl (o_val rfl (v_loadF ty3 rfl (l_lit rfl rfl)) ?_)
          refine b_T rfl rfl rfl rfl rfl (o_val rfl (v_bin rfl rfl b_geq) ?_)
          refine bv rfl (v_pickF rfl rfl rfl) ?_
          refine mv rfl rfl ?_
          by_cases hg28 : p0.2.1 ≤ x11.1
          ·have h := ifT hg28 h
           refine b_F rfl rfl rfl rfl rfl (decide_eq_true hg28) ?_
           refine b_F rfl rfl rfl rfl rfl rfl ?_
           refine b_F rfl rfl rfl rfl rfl rfl ?_
           refine bv rfl (v_pickT rfl rfl rfl) ?_
           refine mv rfl rfl ?_
           refine b_F rfl rfl rfl rfl rfl rfl ?_
           refine b_F rfl rfl rfl rfl rfl rfl ?_
           refine b_F rfl rfl rfl rfl rfl rfl ?_
           refine b_F rfl rfl rfl rfl rfl rfl ?_
           refine b_F rfl rfl rfl rfl rfl rfl ?_
           refine bv rfl (v_pickT rfl rfl rfl) ?_
           refine mv rfl rfl ?_
           refine b_F rfl rfl rfl rfl rfl rfl ?_
           refine b_F rfl rfl rfl rfl rfl rfl ?_
           refine b_F rfl rfl rfl rfl rfl rfl ?_
           refine bv rfl (v_pickT rfl rfl rfl) ?_
           refine mv rfl rfl ?_
           refine b_F rfl rfl rfl rfl rfl rfl ?_
           refine b_F rfl rfl rfl rfl rfl rfl ?_
           refine b_F rfl rfl rfl rfl rfl rfl ?_
           refine b_F rfl rfl rfl rfl rfl rfl ?_
           refine b_F rfl rfl rfl rfl rfl rfl ?_
           refine bv rfl (v_pickT rfl rfl rfl) ?_
           refine b_nil (hK _ ?_)
           clear hK K
           exact to_le (s' := ⟨[(1, HV.fptr [HV.int .i64 p0.1, HV.int .i64 p0.2.1, slE eFromLabelTo p0.2.2] 0), (3, HV.int .i64 a7), (4, HV.ptr 23004 v13 0), (70, HV.bool true)], [(23004, v13, .arr 3 49 [HV.int .i64 x11.1, HV.int .i64 x11.2.1, HV.int .i64 x11.2.2])]⟩) (AS.le_of ⟨rfl, rfl, rfl, rfl, trivial⟩ ⟨rfl, trivial⟩) ⟨true, (), h, rfl⟩
          ·have h := ifF hg28 h
           refine b_T rfl rfl rfl rfl (decide_eq_false hg28) (o_val rfl (v_fieldAddrP fo49_2 rfl rfl) ?_)
           refine b_T rfl rfl rfl rfl rfl (o_val rfl (v_loadP ty3 rfl rfl (l_lit rfl rfl)) ?_)
           refine b_T rfl rfl rfl rfl rfl (o_val rfl (v_bin rfl rfl b_lss) ?_)
           refine bv rfl (v_pickF rfl rfl rfl) ?_
           refine mv rfl rfl ?_
           by_cases hg27 : x11.2.2 < 0
           ·have h := ifT hg27 h
            refine b_F rfl rfl rfl rfl rfl (decide_eq_true hg27) ?_
            refine b_F rfl rfl rfl rfl rfl rfl ?_
            refine b_F rfl rfl rfl rfl rfl rfl ?_
            refine b_F rfl rfl rfl rfl rfl rfl ?_
            refine b_F rfl rfl rfl rfl rfl rfl ?_
            refine bv rfl (v_pickT rfl rfl rfl) ?_
            refine mv rfl rfl ?_
            refine b_F rfl rfl rfl rfl rfl rfl ?_
            refine b_F rfl rfl rfl rfl rfl rfl ?_
            refine b_F rfl rfl rfl rfl rfl rfl ?_
            refine bv rfl (v_pickT rfl rfl rfl) ?_
            refine mv rfl rfl ?_
            refine b_F rfl rfl rfl rfl rfl rfl ?_
            refine b_F rfl rfl rfl rfl rfl rfl ?_
            refine b_F rfl rfl rfl rfl rfl rfl ?_
            refine b_F rfl rfl rfl rfl rfl rfl ?_
            refine b_F rfl rfl rfl rfl rfl rfl ?_
            refine bv rfl (v_pickT rfl rfl rfl) ?_
            refine b_nil (hK _ ?_)
            clear hK K
            exact to_le (s' := ⟨[(1, HV.fptr [HV.int .i64 p0.1, HV.int .i64 p0.2.1, slE eFromLabelTo p0.2.2] 0), (3, HV.int .i64 a7), (4, HV.ptr 23004 v13 0), (70, HV.bool true)], [(23004, v13, .arr 3 49 [HV.int .i64 x11.1, HV.int .i64 x11.2.1, HV.int .i64 x11.2.2])]⟩) (AS.le_of ⟨rfl, rfl, rfl, rfl, trivial⟩ ⟨rfl, trivial⟩) ⟨true, (), h, rfl⟩
           ·have h := ifF hg27 h
            refine b_T rfl rfl rfl rfl (decide_eq_false hg27) (o_val rfl (v_fieldAddrP fo49_2 rfl rfl) ?_)
            refine b_T rfl rfl rfl rfl rfl (o_val rfl (v_loadP ty3 rfl rfl (l_lit rfl rfl)) ?_)
            refine b_T rfl rfl rfl rfl rfl (o_val rfl (v_fieldAddrF fo24_1 rfl) ?_)
            refine b_T rfl rfl rfl rfl rfl (o_val rfl (v_loadF ty3 rfl (l_lit rfl rfl)) ?_)
            refine b_T rfl rfl rfl rfl rfl (o_val rfl (v_bin rfl rfl b_geq) ?_)
            refine bv rfl (v_pickF rfl rfl rfl) ?_
            refine mv rfl rfl ?_
            by_cases hg26 : p0.2.1 ≤ x11.2.2
            ·have h := ifT hg26 h
             refine b_F rfl rfl rfl rfl rfl (decide_eq_true hg26) ?_
             refine b_F rfl rfl rfl rfl rfl rfl ?_
             refine b_F rfl rfl rfl rfl rfl rfl ?_
             refine bv rfl (v_pickT rfl rfl rfl) ?_
             refine mv rfl rfl ?_
             refine b_F rfl rfl rfl rfl rfl rfl ?_
             refine b_F rfl rfl rfl rfl rfl rfl ?_
             refine b_F rfl rfl rfl rfl rfl rfl ?_
             refine b_F rfl rfl rfl rfl rfl rfl ?_
             refine b_F rfl rfl rfl rfl rfl rfl ?_
             refine bv rfl (v_pickT rfl rfl rfl) ?_
             refine b_nil (hK _ ?_)
             clear hK K
             exact to_le (s' := ⟨[(1, HV.fptr [HV.int .i64 p0.1, HV.int .i64 p0.2.1, slE eFromLabelTo p0.2.2] 0), (3, HV.int .i64 a7), (4, HV.ptr 23004 v13 0), (70, HV.bool true)], [(23004, v13, .arr 3 49 [HV.int .i64 x11.1, HV.int .i64 x11.2.1, HV.int .i64 x11.2.2])]⟩) (AS.le_of ⟨rfl, rfl, rfl, rfl, trivial⟩ ⟨rfl, trivial⟩) ⟨true, (), h, rfl⟩
            ·have h := ifF hg26 h
             refine b_T rfl rfl rfl rfl (decide_eq_false hg26) (o_val rfl (v_fieldAddrP fo49_1 rfl rfl) ?_)
             refine b_T rfl rfl rfl rfl rfl (o_val rfl (v_loadP ty3 rfl rfl (l_lit rfl rfl)) ?_)
             refine b_T rfl rfl rfl rfl rfl (o_val rfl (v_bin rfl rfl b_lss) ?_)
             refine bv rfl (v_pickF rfl rfl rfl) ?_
             refine mv rfl rfl ?_
             by_cases hg25 : x11.2.1 < 0
             ·have h := ifT hg25 h
              refine b_F rfl rfl rfl rfl rfl (decide_eq_true hg25) ?_
              refine b_F rfl rfl rfl rfl rfl rfl ?_
              refine b_F rfl rfl rfl rfl rfl rfl ?_
              refine b_F rfl rfl rfl rfl rfl rfl ?_
              refine b_F rfl rfl rfl rfl rfl rfl ?_
              refine bv rfl (v_pickT rfl rfl rfl) ?_
              refine b_nil (hK _ ?_)
              clear hK K
              exact to_le (s' := ⟨[(1, HV.fptr [HV.int .i64 p0.1, HV.int .i64 p0.2.1, slE eFromLabelTo p0.2.2] 0), (3, HV.int .i64 a7), (4, HV.ptr 23004 v13 0), (70, HV.bool true)], [(23004, v13, .arr 3 49 [HV.int .i64 x11.1, HV.int .i64 x11.2.1, HV.int .i64 x11.2.2])]⟩) (AS.le_of ⟨rfl, rfl, rfl, rfl, trivial⟩ ⟨rfl, trivial⟩) ⟨true, (), h, rfl⟩
             ·have h := ifF hg25 h
              refine b_T rfl rfl rfl rfl (decide_eq_false hg25) (o_val rfl (v_fieldAddrP fo49_1 rfl rfl) ?_)
              refine b_T rfl rfl rfl rfl rfl (o_val rfl (v_loadP ty3 rfl rfl (l_lit rfl rfl)) ?_)
              refine b_T rfl rfl rfl rfl rfl (o_val rfl (v_fieldAddrF fo24_0 rfl) ?_)
              refine b_T rfl rfl rfl rfl rfl (o_val rfl (v_loadF ty3 rfl (l_lit rfl rfl)) ?_)
              refine b_T rfl rfl rfl rfl rfl (o_val rfl (v_bin rfl rfl b_geq) ?_)
              refine bv rfl (v_pickF rfl rfl rfl) ?_
              refine b_nil (hK _ ?_)
              clear hK K
              exact to_le (s' := ⟨[(1, HV.fptr [HV.int .i64 p0.1, HV.int .i64 p0.2.1, slE eFromLabelTo p0.2.2] 0), (3, HV.int .i64 a7), (4, HV.ptr 23004 v13 0), (70, HV.bool (decide (p0.1 ≤ x11.2.1)))], [(23004, v13, .arr 3 49 [HV.int .i64 x11.1, HV.int .i64 x11.2.1, HV.int .i64 x11.2.2])]⟩) (AS.le_of ⟨rfl, rfl, rfl, rfl, trivial⟩ ⟨rfl, trivial⟩) ⟨decide (p0.1 ≤ x11.2.1), (), h, rfl⟩
       ·have hc := of_decide_eq_false hc
        have h := ifF hc h
        refine AW.exit ?_
        exact to_le (s' := ⟨[], []⟩) (AS.le_of trivial trivial) ⟨(), (), h, rfl⟩
    ·refine AW.rg rfl fun K hK => ?_
     refine bv rfl (v_fieldAddrF fo24_1 rfl) ?_
     refine bv rfl (v_loadF ty3 rfl (l_lit rfl rfl)) ?_
     refine bv rfl (v_bin rfl rfl b_gtr) ?_
     refine mv rfl rfl ?_
     by_cases hg32 : 64 < p0.2.1
     ·have h := ifT hg32 h
      refine b_F rfl rfl rfl rfl rfl (decide_eq_true hg32) ?_
      refine b_F rfl rfl rfl rfl rfl rfl ?_
      refine b_F rfl rfl rfl rfl rfl rfl ?_
      refine b_F rfl rfl rfl rfl rfl rfl ?_
      refine bv rfl (v_pickT rfl rfl rfl) ?_
      refine b_nil (hK _ ?_)
      clear hK K
      exact to_le (s' := ⟨[(1, HV.fptr [HV.int .i64 p0.1, HV.int .i64 p0.2.1, slE eFromLabelTo p0.2.2] 0), (24, HV.bool true)], []⟩) (AS.le_of ⟨rfl, rfl, trivial⟩ trivial) ⟨true, (), h, rfl⟩
     ·have h := ifF hg32 h
      refine b_T rfl rfl rfl rfl (decide_eq_false hg32) (o_val rfl (v_fieldAddrF fo24_2 rfl) ?_)
      refine b_T rfl rfl rfl rfl rfl (o_val rfl (v_loadF ty22 rfl (l_lit rfl rfl)) ?_)
      refine b_T rfl rfl rfl rfl rfl (o_val rfl (v_lenF rfl rfl ty22 rfl) ?_)
      refine b_T rfl rfl rfl rfl rfl (o_val rfl (v_bin rfl rfl b_gtr) ?_)
      refine bv rfl (v_pickF rfl rfl rfl) ?_
      refine b_nil (hK _ ?_)
      clear hK K
      exact to_le (s' := ⟨[(1, HV.fptr [HV.int .i64 p0.1, HV.int .i64 p0.2.1, slE eFromLabelTo p0.2.2] 0), (24, HV.bool (decide (1024 < ((p0.2.2).length : Int))))], []⟩) (AS.le_of ⟨rfl, rfl, trivial⟩ trivial) ⟨decide (1024 < ((p0.2.2).length : Int)), (), h, rfl⟩
 ·refine AW.rg rfl fun K hK => ?_
  refine bv rfl (v_fieldAddrF fo24_0 rfl) ?_
  refine bv rfl (v_loadF ty3 rfl (l_lit rfl rfl)) ?_
  refine bv rfl (v_bin rfl rfl b_lss) ?_
  refine mv rfl rfl ?_
  by_cases hg33 : p0.1 < 1
  ·have h := ifT hg33 h
   refine b_F rfl rfl rfl rfl rfl (decide_eq_true hg33) ?_
   refine b_F rfl rfl rfl rfl rfl rfl ?_
   refine b_F rfl rfl rfl rfl rfl rfl ?_
   refine bv rfl (v_pickT rfl rfl rfl) ?_
   refine b_nil (hK _ ?_)
   clear hK K
   exact to_le (s' := ⟨[(1, HV.fptr [HV.int .i64 p0.1, HV.int .i64 p0.2.1, slE eFromLabelTo p0.2.2] 0), (12, HV.bool true)], []⟩) (AS.le_of ⟨rfl, rfl, trivial⟩ trivial) ⟨true, (), h, rfl⟩
  ·have h := ifF hg33 h
   refine b_T rfl rfl rfl rfl (decide_eq_false hg33) (o_val rfl (v_fieldAddrF fo24_0 rfl) ?_)
   refine b_T rfl rfl rfl rfl rfl (o_val rfl (v_loadF ty3 rfl (l_lit rfl rfl)) ?_)
   refine b_T rfl rfl rfl rfl rfl (o_val rfl (v_bin rfl rfl b_gtr) ?_)
   refine bv rfl (v_pickF rfl rfl rfl) ?_
   refine b_nil (hK _ ?_)
   clear hK K
   exact to_le (s' := ⟨[(1, HV.fptr [HV.int .i64 p0.1, HV.int .i64 p0.2.1, slE eFromLabelTo p0.2.2] 0), (12, HV.bool (decide (256 < p0.1)))], []⟩) (AS.le_of ⟨rfl, rfl, trivial⟩ trivial) ⟨decide (256 < p0.1), (), h, rfl⟩

set_option maxHeartbeats 1600000 in
set_option maxRecDepth 100000 in
theorem w_ref09_CheckSet {p0 : TLabelsStatesEdges} {p1 : List (Int)} {r : Int} (h : m_ref09_CheckSet p0 p1 = some r) : Pure Tryd.prog 82 [HV.agg [HV.int .i64 p0.1, HV.int .i64 p0.2.1, slE eFromLabelTo p0.2.2], slE eInt p1] (· = HV.int .i64 r) := by
 unfold m_ref09_CheckSet at h
 refine Pure.of_body Tryd.func82 rfl rfl (Nat.le_of_ble_eq_true rfl) fun hf => ?_
 unfold Tryd.f82
 dsimp only [enumS, Nat.reduceAdd]
 refine AW.rgs rfl fun K hK => ?_
 refine b_op rfl (o_box rfl rfl rfl ?_)
 refine mv rfl rfl ?_
 refine b_fin hK (s' := ⟨[(1, slE eInt p1), (2, HV.fptr [HV.int .i64 p0.1, HV.int .i64 p0.2.1, slE eFromLabelTo p0.2.2] 0)], []⟩) (le_q rfl rfl) ?_
 clear hK K
 refine AW.seq ?_
 refine AW.rgs rfl fun K hK => ?_
 refine mv rfl rfl ?_
 refine b_fin hK (s' := ⟨[(1, slE eInt p1), (2, HV.fptr [HV.int .i64 p0.1, HV.int .i64 p0.2.1, slE eFromLabelTo p0.2.2] 0), (5, HV.int .i64 0)], []⟩) (le_q rfl rfl) ?_
 clear hK K
 refine AW.lpR h (by first | exact up_then | exact up_to) (S := Int) (V := Unit) (fun a v => ⟨[(1, slE eInt p1), (2, HV.fptr [HV.int .i64 p0.1, HV.int .i64 p0.2.1, slE eFromLabelTo p0.2.2] 0), (5, HV.int .i64 a)], []⟩) ?_ (X := Unit) (W := Unit) (fun a v => ⟨[], []⟩) (fun a21 w22 h => ?_) (fun a1 w2 st3 h hr4=> ?_)
 ·exact to_le (s' := ⟨[(1, slE eInt p1), (2, HV.fptr [HV.int .i64 p0.1, HV.int .i64 p0.2.1, slE eFromLabelTo p0.2.2] 0), (5, HV.int .i64 0)], []⟩) (AS.le_of ⟨rfl, rfl, rfl, trivial⟩ trivial) ⟨(), rfl⟩
 ·refine AW.rgs rfl fun K hK => ?_
  refine mv rfl rfl ?_
  refine b_fin hK (s' := ⟨[(4, HV.int .i64 0)], []⟩) (le_q rfl rfl) ?_
  clear hK K
  refine AW.ret ?_
  have h := Option.some.inj h
  subst h
  exact ret_pure (hs := [HV.int .i64 0]) (q := HV.int .i64 0) (.inr rfl) (resT rfl rfl) rfl trivial
 ·refine AW.seq ?_
  refine AW.rgs rfl fun K hK => ?_
  refine mv rfl rfl ?_
  refine mv rfl rfl ?_
  refine bv rfl (v_lenF rfl rfl ty30 rfl) ?_
  refine bv rfl (v_bin rfl rfl b_lss) ?_
  refine b_fin hK (s' := ⟨[(1, slE eInt p1), (2, HV.fptr [HV.int .i64 p0.1, HV.int .i64 p0.2.1, slE eFromLabelTo p0.2.2] 0), (5, HV.int .i64 a1), (9, HV.bool (decide (a1 < ((p1).length : Int))))], []⟩) (le_q rfl rfl) ?_
  clear hK K
  refine AW.cond rfl (fun hc => ?_) (fun hc => ?_)
  ·have hc := of_decide_eq_true hc
   have h := ifT hc h
   refine AW.skip ?_
   refine AW.seq (AW.block ?_)
   refine AW.seq ?_
   refine AW.seqJ h (S := Bool) (V := Unit) (fun a v => ⟨[(1, slE eInt p1), (2, HV.fptr [HV.int .i64 p0.1, HV.int .i64 p0.2.1, slE eFromLabelTo p0.2.2] 0), (5, HV.int .i64 a1), (25, HV.bool a)], []⟩) (fun a5 w6 h => ?_) (fun k7 h => ?_)
   ·refine AW.cond rfl (fun hc => ?_) (fun hc => ?_)
    ·have h := ifT hc h
     refine AW.rgs rfl fun K hK => ?_
     refine mv rfl rfl ?_
     refine b_fin hK (s' := ⟨[(4, HV.int .i64 25)], []⟩) (le_q rfl rfl) ?_
     clear hK K
     have h := hr4 _ h
     refine AW.ret ?_
     have h := Option.some.inj h
     subst h
     exact ret_pure (hs := [HV.int .i64 25]) (q := HV.int .i64 25) (.inr rfl) (resT rfl rfl) rfl trivial
    ·have h := ifF (bF' hc) h
     refine AW.skip ?_
     refine AW.seqJ h (S := Bool) (V := Unit) (fun a v => ⟨[(1, slE eInt p1), (2, HV.fptr [HV.int .i64 p0.1, HV.int .i64 p0.2.1, slE eFromLabelTo p0.2.2] 0), (5, HV.int .i64 a1), (39, HV.bool a)], []⟩) (fun a8 w9 h => ?_) (fun k10 h => ?_)
     ·refine AW.cond rfl (fun hc => ?_) (fun hc => ?_)
      ·have h := ifT hc h
       refine AW.rgs rfl fun K hK => ?_
       refine mv rfl rfl ?_
       refine b_fin hK (s' := ⟨[(4, HV.int .i64 10)], []⟩) (le_q rfl rfl) ?_
       clear hK K
       have h := hr4 _ h
       refine AW.ret ?_
       have h := Option.some.inj h
       subst h
       exact ret_pure (hs := [HV.int .i64 10]) (q := HV.int .i64 10) (.inr rfl) (resT rfl rfl) rfl trivial
      ·have h := ifF (bF' hc) h
       refine AW.skip ?_
       refine AW.rg rfl fun K hK => ?_
       refine mv rfl rfl ?_
       refine bv rfl (v_bin rfl rfl b_add) ?_
       refine mv rfl rfl ?_
       refine b_nil (hK _ ?_)
       clear hK K
       exact to_le (s' := ⟨[(1, slE eInt p1), (2, HV.fptr [HV.int .i64 p0.1, HV.int .i64 p0.2.1, slE eFromLabelTo p0.2.2] 0), (5, HV.int .i64 (IntKind.wrap .i64 (a1 + 1)))], []⟩) (AS.le_of ⟨rfl, rfl, rfl, trivial⟩ trivial) ⟨IntKind.wrap .i64 (a1 + 1), (), h, rfl⟩
     ·refine AW.dg 14 follows rfl rfl fun K hK => ?_
      refine sm rfl rfl ?_
      refine sv rfl (v_bin rfl rfl b_gtr) ?_
      refine sm rfl rfl ?_
      by_cases hg15 : 0 < a1
      ·have h := ifT hg15 h
       refine s_T rfl rfl rfl rfl rfl (decide_eq_true hg15) (ops_val rfl (mv_val rfl rfl).2 ?_)
       refine s_T rfl rfl rfl rfl rfl rfl (ops_val rfl (mv_val rfl rfl).2 ?_)
       obtain ⟨x11, h12, h⟩ := bS h
       refine s_T rfl rfl rfl rfl rfl rfl (ops_val rfl (v_idxF ty30 es30 rfl rfl (idx_lt h12)) ?_)
       refine s_T rfl rfl rfl rfl rfl rfl (ops_val rfl (v_loadF ty3 rfl (l_cell eInt h12 (o := 0) rfl rfl)) ?_)
       refine s_T rfl rfl rfl rfl rfl rfl (ops_val rfl (mv_val rfl rfl).2 ?_)
       refine s_T rfl rfl rfl rfl rfl rfl (ops_val rfl (mv_val rfl rfl).2 ?_)
       refine s_T rfl rfl rfl rfl rfl rfl (ops_val rfl (v_bin rfl rfl b_sub) ?_)
       obtain ⟨x13, h14, h⟩ := bS h
       refine s_T rfl rfl rfl rfl rfl rfl (ops_val rfl (v_idxF ty30 es30 rfl rfl (idx_lt h14)) ?_)
       refine s_T rfl rfl rfl rfl rfl rfl (ops_val rfl (v_loadF ty3 rfl (l_cell eInt h14 (o := 0) rfl rfl)) ?_)
       refine s_T rfl rfl rfl rfl rfl rfl (ops_val rfl (v_bin rfl rfl b_leq) ?_)
       refine sv rfl (v_pickT rfl rfl rfl) ?_
       refine s_nil ?_
       refine b_nil (hK _ ?_)
       clear hK K
       exact to_le (s' := ⟨[(1, slE eInt p1), (2, HV.fptr [HV.int .i64 p0.1, HV.int .i64 p0.2.1, slE eFromLabelTo p0.2.2] 0), (5, HV.int .i64 a1), (39, HV.bool (decide (x11 ≤ x13)))], []⟩) (AS.le_of ⟨rfl, rfl, rfl, rfl, trivial⟩ trivial) ⟨decide (x11 ≤ x13), (), h, rfl⟩
      ·have h := ifF hg15 h
       refine s_F rfl rfl rfl rfl rfl (decide_eq_false hg15) ?_
       refine s_F rfl rfl rfl rfl rfl rfl ?_
       refine s_F rfl rfl rfl rfl rfl rfl ?_
       refine s_F rfl rfl rfl rfl rfl rfl ?_
       refine s_F rfl rfl rfl rfl rfl rfl ?_
       refine s_F rfl rfl rfl rfl rfl rfl ?_
       refine s_F rfl rfl rfl rfl rfl rfl ?_
       refine s_F rfl rfl rfl rfl rfl rfl ?_
       refine s_F rfl rfl rfl rfl rfl rfl ?_
       refine s_F rfl rfl rfl rfl rfl rfl ?_
       refine sv rfl (v_pickF rfl rfl rfl) ?_
       refine s_nil ?_
       refine b_nil (hK _ ?_)
       clear hK K
       exact to_le (s' := ⟨[(1, slE eInt p1), (2, HV.fptr [HV.int .i64 p0.1, HV.int .i64 p0.2.1, slE eFromLabelTo p0.2.2] 0), (5, HV.int .i64 a1), (39, HV.bool false)], []⟩) (AS.le_of ⟨rfl, rfl, rfl, rfl, trivial⟩ trivial) ⟨false, (), h, rfl⟩
   ·refine AW.dg 14 follows rfl rfl fun K hK => ?_
    refine sm rfl rfl ?_
    refine sm rfl rfl ?_
    obtain ⟨x16, h17, h⟩ := bS h
    refine sv rfl (v_idxF ty30 es30 rfl rfl (idx_lt h17)) ?_
    refine sv rfl (v_loadF ty3 rfl (l_cell eInt h17 (o := 0) rfl rfl)) ?_
    refine sv rfl (v_bin rfl rfl b_lss) ?_
    refine sm rfl rfl ?_
    by_cases hg20 : x16 < 0
    ·have h := ifT hg20 h
     refine s_F rfl rfl rfl rfl rfl (decide_eq_true hg20) ?_
     refine s_F rfl rfl rfl rfl rfl rfl ?_
     refine s_F rfl rfl rfl rfl rfl rfl ?_
     refine s_F rfl rfl rfl rfl rfl rfl ?_
     refine s_F rfl rfl rfl rfl rfl rfl ?_
     refine s_F rfl rfl rfl rfl rfl rfl ?_
     refine s_F rfl rfl rfl rfl rfl rfl ?_
     refine sv rfl (v_pickT rfl rfl rfl) ?_
     refine s_nil ?_
     refine b_nil (hK _ ?_)
     clear hK K
     exact to_le (s' := ⟨[(1, slE eInt p1), (2, HV.fptr [HV.int .i64 p0.1, HV.int .i64 p0.2.1, slE eFromLabelTo p0.2.2] 0), (5, HV.int .i64 a1), (25, HV.bool true)], []⟩) (AS.le_of ⟨rfl, rfl, rfl, rfl, trivial⟩ trivial) ⟨true, (), h, rfl⟩
    ·have h := ifF hg20 h
     refine s_T rfl rfl rfl rfl rfl (decide_eq_false hg20) (ops_val rfl (mv_val rfl rfl).2 ?_)
     refine s_T rfl rfl rfl rfl rfl rfl (ops_val rfl (mv_val rfl rfl).2 ?_)
     obtain ⟨x18, h19, h⟩ := bS h
     refine s_T rfl rfl rfl rfl rfl rfl (ops_val rfl (v_idxF ty30 es30 rfl rfl (idx_lt h19)) ?_)
     refine s_T rfl rfl rfl rfl rfl rfl (ops_val rfl (v_loadF ty3 rfl (l_cell eInt h19 (o := 0) rfl rfl)) ?_)
     refine s_T rfl rfl rfl rfl rfl rfl (ops_val rfl (v_fieldAddrF fo24_1 rfl) ?_)
     refine s_T rfl rfl rfl rfl rfl rfl (ops_val rfl (v_loadF ty3 rfl (l_lit rfl rfl)) ?_)
     refine s_T rfl rfl rfl rfl rfl rfl (ops_val rfl (v_bin rfl rfl b_geq) ?_)
     refine sv rfl (v_pickF rfl rfl rfl) ?_
     refine s_nil ?_
     refine b_nil (hK _ ?_)
     clear hK K
     exact to_le (s' := ⟨[(1, slE eInt p1), (2, HV.fptr [HV.int .i64 p0.1, HV.int .i64 p0.2.1, slE eFromLabelTo p0.2.2] 0), (5, HV.int .i64 a1), (25, HV.bool (decide (p0.2.1 ≤ x18)))], []⟩) (AS.le_of ⟨rfl, rfl, rfl, rfl, trivial⟩ trivial) ⟨decide (p0.2.1 ≤ x18), (), h, rfl⟩
  ·have hc := of_decide_eq_false hc
   have h := ifF hc h
   refine AW.exit ?_
   exact to_le (s' := ⟨[], []⟩) (AS.le_of trivial trivial) ⟨(), (), h, rfl⟩

set_option maxHeartbeats 1600000 in
set_option maxRecDepth 100000 in
theorem w_ref09_Has {p0 : List (Int)} {p1 : Int} {r : Bool} (h : m_ref09_Has p0 p1 = some r) : Pure Tryd.prog 94 [slE eInt p0, HV.int .i64 p1] (· = HV.bool r) := by
 unfold m_ref09_Has at h
 refine Pure.of_body Tryd.func94 rfl rfl (Nat.le_of_ble_eq_true rfl) fun hf => ?_
 unfold Tryd.f94
 dsimp only [enumS, Nat.reduceAdd]
 refine AW.rgs rfl fun K hK => ?_
 refine mv rfl rfl ?_
 refine b_fin hK (s' := ⟨[(0, slE eInt p0), (1, HV.int .i64 p1)], []⟩) (le_q rfl rfl) ?_
 clear hK K
 refine AW.seq ?_
 refine AW.rgs rfl fun K hK => ?_
 refine mv rfl rfl ?_
 refine b_fin hK (s' := ⟨[(0, slE eInt p0), (1, HV.int .i64 p1), (5, HV.int .i64 0)], []⟩) (le_q rfl rfl) ?_
 clear hK K
 refine AW.lpR h (by first | exact up_then | exact up_to) (S := Int) (V := Unit) (fun a v => ⟨[(0, slE eInt p0), (1, HV.int .i64 p1), (5, HV.int .i64 a)], []⟩) ?_ (X := Unit) (W := Unit) (fun a v => ⟨[], []⟩) (fun a7 w8 h => ?_) (fun a1 w2 st3 h hr4=> ?_)
 ·exact to_le (s' := ⟨[(0, slE eInt p0), (1, HV.int .i64 p1), (5, HV.int .i64 0)], []⟩) (AS.le_of ⟨rfl, rfl, rfl, trivial⟩ trivial) ⟨(), rfl⟩
 ·refine AW.rgs rfl fun K hK => ?_
  refine mv rfl rfl ?_
  refine b_fin hK (s' := ⟨[(4, HV.bool false)], []⟩) (le_q rfl rfl) ?_
  clear hK K
  refine AW.ret ?_
  have h := Option.some.inj h
  subst h
  exact ret_pure (hs := [HV.bool false]) (q := HV.bool false) (.inr rfl) (resT rfl rfl) rfl trivial
 ·refine AW.seq ?_
  refine AW.rgs rfl fun K hK => ?_
  refine mv rfl rfl ?_
  refine mv rfl rfl ?_
  refine bv rfl (v_lenF rfl rfl ty30 rfl) ?_
  refine bv rfl (v_bin rfl rfl b_lss) ?_
  refine b_fin hK (s' := ⟨[(0, slE eInt p0), (1, HV.int .i64 p1), (5, HV.int .i64 a1), (9, HV.bool (decide (a1 < ((p0).length : Int))))], []⟩) (le_q rfl rfl) ?_
  clear hK K
  refine AW.cond rfl (fun hc => ?_) (fun hc => ?_)
  ·have hc := of_decide_eq_true hc
   have h := ifT hc h
   refine AW.skip ?_
   refine AW.seq (AW.block ?_)
   refine AW.rgs rfl fun K hK => ?_
   refine mv rfl rfl ?_
   refine mv rfl rfl ?_
   obtain ⟨x5, h6, h⟩ := bS h
   refine bv rfl (v_idxF ty30 es30 rfl rfl (idx_lt h6)) ?_
   refine bv rfl (v_loadF ty3 rfl (l_cell eInt h6 (o := 0) rfl rfl)) ?_
   refine mv rfl rfl ?_
   refine bv rfl (v_bin rfl rfl b_eql) ?_
   refine b_fin hK (s' := ⟨[(0, slE eInt p0), (1, HV.int .i64 p1), (5, HV.int .i64 a1), (17, HV.bool (decide (x5 = p1)))], []⟩) (le_q rfl rfl) ?_
   clear hK K
   refine AW.cond rfl (fun hc => ?_) (fun hc => ?_)
   ·have hc := of_decide_eq_true hc
    have h := ifT hc h
    refine AW.rgs rfl fun K hK => ?_
    refine mv rfl rfl ?_
    refine b_fin hK (s' := ⟨[(4, HV.bool true)], []⟩) (le_q rfl rfl) ?_
    clear hK K
    have h := hr4 _ h
    refine AW.ret ?_
    have h := Option.some.inj h
    subst h
    exact ret_pure (hs := [HV.bool true]) (q := HV.bool true) (.inr rfl) (resT rfl rfl) rfl trivial
   ·have hc := of_decide_eq_false hc
    have h := ifF hc h
    refine AW.skip ?_
    refine AW.rg rfl fun K hK => ?_
    refine mv rfl rfl ?_
    refine bv rfl (v_bin rfl rfl b_add) ?_
    refine mv rfl rfl ?_
    refine b_nil (hK _ ?_)
    clear hK K
    exact to_le (s' := ⟨[(0, slE eInt p0), (1, HV.int .i64 p1), (5, HV.int .i64 (IntKind.wrap .i64 (a1 + 1)))], []⟩) (AS.le_of ⟨rfl, rfl, rfl, trivial⟩ trivial) ⟨IntKind.wrap .i64 (a1 + 1), (), h, rfl⟩
  ·have hc := of_decide_eq_false hc
   have h := ifF hc h
   refine AW.exit ?_
   exact to_le (s' := ⟨[], []⟩) (AS.le_of trivial trivial) ⟨(), (), h, rfl⟩

end Go.AW

namespace Go.AW
open Go Go.Proofs
set_option linter.unusedVariables false
set_option maxHeartbeats 1600000 in
set_option maxRecDepth 100000 in
theorem w_ref09_Next {p0 : TLabelsStatesEdges} {p1 : List (Int)} {p2 : Int} {r : (List (Int))} (h : m_ref09_Next p0 p1 p2 = some r) : Pure Tryd.prog 83 [HV.agg [HV.int .i64 p0.1, HV.int .i64 p0.2.1, slE eFromLabelTo p0.2.2], slE eInt p1, HV.int .i64 p2] (· = slE eInt r) := by
 unfold m_ref09_Next at h
 refine Pure.of_body Tryd.func83 rfl rfl (Nat.le_of_ble_eq_true rfl) fun hf => ?_
 unfold Tryd.f83
 dsimp only [enumS, Nat.reduceAdd]
 refine AW.rgs rfl fun K hK => ?_
 refine b_op rfl (o_box rfl rfl rfl ?_)
 refine mv rfl rfl ?_
 refine b_fin hK (s' := ⟨[(1, slE eInt p1), (2, HV.int .i64 p2), (3, HV.fptr [HV.int .i64 p0.1, HV.int .i64 p0.2.1, slE eFromLabelTo p0.2.2] 0)], []⟩) (le_q rfl rfl) ?_
 clear hK K
 refine AW.rgs rfl fun K hK => ?_
 refine mv rfl rfl ?_
 refine b_fin hK (s' := ⟨[(1, slE eInt p1), (2, HV.int .i64 p2), (3, HV.fptr [HV.int .i64 p0.1, HV.int .i64 p0.2.1, slE eFromLabelTo p0.2.2] 0), (7, HV.v (.slice none 0 0))], []⟩) (le_q rfl rfl) ?_
 clear hK K
 refine AW.seq ?_
 refine AW.rgs rfl fun K hK => ?_
 refine mv rfl rfl ?_
 refine b_fin hK (s' := ⟨[(1, slE eInt p1), (2, HV.int .i64 p2), (3, HV.fptr [HV.int .i64 p0.1, HV.int .i64 p0.2.1, slE eFromLabelTo p0.2.2] 0), (7, HV.v (.slice none 0 0)), (8, HV.int .i64 0)], []⟩) (le_q rfl rfl) ?_
 clear hK K
 refine AW.lpX h (by first | exact up_then | exact up_to) (S := Int × (List Int)) (V := Nat) (fun a v => ⟨[(1, slE eInt p1), (2, HV.int .i64 p2), (3, HV.fptr [HV.int .i64 p0.1, HV.int .i64 p0.2.1, slE eFromLabelTo p0.2.2] 0), (7, HV.ar 83053 v eInt.k 0 ((a.2).length)), (8, HV.int .i64 a.1)], [(83053, v, .arr eInt.k 3 (eInt.E a.2))]⟩) ?_ (X := (List Int)) (W := Nat) (fun a v => ⟨[(7, HV.ar 83053 v eInt.k 0 ((a).length))], [(83053, v, .arr eInt.k 3 (eInt.E a))]⟩) (fun a28 w29 h => ?_) (fun a1 w2 st3 h => ?_)
 ·refine to_bind (to_own 83053 7 eInt.k 3 rfl fun v27 => ?_)
  exact to_le (s' := ⟨[(1, slE eInt p1), (2, HV.int .i64 p2), (3, HV.fptr [HV.int .i64 p0.1, HV.int .i64 p0.2.1, slE eFromLabelTo p0.2.2] 0), (7, HV.ar 83053 v27 eInt.k 0 ((([] : List Int)).length)), (8, HV.int .i64 0)], [(83053, v27, .arr eInt.k 3 (eInt.E ([] : List Int)))]⟩) (AS.le_of ⟨rfl, rfl, rfl, arl (by first | rfl | simp only [List.length_set, sortI_len, sortS_len]), rfl, trivial⟩ ⟨rfl, trivial⟩) ⟨v27, rfl⟩
 ·refine AW.rgs rfl fun K hK => ?_
  refine mv rfl rfl ?_
  refine mv rfl rfl ?_
  refine b_fin hK (s' := ⟨[(6, HV.ar 83053 w29 eInt.k 0 ((a28).length))], [(83053, w29, .arr eInt.k 3 (eInt.E a28))]⟩) (le_q rfl rfl) ?_
  clear hK K
  refine AW.to (to_frz 2 [(83053, w29, .arr eInt.k 3 (eInt.E a28))] ⟨[(6, slE eInt a28)], []⟩ ⟨⟨_, rfl, frz_slE eInt (l := a28) rfl fun _ _ => rfl⟩, trivial⟩ trivial ⟨rfl, trivial⟩ ⟨rfl, trivial⟩ ?_)
  refine AW.ret ?_
  have h := Option.some.inj h
  subst h
  exact ret_pure (hs := [slE eInt a28]) (q := slE eInt a28) (.inr rfl) (resT rfl rfl) rfl (clean_slE fun _ _ => ⟨trivial, trivial⟩)
 ·refine AW.seq ?_
  refine AW.rgs rfl fun K hK => ?_
  refine mv rfl rfl ?_
  refine bv rfl (v_fieldAddrF fo24_1 rfl) ?_
  refine bv rfl (v_loadF ty3 rfl (l_lit rfl rfl)) ?_
  refine bv rfl (v_bin rfl rfl b_lss) ?_
  refine b_fin hK (s' := ⟨[(1, slE eInt p1), (2, HV.int .i64 p2), (3, HV.fptr [HV.int .i64 p0.1, HV.int .i64 p0.2.1, slE eFromLabelTo p0.2.2] 0), (7, HV.ar 83053 w2 eInt.k 0 ((a1.2).length)), (8, HV.int .i64 a1.1), (15, HV.bool (decide (a1.1 < p0.2.1)))], [(83053, w2, .arr eInt.k 3 (eInt.E a1.2))]⟩) (le_q rfl rfl) ?_
  clear hK K
  refine AW.cond rfl (fun hc => ?_) (fun hc => ?_)
  ·have hc := of_decide_eq_true hc
   have h := ifT hc h
   refine AW.skip ?_
   refine AW.seqJ h (S := (List Int)) (V := Nat) (fun a v => ⟨[(1, slE eInt p1), (2, HV.int .i64 p2), (3, HV.fptr [HV.int .i64 p0.1, HV.int .i64 p0.2.1, slE eFromLabelTo p0.2.2] 0), (7, HV.ar 83053 v eInt.k 0 ((a).length)), (8, HV.int .i64 a1.1)], [(83053, v, .arr eInt.k 3 (eInt.E a))]⟩) (fun a5 w6 h => ?_) (fun k7 h => ?_)
   ·refine AW.rg rfl fun K hK => ?_
    refine mv rfl rfl ?_
    refine bv rfl (v_bin rfl rfl b_add) ?_
    refine mv rfl rfl ?_
    refine b_nil (hK _ ?_)
    clear hK K
    exact to_le (s' := ⟨[(1, slE eInt p1), (2, HV.int .i64 p2), (3, HV.fptr [HV.int .i64 p0.1, HV.int .i64 p0.2.1, slE eFromLabelTo p0.2.2] 0), (7, HV.ar 83053 w6 eInt.k 0 ((a5).length)), (8, HV.int .i64 (IntKind.wrap .i64 (a1.1 + 1)))], [(83053, w6, .arr eInt.k 3 (eInt.E a5))]⟩) (AS.le_of ⟨rfl, rfl, rfl, rfl, rfl, trivial⟩ ⟨rfl, trivial⟩) ⟨(IntKind.wrap .i64 (a1.1 + 1), a5), w6, h, rfl⟩
   ·refine AW.block ?_
    refine AW.rgs rfl fun K hK => ?_
    refine mv rfl rfl ?_
    refine b_fin hK (s' := ⟨[(1, slE eInt p1), (2, HV.int .i64 p2), (3, HV.fptr [HV.int .i64 p0.1, HV.int .i64 p0.2.1, slE eFromLabelTo p0.2.2] 0), (7, HV.ar 83053 w2 eInt.k 0 ((a1.2).length)), (8, HV.int .i64 a1.1), (9, HV.bool false)], [(83053, w2, .arr eInt.k 3 (eInt.E a1.2))]⟩) (le_q rfl rfl) ?_
    clear hK K
    refine AW.seq ?_
    refine AW.rgs rfl fun K hK => ?_
    refine mv rfl rfl ?_
    refine b_fin hK (s' := ⟨[(1, slE eInt p1), (2, HV.int .i64 p2), (3, HV.fptr [HV.int .i64 p0.1, HV.int .i64 p0.2.1, slE eFromLabelTo p0.2.2] 0), (7, HV.ar 83053 w2 eInt.k 0 ((a1.2).length)), (8, HV.int .i64 a1.1), (9, HV.bool false), (10, HV.int .i64 0)], [(83053, w2, .arr eInt.k 3 (eInt.E a1.2))]⟩) (le_q rfl rfl) ?_
    clear hK K
    refine AW.lpX h (by first | exact up_then | exact up_to) (S := Bool × Int) (V := Unit) (fun a v => ⟨[(1, slE eInt p1), (2, HV.int .i64 p2), (3, HV.fptr [HV.int .i64 p0.1, HV.int .i64 p0.2.1, slE eFromLabelTo p0.2.2] 0), (7, HV.ar 83053 w2 eInt.k 0 ((a1.2).length)), (8, HV.int .i64 a1.1), (9, HV.bool a.1), (10, HV.int .i64 a.2)], [(83053, w2, .arr eInt.k 3 (eInt.E a1.2))]⟩) ?_ (X := Bool) (W := Unit) (fun a v => ⟨[(1, slE eInt p1), (2, HV.int .i64 p2), (3, HV.fptr [HV.int .i64 p0.1, HV.int .i64 p0.2.1, slE eFromLabelTo p0.2.2] 0), (7, HV.ar 83053 w2 eInt.k 0 ((a1.2).length)), (8, HV.int .i64 a1.1), (9, HV.bool a)], [(83053, w2, .arr eInt.k 3 (eInt.E a1.2))]⟩) (fun a23 w24 h => ?_) (fun a8 w9 st10 h => ?_)
    ·exact to_le (s' := ⟨[(1, slE eInt p1), (2, HV.int .i64 p2), (3, HV.fptr [HV.int .i64 p0.1, HV.int .i64 p0.2.1, slE eFromLabelTo p0.2.2] 0), (7, HV.ar 83053 w2 eInt.k 0 ((a1.2).length)), (8, HV.int .i64 a1.1), (9, HV.bool false), (10, HV.int .i64 0)], [(83053, w2, .arr eInt.k 3 (eInt.E a1.2))]⟩) (AS.le_of ⟨rfl, rfl, rfl, rfl, rfl, rfl, rfl, trivial⟩ ⟨rfl, trivial⟩) ⟨(), rfl⟩
    ·refine AW.rgs rfl fun K hK => ?_
     refine mv rfl rfl ?_
     refine b_fin hK (s' := ⟨[(1, slE eInt p1), (2, HV.int .i64 p2), (3, HV.fptr [HV.int .i64 p0.1, HV.int .i64 p0.2.1, slE eFromLabelTo p0.2.2] 0), (7, HV.ar 83053 w2 eInt.k 0 ((a1.2).length)), (8, HV.int .i64 a1.1), (49, HV.bool a23)], [(83053, w2, .arr eInt.k 3 (eInt.E a1.2))]⟩) (le_q rfl rfl) ?_
     clear hK K
     refine AW.cond rfl (fun hc => ?_) (fun hc => ?_)
     ·have h := ifT hc h
      refine AW.rg rfl fun K hK => ?_
      refine mv rfl rfl ?_
      refine mv rfl rfl ?_
      refine b_op rfl (o_bsl rfl rfl (as_of (cs := [HV.int .i64 a1.1]) ty30 ty3 rfl rfl rfl rfl rfl) ?_)
      obtain ⟨h26, h⟩ := ifN h
      refine b_op rfl (o_appE eInt (l := a1.2) (m := [a1.1]) rfl rfl ty30 ty30 ty3 rfl rfl rfl rfl rfl h26 (fun v25 => ?_))
      refine mv rfl rfl ?_
      refine b_nil (hK _ ?_)
      clear hK K
      exact to_le (s' := ⟨[(1, slE eInt p1), (2, HV.int .i64 p2), (3, HV.fptr [HV.int .i64 p0.1, HV.int .i64 p0.2.1, slE eFromLabelTo p0.2.2] 0), (7, HV.ar 83053 v25 eInt.k 0 ((a1.2 ++ [a1.1]).length)), (8, HV.int .i64 a1.1)], [(83053, v25, .arr eInt.k 3 (eInt.E (a1.2 ++ [a1.1])))]⟩) (AS.le_of ⟨rfl, rfl, rfl, rfl, rfl, trivial⟩ ⟨rfl, trivial⟩) ⟨a1.2 ++ [a1.1], v25, h, rfl⟩
     ·have h := ifF (bF' hc) h
      refine AW.skip ?_
      exact to_le (s' := ⟨[(1, slE eInt p1), (2, HV.int .i64 p2), (3, HV.fptr [HV.int .i64 p0.1, HV.int .i64 p0.2.1, slE eFromLabelTo p0.2.2] 0), (7, HV.ar 83053 w2 eInt.k 0 ((a1.2).length)), (8, HV.int .i64 a1.1)], [(83053, w2, .arr eInt.k 3 (eInt.E a1.2))]⟩) (AS.le_of ⟨rfl, rfl, rfl, rfl, rfl, trivial⟩ ⟨rfl, trivial⟩) ⟨a1.2, w2, h, rfl⟩
    ·refine AW.seq ?_
     refine AW.rgs rfl fun K hK => ?_
     refine mv rfl rfl ?_
     refine bv rfl (v_fieldAddrF fo24_2 rfl) ?_
     refine bv rfl (v_loadF ty22 rfl (l_lit rfl rfl)) ?_
     refine bv rfl (v_lenF rfl rfl ty22 rfl) ?_
     refine bv rfl (v_bin rfl rfl b_lss) ?_
     refine b_fin hK (s' := ⟨[(1, slE eInt p1), (2, HV.int .i64 p2), (3, HV.fptr [HV.int .i64 p0.1, HV.int .i64 p0.2.1, slE eFromLabelTo p0.2.2] 0), (7, HV.ar 83053 w2 eInt.k 0 ((a1.2).length)), (8, HV.int .i64 a1.1), (9, HV.bool a8.1), (10, HV.int .i64 a8.2), (22, HV.bool (decide (a8.2 < ((p0.2.2).length : Int))))], [(83053, w2, .arr eInt.k 3 (eInt.E a1.2))]⟩) (le_q rfl rfl) ?_
     clear hK K
     refine AW.cond rfl (fun hc => ?_) (fun hc => ?_)
     ·have hc := of_decide_eq_true hc
      have h := ifT hc h
      refine AW.skip ?_
      refine AW.seqJ h (S := Bool) (V := Unit) (fun a v => ⟨[(1, slE eInt p1), (2, HV.int .i64 p2), (3, HV.fptr [HV.int .i64 p0.1, HV.int .i64 p0.2.1, slE eFromLabelTo p0.2.2] 0), (7, HV.ar 83053 w2 eInt.k 0 ((a1.2).length)), (8, HV.int .i64 a1.1), (9, HV.bool a), (10, HV.int .i64 a8.2)], [(83053, w2, .arr eInt.k 3 (eInt.E a1.2))]⟩) (fun a12 w13 h => ?_) (fun k14 h => ?_)
      ·refine AW.rg rfl fun K hK => ?_
       refine mv rfl rfl ?_
       refine bv rfl (v_bin rfl rfl b_add) ?_
       refine mv rfl rfl ?_
       refine b_nil (hK _ ?_)
       clear hK K
       exact to_le (s' := ⟨[(1, slE eInt p1), (2, HV.int .i64 p2), (3, HV.fptr [HV.int .i64 p0.1, HV.int .i64 p0.2.1, slE eFromLabelTo p0.2.2] 0), (7, HV.ar 83053 w2 eInt.k 0 ((a1.2).length)), (8, HV.int .i64 a1.1), (9, HV.bool a12), (10, HV.int .i64 (IntKind.wrap .i64 (a8.2 + 1)))], [(83053, w2, .arr eInt.k 3 (eInt.E a1.2))]⟩) (AS.le_of ⟨rfl, rfl, rfl, rfl, rfl, rfl, rfl, trivial⟩ ⟨rfl, trivial⟩) ⟨(a12, IntKind.wrap .i64 (a8.2 + 1)), (), h, rfl⟩
      ·refine AW.block ?_
       refine AW.rgs rfl fun K hK => ?_
       refine bv rfl (v_fieldAddrF fo24_2 rfl) ?_
       refine bv rfl (v_loadF ty22 rfl (l_lit rfl rfl)) ?_
       refine mv rfl rfl ?_
       obtain ⟨x15, h16, h⟩ := bS h
       refine bv rfl (v_idxF ty22 es22 rfl rfl (idx_lt h16)) ?_
       refine bv rfl (v_loadF ty49 rfl (l_agg eFromLabelTo h16 rfl rfl)) ?_
       refine b_op rfl (o_alloc (fid := 83) (zs := [HV.int .i64 0, HV.int .i64 0, HV.int .i64 0]) 83011 rfl rfl ty49 rfl (fun v17 => ?_))
       refine b_op rfl (o_store (cs := [HV.int .i64 x15.1, HV.int .i64 x15.2.1, HV.int .i64 x15.2.2]) (zs := [HV.int .i64 x15.1, HV.int .i64 x15.2.1, HV.int .i64 x15.2.2]) rfl rfl rfl ty49 rfl rfl rfl rfl rfl ?_)
       refine b_fin hK (s' := ⟨[(1, slE eInt p1), (2, HV.int .i64 p2), (3, HV.fptr [HV.int .i64 p0.1, HV.int .i64 p0.2.1, slE eFromLabelTo p0.2.2] 0), (7, HV.ar 83053 w2 eInt.k 0 ((a1.2).length)), (8, HV.int .i64 a1.1), (9, HV.bool a8.1), (10, HV.int .i64 a8.2), (11, HV.ptr 83011 v17 0)], [(83053, w2, .arr eInt.k 3 (eInt.E a1.2)), (83011, v17, .arr 3 49 [HV.int .i64 x15.1, HV.int .i64 x15.2.1, HV.int .i64 x15.2.2])]⟩) (le_q rfl rfl) ?_
       clear hK K
       refine AW.rg rfl fun K hK => ?_
       refine mv rfl rfl ?_
       refine mv rfl rfl ?_
       by_cases hg22 : a8.1 = true
       ·have h := ifT hg22 h
        refine b_F rfl rfl rfl rfl rfl hg22 ?_
        refine b_F rfl rfl rfl rfl rfl rfl ?_
        refine b_F rfl rfl rfl rfl rfl rfl ?_
        refine b_F rfl rfl rfl rfl rfl rfl ?_
        refine b_F rfl rfl rfl rfl rfl rfl ?_
        refine b_U rfl rfl rfl rfl rfl ?_
        refine b_U rfl rfl rfl rfl rfl ?_
        refine b_U rfl rfl rfl rfl rfl ?_
        refine b_U rfl rfl rfl rfl rfl ?_
        refine b_F rfl rfl rfl rfl rfl rfl ?_
        refine b_F rfl rfl rfl rfl rfl rfl ?_
        refine b_U rfl rfl rfl rfl rfl ?_
        refine b_U rfl rfl rfl rfl rfl ?_
        refine b_U rfl rfl rfl rfl rfl ?_
        refine b_U rfl rfl rfl rfl rfl ?_
        refine b_F rfl rfl rfl rfl rfl rfl ?_
        refine bv rfl (v_pickT rfl rfl rfl) ?_
        refine mv rfl rfl ?_
        refine b_nil (hK _ ?_)
        clear hK K
        exact to_le (s' := ⟨[(1, slE eInt p1), (2, HV.int .i64 p2), (3, HV.fptr [HV.int .i64 p0.1, HV.int .i64 p0.2.1, slE eFromLabelTo p0.2.2] 0), (7, HV.ar 83053 w2 eInt.k 0 ((a1.2).length)), (8, HV.int .i64 a1.1), (9, HV.bool true), (10, HV.int .i64 a8.2)], [(83053, w2, .arr eInt.k 3 (eInt.E a1.2))]⟩) (AS.le_of ⟨rfl, rfl, rfl, rfl, rfl, rfl, rfl, trivial⟩ ⟨rfl, trivial⟩) ⟨true, (), h, rfl⟩
       ·have h := ifF hg22 h
        refine b_T rfl rfl rfl rfl (bF hg22) (o_val rfl (v_fieldAddrP fo49_2 rfl rfl) ?_)
        refine b_T rfl rfl rfl rfl rfl (o_val rfl (v_loadP ty3 rfl rfl (l_lit rfl rfl)) ?_)
        refine b_T rfl rfl rfl rfl rfl (o_val rfl (mv_val rfl rfl).2 ?_)
        refine b_T rfl rfl rfl rfl rfl (o_val rfl (v_bin rfl rfl b_eql) ?_)
        refine b_T rfl rfl rfl rfl rfl (o_val rfl (mv_val rfl rfl).2 ?_)
        by_cases hg21 : x15.2.2 = a1.1
        ·have h := ifT hg21 h
         refine b_T rfl rfl rfl rfl (decide_eq_true hg21) (o_val rfl (v_fieldAddrP fo49_1 rfl rfl) ?_)
         refine b_T rfl rfl rfl rfl rfl (o_val rfl (v_loadP ty3 rfl rfl (l_lit rfl rfl)) ?_)
         refine b_T rfl rfl rfl rfl rfl (o_val rfl (mv_val rfl rfl).2 ?_)
         refine b_T rfl rfl rfl rfl rfl (o_val rfl (v_bin rfl rfl b_eql) ?_)
         refine b_T rfl rfl rfl rfl rfl (o_val rfl (v_pickT rfl rfl rfl) ?_)
         refine b_T rfl rfl rfl rfl rfl (o_val rfl (mv_val rfl rfl).2 ?_)
         by_cases hg20 : x15.2.1 = p2
         ·have h := ifT hg20 h
          refine b_T rfl rfl rfl rfl (decide_eq_true hg20) (o_val rfl (mv_val rfl rfl).2 ?_)
          refine b_T rfl rfl rfl rfl rfl (o_val rfl (v_fieldAddrP fo49_0 rfl rfl) ?_)
          refine b_T rfl rfl rfl rfl rfl (o_val rfl (v_loadP ty3 rfl rfl (l_lit rfl rfl)) ?_)
          obtain ⟨x18, h19, h⟩ := bS h
          refine b_T rfl rfl rfl rfl rfl (o_call rfl rfl rfl rfl (ACallD.pure0 (w_ref09_Has h19)) ?_)
          refine b_T rfl rfl rfl rfl rfl (o_val rfl (v_pickT rfl rfl rfl) ?_)
          refine bv rfl (v_pickF rfl rfl rfl) ?_
          refine mv rfl rfl ?_
          refine b_nil (hK _ ?_)
          clear hK K
          exact to_le (s' := ⟨[(1, slE eInt p1), (2, HV.int .i64 p2), (3, HV.fptr [HV.int .i64 p0.1, HV.int .i64 p0.2.1, slE eFromLabelTo p0.2.2] 0), (7, HV.ar 83053 w2 eInt.k 0 ((a1.2).length)), (8, HV.int .i64 a1.1), (9, HV.bool x18), (10, HV.int .i64 a8.2)], [(83053, w2, .arr eInt.k 3 (eInt.E a1.2))]⟩) (AS.le_of ⟨rfl, rfl, rfl, rfl, rfl, rfl, rfl, trivial⟩ ⟨rfl, trivial⟩) ⟨x18, (), h, rfl⟩
         ·have h := ifF hg20 h
          refine b_F rfl rfl rfl rfl rfl (decide_eq_false hg20) ?_
          refine b_F rfl rfl rfl rfl rfl rfl ?_
          refine b_F rfl rfl rfl rfl rfl rfl ?_
          refine b_F rfl rfl rfl rfl rfl rfl ?_
          refine b_T rfl rfl rfl rfl rfl (o_val rfl (v_pickF rfl rfl rfl) ?_)
          refine bv rfl (v_pickF rfl rfl rfl) ?_
          refine mv rfl rfl ?_
          refine b_nil (hK _ ?_)
          clear hK K
          exact to_le (s' := ⟨[(1, slE eInt p1), (2, HV.int .i64 p2), (3, HV.fptr [HV.int .i64 p0.1, HV.int .i64 p0.2.1, slE eFromLabelTo p0.2.2] 0), (7, HV.ar 83053 w2 eInt.k 0 ((a1.2).length)), (8, HV.int .i64 a1.1), (9, HV.bool false), (10, HV.int .i64 a8.2)], [(83053, w2, .arr eInt.k 3 (eInt.E a1.2))]⟩) (AS.le_of ⟨rfl, rfl, rfl, rfl, rfl, rfl, rfl, trivial⟩ ⟨rfl, trivial⟩) ⟨false, (), h, rfl⟩
        ·have h := ifF hg21 h
         refine b_F rfl rfl rfl rfl rfl (decide_eq_false hg21) ?_
         refine b_F rfl rfl rfl rfl rfl rfl ?_
         refine b_F rfl rfl rfl rfl rfl rfl ?_
         refine b_F rfl rfl rfl rfl rfl rfl ?_
         refine b_T rfl rfl rfl rfl rfl (o_val rfl (v_pickF rfl rfl rfl) ?_)
         refine b_T rfl rfl rfl rfl rfl (o_val rfl (mv_val rfl rfl).2 ?_)
         refine b_F rfl rfl rfl rfl rfl rfl ?_
         refine b_F rfl rfl rfl rfl rfl rfl ?_
         refine b_F rfl rfl rfl rfl rfl rfl ?_
         refine b_F rfl rfl rfl rfl rfl rfl ?_
         refine b_T rfl rfl rfl rfl rfl (o_val rfl (v_pickF rfl rfl rfl) ?_)
         refine bv rfl (v_pickF rfl rfl rfl) ?_
         refine mv rfl rfl ?_
         refine b_nil (hK _ ?_)
         clear hK K
         exact to_le (s' := ⟨[(1, slE eInt p1), (2, HV.int .i64 p2), (3, HV.fptr [HV.int .i64 p0.1, HV.int .i64 p0.2.1, slE eFromLabelTo p0.2.2] 0), (7, HV.ar 83053 w2 eInt.k 0 ((a1.2).length)), (8, HV.int .i64 a1.1), (9, HV.bool false), (10, HV.int .i64 a8.2)], [(83053, w2, .arr eInt.k 3 (eInt.E a1.2))]⟩) (AS.le_of ⟨rfl, rfl, rfl, rfl, rfl, rfl, rfl, trivial⟩ ⟨rfl, trivial⟩) ⟨false, (), h, rfl⟩
     ·have hc := of_decide_eq_false hc
      have h := ifF hc h
      refine AW.exit ?_
      exact to_le (s' := ⟨[(1, slE eInt p1), (2, HV.int .i64 p2), (3, HV.fptr [HV.int .i64 p0.1, HV.int .i64 p0.2.1, slE eFromLabelTo p0.2.2] 0), (7, HV.ar 83053 w2 eInt.k 0 ((a1.2).length)), (8, HV.int .i64 a1.1), (9, HV.bool a8.1)], [(83053, w2, .arr eInt.k 3 (eInt.E a1.2))]⟩) (AS.le_of ⟨rfl, rfl, rfl, rfl, rfl, rfl, trivial⟩ ⟨rfl, trivial⟩) ⟨a8.1, (), h, rfl⟩
  ·have hc := of_decide_eq_false hc
   have h := ifF hc h
   refine AW.exit ?_
   exact to_le (s' := ⟨[(7, HV.ar 83053 w2 eInt.k 0 ((a1.2).length))], [(83053, w2, .arr eInt.k 3 (eInt.E a1.2))]⟩) (AS.le_of ⟨rfl, trivial⟩ ⟨rfl, trivial⟩) ⟨a1.2, w2, h, rfl⟩

set_option maxHeartbeats 1600000 in
set_option maxRecDepth 100000 in
theorem w_ref09_Step {p0 : TLabelsStatesEdges} {p1 : List (Int)} {p2 : Int} {r : (List (Int)) × Int} (h : m_ref09_Step p0 p1 p2 = some r) : Pure Tryd.prog 60 [HV.agg [HV.int .i64 p0.1, HV.int .i64 p0.2.1, slE eFromLabelTo p0.2.2], slE eInt p1, HV.int .i64 p2] (· = HV.tup [slE eInt r.1, HV.int .i64 r.2]) := by
 unfold m_ref09_Step at h
 refine Pure.of_body Tryd.func60 rfl rfl (Nat.le_of_ble_eq_true rfl) fun hf => ?_
 unfold Tryd.f60
 dsimp only [enumS, Nat.reduceAdd]
 refine AW.rgs rfl fun K hK => ?_
 refine b_op rfl (o_box rfl rfl rfl ?_)
 refine mv rfl rfl ?_
 refine mv rfl rfl ?_
 refine b_fin hK (s' := ⟨[(1, slE eInt p1), (2, HV.int .i64 p2), (3, HV.fptr [HV.int .i64 p0.1, HV.int .i64 p0.2.1, slE eFromLabelTo p0.2.2] 0)], []⟩) (le_q rfl rfl) ?_
 clear hK K
 refine AW.seq ?_
 refine AW.rgs rfl fun K hK => ?_
 refine bv rfl (v_loadF ty24 rfl (l_litA rfl (Nat.le_of_ble_eq_true rfl) rfl)) ?_
 obtain ⟨x1, h2, h⟩ := bS h
 refine b_op rfl (o_call rfl rfl rfl rfl (ACallD.pure0 (w_ref09_Check h2)) ?_)
 refine bv rfl (v_bin rfl rfl b_neq) ?_
 refine b_fin hK (s' := ⟨[(1, slE eInt p1), (2, HV.int .i64 p2), (3, HV.fptr [HV.int .i64 p0.1, HV.int .i64 p0.2.1, slE eFromLabelTo p0.2.2] 0), (11, HV.bool (decide (x1 ≠ 0)))], []⟩) (le_q rfl rfl) ?_
 clear hK K
 refine AW.cond rfl (fun hc => ?_) (fun hc => ?_)
 ·have hc := of_decide_eq_true hc
  have h := ifT hc h
  refine AW.rgs rfl fun K hK => ?_
  refine mv rfl rfl ?_
  refine mv rfl rfl ?_
  refine b_fin hK (s' := ⟨[(6, HV.v (.slice none 0 0)), (7, HV.int .i64 1)], []⟩) (le_q rfl rfl) ?_
  clear hK K
  refine AW.to (to_weak ⟨[(6, slE eInt ([] : List Int)), (7, HV.int .i64 1)], []⟩ ⟨⟨_, rfl, .nil _⟩, ⟨_, rfl, .refl _⟩, trivial⟩ trivial ?_)
  refine AW.ret ?_
  have h := Option.some.inj h
  subst h
  exact ret_pure (hs := [slE eInt ([] : List Int), HV.int .i64 1]) (q := HV.tup [slE eInt ([] : List Int), HV.int .i64 1]) (.inr rfl) (resT rfl (resT rfl rfl)) rfl ⟨(clean_slE fun _ _ => ⟨trivial, trivial⟩), trivial, trivial⟩
 ·have hc := of_decide_eq_false hc
  have h := ifF hc h
  refine AW.skip ?_
  refine AW.seq ?_
  refine AW.rgs rfl fun K hK => ?_
  refine bv rfl (v_loadF ty24 rfl (l_litA rfl (Nat.le_of_ble_eq_true rfl) rfl)) ?_
  refine mv rfl rfl ?_
  obtain ⟨x3, h4, h⟩ := bS h
  refine b_op rfl (o_call rfl rfl rfl rfl (ACallD.pure0 (w_ref09_CheckSet h4)) ?_)
  refine mv rfl rfl ?_
  refine b_fin hK (s' := ⟨[(1, slE eInt p1), (2, HV.int .i64 p2), (3, HV.fptr [HV.int .i64 p0.1, HV.int .i64 p0.2.1, slE eFromLabelTo p0.2.2] 0), (8, HV.int .i64 x3)], []⟩) (le_q rfl rfl) ?_
  clear hK K
  refine AW.rgs rfl fun K hK => ?_
  refine mv rfl rfl ?_
  refine bv rfl (v_bin rfl rfl b_neq) ?_
  refine b_fin hK (s' := ⟨[(1, slE eInt p1), (2, HV.int .i64 p2), (3, HV.fptr [HV.int .i64 p0.1, HV.int .i64 p0.2.1, slE eFromLabelTo p0.2.2] 0), (8, HV.int .i64 x3), (16, HV.bool (decide (x3 ≠ 0)))], []⟩) (le_q rfl rfl) ?_
  clear hK K
  refine AW.cond rfl (fun hc => ?_) (fun hc => ?_)
  ·have hc := of_decide_eq_true hc
   have h := ifT hc h
   refine AW.rgs rfl fun K hK => ?_
   refine mv rfl rfl ?_
   refine mv rfl rfl ?_
   refine mv rfl rfl ?_
   refine b_fin hK (s' := ⟨[(6, HV.v (.slice none 0 0)), (7, HV.int .i64 x3)], []⟩) (le_q rfl rfl) ?_
   clear hK K
   refine AW.to (to_weak ⟨[(6, slE eInt ([] : List Int)), (7, HV.int .i64 x3)], []⟩ ⟨⟨_, rfl, .nil _⟩, ⟨_, rfl, .refl _⟩, trivial⟩ trivial ?_)
   refine AW.ret ?_
   have h := Option.some.inj h
   subst h
   exact ret_pure (hs := [slE eInt ([] : List Int), HV.int .i64 x3]) (q := HV.tup [slE eInt ([] : List Int), HV.int .i64 x3]) (.inr rfl) (resT rfl (resT rfl rfl)) rfl ⟨(clean_slE fun _ _ => ⟨trivial, trivial⟩), trivial, trivial⟩
  ·have hc := of_decide_eq_false hc
   have h := ifF hc h
   refine AW.skip ?_
   refine AW.seq ?_
   refine AW.seqJ h (S := Bool) (V := Unit) (fun a v => ⟨[(1, slE eInt p1), (2, HV.int .i64 p2), (3, HV.fptr [HV.int .i64 p0.1, HV.int .i64 p0.2.1, slE eFromLabelTo p0.2.2] 0), (25, HV.bool a)], []⟩) (fun a5 w6 h => ?_) (fun k7 h => ?_)
   ·refine AW.cond rfl (fun hc => ?_) (fun hc => ?_)
    ·have h := ifT hc h
     refine AW.rgs rfl fun K hK => ?_
     refine mv rfl rfl ?_
     refine mv rfl rfl ?_
     refine b_fin hK (s' := ⟨[(6, HV.v (.slice none 0 0)), (7, HV.int .i64 2)], []⟩) (le_q rfl rfl) ?_
     clear hK K
     refine AW.to (to_weak ⟨[(6, slE eInt ([] : List Int)), (7, HV.int .i64 2)], []⟩ ⟨⟨_, rfl, .nil _⟩, ⟨_, rfl, .refl _⟩, trivial⟩ trivial ?_)
     refine AW.ret ?_
     have h := Option.some.inj h
     subst h
     exact ret_pure (hs := [slE eInt ([] : List Int), HV.int .i64 2]) (q := HV.tup [slE eInt ([] : List Int), HV.int .i64 2]) (.inr rfl) (resT rfl (resT rfl rfl)) rfl ⟨(clean_slE fun _ _ => ⟨trivial, trivial⟩), trivial, trivial⟩
    ·have h := ifF (bF' hc) h
     refine AW.skip ?_
     refine AW.rgs rfl fun K hK => ?_
     refine bv rfl (v_loadF ty24 rfl (l_litA rfl (Nat.le_of_ble_eq_true rfl) rfl)) ?_
     refine mv rfl rfl ?_
     refine mv rfl rfl ?_
     obtain ⟨x8, h9, h⟩ := bS h
     refine b_op rfl (o_call rfl rfl rfl rfl (ACallD.pure0 (w_ref09_Next h9)) ?_)
     refine mv rfl rfl ?_
     refine mv rfl rfl ?_
     refine b_fin hK (s' := ⟨[(6, slE eInt x8), (7, HV.int .i64 0)], []⟩) (le_q rfl rfl) ?_
     clear hK K
     refine AW.ret ?_
     have h := Option.some.inj h
     subst h
     exact ret_pure (hs := [slE eInt x8, HV.int .i64 0]) (q := HV.tup [slE eInt x8, HV.int .i64 0]) (.inr rfl) (resT rfl (resT rfl rfl)) rfl ⟨(clean_slE fun _ _ => ⟨trivial, trivial⟩), trivial, trivial⟩
   ·refine AW.rg rfl fun K hK => ?_
    refine mv rfl rfl ?_
    refine bv rfl (v_bin rfl rfl b_lss) ?_
    refine mv rfl rfl ?_
    by_cases hg10 : p2 < 0
    ·have h := ifT hg10 h
     refine b_F rfl rfl rfl rfl rfl (decide_eq_true hg10) ?_
     refine b_F rfl rfl rfl rfl rfl rfl ?_
     refine b_F rfl rfl rfl rfl rfl rfl ?_
     refine b_F rfl rfl rfl rfl rfl rfl ?_
     refine bv rfl (v_pickT rfl rfl rfl) ?_
     refine b_nil (hK _ ?_)
     clear hK K
     exact to_le (s' := ⟨[(1, slE eInt p1), (2, HV.int .i64 p2), (3, HV.fptr [HV.int .i64 p0.1, HV.int .i64 p0.2.1, slE eFromLabelTo p0.2.2] 0), (25, HV.bool true)], []⟩) (AS.le_of ⟨rfl, rfl, rfl, rfl, trivial⟩ trivial) ⟨true, (), h, rfl⟩
    ·have h := ifF hg10 h
     refine b_T rfl rfl rfl rfl (decide_eq_false hg10) (o_val rfl (mv_val rfl rfl).2 ?_)
     refine b_T rfl rfl rfl rfl rfl (o_val rfl (v_fieldAddrF fo24_0 rfl) ?_)
     refine b_T rfl rfl rfl rfl rfl (o_val rfl (v_loadF ty3 rfl (l_lit rfl rfl)) ?_)
     refine b_T rfl rfl rfl rfl rfl (o_val rfl (v_bin rfl rfl b_geq) ?_)
     refine bv rfl (v_pickF rfl rfl rfl) ?_
     refine b_nil (hK _ ?_)
     clear hK K
     exact to_le (s' := ⟨[(1, slE eInt p1), (2, HV.int .i64 p2), (3, HV.fptr [HV.int .i64 p0.1, HV.int .i64 p0.2.1, slE eFromLabelTo p0.2.2] 0), (25, HV.bool (decide (p0.1 ≤ p2)))], []⟩) (AS.le_of ⟨rfl, rfl, rfl, rfl, trivial⟩ trivial) ⟨decide (p0.1 ≤ p2), (), h, rfl⟩

set_option maxHeartbeats 1600000 in
set_option maxRecDepth 100000 in
theorem w_ref12_index {p0 : List (List (Int))} {p1 : List (Int)} {r : Int} (h : m_ref12_index p0 p1 = some r) : Pure Tryd.prog 61 [slE (eSl eInt) p0, slE eInt p1] (· = HV.int .i64 r) := by
 unfold m_ref12_index at h
 refine Pure.of_body Tryd.func61 rfl rfl (Nat.le_of_ble_eq_true rfl) fun hf => ?_
 unfold Tryd.f61
 dsimp only [enumS, Nat.reduceAdd]
 refine AW.rgs rfl fun K hK => ?_
 refine mv rfl rfl ?_
 refine b_fin hK (s' := ⟨[(0, slE (eSl eInt) p0), (1, slE eInt p1)], []⟩) (le_q rfl rfl) ?_
 clear hK K
 refine AW.seq ?_
 refine AW.rgs rfl fun K hK => ?_
 refine mv rfl rfl ?_
 refine b_fin hK (s' := ⟨[(0, slE (eSl eInt) p0), (1, slE eInt p1), (5, HV.int .i64 0)], []⟩) (le_q rfl rfl) ?_
 clear hK K
 refine AW.lpR h (by first | exact up_then | exact up_to) (S := Int) (V := Unit) (fun a v => ⟨[(0, slE (eSl eInt) p0), (1, slE eInt p1), (5, HV.int .i64 a)], []⟩) ?_ (X := Unit) (W := Unit) (fun a v => ⟨[], []⟩) (fun a9 w10 h => ?_) (fun a1 w2 st3 h hr4=> ?_)
 ·exact to_le (s' := ⟨[(0, slE (eSl eInt) p0), (1, slE eInt p1), (5, HV.int .i64 0)], []⟩) (AS.le_of ⟨rfl, rfl, rfl, trivial⟩ trivial) ⟨(), rfl⟩
 ·refine AW.rgs rfl fun K hK => ?_
  refine mv rfl rfl ?_
  refine b_fin hK (s' := ⟨[(4, HV.int .i64 (-1))], []⟩) (le_q rfl rfl) ?_
  clear hK K
  refine AW.ret ?_
  have h := Option.some.inj h
  subst h
  exact ret_pure (hs := [HV.int .i64 (-1)]) (q := HV.int .i64 (-1)) (.inr rfl) (resT rfl rfl) rfl trivial
 ·refine AW.seq ?_
  refine AW.rgs rfl fun K hK => ?_
  refine mv rfl rfl ?_
  refine mv rfl rfl ?_
  refine bv rfl (v_lenF rfl rfl ty39 rfl) ?_
  refine bv rfl (v_bin rfl rfl b_lss) ?_
  refine b_fin hK (s' := ⟨[(0, slE (eSl eInt) p0), (1, slE eInt p1), (5, HV.int .i64 a1), (9, HV.bool (decide (a1 < ((p0).length : Int))))], []⟩) (le_q rfl rfl) ?_
  clear hK K
  refine AW.cond rfl (fun hc => ?_) (fun hc => ?_)
  ·have hc := of_decide_eq_true hc
   have h := ifT hc h
   refine AW.skip ?_
   refine AW.seq (AW.block ?_)
   refine AW.rgs rfl fun K hK => ?_
   refine mv rfl rfl ?_
   refine mv rfl rfl ?_
   obtain ⟨x5, h6, h⟩ := bS h
   refine bv rfl (v_idxF ty39 es39 rfl rfl (idx_lt h6)) ?_
   refine bv rfl (v_loadF ty30 rfl (l_cell (eSl eInt) h6 (o := 0) rfl rfl)) ?_
   refine mv rfl rfl ?_
   obtain ⟨x7, h8, h⟩ := bS h
   refine b_op rfl (o_call rfl rfl rfl rfl (ACallD.pure0 (w_ref12_Same h8)) ?_)
   refine b_fin hK (s' := ⟨[(0, slE (eSl eInt) p0), (1, slE eInt p1), (5, HV.int .i64 a1), (17, HV.bool x7)], []⟩) (le_q rfl rfl) ?_
   clear hK K
   refine AW.cond rfl (fun hc => ?_) (fun hc => ?_)
   ·have h := ifT hc h
    refine AW.rgs rfl fun K hK => ?_
    refine mv rfl rfl ?_
    refine mv rfl rfl ?_
    refine b_fin hK (s' := ⟨[(4, HV.int .i64 a1)], []⟩) (le_q rfl rfl) ?_
    clear hK K
    have h := hr4 _ h
    refine AW.ret ?_
    have h := Option.some.inj h
    subst h
    exact ret_pure (hs := [HV.int .i64 a1]) (q := HV.int .i64 a1) (.inr rfl) (resT rfl rfl) rfl trivial
   ·have h := ifF (bF' hc) h
    refine AW.skip ?_
    refine AW.rg rfl fun K hK => ?_
    refine mv rfl rfl ?_
    refine bv rfl (v_bin rfl rfl b_add) ?_
    refine mv rfl rfl ?_
    refine b_nil (hK _ ?_)
    clear hK K
    exact to_le (s' := ⟨[(0, slE (eSl eInt) p0), (1, slE eInt p1), (5, HV.int .i64 (IntKind.wrap .i64 (a1 + 1)))], []⟩) (AS.le_of ⟨rfl, rfl, rfl, trivial⟩ trivial) ⟨IntKind.wrap .i64 (a1 + 1), (), h, rfl⟩
  ·have hc := of_decide_eq_false hc
   have h := ifF hc h
   refine AW.exit ?_
   exact to_le (s' := ⟨[], []⟩) (AS.le_of trivial trivial) ⟨(), (), h, rfl⟩

end Go.AW

namespace Go.AW
open Go Go.Proofs
set_option linter.unusedVariables false
set_option maxHeartbeats 1600000 in
set_option maxRecDepth 100000 in
theorem w_ref12_sets {p0 : TLabelsStatesEdges} {p1 : List (Int)} {r : TLabelsStatesEdges × (List (List (Int))) × Bool} (h : m_ref12_sets p0 p1 = some r) : Pure Tryd.prog 44 [HV.agg [HV.int .i64 p0.1, HV.int .i64 p0.2.1, slE eFromLabelTo p0.2.2], slE eInt p1] (· = HV.tup [HV.agg [HV.int .i64 r.1.1, HV.int .i64 r.1.2.1, slE eFromLabelTo r.1.2.2], slE (eSl eInt) r.2.1, HV.bool r.2.2]) := by
 unfold m_ref12_sets at h
 refine Pure.of_body Tryd.func44 rfl rfl (Nat.le_of_ble_eq_true rfl) fun hf => ?_
 unfold Tryd.f44
 dsimp only [enumS, Nat.reduceAdd]
 refine AW.rgs rfl fun K hK => ?_
 refine b_op rfl (o_box rfl rfl rfl ?_)
 refine b_op rfl (o_alloc (fid := 44) (zs := [HV.int .i64 0, HV.int .i64 0, HV.v (.slice none 0 0)]) 44004 rfl rfl ty24 rfl (fun v1 => ?_))
 refine mv rfl rfl ?_
 refine mv rfl rfl ?_
 refine b_fin hK (s' := ⟨[(1, slE eInt p1), (2, HV.fptr [HV.int .i64 p0.1, HV.int .i64 p0.2.1, slE eFromLabelTo p0.2.2] 0), (4, HV.ptr 44004 v1 0)], [(44004, v1, .arr 3 24 [HV.int .i64 0, HV.int .i64 0, HV.v (.slice none 0 0)])]⟩) (le_q rfl rfl) ?_
 clear hK K
 refine AW.rgs rfl fun K hK => ?_
 refine bv rfl (v_fieldAddrF fo24_0 rfl) ?_
 refine bv rfl (v_loadF ty3 rfl (l_lit rfl rfl)) ?_
 refine b_op rfl (o_build (cs := [HV.int .i64 p0.1, HV.int .i64 0, HV.v (.slice none 0 0)]) rfl (bl_of ty24 rfl rfl rfl rfl) ?_)
 refine b_op rfl (o_alloc (fid := 44) (zs := [HV.int .i64 0, HV.int .i64 0, HV.v (.slice none 0 0)]) 44007 rfl rfl ty24 rfl (fun v2 => ?_))
 refine b_op rfl (o_store (cs := [HV.int .i64 p0.1, HV.int .i64 0, HV.v (.slice none 0 0)]) (zs := [HV.int .i64 p0.1, HV.int .i64 0, HV.v (.slice none 0 0)]) rfl rfl rfl ty24 rfl rfl rfl rfl rfl ?_)
 refine b_fin hK (s' := ⟨[(1, slE eInt p1), (2, HV.fptr [HV.int .i64 p0.1, HV.int .i64 p0.2.1, slE eFromLabelTo p0.2.2] 0), (4, HV.ptr 44004 v1 0), (7, HV.ptr 44007 v2 0)], [(44004, v1, .arr 3 24 [HV.int .i64 0, HV.int .i64 0, HV.v (.slice none 0 0)]), (44007, v2, .arr 3 24 [HV.int .i64 p0.1, HV.int .i64 0, HV.v (.slice none 0 0)])]⟩) (le_q rfl rfl) ?_
 clear hK K
 refine AW.rgs rfl fun K hK => ?_
 refine mv rfl rfl ?_
 refine b_op rfl (o_bslM (fid := 44) 44018 rfl rfl rfl (as_of (cs := [slE eInt p1]) ty39 ty30 rfl rfl rfl rfl rfl) (fun v3 => ?_))
 refine mv rfl rfl ?_
 refine b_fin hK (s' := ⟨[(2, HV.fptr [HV.int .i64 p0.1, HV.int .i64 p0.2.1, slE eFromLabelTo p0.2.2] 0), (4, HV.ptr 44004 v1 0), (7, HV.ptr 44007 v2 0), (8, HV.ar 44018 v3 (eSl eInt).k 0 (([p1]).length))], [(44004, v1, .arr 3 24 [HV.int .i64 0, HV.int .i64 0, HV.v (.slice none 0 0)]), (44007, v2, .arr 3 24 [HV.int .i64 p0.1, HV.int .i64 0, HV.v (.slice none 0 0)]), (44018, v3, .arr (eSl eInt).k 30 ((eSl eInt).E [p1]))]⟩) (le_q rfl rfl) ?_
 clear hK K
 refine AW.seq ?_
 refine AW.rgs rfl fun K hK => ?_
 refine mv rfl rfl ?_
 refine b_fin hK (s' := ⟨[(2, HV.fptr [HV.int .i64 p0.1, HV.int .i64 p0.2.1, slE eFromLabelTo p0.2.2] 0), (4, HV.ptr 44004 v1 0), (7, HV.ptr 44007 v2 0), (8, HV.ar 44018 v3 (eSl eInt).k 0 (([p1]).length)), (9, HV.int .i64 0)], [(44004, v1, .arr 3 24 [HV.int .i64 0, HV.int .i64 0, HV.v (.slice none 0 0)]), (44007, v2, .arr 3 24 [HV.int .i64 p0.1, HV.int .i64 0, HV.v (.slice none 0 0)]), (44018, v3, .arr (eSl eInt).k 30 ((eSl eInt).E [p1]))]⟩) (le_q rfl rfl) ?_
 clear hK K
 refine AW.lpR h (by first | exact up_then | exact up_to) (S := Int × (List (List (Int))) × (List TFromLabelTo)) (V := Nat × Nat) (fun a v => ⟨[(2, HV.fptr [HV.int .i64 p0.1, HV.int .i64 p0.2.1, slE eFromLabelTo p0.2.2] 0), (4, HV.ptr 44004 v1 0), (7, HV.ptr 44007 v2 0), (8, HV.ar 44018 v.1 (eSl eInt).k 0 ((a.2.1).length)), (9, HV.int .i64 a.1)], [(44004, v1, .arr 3 24 [HV.int .i64 0, HV.int .i64 0, HV.v (.slice none 0 0)]), (44007, v2, .arr 3 24 [HV.int .i64 p0.1, HV.int .i64 0, HV.ar 44062 v.2 eFromLabelTo.k 0 ((a.2.2).length)]), (44018, v.1, .arr (eSl eInt).k 30 ((eSl eInt).E a.2.1)), (44062, v.2, .arr eFromLabelTo.k 49 (eFromLabelTo.E a.2.2))]⟩) ?_ (X := (List (List (Int))) × (List TFromLabelTo)) (W := Nat × Nat) (fun a v => ⟨[(4, HV.ptr 44004 v1 0), (7, HV.ptr 44007 v2 0), (8, HV.ar 44018 v.1 (eSl eInt).k 0 ((a.1).length))], [(44004, v1, .arr 3 24 [HV.int .i64 0, HV.int .i64 0, HV.v (.slice none 0 0)]), (44007, v2, .arr 3 24 [HV.int .i64 p0.1, HV.int .i64 0, HV.ar 44062 v.2 eFromLabelTo.k 0 ((a.2).length)]), (44018, v.1, .arr (eSl eInt).k 30 ((eSl eInt).E a.1)), (44062, v.2, .arr eFromLabelTo.k 49 (eFromLabelTo.E a.2))]⟩) (fun a37 w38 h => ?_) (fun a4 w5 st6 h hr7=> ?_)
 ·refine to_bind (to_ownC 44062 44007 v2 3 2 eFromLabelTo.k 49 24 rfl rfl (by decide) fun v36 => ?_)
  exact to_le (s' := ⟨[(2, HV.fptr [HV.int .i64 p0.1, HV.int .i64 p0.2.1, slE eFromLabelTo p0.2.2] 0), (4, HV.ptr 44004 v1 0), (7, HV.ptr 44007 v2 0), (8, HV.ar 44018 v3 (eSl eInt).k 0 (([p1]).length)), (9, HV.int .i64 0)], [(44004, v1, .arr 3 24 [HV.int .i64 0, HV.int .i64 0, HV.v (.slice none 0 0)]), (44007, v2, .arr 3 24 [HV.int .i64 p0.1, HV.int .i64 0, HV.ar 44062 v36 eFromLabelTo.k 0 ((([] : List TFromLabelTo)).length)]), (44018, v3, .arr (eSl eInt).k 30 ((eSl eInt).E [p1])), (44062, v36, .arr eFromLabelTo.k 49 (eFromLabelTo.E ([] : List TFromLabelTo)))]⟩) (AS.le_of ⟨rfl, rfl, rfl, rfl, rfl, trivial⟩ ⟨rfl, hle rfl (by first | rfl | simp only [List.length_set, sortI_len, sortS_len]), rfl, rfl, trivial⟩) ⟨(v3, v36), rfl⟩
 ·refine AW.rgs rfl fun K hK => ?_
  refine mv rfl rfl ?_
  refine bv rfl (v_lenA rfl rfl ty39 rfl rfl) ?_
  refine bv rfl (v_fieldAddrP fo24_1 rfl rfl) ?_
  refine b_op rfl (o_store (cs := [HV.int .i64 (((a37.1).length : Nat) : Int)]) (zs := [HV.int .i64 p0.1, HV.int .i64 (((a37.1).length : Nat) : Int), HV.ar 44062 w38.2 eFromLabelTo.k 0 ((a37.2).length)]) rfl rfl rfl ty3 rfl rfl rfl rfl rfl ?_)
  refine b_fin hK (s' := ⟨[(4, HV.ptr 44004 v1 0), (7, HV.ptr 44007 v2 0), (8, HV.ar 44018 w38.1 (eSl eInt).k 0 ((a37.1).length))], [(44004, v1, .arr 3 24 [HV.int .i64 0, HV.int .i64 0, HV.v (.slice none 0 0)]), (44007, v2, .arr 3 24 [HV.int .i64 p0.1, HV.int .i64 (((a37.1).length : Nat) : Int), HV.ar 44062 w38.2 eFromLabelTo.k 0 ((a37.2).length)]), (44018, w38.1, .arr (eSl eInt).k 30 ((eSl eInt).E a37.1)), (44062, w38.2, .arr eFromLabelTo.k 49 (eFromLabelTo.E a37.2))]⟩) (le_q rfl rfl) ?_
  clear hK K
  refine AW.rgs rfl fun K hK => ?_
  refine bv rfl (v_loadP ty24 rfl rfl (l_litA rfl (Nat.le_of_ble_eq_true rfl) rfl)) ?_
  refine mv rfl rfl ?_
  refine b_op rfl (o_store (cs := [HV.int .i64 p0.1, HV.int .i64 (((a37.1).length : Nat) : Int), HV.ar 44062 w38.2 eFromLabelTo.k 0 ((a37.2).length)]) (zs := [HV.int .i64 p0.1, HV.int .i64 (((a37.1).length : Nat) : Int), HV.ar 44062 w38.2 eFromLabelTo.k 0 ((a37.2).length)]) rfl rfl rfl ty24 rfl rfl rfl rfl rfl ?_)
  refine mv rfl rfl ?_
  refine mv rfl rfl ?_
  refine b_fin hK (s' := ⟨[(4, HV.ptr 44004 v1 0), (5, HV.ar 44018 w38.1 (eSl eInt).k 0 ((a37.1).length)), (6, HV.bool true)], [(44004, v1, .arr 3 24 [HV.int .i64 p0.1, HV.int .i64 (((a37.1).length : Nat) : Int), HV.ar 44062 w38.2 eFromLabelTo.k 0 ((a37.2).length)]), (44018, w38.1, .arr (eSl eInt).k 30 ((eSl eInt).E a37.1)), (44062, w38.2, .arr eFromLabelTo.k 49 (eFromLabelTo.E a37.2))]⟩) (le_q rfl rfl) ?_
  clear hK K
  refine AW.to (to_frz 2 [(44018, w38.1, .arr (eSl eInt).k 30 ((eSl eInt).E a37.1))] ⟨[(4, HV.ptr 44004 v1 0), (5, slE (eSl eInt) a37.1), (6, HV.bool true)], [(44004, v1, .arr 3 24 [HV.int .i64 p0.1, HV.int .i64 (((a37.1).length : Nat) : Int), HV.ar 44062 w38.2 eFromLabelTo.k 0 ((a37.2).length)]), (44062, w38.2, .arr eFromLabelTo.k 49 (eFromLabelTo.E a37.2))]⟩ ⟨⟨_, rfl, rfl⟩, ⟨_, rfl, frz_slE (eSl eInt) (l := a37.1) rfl fun _ _ => rfl⟩, ⟨_, rfl, rfl⟩, trivial⟩ ⟨rfl, rfl, trivial⟩ ⟨rfl, trivial⟩ ⟨rfl, trivial⟩ ?_)
  refine AW.to (to_fill 2 [(44062, w38.2, .arr eFromLabelTo.k 49 (eFromLabelTo.E a37.2))] ⟨[(4, HV.ptr 44004 v1 0), (5, slE (eSl eInt) a37.1), (6, HV.bool true)], [(44004, v1, .arr 3 24 [HV.int .i64 p0.1, HV.int .i64 (((a37.1).length : Nat) : Int), slE eFromLabelTo a37.2])]⟩ ⟨⟨_, rfl, rfl⟩, ⟨_, rfl, rfl⟩, ⟨_, rfl, rfl⟩, trivial⟩ ⟨.inr ⟨_, _, _, rfl, congrArg (AObj.arr 3 24) (congrArg (fun z : HV => [HV.int .i64 p0.1, HV.int .i64 (((a37.1).length : Nat) : Int), z]) (frz_slE eFromLabelTo (D := [(44062, w38.2, .arr eFromLabelTo.k 49 (eFromLabelTo.E a37.2))]) (l := a37.2) rfl fun _ _ => rfl).symm)⟩, trivial⟩ ⟨rfl, trivial⟩ ⟨rfl, trivial⟩ ?_)
  refine AW.ret ?_
  have h := Option.some.inj h
  subst h
  exact ret_pure (hs := [HV.agg [HV.int .i64 p0.1, HV.int .i64 (((a37.1).length : Nat) : Int), slE eFromLabelTo a37.2], slE (eSl eInt) a37.1, HV.bool true]) (q := HV.tup [HV.agg [HV.int .i64 p0.1, HV.int .i64 (((a37.1).length : Nat) : Int), slE eFromLabelTo a37.2], slE (eSl eInt) a37.1, HV.bool true]) (.inr rfl) (resP ty24 rfl rfl (l_litA rfl (Nat.le_of_ble_eq_true rfl) rfl) (resT rfl (resT rfl rfl))) rfl ⟨⟨trivial, trivial, (clean_slE fun _ _ => ⟨trivial, trivial, trivial, trivial⟩), trivial⟩, (clean_slE fun _ _ => ⟨(clean_slE fun _ _ => ⟨trivial, trivial⟩), trivial⟩), trivial, trivial⟩
 ·refine AW.seq ?_
  refine AW.rgs rfl fun K hK => ?_
  refine mv rfl rfl ?_
  refine mv rfl rfl ?_
  refine bv rfl (v_lenA rfl rfl ty39 rfl rfl) ?_
  refine bv rfl (v_bin rfl rfl b_lss) ?_
  refine b_fin hK (s' := ⟨[(2, HV.fptr [HV.int .i64 p0.1, HV.int .i64 p0.2.1, slE eFromLabelTo p0.2.2] 0), (4, HV.ptr 44004 v1 0), (7, HV.ptr 44007 v2 0), (8, HV.ar 44018 w5.1 (eSl eInt).k 0 ((a4.2.1).length)), (9, HV.int .i64 a4.1), (22, HV.bool (decide (a4.1 < (((a4.2.1).length : Nat) : Int))))], [(44004, v1, .arr 3 24 [HV.int .i64 0, HV.int .i64 0, HV.v (.slice none 0 0)]), (44007, v2, .arr 3 24 [HV.int .i64 p0.1, HV.int .i64 0, HV.ar 44062 w5.2 eFromLabelTo.k 0 ((a4.2.2).length)]), (44018, w5.1, .arr (eSl eInt).k 30 ((eSl eInt).E a4.2.1)), (44062, w5.2, .arr eFromLabelTo.k 49 (eFromLabelTo.E a4.2.2))]⟩) (le_q rfl rfl) ?_
  clear hK K
  refine AW.cond rfl (fun hc => ?_) (fun hc => ?_)
  ·have hc := of_decide_eq_true hc
   have h := ifT hc h
   refine AW.skip ?_
   refine AW.seq (AW.block ?_)
   refine AW.rgs rfl fun K hK => ?_
   refine mv rfl rfl ?_
   refine b_fin hK (s' := ⟨[(2, HV.fptr [HV.int .i64 p0.1, HV.int .i64 p0.2.1, slE eFromLabelTo p0.2.2] 0), (4, HV.ptr 44004 v1 0), (7, HV.ptr 44007 v2 0), (8, HV.ar 44018 w5.1 (eSl eInt).k 0 ((a4.2.1).length)), (9, HV.int .i64 a4.1), (10, HV.int .i64 0)], [(44004, v1, .arr 3 24 [HV.int .i64 0, HV.int .i64 0, HV.v (.slice none 0 0)]), (44007, v2, .arr 3 24 [HV.int .i64 p0.1, HV.int .i64 0, HV.ar 44062 w5.2 eFromLabelTo.k 0 ((a4.2.2).length)]), (44018, w5.1, .arr (eSl eInt).k 30 ((eSl eInt).E a4.2.1)), (44062, w5.2, .arr eFromLabelTo.k 49 (eFromLabelTo.E a4.2.2))]⟩) (le_q rfl rfl) ?_
   clear hK K
   refine AW.lpR h (by first | exact up_then | exact up_to) (S := Int × (List (List (Int))) × (List TFromLabelTo)) (V := Nat × Nat) (fun a v => ⟨[(2, HV.fptr [HV.int .i64 p0.1, HV.int .i64 p0.2.1, slE eFromLabelTo p0.2.2] 0), (4, HV.ptr 44004 v1 0), (7, HV.ptr 44007 v2 0), (8, HV.ar 44018 v.1 (eSl eInt).k 0 ((a.2.1).length)), (9, HV.int .i64 a4.1), (10, HV.int .i64 a.1)], [(44004, v1, .arr 3 24 [HV.int .i64 0, HV.int .i64 0, HV.v (.slice none 0 0)]), (44007, v2, .arr 3 24 [HV.int .i64 p0.1, HV.int .i64 0, HV.ar 44062 v.2 eFromLabelTo.k 0 ((a.2.2).length)]), (44018, v.1, .arr (eSl eInt).k 30 ((eSl eInt).E a.2.1)), (44062, v.2, .arr eFromLabelTo.k 49 (eFromLabelTo.E a.2.2))]⟩) ?_ (X := (List (List (Int))) × (List TFromLabelTo)) (W := Nat × Nat) (fun a v => ⟨[(2, HV.fptr [HV.int .i64 p0.1, HV.int .i64 p0.2.1, slE eFromLabelTo p0.2.2] 0), (4, HV.ptr 44004 v1 0), (7, HV.ptr 44007 v2 0), (8, HV.ar 44018 v.1 (eSl eInt).k 0 ((a.1).length)), (9, HV.int .i64 a4.1)], [(44004, v1, .arr 3 24 [HV.int .i64 0, HV.int .i64 0, HV.v (.slice none 0 0)]), (44007, v2, .arr 3 24 [HV.int .i64 p0.1, HV.int .i64 0, HV.ar 44062 v.2 eFromLabelTo.k 0 ((a.2).length)]), (44018, v.1, .arr (eSl eInt).k 30 ((eSl eInt).E a.1)), (44062, v.2, .arr eFromLabelTo.k 49 (eFromLabelTo.E a.2))]⟩) (fun a34 w35 h => ?_) (fun a8 w9 st10 h hr11=> ?_)
   ·exact to_le (s' := ⟨[(2, HV.fptr [HV.int .i64 p0.1, HV.int .i64 p0.2.1, slE eFromLabelTo p0.2.2] 0), (4, HV.ptr 44004 v1 0), (7, HV.ptr 44007 v2 0), (8, HV.ar 44018 w5.1 (eSl eInt).k 0 ((a4.2.1).length)), (9, HV.int .i64 a4.1), (10, HV.int .i64 0)], [(44004, v1, .arr 3 24 [HV.int .i64 0, HV.int .i64 0, HV.v (.slice none 0 0)]), (44007, v2, .arr 3 24 [HV.int .i64 p0.1, HV.int .i64 0, HV.ar 44062 w5.2 eFromLabelTo.k 0 ((a4.2.2).length)]), (44018, w5.1, .arr (eSl eInt).k 30 ((eSl eInt).E a4.2.1)), (44062, w5.2, .arr eFromLabelTo.k 49 (eFromLabelTo.E a4.2.2))]⟩) (AS.le_of ⟨rfl, rfl, rfl, rfl, rfl, rfl, trivial⟩ ⟨rfl, rfl, rfl, rfl, trivial⟩) ⟨(w5.1, w5.2), rfl⟩
   ·refine AW.rg rfl fun K hK => ?_
    refine mv rfl rfl ?_
    refine bv rfl (v_bin rfl rfl b_add) ?_
    refine mv rfl rfl ?_
    refine b_nil (hK _ ?_)
    clear hK K
    exact to_le (s' := ⟨[(2, HV.fptr [HV.int .i64 p0.1, HV.int .i64 p0.2.1, slE eFromLabelTo p0.2.2] 0), (4, HV.ptr 44004 v1 0), (7, HV.ptr 44007 v2 0), (8, HV.ar 44018 w35.1 (eSl eInt).k 0 ((a34.1).length)), (9, HV.int .i64 (IntKind.wrap .i64 (a4.1 + 1)))], [(44004, v1, .arr 3 24 [HV.int .i64 0, HV.int .i64 0, HV.v (.slice none 0 0)]), (44007, v2, .arr 3 24 [HV.int .i64 p0.1, HV.int .i64 0, HV.ar 44062 w35.2 eFromLabelTo.k 0 ((a34.2).length)]), (44018, w35.1, .arr (eSl eInt).k 30 ((eSl eInt).E a34.1)), (44062, w35.2, .arr eFromLabelTo.k 49 (eFromLabelTo.E a34.2))]⟩) (AS.le_of ⟨rfl, rfl, rfl, rfl, rfl, trivial⟩ ⟨rfl, rfl, rfl, rfl, trivial⟩) ⟨(IntKind.wrap .i64 (a4.1 + 1), a34.1, a34.2), (w35.1, w35.2), h, rfl⟩
   ·refine AW.seq ?_
    refine AW.rgs rfl fun K hK => ?_
    refine mv rfl rfl ?_
    refine bv rfl (v_fieldAddrF fo24_0 rfl) ?_
    refine bv rfl (v_loadF ty3 rfl (l_lit rfl rfl)) ?_
    refine bv rfl (v_bin rfl rfl b_lss) ?_
    refine b_fin hK (s' := ⟨[(2, HV.fptr [HV.int .i64 p0.1, HV.int .i64 p0.2.1, slE eFromLabelTo p0.2.2] 0), (4, HV.ptr 44004 v1 0), (7, HV.ptr 44007 v2 0), (8, HV.ar 44018 w9.1 (eSl eInt).k 0 ((a8.2.1).length)), (9, HV.int .i64 a4.1), (10, HV.int .i64 a8.1), (28, HV.bool (decide (a8.1 < p0.1)))], [(44004, v1, .arr 3 24 [HV.int .i64 0, HV.int .i64 0, HV.v (.slice none 0 0)]), (44007, v2, .arr 3 24 [HV.int .i64 p0.1, HV.int .i64 0, HV.ar 44062 w9.2 eFromLabelTo.k 0 ((a8.2.2).length)]), (44018, w9.1, .arr (eSl eInt).k 30 ((eSl eInt).E a8.2.1)), (44062, w9.2, .arr eFromLabelTo.k 49 (eFromLabelTo.E a8.2.2))]⟩) (le_q rfl rfl) ?_
    clear hK K
    refine AW.cond rfl (fun hc => ?_) (fun hc => ?_)
    ·have hc := of_decide_eq_true hc
     have h := ifT hc h
     refine AW.skip ?_
     refine AW.seqJ h (S := (List (List (Int))) × (List TFromLabelTo)) (V := Nat × Nat) (fun a v => ⟨[(2, HV.fptr [HV.int .i64 p0.1, HV.int .i64 p0.2.1, slE eFromLabelTo p0.2.2] 0), (4, HV.ptr 44004 v1 0), (7, HV.ptr 44007 v2 0), (8, HV.ar 44018 v.1 (eSl eInt).k 0 ((a.1).length)), (9, HV.int .i64 a4.1), (10, HV.int .i64 a8.1)], [(44004, v1, .arr 3 24 [HV.int .i64 0, HV.int .i64 0, HV.v (.slice none 0 0)]), (44007, v2, .arr 3 24 [HV.int .i64 p0.1, HV.int .i64 0, HV.ar 44062 v.2 eFromLabelTo.k 0 ((a.2).length)]), (44018, v.1, .arr (eSl eInt).k 30 ((eSl eInt).E a.1)), (44062, v.2, .arr eFromLabelTo.k 49 (eFromLabelTo.E a.2))]⟩) (fun a12 w13 h => ?_) (fun k14 h => ?_)
     ·refine AW.rg rfl fun K hK => ?_
      refine mv rfl rfl ?_
      refine bv rfl (v_bin rfl rfl b_add) ?_
      refine mv rfl rfl ?_
      refine b_nil (hK _ ?_)
      clear hK K
      exact to_le (s' := ⟨[(2, HV.fptr [HV.int .i64 p0.1, HV.int .i64 p0.2.1, slE eFromLabelTo p0.2.2] 0), (4, HV.ptr 44004 v1 0), (7, HV.ptr 44007 v2 0), (8, HV.ar 44018 w13.1 (eSl eInt).k 0 ((a12.1).length)), (9, HV.int .i64 a4.1), (10, HV.int .i64 (IntKind.wrap .i64 (a8.1 + 1)))], [(44004, v1, .arr 3 24 [HV.int .i64 0, HV.int .i64 0, HV.v (.slice none 0 0)]), (44007, v2, .arr 3 24 [HV.int .i64 p0.1, HV.int .i64 0, HV.ar 44062 w13.2 eFromLabelTo.k 0 ((a12.2).length)]), (44018, w13.1, .arr (eSl eInt).k 30 ((eSl eInt).E a12.1)), (44062, w13.2, .arr eFromLabelTo.k 49 (eFromLabelTo.E a12.2))]⟩) (AS.le_of ⟨rfl, rfl, rfl, rfl, rfl, rfl, trivial⟩ ⟨rfl, rfl, rfl, rfl, trivial⟩) ⟨(IntKind.wrap .i64 (a8.1 + 1), a12.1, a12.2), (w13.1, w13.2), h, rfl⟩
     ·refine AW.block ?_
      refine AW.dgs 12 follows rfl rfl fun K hK => ?_
      refine sv rfl (v_loadF ty24 rfl (l_litA rfl (Nat.le_of_ble_eq_true rfl) rfl)) ?_
      refine sm rfl rfl ?_
      refine sm rfl rfl ?_
      obtain ⟨x15, h16, h⟩ := bS h
      refine sv rfl (v_idxA ty39 es39 rfl rfl (idx_lt h16) rfl) ?_
      obtain ⟨x17, h18, h⟩ := bS h
      refine sv rfl (v_loadP ty30 rfl rfl (l_cell (eSl eInt) h18 (o := 0) rfl rfl)) ?_
      refine sm rfl rfl ?_
      obtain ⟨x19, h20, h⟩ := bS h
      refine s_op rfl rfl (ops_call rfl rfl rfl rfl (ACallD.pure0 (w_ref09_Step h20)) ?_)
      refine sm rfl rfl ?_
      refine sv rfl (v_extract rfl rfl) ?_
      refine sv rfl (v_extract rfl rfl) ?_
      refine sm rfl rfl ?_
      refine sm rfl rfl ?_
      refine s_nil ?_
      refine b_fin hK (s' := ⟨[(2, HV.fptr [HV.int .i64 p0.1, HV.int .i64 p0.2.1, slE eFromLabelTo p0.2.2] 0), (4, HV.ptr 44004 v1 0), (7, HV.ptr 44007 v2 0), (8, HV.ar 44018 w9.1 (eSl eInt).k 0 ((a8.2.1).length)), (9, HV.int .i64 a4.1), (10, HV.int .i64 a8.1), (11, slE eInt x19.1)], [(44004, v1, .arr 3 24 [HV.int .i64 0, HV.int .i64 0, HV.v (.slice none 0 0)]), (44007, v2, .arr 3 24 [HV.int .i64 p0.1, HV.int .i64 0, HV.ar 44062 w9.2 eFromLabelTo.k 0 ((a8.2.2).length)]), (44018, w9.1, .arr (eSl eInt).k 30 ((eSl eInt).E a8.2.1)), (44062, w9.2, .arr eFromLabelTo.k 49 (eFromLabelTo.E a8.2.2))]⟩) (le_q rfl rfl) ?_
      clear hK K
      refine AW.seq ?_
      refine AW.rgs rfl fun K hK => ?_
      refine mv rfl rfl ?_
      refine bv rfl (v_lenF rfl rfl ty30 rfl) ?_
      refine bv rfl (v_bin rfl rfl b_eql) ?_
      refine b_fin hK (s' := ⟨[(2, HV.fptr [HV.int .i64 p0.1, HV.int .i64 p0.2.1, slE eFromLabelTo p0.2.2] 0), (4, HV.ptr 44004 v1 0), (7, HV.ptr 44007 v2 0), (8, HV.ar 44018 w9.1 (eSl eInt).k 0 ((a8.2.1).length)), (9, HV.int .i64 a4.1), (10, HV.int .i64 a8.1), (11, slE eInt x19.1), (43, HV.bool (decide (((x19.1).length : Int) = 0)))], [(44004, v1, .arr 3 24 [HV.int .i64 0, HV.int .i64 0, HV.v (.slice none 0 0)]), (44007, v2, .arr 3 24 [HV.int .i64 p0.1, HV.int .i64 0, HV.ar 44062 w9.2 eFromLabelTo.k 0 ((a8.2.2).length)]), (44018, w9.1, .arr (eSl eInt).k 30 ((eSl eInt).E a8.2.1)), (44062, w9.2, .arr eFromLabelTo.k 49 (eFromLabelTo.E a8.2.2))]⟩) (le_q rfl rfl) ?_
      clear hK K
      refine AW.cond rfl (fun hc => ?_) (fun hc => ?_)
      ·have hc := of_decide_eq_true hc
       have h := ifT hc h
       refine AW.exit ?_
       exact to_le (s' := ⟨[(2, HV.fptr [HV.int .i64 p0.1, HV.int .i64 p0.2.1, slE eFromLabelTo p0.2.2] 0), (4, HV.ptr 44004 v1 0), (7, HV.ptr 44007 v2 0), (8, HV.ar 44018 w9.1 (eSl eInt).k 0 ((a8.2.1).length)), (9, HV.int .i64 a4.1), (10, HV.int .i64 a8.1)], [(44004, v1, .arr 3 24 [HV.int .i64 0, HV.int .i64 0, HV.v (.slice none 0 0)]), (44007, v2, .arr 3 24 [HV.int .i64 p0.1, HV.int .i64 0, HV.ar 44062 w9.2 eFromLabelTo.k 0 ((a8.2.2).length)]), (44018, w9.1, .arr (eSl eInt).k 30 ((eSl eInt).E a8.2.1)), (44062, w9.2, .arr eFromLabelTo.k 49 (eFromLabelTo.E a8.2.2))]⟩) (AS.le_of ⟨rfl, rfl, rfl, rfl, rfl, rfl, trivial⟩ ⟨rfl, rfl, rfl, rfl, trivial⟩) ⟨(a8.2.1, a8.2.2), (w9.1, w9.2), h, rfl⟩
      ·have hc := of_decide_eq_false hc
       have h := ifF hc h
       refine AW.skip ?_
       refine AW.rgs rfl fun K hK => ?_
       refine mv rfl rfl ?_
       refine mv rfl rfl ?_
       obtain ⟨x21, h22, h⟩ := bS h
       refine b_op rfl (o_call rfl rfl rfl rfl (((w_ref12_index h22).fresh (by simp only [clean, cleanL, and_self]) rfl).callD 2 (mc (frz_slE (eSl eInt) (l := a8.2.1) rfl fun _ _ => rfl) (mc rfl rfl))) ?_)
       refine mv rfl rfl ?_
       refine b_fin hK (s' := ⟨[(2, HV.fptr [HV.int .i64 p0.1, HV.int .i64 p0.2.1, slE eFromLabelTo p0.2.2] 0), (4, HV.ptr 44004 v1 0), (7, HV.ptr 44007 v2 0), (8, HV.ar 44018 w9.1 (eSl eInt).k 0 ((a8.2.1).length)), (9, HV.int .i64 a4.1), (10, HV.int .i64 a8.1), (11, slE eInt x19.1), (13, HV.int .i64 x21)], [(44004, v1, .arr 3 24 [HV.int .i64 0, HV.int .i64 0, HV.v (.slice none 0 0)]), (44007, v2, .arr 3 24 [HV.int .i64 p0.1, HV.int .i64 0, HV.ar 44062 w9.2 eFromLabelTo.k 0 ((a8.2.2).length)]), (44018, w9.1, .arr (eSl eInt).k 30 ((eSl eInt).E a8.2.1)), (44062, w9.2, .arr eFromLabelTo.k 49 (eFromLabelTo.E a8.2.2))]⟩) (le_q rfl rfl) ?_
       clear hK K
       refine AW.seq ?_
       refine AW.rgs rfl fun K hK => ?_
       refine mv rfl rfl ?_
       refine bv rfl (v_bin rfl rfl b_eql) ?_
       refine b_fin hK (s' := ⟨[(2, HV.fptr [HV.int .i64 p0.1, HV.int .i64 p0.2.1, slE eFromLabelTo p0.2.2] 0), (4, HV.ptr 44004 v1 0), (7, HV.ptr 44007 v2 0), (8, HV.ar 44018 w9.1 (eSl eInt).k 0 ((a8.2.1).length)), (9, HV.int .i64 a4.1), (10, HV.int .i64 a8.1), (11, slE eInt x19.1), (13, HV.int .i64 x21), (48, HV.bool (decide (x21 = (-1))))], [(44004, v1, .arr 3 24 [HV.int .i64 0, HV.int .i64 0, HV.v (.slice none 0 0)]), (44007, v2, .arr 3 24 [HV.int .i64 p0.1, HV.int .i64 0, HV.ar 44062 w9.2 eFromLabelTo.k 0 ((a8.2.2).length)]), (44018, w9.1, .arr (eSl eInt).k 30 ((eSl eInt).E a8.2.1)), (44062, w9.2, .arr eFromLabelTo.k 49 (eFromLabelTo.E a8.2.2))]⟩) (le_q rfl rfl) ?_
       clear hK K
       refine AW.lastJ h (by first | exact up_then | exact up_to) (S := Int × (List (List (Int)))) (V := Nat) (fun a v => ⟨[(2, HV.fptr [HV.int .i64 p0.1, HV.int .i64 p0.2.1, slE eFromLabelTo p0.2.2] 0), (4, HV.ptr 44004 v1 0), (7, HV.ptr 44007 v2 0), (8, HV.ar 44018 v (eSl eInt).k 0 ((a.2).length)), (9, HV.int .i64 a4.1), (10, HV.int .i64 a8.1), (13, HV.int .i64 a.1)], [(44004, v1, .arr 3 24 [HV.int .i64 0, HV.int .i64 0, HV.v (.slice none 0 0)]), (44007, v2, .arr 3 24 [HV.int .i64 p0.1, HV.int .i64 0, HV.ar 44062 w9.2 eFromLabelTo.k 0 ((a8.2.2).length)]), (44018, v, .arr (eSl eInt).k 30 ((eSl eInt).E a.2)), (44062, w9.2, .arr eFromLabelTo.k 49 (eFromLabelTo.E a8.2.2))]⟩) (fun a23 w24 h => ?_) (fun k25 h => ?_)
       ·refine AW.rgs rfl fun K hK => ?_
        refine bv rfl (v_fieldAddrP fo24_2 rfl rfl) ?_
        refine bv rfl (v_loadP ty22 rfl rfl (l_lit rfl rfl)) ?_
        refine mv rfl rfl ?_
        refine mv rfl rfl ?_
        refine mv rfl rfl ?_
        refine b_op rfl (o_build (cs := [HV.int .i64 a4.1, HV.int .i64 a8.1, HV.int .i64 a23.1]) rfl (bl_of ty49 rfl rfl rfl rfl) ?_)
        refine b_op rfl (o_bsl rfl rfl (as_of (cs := [HV.int .i64 a4.1, HV.int .i64 a8.1, HV.int .i64 a23.1]) ty22 ty49 rfl rfl rfl rfl rfl) ?_)
        obtain ⟨h27, h⟩ := ifN h
        refine b_op rfl (o_appE eFromLabelTo (l := a8.2.2) (m := [(a4.1, a8.1, a23.1)]) rfl rfl ty22 ty22 ty49 rfl rfl rfl rfl rfl h27 (fun v26 => ?_))
        refine bv rfl (v_fieldAddrP fo24_2 rfl rfl) ?_
        refine b_op rfl (o_store (cs := [HV.ar 44062 v26 eFromLabelTo.k 0 ((a8.2.2 ++ [(a4.1, a8.1, a23.1)]).length)]) (zs := [HV.int .i64 p0.1, HV.int .i64 0, HV.ar 44062 v26 eFromLabelTo.k 0 ((a8.2.2 ++ [(a4.1, a8.1, a23.1)]).length)]) rfl rfl rfl ty22 rfl rfl rfl rfl rfl ?_)
        refine b_fin hK (s' := ⟨[(2, HV.fptr [HV.int .i64 p0.1, HV.int .i64 p0.2.1, slE eFromLabelTo p0.2.2] 0), (4, HV.ptr 44004 v1 0), (7, HV.ptr 44007 v2 0), (8, HV.ar 44018 w24 (eSl eInt).k 0 ((a23.2).length)), (9, HV.int .i64 a4.1), (10, HV.int .i64 a8.1)], [(44004, v1, .arr 3 24 [HV.int .i64 0, HV.int .i64 0, HV.v (.slice none 0 0)]), (44007, v2, .arr 3 24 [HV.int .i64 p0.1, HV.int .i64 0, HV.ar 44062 v26 eFromLabelTo.k 0 ((a8.2.2 ++ [(a4.1, a8.1, a23.1)]).length)]), (44018, w24, .arr (eSl eInt).k 30 ((eSl eInt).E a23.2)), (44062, v26, .arr eFromLabelTo.k 49 (eFromLabelTo.E (a8.2.2 ++ [(a4.1, a8.1, a23.1)])))]⟩) (le_q rfl rfl) ?_
        clear hK K
        refine AW.seqJ h (S := Bool) (V := Unit) (fun a v => ⟨[(2, HV.fptr [HV.int .i64 p0.1, HV.int .i64 p0.2.1, slE eFromLabelTo p0.2.2] 0), (4, HV.ptr 44004 v1 0), (7, HV.ptr 44007 v2 0), (8, HV.ar 44018 w24 (eSl eInt).k 0 ((a23.2).length)), (9, HV.int .i64 a4.1), (10, HV.int .i64 a8.1), (72, HV.bool a)], [(44004, v1, .arr 3 24 [HV.int .i64 0, HV.int .i64 0, HV.v (.slice none 0 0)]), (44007, v2, .arr 3 24 [HV.int .i64 p0.1, HV.int .i64 0, HV.ar 44062 v26 eFromLabelTo.k 0 ((a8.2.2 ++ [(a4.1, a8.1, a23.1)]).length)]), (44018, w24, .arr (eSl eInt).k 30 ((eSl eInt).E a23.2)), (44062, v26, .arr eFromLabelTo.k 49 (eFromLabelTo.E (a8.2.2 ++ [(a4.1, a8.1, a23.1)])))]⟩) (fun a28 w29 h => ?_) (fun k30 h => ?_)
        ·refine AW.cond rfl (fun hc => ?_) (fun hc => ?_)
         ·have h := ifT hc h
          refine AW.rgs rfl fun K hK => ?_
          refine b_op rfl (o_build (cs := [HV.int .i64 0, HV.int .i64 0, HV.v (.slice none 0 0)]) rfl (bl_of ty24 rfl rfl rfl rfl) ?_)
          refine b_op rfl (o_store (cs := [HV.int .i64 0, HV.int .i64 0, HV.v (.slice none 0 0)]) (zs := [HV.int .i64 0, HV.int .i64 0, HV.v (.slice none 0 0)]) rfl rfl rfl ty24 rfl rfl rfl rfl rfl ?_)
          refine mv rfl rfl ?_
          refine mv rfl rfl ?_
          refine b_fin hK (s' := ⟨[(4, HV.ptr 44004 v1 0), (5, HV.v (.slice none 0 0)), (6, HV.bool false)], [(44004, v1, .arr 3 24 [HV.int .i64 0, HV.int .i64 0, HV.v (.slice none 0 0)])]⟩) (le_q rfl rfl) ?_
          clear hK K
          have h := hr11 _ h
          have h := hr7 _ h
          refine AW.to (to_weak ⟨[(4, HV.ptr 44004 v1 0), (5, slE (eSl eInt) ([] : List (List (Int)))), (6, HV.bool false)], [(44004, v1, .arr 3 24 [HV.int .i64 0, HV.int .i64 0, HV.v (.slice none 0 0)])]⟩ ⟨⟨_, rfl, .refl _⟩, ⟨_, rfl, .nil _⟩, ⟨_, rfl, .refl _⟩, trivial⟩ ⟨rfl, trivial⟩ ?_)
          refine AW.to (to_cells 44004 v1 (ds := [HV.int .i64 0, HV.int .i64 0, slE eFromLabelTo ([] : List TFromLabelTo)]) rfl (.cons (.refl _) <| .cons (.refl _) <| .cons (.nil _) <| .nil) ?_)
          refine AW.ret ?_
          have h := Option.some.inj h
          subst h
          exact ret_pure (hs := [HV.agg [HV.int .i64 0, HV.int .i64 0, slE eFromLabelTo ([] : List TFromLabelTo)], slE (eSl eInt) ([] : List (List (Int))), HV.bool false]) (q := HV.tup [HV.agg [HV.int .i64 0, HV.int .i64 0, slE eFromLabelTo ([] : List TFromLabelTo)], slE (eSl eInt) ([] : List (List (Int))), HV.bool false]) (.inr rfl) (resP ty24 rfl rfl (l_litA rfl (Nat.le_of_ble_eq_true rfl) rfl) (resT rfl (resT rfl rfl))) rfl ⟨⟨trivial, trivial, (clean_slE fun _ _ => ⟨trivial, trivial, trivial, trivial⟩), trivial⟩, (clean_slE fun _ _ => ⟨(clean_slE fun _ _ => ⟨trivial, trivial⟩), trivial⟩), trivial, trivial⟩
         ·have h := ifF (bF' hc) h
          refine AW.skip ?_
          exact to_le (s' := ⟨[(2, HV.fptr [HV.int .i64 p0.1, HV.int .i64 p0.2.1, slE eFromLabelTo p0.2.2] 0), (4, HV.ptr 44004 v1 0), (7, HV.ptr 44007 v2 0), (8, HV.ar 44018 w24 (eSl eInt).k 0 ((a23.2).length)), (9, HV.int .i64 a4.1), (10, HV.int .i64 a8.1)], [(44004, v1, .arr 3 24 [HV.int .i64 0, HV.int .i64 0, HV.v (.slice none 0 0)]), (44007, v2, .arr 3 24 [HV.int .i64 p0.1, HV.int .i64 0, HV.ar 44062 v26 eFromLabelTo.k 0 ((a8.2.2 ++ [(a4.1, a8.1, a23.1)]).length)]), (44018, w24, .arr (eSl eInt).k 30 ((eSl eInt).E a23.2)), (44062, v26, .arr eFromLabelTo.k 49 (eFromLabelTo.E (a8.2.2 ++ [(a4.1, a8.1, a23.1)])))]⟩) (AS.le_of ⟨rfl, rfl, rfl, rfl, rfl, rfl, trivial⟩ ⟨rfl, rfl, rfl, rfl, trivial⟩) ⟨(a23.2, a8.2.2 ++ [(a4.1, a8.1, a23.1)]), (w24, v26), h, rfl⟩
        ·refine AW.rg rfl fun K hK => ?_
         refine mv rfl rfl ?_
         refine bv rfl (v_lenA rfl rfl ty39 rfl rfl) ?_
         refine bv rfl (v_bin rfl rfl b_gtr) ?_
         refine mv rfl rfl ?_
         by_cases hg31 : 64 < (((a23.2).length : Nat) : Int)
         ·have h := ifT hg31 h
          refine b_F rfl rfl rfl rfl rfl (decide_eq_true hg31) ?_
          refine b_F rfl rfl rfl rfl rfl rfl ?_
          refine b_F rfl rfl rfl rfl rfl rfl ?_
          refine b_F rfl rfl rfl rfl rfl rfl ?_
          refine bv rfl (v_pickT rfl rfl rfl) ?_
          refine b_nil (hK _ ?_)
          clear hK K
          exact to_le (s' := ⟨[(2, HV.fptr [HV.int .i64 p0.1, HV.int .i64 p0.2.1, slE eFromLabelTo p0.2.2] 0), (4, HV.ptr 44004 v1 0), (7, HV.ptr 44007 v2 0), (8, HV.ar 44018 w24 (eSl eInt).k 0 ((a23.2).length)), (9, HV.int .i64 a4.1), (10, HV.int .i64 a8.1), (72, HV.bool true)], [(44004, v1, .arr 3 24 [HV.int .i64 0, HV.int .i64 0, HV.v (.slice none 0 0)]), (44007, v2, .arr 3 24 [HV.int .i64 p0.1, HV.int .i64 0, HV.ar 44062 v26 eFromLabelTo.k 0 ((a8.2.2 ++ [(a4.1, a8.1, a23.1)]).length)]), (44018, w24, .arr (eSl eInt).k 30 ((eSl eInt).E a23.2)), (44062, v26, .arr eFromLabelTo.k 49 (eFromLabelTo.E (a8.2.2 ++ [(a4.1, a8.1, a23.1)])))]⟩) (AS.le_of ⟨rfl, rfl, rfl, rfl, rfl, rfl, rfl, trivial⟩ ⟨rfl, rfl, rfl, rfl, trivial⟩) ⟨true, (), h, rfl⟩
         ·have h := ifF hg31 h
          refine b_T rfl rfl rfl rfl (decide_eq_false hg31) (o_val rfl (v_fieldAddrP fo24_2 rfl rfl) ?_)
          refine b_T rfl rfl rfl rfl rfl (o_val rfl (v_loadP ty22 rfl rfl (l_lit rfl rfl)) ?_)
          refine b_T rfl rfl rfl rfl rfl (o_val rfl (v_lenA rfl rfl ty22 rfl rfl) ?_)
          refine b_T rfl rfl rfl rfl rfl (o_val rfl (v_bin rfl rfl b_gtr) ?_)
          refine bv rfl (v_pickF rfl rfl rfl) ?_
          refine b_nil (hK _ ?_)
          clear hK K
          exact to_le (s' := ⟨[(2, HV.fptr [HV.int .i64 p0.1, HV.int .i64 p0.2.1, slE eFromLabelTo p0.2.2] 0), (4, HV.ptr 44004 v1 0), (7, HV.ptr 44007 v2 0), (8, HV.ar 44018 w24 (eSl eInt).k 0 ((a23.2).length)), (9, HV.int .i64 a4.1), (10, HV.int .i64 a8.1), (72, HV.bool (decide (1024 < (((a8.2.2 ++ [(a4.1, a8.1, a23.1)]).length : Nat) : Int))))], [(44004, v1, .arr 3 24 [HV.int .i64 0, HV.int .i64 0, HV.v (.slice none 0 0)]), (44007, v2, .arr 3 24 [HV.int .i64 p0.1, HV.int .i64 0, HV.ar 44062 v26 eFromLabelTo.k 0 ((a8.2.2 ++ [(a4.1, a8.1, a23.1)]).length)]), (44018, w24, .arr (eSl eInt).k 30 ((eSl eInt).E a23.2)), (44062, v26, .arr eFromLabelTo.k 49 (eFromLabelTo.E (a8.2.2 ++ [(a4.1, a8.1, a23.1)])))]⟩) (AS.le_of ⟨rfl, rfl, rfl, rfl, rfl, rfl, rfl, trivial⟩ ⟨rfl, rfl, rfl, rfl, trivial⟩) ⟨decide (1024 < (((a8.2.2 ++ [(a4.1, a8.1, a23.1)]).length : Nat) : Int)), (), h, rfl⟩
       ·refine AW.cond rfl (fun hc => ?_) (fun hc => ?_)
        ·have hc := of_decide_eq_true hc
         have h := ifT hc h
         refine AW.rgs rfl fun K hK => ?_
         refine mv rfl rfl ?_
         refine bv rfl (v_lenA rfl rfl ty39 rfl rfl) ?_
         refine mv rfl rfl ?_
         refine b_fin hK (s' := ⟨[(2, HV.fptr [HV.int .i64 p0.1, HV.int .i64 p0.2.1, slE eFromLabelTo p0.2.2] 0), (4, HV.ptr 44004 v1 0), (7, HV.ptr 44007 v2 0), (8, HV.ar 44018 w9.1 (eSl eInt).k 0 ((a8.2.1).length)), (9, HV.int .i64 a4.1), (10, HV.int .i64 a8.1), (11, slE eInt x19.1), (13, HV.int .i64 (((a8.2.1).length : Nat) : Int))], [(44004, v1, .arr 3 24 [HV.int .i64 0, HV.int .i64 0, HV.v (.slice none 0 0)]), (44007, v2, .arr 3 24 [HV.int .i64 p0.1, HV.int .i64 0, HV.ar 44062 w9.2 eFromLabelTo.k 0 ((a8.2.2).length)]), (44018, w9.1, .arr (eSl eInt).k 30 ((eSl eInt).E a8.2.1)), (44062, w9.2, .arr eFromLabelTo.k 49 (eFromLabelTo.E a8.2.2))]⟩) (le_q rfl rfl) ?_
         clear hK K
         refine AW.rg rfl fun K hK => ?_
         refine mv rfl rfl ?_
         refine mv rfl rfl ?_
         refine b_op rfl (o_bsl rfl rfl (as_of (cs := [slE eInt x19.1]) ty39 ty30 rfl rfl rfl rfl rfl) ?_)
         obtain ⟨h33, h⟩ := ifN h
         refine b_op rfl (o_appE (eSl eInt) (l := a8.2.1) (m := [x19.1]) rfl rfl ty39 ty39 ty30 rfl rfl rfl rfl rfl h33 (fun v32 => ?_))
         refine mv rfl rfl ?_
         refine b_nil (hK _ ?_)
         clear hK K
         exact to_le (s' := ⟨[(2, HV.fptr [HV.int .i64 p0.1, HV.int .i64 p0.2.1, slE eFromLabelTo p0.2.2] 0), (4, HV.ptr 44004 v1 0), (7, HV.ptr 44007 v2 0), (8, HV.ar 44018 v32 (eSl eInt).k 0 ((a8.2.1 ++ [x19.1]).length)), (9, HV.int .i64 a4.1), (10, HV.int .i64 a8.1), (13, HV.int .i64 (((a8.2.1).length : Nat) : Int))], [(44004, v1, .arr 3 24 [HV.int .i64 0, HV.int .i64 0, HV.v (.slice none 0 0)]), (44007, v2, .arr 3 24 [HV.int .i64 p0.1, HV.int .i64 0, HV.ar 44062 w9.2 eFromLabelTo.k 0 ((a8.2.2).length)]), (44018, v32, .arr (eSl eInt).k 30 ((eSl eInt).E (a8.2.1 ++ [x19.1]))), (44062, w9.2, .arr eFromLabelTo.k 49 (eFromLabelTo.E a8.2.2))]⟩) (AS.le_of ⟨rfl, rfl, rfl, rfl, rfl, rfl, rfl, trivial⟩ ⟨rfl, rfl, rfl, rfl, trivial⟩) ⟨((((a8.2.1).length : Nat) : Int), a8.2.1 ++ [x19.1]), v32, h, rfl⟩
        ·have hc := of_decide_eq_false hc
         have h := ifF hc h
         refine AW.skip ?_
         exact to_le (s' := ⟨[(2, HV.fptr [HV.int .i64 p0.1, HV.int .i64 p0.2.1, slE eFromLabelTo p0.2.2] 0), (4, HV.ptr 44004 v1 0), (7, HV.ptr 44007 v2 0), (8, HV.ar 44018 w9.1 (eSl eInt).k 0 ((a8.2.1).length)), (9, HV.int .i64 a4.1), (10, HV.int .i64 a8.1), (13, HV.int .i64 x21)], [(44004, v1, .arr 3 24 [HV.int .i64 0, HV.int .i64 0, HV.v (.slice none 0 0)]), (44007, v2, .arr 3 24 [HV.int .i64 p0.1, HV.int .i64 0, HV.ar 44062 w9.2 eFromLabelTo.k 0 ((a8.2.2).length)]), (44018, w9.1, .arr (eSl eInt).k 30 ((eSl eInt).E a8.2.1)), (44062, w9.2, .arr eFromLabelTo.k 49 (eFromLabelTo.E a8.2.2))]⟩) (AS.le_of ⟨rfl, rfl, rfl, rfl, rfl, rfl, rfl, trivial⟩ ⟨rfl, rfl, rfl, rfl, trivial⟩) ⟨(x21, a8.2.1), w9.1, h, rfl⟩
    ·have hc := of_decide_eq_false hc
     have h := ifF hc h
     refine AW.exit ?_
     exact to_le (s' := ⟨[(2, HV.fptr [HV.int .i64 p0.1, HV.int .i64 p0.2.1, slE eFromLabelTo p0.2.2] 0), (4, HV.ptr 44004 v1 0), (7, HV.ptr 44007 v2 0), (8, HV.ar 44018 w9.1 (eSl eInt).k 0 ((a8.2.1).length)), (9, HV.int .i64 a4.1)], [(44004, v1, .arr 3 24 [HV.int .i64 0, HV.int .i64 0, HV.v (.slice none 0 0)]), (44007, v2, .arr 3 24 [HV.int .i64 p0.1, HV.int .i64 0, HV.ar 44062 w9.2 eFromLabelTo.k 0 ((a8.2.2).length)]), (44018, w9.1, .arr (eSl eInt).k 30 ((eSl eInt).E a8.2.1)), (44062, w9.2, .arr eFromLabelTo.k 49 (eFromLabelTo.E a8.2.2))]⟩) (AS.le_of ⟨rfl, rfl, rfl, rfl, rfl, trivial⟩ ⟨rfl, rfl, rfl, rfl, trivial⟩) ⟨(a8.2.1, a8.2.2), (w9.1, w9.2), h, rfl⟩
  ·have hc := of_decide_eq_false hc
   have h := ifF hc h
   refine AW.exit ?_
   exact to_le (s' := ⟨[(4, HV.ptr 44004 v1 0), (7, HV.ptr 44007 v2 0), (8, HV.ar 44018 w5.1 (eSl eInt).k 0 ((a4.2.1).length))], [(44004, v1, .arr 3 24 [HV.int .i64 0, HV.int .i64 0, HV.v (.slice none 0 0)]), (44007, v2, .arr 3 24 [HV.int .i64 p0.1, HV.int .i64 0, HV.ar 44062 w5.2 eFromLabelTo.k 0 ((a4.2.2).length)]), (44018, w5.1, .arr (eSl eInt).k 30 ((eSl eInt).E a4.2.1)), (44062, w5.2, .arr eFromLabelTo.k 49 (eFromLabelTo.E a4.2.2))]⟩) (AS.le_of ⟨rfl, rfl, rfl, trivial⟩ ⟨rfl, rfl, rfl, rfl, trivial⟩) ⟨(a4.2.1, a4.2.2), (w5.1, w5.2), h, rfl⟩

set_option maxHeartbeats 1600000 in
set_option maxRecDepth 100000 in
theorem w_ref12_From {p0 : TLabelsStatesEdges} {p1 : List (Int)} {r : TLabelsStatesEdges × (List (List (Int))) × Int} (h : m_ref12_From p0 p1 = some r) : Pure Tryd.prog 19 [HV.agg [HV.int .i64 p0.1, HV.int .i64 p0.2.1, slE eFromLabelTo p0.2.2], slE eInt p1] (· = HV.tup [HV.agg [HV.int .i64 r.1.1, HV.int .i64 r.1.2.1, slE eFromLabelTo r.1.2.2], slE (eSl eInt) r.2.1, HV.int .i64 r.2.2]) := by
 unfold m_ref12_From at h
 refine Pure.of_body Tryd.func19 rfl rfl (Nat.le_of_ble_eq_true rfl) fun hf => ?_
 unfold Tryd.f19
 dsimp only [enumS, Nat.reduceAdd]
 refine AW.rgs rfl fun K hK => ?_
 refine b_op rfl (o_box rfl rfl rfl ?_)
 refine b_op rfl (o_alloc (fid := 19) (zs := [HV.int .i64 0, HV.int .i64 0, HV.v (.slice none 0 0)]) 19004 rfl rfl ty24 rfl (fun v1 => ?_))
 refine mv rfl rfl ?_
 refine mv rfl rfl ?_
 refine b_fin hK (s' := ⟨[(1, slE eInt p1), (2, HV.fptr [HV.int .i64 p0.1, HV.int .i64 p0.2.1, slE eFromLabelTo p0.2.2] 0), (4, HV.ptr 19004 v1 0)], [(19004, v1, .arr 3 24 [HV.int .i64 0, HV.int .i64 0, HV.v (.slice none 0 0)])]⟩) (le_q rfl rfl) ?_
 clear hK K
 refine AW.seq ?_
 refine AW.rgs rfl fun K hK => ?_
 refine bv rfl (v_loadF ty24 rfl (l_litA rfl (Nat.le_of_ble_eq_true rfl) rfl)) ?_
 obtain ⟨x2, h3, h⟩ := bS h
 refine b_op rfl (o_call rfl rfl rfl rfl (ACallD.pure0 (w_ref09_Check h3)) ?_)
 refine bv rfl (v_bin rfl rfl b_neq) ?_
 refine b_fin hK (s' := ⟨[(1, slE eInt p1), (2, HV.fptr [HV.int .i64 p0.1, HV.int .i64 p0.2.1, slE eFromLabelTo p0.2.2] 0), (4, HV.ptr 19004 v1 0), (13, HV.bool (decide (x2 ≠ 0)))], [(19004, v1, .arr 3 24 [HV.int .i64 0, HV.int .i64 0, HV.v (.slice none 0 0)])]⟩) (le_q rfl rfl) ?_
 clear hK K
 refine AW.cond rfl (fun hc => ?_) (fun hc => ?_)
 ·have hc := of_decide_eq_true hc
  have h := ifT hc h
  refine AW.rgs rfl fun K hK => ?_
  refine b_op rfl (o_build (cs := [HV.int .i64 0, HV.int .i64 0, HV.v (.slice none 0 0)]) rfl (bl_of ty24 rfl rfl rfl rfl) ?_)
  refine b_op rfl (o_store (cs := [HV.int .i64 0, HV.int .i64 0, HV.v (.slice none 0 0)]) (zs := [HV.int .i64 0, HV.int .i64 0, HV.v (.slice none 0 0)]) rfl rfl rfl ty24 rfl rfl rfl rfl rfl ?_)
  refine mv rfl rfl ?_
  refine mv rfl rfl ?_
  refine b_fin hK (s' := ⟨[(4, HV.ptr 19004 v1 0), (5, HV.v (.slice none 0 0)), (6, HV.int .i64 1)], [(19004, v1, .arr 3 24 [HV.int .i64 0, HV.int .i64 0, HV.v (.slice none 0 0)])]⟩) (le_q rfl rfl) ?_
  clear hK K
  refine AW.to (to_weak ⟨[(4, HV.ptr 19004 v1 0), (5, slE (eSl eInt) ([] : List (List (Int)))), (6, HV.int .i64 1)], [(19004, v1, .arr 3 24 [HV.int .i64 0, HV.int .i64 0, HV.v (.slice none 0 0)])]⟩ ⟨⟨_, rfl, .refl _⟩, ⟨_, rfl, .nil _⟩, ⟨_, rfl, .refl _⟩, trivial⟩ ⟨rfl, trivial⟩ ?_)
  refine AW.to (to_cells 19004 v1 (ds := [HV.int .i64 0, HV.int .i64 0, slE eFromLabelTo ([] : List TFromLabelTo)]) rfl (.cons (.refl _) <| .cons (.refl _) <| .cons (.nil _) <| .nil) ?_)
  refine AW.ret ?_
  have h := Option.some.inj h
  subst h
  exact ret_pure (hs := [HV.agg [HV.int .i64 0, HV.int .i64 0, slE eFromLabelTo ([] : List TFromLabelTo)], slE (eSl eInt) ([] : List (List (Int))), HV.int .i64 1]) (q := HV.tup [HV.agg [HV.int .i64 0, HV.int .i64 0, slE eFromLabelTo ([] : List TFromLabelTo)], slE (eSl eInt) ([] : List (List (Int))), HV.int .i64 1]) (.inr rfl) (resP ty24 rfl rfl (l_litA rfl (Nat.le_of_ble_eq_true rfl) rfl) (resT rfl (resT rfl rfl))) rfl ⟨⟨trivial, trivial, (clean_slE fun _ _ => ⟨trivial, trivial, trivial, trivial⟩), trivial⟩, (clean_slE fun _ _ => ⟨(clean_slE fun _ _ => ⟨trivial, trivial⟩), trivial⟩), trivial, trivial⟩
 ·have hc := of_decide_eq_false hc
  have h := ifF hc h
  refine AW.skip ?_
  refine AW.seq ?_
  refine AW.rgs rfl fun K hK => ?_
  refine mv rfl rfl ?_
  refine bv rfl (v_lenF rfl rfl ty30 rfl) ?_
  refine bv rfl (v_bin rfl rfl b_eql) ?_
  refine b_fin hK (s' := ⟨[(1, slE eInt p1), (2, HV.fptr [HV.int .i64 p0.1, HV.int .i64 p0.2.1, slE eFromLabelTo p0.2.2] 0), (4, HV.ptr 19004 v1 0), (17, HV.bool (decide (((p1).length : Int) = 0)))], [(19004, v1, .arr 3 24 [HV.int .i64 0, HV.int .i64 0, HV.v (.slice none 0 0)])]⟩) (le_q rfl rfl) ?_
  clear hK K
  refine AW.cond rfl (fun hc => ?_) (fun hc => ?_)
  ·have hc := of_decide_eq_true hc
   have h := ifT hc h
   refine AW.rgs rfl fun K hK => ?_
   refine b_op rfl (o_build (cs := [HV.int .i64 0, HV.int .i64 0, HV.v (.slice none 0 0)]) rfl (bl_of ty24 rfl rfl rfl rfl) ?_)
   refine b_op rfl (o_store (cs := [HV.int .i64 0, HV.int .i64 0, HV.v (.slice none 0 0)]) (zs := [HV.int .i64 0, HV.int .i64 0, HV.v (.slice none 0 0)]) rfl rfl rfl ty24 rfl rfl rfl rfl rfl ?_)
   refine mv rfl rfl ?_
   refine mv rfl rfl ?_
   refine b_fin hK (s' := ⟨[(4, HV.ptr 19004 v1 0), (5, HV.v (.slice none 0 0)), (6, HV.int .i64 5)], [(19004, v1, .arr 3 24 [HV.int .i64 0, HV.int .i64 0, HV.v (.slice none 0 0)])]⟩) (le_q rfl rfl) ?_
   clear hK K
   refine AW.to (to_weak ⟨[(4, HV.ptr 19004 v1 0), (5, slE (eSl eInt) ([] : List (List (Int)))), (6, HV.int .i64 5)], [(19004, v1, .arr 3 24 [HV.int .i64 0, HV.int .i64 0, HV.v (.slice none 0 0)])]⟩ ⟨⟨_, rfl, .refl _⟩, ⟨_, rfl, .nil _⟩, ⟨_, rfl, .refl _⟩, trivial⟩ ⟨rfl, trivial⟩ ?_)
   refine AW.to (to_cells 19004 v1 (ds := [HV.int .i64 0, HV.int .i64 0, slE eFromLabelTo ([] : List TFromLabelTo)]) rfl (.cons (.refl _) <| .cons (.refl _) <| .cons (.nil _) <| .nil) ?_)
   refine AW.ret ?_
   have h := Option.some.inj h
   subst h
   exact ret_pure (hs := [HV.agg [HV.int .i64 0, HV.int .i64 0, slE eFromLabelTo ([] : List TFromLabelTo)], slE (eSl eInt) ([] : List (List (Int))), HV.int .i64 5]) (q := HV.tup [HV.agg [HV.int .i64 0, HV.int .i64 0, slE eFromLabelTo ([] : List TFromLabelTo)], slE (eSl eInt) ([] : List (List (Int))), HV.int .i64 5]) (.inr rfl) (resP ty24 rfl rfl (l_litA rfl (Nat.le_of_ble_eq_true rfl) rfl) (resT rfl (resT rfl rfl))) rfl ⟨⟨trivial, trivial, (clean_slE fun _ _ => ⟨trivial, trivial, trivial, trivial⟩), trivial⟩, (clean_slE fun _ _ => ⟨(clean_slE fun _ _ => ⟨trivial, trivial⟩), trivial⟩), trivial, trivial⟩
  ·have hc := of_decide_eq_false hc
   have h := ifF hc h
   refine AW.skip ?_
   refine AW.seq ?_
   refine AW.rgs rfl fun K hK => ?_
   refine mv rfl rfl ?_
   refine b_fin hK (s' := ⟨[(1, slE eInt p1), (2, HV.fptr [HV.int .i64 p0.1, HV.int .i64 p0.2.1, slE eFromLabelTo p0.2.2] 0), (4, HV.ptr 19004 v1 0), (7, HV.int .i64 0)], [(19004, v1, .arr 3 24 [HV.int .i64 0, HV.int .i64 0, HV.v (.slice none 0 0)])]⟩) (le_q rfl rfl) ?_
   clear hK K
   refine AW.lpR h (by first | exact up_then | exact up_to) (S := Int) (V := Unit) (fun a v => ⟨[(1, slE eInt p1), (2, HV.fptr [HV.int .i64 p0.1, HV.int .i64 p0.2.1, slE eFromLabelTo p0.2.2] 0), (4, HV.ptr 19004 v1 0), (7, HV.int .i64 a)], [(19004, v1, .arr 3 24 [HV.int .i64 0, HV.int .i64 0, HV.v (.slice none 0 0)])]⟩) ?_ (X := Unit) (W := Unit) (fun a v => ⟨[(1, slE eInt p1), (2, HV.fptr [HV.int .i64 p0.1, HV.int .i64 p0.2.1, slE eFromLabelTo p0.2.2] 0), (4, HV.ptr 19004 v1 0)], [(19004, v1, .arr 3 24 [HV.int .i64 0, HV.int .i64 0, HV.v (.slice none 0 0)])]⟩) (fun a24 w25 h => ?_) (fun a4 w5 st6 h hr7=> ?_)
   ·exact to_le (s' := ⟨[(1, slE eInt p1), (2, HV.fptr [HV.int .i64 p0.1, HV.int .i64 p0.2.1, slE eFromLabelTo p0.2.2] 0), (4, HV.ptr 19004 v1 0), (7, HV.int .i64 0)], [(19004, v1, .arr 3 24 [HV.int .i64 0, HV.int .i64 0, HV.v (.slice none 0 0)])]⟩) (AS.le_of ⟨rfl, rfl, rfl, rfl, trivial⟩ ⟨rfl, trivial⟩) ⟨(), rfl⟩
   ·refine AW.rgs rfl fun K hK => ?_
    refine bv rfl (v_loadF ty24 rfl (l_litA rfl (Nat.le_of_ble_eq_true rfl) rfl)) ?_
    refine mv rfl rfl ?_
    obtain ⟨x26, h27, h⟩ := bS h
    refine b_op rfl (o_call rfl rfl rfl rfl (ACallD.pure0 (w_ref12_sets h27)) ?_)
    refine mv rfl rfl ?_
    refine bv rfl (v_extract rfl rfl) ?_
    refine bv rfl (v_extract rfl rfl) ?_
    refine bv rfl (v_extract rfl rfl) ?_
    refine b_op rfl (o_alloc (fid := 19) (zs := [HV.int .i64 0, HV.int .i64 0, HV.v (.slice none 0 0)]) 19008 rfl rfl ty24 rfl (fun v28 => ?_))
    refine b_op rfl (o_store (cs := [HV.int .i64 x26.1.1, HV.int .i64 x26.1.2.1, slE eFromLabelTo x26.1.2.2]) (zs := [HV.int .i64 x26.1.1, HV.int .i64 x26.1.2.1, slE eFromLabelTo x26.1.2.2]) rfl rfl rfl ty24 rfl rfl rfl rfl rfl ?_)
    refine mv rfl rfl ?_
    refine mv rfl rfl ?_
    refine b_fin hK (s' := ⟨[(4, HV.ptr 19004 v1 0), (8, HV.ptr 19008 v28 0), (9, slE (eSl eInt) x26.2.1), (10, HV.bool x26.2.2)], [(19004, v1, .arr 3 24 [HV.int .i64 0, HV.int .i64 0, HV.v (.slice none 0 0)]), (19008, v28, .arr 3 24 [HV.int .i64 x26.1.1, HV.int .i64 x26.1.2.1, slE eFromLabelTo x26.1.2.2])]⟩) (le_q rfl rfl) ?_
    clear hK K
    refine AW.seq ?_
    refine AW.rgs rfl fun K hK => ?_
    refine mv rfl rfl ?_
    refine bv rfl (v_not rfl) ?_
    refine b_fin hK (s' := ⟨[(4, HV.ptr 19004 v1 0), (8, HV.ptr 19008 v28 0), (9, slE (eSl eInt) x26.2.1), (63, HV.bool (!x26.2.2))], [(19004, v1, .arr 3 24 [HV.int .i64 0, HV.int .i64 0, HV.v (.slice none 0 0)]), (19008, v28, .arr 3 24 [HV.int .i64 x26.1.1, HV.int .i64 x26.1.2.1, slE eFromLabelTo x26.1.2.2])]⟩) (le_q rfl rfl) ?_
    clear hK K
    refine AW.cond rfl (fun hc => ?_) (fun hc => ?_)
    ·have h := ifT hc h
     refine AW.rgs rfl fun K hK => ?_
     refine b_op rfl (o_build (cs := [HV.int .i64 0, HV.int .i64 0, HV.v (.slice none 0 0)]) rfl (bl_of ty24 rfl rfl rfl rfl) ?_)
     refine b_op rfl (o_store (cs := [HV.int .i64 0, HV.int .i64 0, HV.v (.slice none 0 0)]) (zs := [HV.int .i64 0, HV.int .i64 0, HV.v (.slice none 0 0)]) rfl rfl rfl ty24 rfl rfl rfl rfl rfl ?_)
     refine mv rfl rfl ?_
     refine mv rfl rfl ?_
     refine b_fin hK (s' := ⟨[(4, HV.ptr 19004 v1 0), (5, HV.v (.slice none 0 0)), (6, HV.int .i64 4)], [(19004, v1, .arr 3 24 [HV.int .i64 0, HV.int .i64 0, HV.v (.slice none 0 0)])]⟩) (le_q rfl rfl) ?_
     clear hK K
     refine AW.to (to_weak ⟨[(4, HV.ptr 19004 v1 0), (5, slE (eSl eInt) ([] : List (List (Int)))), (6, HV.int .i64 4)], [(19004, v1, .arr 3 24 [HV.int .i64 0, HV.int .i64 0, HV.v (.slice none 0 0)])]⟩ ⟨⟨_, rfl, .refl _⟩, ⟨_, rfl, .nil _⟩, ⟨_, rfl, .refl _⟩, trivial⟩ ⟨rfl, trivial⟩ ?_)
     refine AW.to (to_cells 19004 v1 (ds := [HV.int .i64 0, HV.int .i64 0, slE eFromLabelTo ([] : List TFromLabelTo)]) rfl (.cons (.refl _) <| .cons (.refl _) <| .cons (.nil _) <| .nil) ?_)
     refine AW.ret ?_
     have h := Option.some.inj h
     subst h
     exact ret_pure (hs := [HV.agg [HV.int .i64 0, HV.int .i64 0, slE eFromLabelTo ([] : List TFromLabelTo)], slE (eSl eInt) ([] : List (List (Int))), HV.int .i64 4]) (q := HV.tup [HV.agg [HV.int .i64 0, HV.int .i64 0, slE eFromLabelTo ([] : List TFromLabelTo)], slE (eSl eInt) ([] : List (List (Int))), HV.int .i64 4]) (.inr rfl) (resP ty24 rfl rfl (l_litA rfl (Nat.le_of_ble_eq_true rfl) rfl) (resT rfl (resT rfl rfl))) rfl ⟨⟨trivial, trivial, (clean_slE fun _ _ => ⟨trivial, trivial, trivial, trivial⟩), trivial⟩, (clean_slE fun _ _ => ⟨(clean_slE fun _ _ => ⟨trivial, trivial⟩), trivial⟩), trivial, trivial⟩
    ·have h := ifF (bF' hc) h
     refine AW.skip ?_
     refine AW.rgs rfl fun K hK => ?_
     refine bv rfl (v_loadP ty24 rfl rfl (l_litA rfl (Nat.le_of_ble_eq_true rfl) rfl)) ?_
     refine mv rfl rfl ?_
     refine b_op rfl (o_store (cs := [HV.int .i64 x26.1.1, HV.int .i64 x26.1.2.1, slE eFromLabelTo x26.1.2.2]) (zs := [HV.int .i64 x26.1.1, HV.int .i64 x26.1.2.1, slE eFromLabelTo x26.1.2.2]) rfl rfl rfl ty24 rfl rfl rfl rfl rfl ?_)
     refine mv rfl rfl ?_
     refine mv rfl rfl ?_
     refine b_fin hK (s' := ⟨[(4, HV.ptr 19004 v1 0), (5, slE (eSl eInt) x26.2.1), (6, HV.int .i64 0)], [(19004, v1, .arr 3 24 [HV.int .i64 x26.1.1, HV.int .i64 x26.1.2.1, slE eFromLabelTo x26.1.2.2])]⟩) (le_q rfl rfl) ?_
     clear hK K
     refine AW.ret ?_
     have h := Option.some.inj h
     subst h
     exact ret_pure (hs := [HV.agg [HV.int .i64 x26.1.1, HV.int .i64 x26.1.2.1, slE eFromLabelTo x26.1.2.2], slE (eSl eInt) x26.2.1, HV.int .i64 0]) (q := HV.tup [HV.agg [HV.int .i64 x26.1.1, HV.int .i64 x26.1.2.1, slE eFromLabelTo x26.1.2.2], slE (eSl eInt) x26.2.1, HV.int .i64 0]) (.inr rfl) (resP ty24 rfl rfl (l_litA rfl (Nat.le_of_ble_eq_true rfl) rfl) (resT rfl (resT rfl rfl))) rfl ⟨⟨trivial, trivial, (clean_slE fun _ _ => ⟨trivial, trivial, trivial, trivial⟩), trivial⟩, (clean_slE fun _ _ => ⟨(clean_slE fun _ _ => ⟨trivial, trivial⟩), trivial⟩), trivial, trivial⟩
   ·refine AW.seq ?_
    refine AW.rgs rfl fun K hK => ?_
    refine mv rfl rfl ?_
    refine mv rfl rfl ?_
    refine bv rfl (v_lenF rfl rfl ty30 rfl) ?_
    refine bv rfl (v_bin rfl rfl b_lss) ?_
    refine b_fin hK (s' := ⟨[(1, slE eInt p1), (2, HV.fptr [HV.int .i64 p0.1, HV.int .i64 p0.2.1, slE eFromLabelTo p0.2.2] 0), (4, HV.ptr 19004 v1 0), (7, HV.int .i64 a4), (22, HV.bool (decide (a4 < ((p1).length : Int))))], [(19004, v1, .arr 3 24 [HV.int .i64 0, HV.int .i64 0, HV.v (.slice none 0 0)])]⟩) (le_q rfl rfl) ?_
    clear hK K
    refine AW.cond rfl (fun hc => ?_) (fun hc => ?_)
    ·have hc := of_decide_eq_true hc
     have h := ifT hc h
     refine AW.skip ?_
     refine AW.seq (AW.block ?_)
     refine AW.seq ?_
     refine AW.seqJ h (S := Bool) (V := Unit) (fun a v => ⟨[(1, slE eInt p1), (2, HV.fptr [HV.int .i64 p0.1, HV.int .i64 p0.2.1, slE eFromLabelTo p0.2.2] 0), (4, HV.ptr 19004 v1 0), (7, HV.int .i64 a4), (38, HV.bool a)], [(19004, v1, .arr 3 24 [HV.int .i64 0, HV.int .i64 0, HV.v (.slice none 0 0)])]⟩) (fun a8 w9 h => ?_) (fun k10 h => ?_)
     ·refine AW.cond rfl (fun hc => ?_) (fun hc => ?_)
      ·have h := ifT hc h
       refine AW.rgs rfl fun K hK => ?_
       refine b_op rfl (o_build (cs := [HV.int .i64 0, HV.int .i64 0, HV.v (.slice none 0 0)]) rfl (bl_of ty24 rfl rfl rfl rfl) ?_)
       refine b_op rfl (o_store (cs := [HV.int .i64 0, HV.int .i64 0, HV.v (.slice none 0 0)]) (zs := [HV.int .i64 0, HV.int .i64 0, HV.v (.slice none 0 0)]) rfl rfl rfl ty24 rfl rfl rfl rfl rfl ?_)
       refine mv rfl rfl ?_
       refine mv rfl rfl ?_
       refine b_fin hK (s' := ⟨[(4, HV.ptr 19004 v1 0), (5, HV.v (.slice none 0 0)), (6, HV.int .i64 25)], [(19004, v1, .arr 3 24 [HV.int .i64 0, HV.int .i64 0, HV.v (.slice none 0 0)])]⟩) (le_q rfl rfl) ?_
       clear hK K
       have h := hr7 _ h
       refine AW.to (to_weak ⟨[(4, HV.ptr 19004 v1 0), (5, slE (eSl eInt) ([] : List (List (Int)))), (6, HV.int .i64 25)], [(19004, v1, .arr 3 24 [HV.int .i64 0, HV.int .i64 0, HV.v (.slice none 0 0)])]⟩ ⟨⟨_, rfl, .refl _⟩, ⟨_, rfl, .nil _⟩, ⟨_, rfl, .refl _⟩, trivial⟩ ⟨rfl, trivial⟩ ?_)
       refine AW.to (to_cells 19004 v1 (ds := [HV.int .i64 0, HV.int .i64 0, slE eFromLabelTo ([] : List TFromLabelTo)]) rfl (.cons (.refl _) <| .cons (.refl _) <| .cons (.nil _) <| .nil) ?_)
       refine AW.ret ?_
       have h := Option.some.inj h
       subst h
       exact ret_pure (hs := [HV.agg [HV.int .i64 0, HV.int .i64 0, slE eFromLabelTo ([] : List TFromLabelTo)], slE (eSl eInt) ([] : List (List (Int))), HV.int .i64 25]) (q := HV.tup [HV.agg [HV.int .i64 0, HV.int .i64 0, slE eFromLabelTo ([] : List TFromLabelTo)], slE (eSl eInt) ([] : List (List (Int))), HV.int .i64 25]) (.inr rfl) (resP ty24 rfl rfl (l_litA rfl (Nat.le_of_ble_eq_true rfl) rfl) (resT rfl (resT rfl rfl))) rfl ⟨⟨trivial, trivial, (clean_slE fun _ _ => ⟨trivial, trivial, trivial, trivial⟩), trivial⟩, (clean_slE fun _ _ => ⟨(clean_slE fun _ _ => ⟨trivial, trivial⟩), trivial⟩), trivial, trivial⟩
      ·have h := ifF (bF' hc) h
       refine AW.skip ?_
       refine AW.seqJ h (S := Bool) (V := Unit) (fun a v => ⟨[(1, slE eInt p1), (2, HV.fptr [HV.int .i64 p0.1, HV.int .i64 p0.2.1, slE eFromLabelTo p0.2.2] 0), (4, HV.ptr 19004 v1 0), (7, HV.int .i64 a4), (53, HV.bool a)], [(19004, v1, .arr 3 24 [HV.int .i64 0, HV.int .i64 0, HV.v (.slice none 0 0)])]⟩) (fun a11 w12 h => ?_) (fun k13 h => ?_)
       ·refine AW.cond rfl (fun hc => ?_) (fun hc => ?_)
        ·have h := ifT hc h
         refine AW.rgs rfl fun K hK => ?_
         refine b_op rfl (o_build (cs := [HV.int .i64 0, HV.int .i64 0, HV.v (.slice none 0 0)]) rfl (bl_of ty24 rfl rfl rfl rfl) ?_)
         refine b_op rfl (o_store (cs := [HV.int .i64 0, HV.int .i64 0, HV.v (.slice none 0 0)]) (zs := [HV.int .i64 0, HV.int .i64 0, HV.v (.slice none 0 0)]) rfl rfl rfl ty24 rfl rfl rfl rfl rfl ?_)
         refine mv rfl rfl ?_
         refine mv rfl rfl ?_
         refine b_fin hK (s' := ⟨[(4, HV.ptr 19004 v1 0), (5, HV.v (.slice none 0 0)), (6, HV.int .i64 10)], [(19004, v1, .arr 3 24 [HV.int .i64 0, HV.int .i64 0, HV.v (.slice none 0 0)])]⟩) (le_q rfl rfl) ?_
         clear hK K
         have h := hr7 _ h
         refine AW.to (to_weak ⟨[(4, HV.ptr 19004 v1 0), (5, slE (eSl eInt) ([] : List (List (Int)))), (6, HV.int .i64 10)], [(19004, v1, .arr 3 24 [HV.int .i64 0, HV.int .i64 0, HV.v (.slice none 0 0)])]⟩ ⟨⟨_, rfl, .refl _⟩, ⟨_, rfl, .nil _⟩, ⟨_, rfl, .refl _⟩, trivial⟩ ⟨rfl, trivial⟩ ?_)
         refine AW.to (to_cells 19004 v1 (ds := [HV.int .i64 0, HV.int .i64 0, slE eFromLabelTo ([] : List TFromLabelTo)]) rfl (.cons (.refl _) <| .cons (.refl _) <| .cons (.nil _) <| .nil) ?_)
         refine AW.ret ?_
         have h := Option.some.inj h
         subst h
         exact ret_pure (hs := [HV.agg [HV.int .i64 0, HV.int .i64 0, slE eFromLabelTo ([] : List TFromLabelTo)], slE (eSl eInt) ([] : List (List (Int))), HV.int .i64 10]) (q := HV.tup [HV.agg [HV.int .i64 0, HV.int .i64 0, slE eFromLabelTo ([] : List TFromLabelTo)], slE (eSl eInt) ([] : List (List (Int))), HV.int .i64 10]) (.inr rfl) (resP ty24 rfl rfl (l_litA rfl (Nat.le_of_ble_eq_true rfl) rfl) (resT rfl (resT rfl rfl))) rfl ⟨⟨trivial, trivial, (clean_slE fun _ _ => ⟨trivial, trivial, trivial, trivial⟩), trivial⟩, (clean_slE fun _ _ => ⟨(clean_slE fun _ _ => ⟨trivial, trivial⟩), trivial⟩), trivial, trivial⟩
        ·have h := ifF (bF' hc) h
         refine AW.skip ?_
         refine AW.rg rfl fun K hK => ?_
         refine mv rfl rfl ?_
         refine bv rfl (v_bin rfl rfl b_add) ?_
         refine mv rfl rfl ?_
         refine b_nil (hK _ ?_)
         clear hK K
         exact to_le (s' := ⟨[(1, slE eInt p1), (2, HV.fptr [HV.int .i64 p0.1, HV.int .i64 p0.2.1, slE eFromLabelTo p0.2.2] 0), (4, HV.ptr 19004 v1 0), (7, HV.int .i64 (IntKind.wrap .i64 (a4 + 1)))], [(19004, v1, .arr 3 24 [HV.int .i64 0, HV.int .i64 0, HV.v (.slice none 0 0)])]⟩) (AS.le_of ⟨rfl, rfl, rfl, rfl, trivial⟩ ⟨rfl, trivial⟩) ⟨IntKind.wrap .i64 (a4 + 1), (), h, rfl⟩
       ·refine AW.dg 14 follows rfl rfl fun K hK => ?_
        refine sm rfl rfl ?_
        refine sv rfl (v_bin rfl rfl b_gtr) ?_
        refine sm rfl rfl ?_
        by_cases hg18 : 0 < a4
        ·have h := ifT hg18 h
         refine s_T rfl rfl rfl rfl rfl (decide_eq_true hg18) (ops_val rfl (mv_val rfl rfl).2 ?_)
         refine s_T rfl rfl rfl rfl rfl rfl (ops_val rfl (mv_val rfl rfl).2 ?_)
         obtain ⟨x14, h15, h⟩ := bS h
         refine s_T rfl rfl rfl rfl rfl rfl (ops_val rfl (v_idxF ty30 es30 rfl rfl (idx_lt h15)) ?_)
         refine s_T rfl rfl rfl rfl rfl rfl (ops_val rfl (v_loadF ty3 rfl (l_cell eInt h15 (o := 0) rfl rfl)) ?_)
         refine s_T rfl rfl rfl rfl rfl rfl (ops_val rfl (mv_val rfl rfl).2 ?_)
         refine s_T rfl rfl rfl rfl rfl rfl (ops_val rfl (mv_val rfl rfl).2 ?_)
         refine s_T rfl rfl rfl rfl rfl rfl (ops_val rfl (v_bin rfl rfl b_sub) ?_)
         obtain ⟨x16, h17, h⟩ := bS h
         refine s_T rfl rfl rfl rfl rfl rfl (ops_val rfl (v_idxF ty30 es30 rfl rfl (idx_lt h17)) ?_)
         refine s_T rfl rfl rfl rfl rfl rfl (ops_val rfl (v_loadF ty3 rfl (l_cell eInt h17 (o := 0) rfl rfl)) ?_)
         refine s_T rfl rfl rfl rfl rfl rfl (ops_val rfl (v_bin rfl rfl b_leq) ?_)
         refine sv rfl (v_pickT rfl rfl rfl) ?_
         refine s_nil ?_
         refine b_nil (hK _ ?_)
         clear hK K
         exact to_le (s' := ⟨[(1, slE eInt p1), (2, HV.fptr [HV.int .i64 p0.1, HV.int .i64 p0.2.1, slE eFromLabelTo p0.2.2] 0), (4, HV.ptr 19004 v1 0), (7, HV.int .i64 a4), (53, HV.bool (decide (x14 ≤ x16)))], [(19004, v1, .arr 3 24 [HV.int .i64 0, HV.int .i64 0, HV.v (.slice none 0 0)])]⟩) (AS.le_of ⟨rfl, rfl, rfl, rfl, rfl, trivial⟩ ⟨rfl, trivial⟩) ⟨decide (x14 ≤ x16), (), h, rfl⟩
        ·have h := ifF hg18 h
         refine s_F rfl rfl rfl rfl rfl (decide_eq_false hg18) ?_
         refine s_F rfl rfl rfl rfl rfl rfl ?_
         refine s_F rfl rfl rfl rfl rfl rfl ?_
         refine s_F rfl rfl rfl rfl rfl rfl ?_
         refine s_F rfl rfl rfl rfl rfl rfl ?_
         refine s_F rfl rfl rfl rfl rfl rfl ?_
         refine s_F rfl rfl rfl rfl rfl rfl ?_
         refine s_F rfl rfl rfl rfl rfl rfl ?_
         refine s_F rfl rfl rfl rfl rfl rfl ?_
         refine s_F rfl rfl rfl rfl rfl rfl ?_
         refine sv rfl (v_pickF rfl rfl rfl) ?_
         refine s_nil ?_
         refine b_nil (hK _ ?_)
         clear hK K
         exact to_le (s' := ⟨[(1, slE eInt p1), (2, HV.fptr [HV.int .i64 p0.1, HV.int .i64 p0.2.1, slE eFromLabelTo p0.2.2] 0), (4, HV.ptr 19004 v1 0), (7, HV.int .i64 a4), (53, HV.bool false)], [(19004, v1, .arr 3 24 [HV.int .i64 0, HV.int .i64 0, HV.v (.slice none 0 0)])]⟩) (AS.le_of ⟨rfl, rfl, rfl, rfl, rfl, trivial⟩ ⟨rfl, trivial⟩) ⟨false, (), h, rfl⟩
     ·refine AW.dg 14 follows rfl rfl fun K hK => ?_
      refine sm rfl rfl ?_
      refine sm rfl rfl ?_
      obtain ⟨x19, h20, h⟩ := bS h
      refine sv rfl (v_idxF ty30 es30 rfl rfl (idx_lt h20)) ?_
      refine sv rfl (v_loadF ty3 rfl (l_cell eInt h20 (o := 0) rfl rfl)) ?_
      refine sv rfl (v_bin rfl rfl b_lss) ?_
      refine sm rfl rfl ?_
      by_cases hg23 : x19 < 0
      ·have h := ifT hg23 h
       refine s_F rfl rfl rfl rfl rfl (decide_eq_true hg23) ?_
       refine s_F rfl rfl rfl rfl rfl rfl ?_
       refine s_F rfl rfl rfl rfl rfl rfl ?_
       refine s_F rfl rfl rfl rfl rfl rfl ?_
       refine s_F rfl rfl rfl rfl rfl rfl ?_
       refine s_F rfl rfl rfl rfl rfl rfl ?_
       refine s_F rfl rfl rfl rfl rfl rfl ?_
       refine sv rfl (v_pickT rfl rfl rfl) ?_
       refine s_nil ?_
       refine b_nil (hK _ ?_)
       clear hK K
       exact to_le (s' := ⟨[(1, slE eInt p1), (2, HV.fptr [HV.int .i64 p0.1, HV.int .i64 p0.2.1, slE eFromLabelTo p0.2.2] 0), (4, HV.ptr 19004 v1 0), (7, HV.int .i64 a4), (38, HV.bool true)], [(19004, v1, .arr 3 24 [HV.int .i64 0, HV.int .i64 0, HV.v (.slice none 0 0)])]⟩) (AS.le_of ⟨rfl, rfl, rfl, rfl, rfl, trivial⟩ ⟨rfl, trivial⟩) ⟨true, (), h, rfl⟩
      ·have h := ifF hg23 h
       refine s_T rfl rfl rfl rfl rfl (decide_eq_false hg23) (ops_val rfl (mv_val rfl rfl).2 ?_)
       refine s_T rfl rfl rfl rfl rfl rfl (ops_val rfl (mv_val rfl rfl).2 ?_)
       obtain ⟨x21, h22, h⟩ := bS h
       refine s_T rfl rfl rfl rfl rfl rfl (ops_val rfl (v_idxF ty30 es30 rfl rfl (idx_lt h22)) ?_)
       refine s_T rfl rfl rfl rfl rfl rfl (ops_val rfl (v_loadF ty3 rfl (l_cell eInt h22 (o := 0) rfl rfl)) ?_)
       refine s_T rfl rfl rfl rfl rfl rfl (ops_val rfl (v_fieldAddrF fo24_1 rfl) ?_)
       refine s_T rfl rfl rfl rfl rfl rfl (ops_val rfl (v_loadF ty3 rfl (l_lit rfl rfl)) ?_)
       refine s_T rfl rfl rfl rfl rfl rfl (ops_val rfl (v_bin rfl rfl b_geq) ?_)
       refine sv rfl (v_pickF rfl rfl rfl) ?_
       refine s_nil ?_
       refine b_nil (hK _ ?_)
       clear hK K
       exact to_le (s' := ⟨[(1, slE eInt p1), (2, HV.fptr [HV.int .i64 p0.1, HV.int .i64 p0.2.1, slE eFromLabelTo p0.2.2] 0), (4, HV.ptr 19004 v1 0), (7, HV.int .i64 a4), (38, HV.bool (decide (p0.2.1 ≤ x21)))], [(19004, v1, .arr 3 24 [HV.int .i64 0, HV.int .i64 0, HV.v (.slice none 0 0)])]⟩) (AS.le_of ⟨rfl, rfl, rfl, rfl, rfl, trivial⟩ ⟨rfl, trivial⟩) ⟨decide (p0.2.1 ≤ x21), (), h, rfl⟩
    ·have hc := of_decide_eq_false hc
     have h := ifF hc h
     refine AW.exit ?_
     exact to_le (s' := ⟨[(1, slE eInt p1), (2, HV.fptr [HV.int .i64 p0.1, HV.int .i64 p0.2.1, slE eFromLabelTo p0.2.2] 0), (4, HV.ptr 19004 v1 0)], [(19004, v1, .arr 3 24 [HV.int .i64 0, HV.int .i64 0, HV.v (.slice none 0 0)])]⟩) (AS.le_of ⟨rfl, rfl, rfl, trivial⟩ ⟨rfl, trivial⟩) ⟨(), (), h, rfl⟩

end Go.AW
