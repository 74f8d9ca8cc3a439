import Derived.Test.YtccnafddjjamoaaAwT
namespace Go.AW
open Go Go.Proofs

/-- a list of texts, of numbers -/
def strs (l : List (List UInt8)) : HV := .sl 1 l.length (l.map .str)
def ints (l : List Int) : HV := .sl 1 l.length (l.map (.int .i64))
def num (n : Int) : HV := .int .i64 n

theorem strs_room {l : List (List UInt8)} (h : fact (strs l)) : l.length ≤ 9223372036854775807 := h.1
theorem strs_at {l : List (List UInt8)} {i : Nat} (h : i < l.length) : (l.map HV.str)[i]? = some (.str l[i]) := by
  rw [List.getElem?_map, List.getElem?_eq_getElem h]; rfl
theorem ints_at {l : List Int} {i : Nat} (h : i < l.length) : (l.map (HV.int .i64))[i]? = some (.int .i64 l[i]) := by
  rw [List.getElem?_map, List.getElem?_eq_getElem h]; rfl
theorem fact_str {l : List (List UInt8)} (h : fact (strs l)) {w : List UInt8} (hw : w ∈ l) : w.length ≤ 9223372036854775807 := by
  have := factL_iff.1 h.2.2 (.str w) (List.mem_map.2 ⟨w, hw, rfl⟩)
  exact this
theorem fact_int {l : List Int} (h : fact (ints l)) {n : Int} (hn : n ∈ l) : -9223372036854775808 ≤ n ∧ n ≤ 9223372036854775807 := by
  have := factL_iff.1 h.2.2 (.int .i64 n) (List.mem_map.2 ⟨n, hn, rfl⟩)
  simpa [fact, Lit.wf, IntKind.min, IntKind.max, IntKind.signed, IntKind.bits] using this
theorem clean_strs (l : List (List UInt8)) : clean (strs l) := cleanL_map fun _ _ => trivial
theorem clean_ints (l : List Int) : clean (ints l) := cleanL_map fun _ _ => trivial

/-- counting up to n -/
theorem cnt_next {i n : Nat} (h : n ≤ 9223372036854775807) (hi : i < n) : IntKind.wrap .i64 ((i : Int) + 1) = ((i + 1 : Nat) : Int) := by
  rw [w64 (by omega) (by omega)]; omega
theorem cnt_lt {i n : Nat} (h : decide ((i : Int) < (n : Int)) = true) : i < n := by simpa using h
theorem cnt_ge {i n : Nat} (h : decide ((i : Int) < (n : Int)) = false) (hi : i ≤ n) : i = n := by
  have : ¬ i < n := by simpa using h
  omega

/-- a caller uses a pure contract -/
theorem Pure.use {P : Program} {f : FuncId} {args : List HV} {H : Heap} {K : HV → Heap → Prop} {R : HV → Prop} (hp : Pure P f args R) (hK : ∀ r, R r → K r H) : ACall P f args H K := ACall.pure0 hp hK

theorem nat_eq_of {a b : Nat} (h : decide ((a : Int) ≠ (b : Int)) = false) : a = b := by
  have : (a : Int) = b := by simpa using h
  omega
theorem nat_ne_of {a b : Nat} (h : decide ((a : Int) ≠ (b : Int)) = true) : a ≠ b := by
  have : ¬ (a : Int) = b := by simpa using h
  omega
end Go.AW
