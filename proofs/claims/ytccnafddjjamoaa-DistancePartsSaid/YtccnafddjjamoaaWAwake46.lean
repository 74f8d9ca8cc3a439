import Derived.Test.YtccnafddjjamoaaAwY
import Derived.Test.YtccnafddjjamoaaWIdx
import Derived.Test.YtccnafddjjamoaaWWords
namespace Go.AW
open Go Go.Proofs

theorem names_ok : Try.prog.funcs.toList.all (fun x => !(x.name == "runtime.NumGoroutine")) = true := by kernel_rfl

theorem fn_ok (f : FuncId) (x : Func) (h : Try.prog.funcs[f]? = some x) : Try.prog.funcs[f]? = some x ∧ (x.name == "runtime.NumGoroutine") = false := by
  refine ⟨h, ?_⟩
  have := List.all_eq_true.1 names_ok x (by
    rw [← Array.getElem?_toList] at h
    exact List.mem_of_getElem? h)
  simpa using this

def idxExt (f : FuncId) (args : List HV) : Option HV :=
  match f, args with
  | 51, [.str l, .int .u8 c] => some (.int .i64 (Lib.indexByte l c.toNat.toUInt8))
  | _, _ => none

theorem idxExt_ok (f : FuncId) (args : List HV) (r : HV) (h : idxExt f args = some r) : Fresh Try.prog f args r := by
  unfold idxExt at h
  split at h
  · cases h
    exact (w51 _ _).fresh trivial rfl
  · cases h

def trySort (f : FuncId) : Option Bool := match f with
  | 45 => some true
  | 179 => some false
  | _ => none

/-- the tables of this seat, with results that are known -/
def tabsOf (P : Program) (l : List (FuncId × List HV × HV)) : Tabs where
  ty := ty P
  fn := fun f => P.funcs[f]?
  ext := fun f args => match idxExt f args with
    | some r => some r
    | none => elook l f args
  sort := trySort

theorem tabsOf_ok {P : Program} {l : List (FuncId × List HV × HV)} (hn : ∀ (f : FuncId) (x : Func), P.funcs[f]? = some x → (x.name == "runtime.NumGoroutine") = false) (hi : ∀ f args r, idxExt f args = some r → Fresh P f args r) (h1 : SortsS P 45) (h2 : SortsI P 179)
    (hd : P.follows .mixedOrders = true) (hl : ∀ e ∈ l, Fresh P e.1 e.2.1 e.2.2) : (tabsOf P l).Ok P where
  ty := fun _ _ h => h
  fn := fun f x h => ⟨h, hn f x h⟩
  ext := fun f args r h => by
    simp only [tabsOf] at h
    split at h
    · rename_i hx; cases h; exact hi _ _ _ hx
    · exact elook_ok hl f args r h
  sortS := fun f h => by
    simp only [tabsOf, trySort] at h
    split at h
    · exact h1
    · cases h
    · cases h
  sortI := fun f h => by
    simp only [tabsOf, trySort] at h
    split at h
    · cases h
    · exact h2
    · cases h
  draw := hd

theorem tabs_ok {l : List (FuncId × List HV × HV)} (hl : ∀ e ∈ l, Fresh Try.prog e.1 e.2.1 e.2.2) : (tabsOf Try.prog l).Ok Try.prog :=
  tabsOf_ok (fun f x h => (fn_ok f x h).2) idxExt_ok sorts45 sorts179 follows hl

/-- the graph of the chapter's examples -/
def gE : HV := .sl 3 3 [num 0, num 0, num 0, num 0, num 1, num 1, num 1, num 0, num 0]
def gA : HV := .agg [num 2, num 2, gE]

theorem a86 : Fresh Try.prog 86 [gA] (num 0) := Fresh.of_comes (T := tabsOf Try.prog []) (k := 1000) (tabs_ok (fun _ h => by cases h)) (by kernel_rfl)

def k86 : List (FuncId × List HV × HV) := [(86, [gA], num 0)]
theorem k86_ok : (tabsOf Try.prog k86).Ok Try.prog := tabs_ok fun e h => by
  simp only [k86, List.mem_singleton] at h
  subst h
  exact a86

theorem a78 : Fresh Try.prog 78 [gA, num 3] (num 0) := Fresh.of_comes (k := 1000) k86_ok (by kernel_rfl)
theorem a80 : Fresh Try.prog 80 [gA] (ints [0, 1]) := Fresh.of_comes (k := 1000) k86_ok (by kernel_rfl)

/-- the steps of the graph's sets -/
def stpA (a : List Int) (c : UInt8) : List Int := if c = 48 then (if a = [] then [] else [0]) else if a = [0, 1] ∨ a = [0] then [1] else []
def setsA (a : List Int) : Prop := a = [0, 1] ∨ a = [0] ∨ a = [1] ∨ a = []

theorem a125 : ∀ a c, setsA a → c ∈ letters.take 2 → Pure Try.prog 125 [gA, ints a, .int .u8 c.toNat] (· = ints (stpA a c)) := by
  intro a c ha hc
  have hc : c = 48 ∨ c = 49 := by simpa [letters] using hc
  rcases ha with rfl | rfl | rfl | rfl <;> rcases hc with rfl | rfl
  · exact Pure.of_comes (k := 1000) k86_ok (by kernel_rfl)
  · exact Pure.of_comes (k := 1000) k86_ok (by kernel_rfl)
  · exact Pure.of_comes (k := 1000) k86_ok (by kernel_rfl)
  · exact Pure.of_comes (k := 1000) k86_ok (by kernel_rfl)
  · exact Pure.of_comes (k := 1000) k86_ok (by kernel_rfl)
  · exact Pure.nilI (Pure.of_comes (k := 1000) k86_ok (by kernel_rfl))
  · exact Pure.nilI (Pure.of_comes (k := 1000) k86_ok (by kernel_rfl))
  · exact Pure.nilI (Pure.of_comes (k := 1000) k86_ok (by kernel_rfl))

def wordsA : List (List UInt8) := [[48, 48, 48], [48, 48, 49], [48, 49, 48], [49, 48, 48], [49, 48, 49]]

theorem a36 : Fresh Try.prog 36 [gA, num 3] (.tup [strs wordsA, .int .i64 0]) := by
  have h := w36 (L := 2) (n := 3) (gS := num 2) (gE := gE) (stp := stpA) (set := [0, 1]) (A := setsA) (by decide) rfl rfl (.inl rfl) (fun a c ha hc => ?_) a125 a78.pure a80.pure
  · have hw : wordsR stpA (letters.take 2) [0, 1] 3 = .tup [strs wordsA, .int .i64 0] := by
      have h1 : okLvl stpA (letters.take 2) [0, 1] 3 = true := by decide
      have h2 : sortS ((lvl stpA (letters.take 2) [0, 1] 3).map (·.1)) = wordsA := sortS_eq (by decide) (by decide)
      simp only [wordsR, h1, if_true, h2]
      rfl
    rw [← hw]
    exact h
  · have hc : c = 48 ∨ c = 49 := by simpa [letters] using hc
    rcases ha with rfl | rfl | rfl | rfl <;> rcases hc with rfl | rfl <;> (unfold setsA; decide)

def k36 : List (FuncId × List HV × HV) := [(36, [gA, num 3], .tup [strs wordsA, .int .i64 0])]
theorem k36_ok : (tabsOf Try.prog k36).Ok Try.prog := tabs_ok fun e h => by
  simp only [k36, List.mem_singleton] at h
  subst h
  exact a36

/-- the anchor of chapter 46 -/
theorem w15 : Fresh Try.prog 15 [] (.bool true) := Fresh.of_comes (k := 3000) k36_ok (by kernel_rfl)
end Go.AW
