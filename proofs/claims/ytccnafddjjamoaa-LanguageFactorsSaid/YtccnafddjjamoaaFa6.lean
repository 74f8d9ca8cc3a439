/- LanguageFactors: for every input the law's function returns true, and the input reads as it did. -/
import Derived.Test.YtccnafddjjamoaaFa5
import Derived.ChangeMaps5
import Derived.OpenShut
import Derived.ProofKit
import Derived.SliceStrings
import Derived.Test.YtccnafddjjamoaaRows
import Derived.WalkKit
import Derived.WideKeyArgs
namespace Go.AW
open Go Go.Proofs

theorem names_ok : Try.prog.funcs.toList.all (fun x => !(x.name == "runtime.NumGoroutine")) = true := by kernel_rfl

theorem fn_ok (f : FuncId) (x : Func) (h : Try.prog.funcs[f]? = some x) : Try.prog.funcs[f]? = some x ∧ (x.name == "runtime.NumGoroutine") = false := by
  refine ⟨h, ?_⟩
  have := List.all_eq_true.1 names_ok x (by
    rw [← Array.getElem?_toList] at h
    exact List.mem_of_getElem? h)
  simpa using this

def idxExt (f : FuncId) (args : List HV) : Option HV :=
  match f, args with
  | 51, [.str l, .int .u8 c] => some (.int .i64 (Lib.indexByte l c.toNat.toUInt8))
  | _, _ => none

theorem idxExt_ok (f : FuncId) (args : List HV) (r : HV) (h : idxExt f args = some r) : Fresh Try.prog f args r := by
  unfold idxExt at h
  split at h
  · cases h
    exact (w51 _ _).fresh trivial rfl
  · cases h

def trySort (f : FuncId) : Option Bool := match f with
  | 45 => some true
  | 179 => some false
  | _ => none

/-- the tables of this seat, with results that are known -/
def tabsOf (P : Program) (l : List (FuncId × List HV × HV)) : Tabs where
  ty := ty P
  fn := fun f => P.funcs[f]?
  ext := fun f args => match idxExt f args with
    | some r => some r
    | none => elook l f args
  sort := trySort
  keep := fun _ _ => none

theorem tabsOf_ok {P : Program} {l : List (FuncId × List HV × HV)} (hn : ∀ (f : FuncId) (x : Func), P.funcs[f]? = some x → (x.name == "runtime.NumGoroutine") = false) (hi : ∀ f args r, idxExt f args = some r → Fresh P f args r) (h1 : SortsS P 45) (h2 : SortsI P 179)
    (hd : P.follows .mixedOrders = true) (hl : ∀ e ∈ l, Fresh P e.1 e.2.1 e.2.2) : (tabsOf P l).Ok P where
  ty := fun _ _ h => h
  fn := fun f x h => ⟨h, hn f x h⟩
  ext := fun f args r h => by
    simp only [tabsOf] at h
    split at h
    · rename_i hx; cases h; exact hi _ _ _ hx
    · exact elook_ok hl f args r h
  sortS := fun f h => by
    simp only [tabsOf, trySort] at h
    split at h
    · exact h1
    · cases h
    · cases h
  sortI := fun f h => by
    simp only [tabsOf, trySort] at h
    split at h
    · cases h
    · exact h2
    · cases h
  draw := hd

theorem tabs_ok {l : List (FuncId × List HV × HV)} (hl : ∀ e ∈ l, Fresh Try.prog e.1 e.2.1 e.2.2) : (tabsOf Try.prog l).Ok Try.prog :=
  tabsOf_ok (fun f x h => (fn_ok f x h).2) idxExt_ok sorts45 sorts179 follows hl

/-- the graph of the chapter's examples -/
def gE : HV := .sl 3 3 [num 0, num 0, num 0, num 0, num 1, num 1, num 1, num 0, num 0]
def gA : HV := .agg [num 2, num 2, gE]

theorem a86 : Fresh Try.prog 86 [gA] (num 0) := Fresh.of_comes (T := tabsOf Try.prog []) (k := 1000) (tabs_ok (fun _ h => by cases h)) (by kernel_rfl)

def k86 : List (FuncId × List HV × HV) := [(86, [gA], num 0)]
theorem k86_ok : (tabsOf Try.prog k86).Ok Try.prog := tabs_ok fun e h => by
  simp only [k86, List.mem_singleton] at h
  subst h
  exact a86

theorem a78 : Fresh Try.prog 78 [gA, num 3] (num 0) := Fresh.of_comes (k := 1000) k86_ok (by kernel_rfl)
theorem a80 : Fresh Try.prog 80 [gA] (ints [0, 1]) := Fresh.of_comes (k := 1000) k86_ok (by kernel_rfl)

/-- the steps of the graph's sets -/
def stpA (a : List Int) (c : UInt8) : List Int := if c = 48 then (if a = [] then [] else [0]) else if a = [0, 1] ∨ a = [0] then [1] else []
def setsA (a : List Int) : Prop := a = [0, 1] ∨ a = [0] ∨ a = [1] ∨ a = []

theorem a125 : ∀ a c, setsA a → c ∈ letters.take 2 → Pure Try.prog 125 [gA, ints a, .int .u8 c.toNat] (· = ints (stpA a c)) := by
  intro a c ha hc
  have hc : c = 48 ∨ c = 49 := by simpa [letters] using hc
  rcases ha with rfl | rfl | rfl | rfl <;> rcases hc with rfl | rfl
  · exact Pure.of_comes (k := 1000) k86_ok (by kernel_rfl)
  · exact Pure.of_comes (k := 1000) k86_ok (by kernel_rfl)
  · exact Pure.of_comes (k := 1000) k86_ok (by kernel_rfl)
  · exact Pure.of_comes (k := 1000) k86_ok (by kernel_rfl)
  · exact Pure.of_comes (k := 1000) k86_ok (by kernel_rfl)
  · exact Pure.nilI (Pure.of_comes (k := 1000) k86_ok (by kernel_rfl))
  · exact Pure.nilI (Pure.of_comes (k := 1000) k86_ok (by kernel_rfl))
  · exact Pure.nilI (Pure.of_comes (k := 1000) k86_ok (by kernel_rfl))

def wordsA : List (List UInt8) := [[48, 48, 48], [48, 48, 49], [48, 49, 48], [49, 48, 48], [49, 48, 49]]

theorem a36 : Fresh Try.prog 36 [gA, num 3] (.tup [strs wordsA, .int .i64 0]) := by
  have h := w36 (L := 2) (n := 3) (gS := num 2) (gE := gE) (stp := stpA) (set := [0, 1]) (A := setsA) (by decide) rfl rfl (.inl rfl) (fun a c ha hc => ?_) a125 a78.pure a80.pure
  · have hw : wordsR stpA (letters.take 2) [0, 1] 3 = .tup [strs wordsA, .int .i64 0] := by
      have h1 : okLvl stpA (letters.take 2) [0, 1] 3 = true := by decide
      have h2 : sortS ((lvl stpA (letters.take 2) [0, 1] 3).map (·.1)) = wordsA := sortS_eq (by decide) (by decide)
      simp only [wordsR, h1, if_true, h2]
      rfl
    rw [← hw]
    exact h
  · have hc : c = 48 ∨ c = 49 := by simpa [letters] using hc
    rcases ha with rfl | rfl | rfl | rfl <;> rcases hc with rfl | rfl <;> (unfold setsA; decide)

def k36 : List (FuncId × List HV × HV) := [(36, [gA, num 3], .tup [strs wordsA, .int .i64 0])]
theorem k36_ok : (tabsOf Try.prog k36).Ok Try.prog := tabs_ok fun e h => by
  simp only [k36, List.mem_singleton] at h
  subst h
  exact a36

/-- the anchor of chapter 46 -/
theorem w15 : Fresh Try.prog 15 [] (.bool true) := Fresh.of_comes (k := 3000) k36_ok (by kernel_rfl)
end Go.AW

/- language.Missing at the anchor's arguments: by evaluation. -/
namespace Go.AW
open Go Go.Proofs
theorem w_language_Missing {g : TLabelsStatesEdges} {n : Int} {r : List UInt8 × Bool × Int} (h : m_language_Missing g n = some r) : Pure Try.prog 88 [HV.agg [HV.int .i64 g.1, HV.int .i64 g.2.1, slE eFromLabelTo g.2.2], HV.int .i64 n] (· = HV.tup [HV.str r.1, HV.bool r.2.1, HV.int .i64 r.2.2]) := by
  unfold m_language_Missing at h
  split at h
  · rename_i hc
    obtain ⟨rfl, rfl⟩ := hc
    cases h
    exact Pure.of_comes (k := 3000) k86_ok (by kernel_rfl)
  · cases h
end Go.AW

/- Models, printed by lk.py. -/
namespace Go.AW
open Go
set_option linter.unusedVariables false
/-- slices.Equal[[]string,string] -/
noncomputable def m_slices_Equal_Lstring_string (p0 : List (List UInt8)) (p1 : List (List UInt8)) : Option (Bool) :=
  if ((p0).length : Int) ≠ ((p1).length : Int) then
    some false
  else
    lpO (loopW (S := Int) (X := Ou (Unit) (Bool)) (fun a1 =>
        if a1 < ((p0).length : Int) then
          (idx p0 a1).bind fun x5 =>
          (idx p1 a1).bind fun x7 =>
          if x5 ≠ x7 then
            some (Stp.exit (Ou.ret false))
          else
            some (Stp.next (IntKind.wrap .i64 (a1 + 1)))
        else
          some (Stp.exit (Ou.go ()))) 0) (fun a9 =>
        some true) some

/-- groove/groovelaw11.golden -/
noncomputable def m_law11_golden  : Option (TLabelsStatesEdges) :=
  some (2, 2, [(0, 0, 0), (0, 1, 1), (1, 0, 0)])

/-- groove/groovelaw11.awake -/
noncomputable def m_law11_awakeG  : Option (Bool) :=
  (m_law11_golden).bind fun x1 =>
  (m_language_Words x1 2).bind fun x3 =>
  (m_law11_golden).bind fun x5 =>
  (m_language_Missing x5 3).bind fun x7 =>
  (m_law11_golden).bind fun x9 =>
  (m_language_Path x9 [48, 49, 48]).bind fun x11 =>
  jp (fun (a13 : Bool) =>
    some a13)
    fun k15 =>
    if (max (max x3.2 x7.2.2) x11.2) = 0 then
      (m_slices_Equal_Lstring_string x3.1 [[48, 48], [48, 49], [49, 48]]).bind fun x16 =>
      if x16 = true then
        if x7.1 = [49, 49] then
          if x7.2.1 = true then
            (m_slices_Equal_Lint_int x11.1 [0, 1, 2]).bind fun x18 =>
            k15 x18
          else
            k15 false
        else
          k15 false
      else
        k15 false
    else
      k15 false

end Go.AW

namespace Go.AW
open Go Go.Proofs
set_option linter.unusedVariables false
set_option maxHeartbeats 1600000 in
set_option maxRecDepth 100000 in
theorem w_slices_Equal_Lstring_string {p0 : List (List UInt8)} {p1 : List (List UInt8)} {r : Bool} (h : m_slices_Equal_Lstring_string p0 p1 = some r) : Pure Try.prog 20 [slE eStr p0, slE eStr p1] (· = HV.bool r) := by
  unfold m_slices_Equal_Lstring_string at h
  refine Pure.of_body Try.func20 rfl rfl (Nat.le_of_ble_eq_true rfl) fun hf => ?_
  unfold Try.f20
  dsimp only [enumS, Nat.reduceAdd]
  refine AW.rgs rfl fun K hK => ?_
  refine mv rfl rfl ?_
  refine b_nil (hK _ (AW.to (to_le (s' := ⟨[(0, slE eStr p0), (1, slE eStr p1)], []⟩) (AS.le_of ⟨rfl, rfl, trivial⟩ trivial) ?_)))
  clear hK K
  refine AW.seq ?_
  refine AW.rgs rfl fun K hK => ?_
  refine mv rfl rfl ?_
  refine bv rfl (v_lenF rfl rfl ty30 rfl) ?_
  refine mv rfl rfl ?_
  refine bv rfl (v_lenF rfl rfl ty30 rfl) ?_
  refine bv rfl (v_bin rfl rfl b_neq) ?_
  refine b_nil (hK _ (AW.to (to_le (s' := ⟨[(0, slE eStr p0), (1, slE eStr p1), (10, HV.bool (decide (((p0).length : Int) ≠ ((p1).length : Int))))], []⟩) (AS.le_of ⟨rfl, rfl, rfl, trivial⟩ trivial) ?_)))
  clear hK K
  refine AW.cond rfl (fun hc => ?_) (fun hc => ?_)
  · have hc := of_decide_eq_true hc
    have h := ifT hc h
    refine AW.rgs rfl fun K hK => ?_
    refine mv rfl rfl ?_
    refine b_nil (hK _ (AW.to (to_le (s' := ⟨[(4, HV.bool false)], []⟩) (AS.le_of ⟨rfl, trivial⟩ trivial) ?_)))
    clear hK K
    refine AW.ret ?_
    have h := Option.some.inj h
    subst h
    exact ret_pure (hs := [HV.bool false]) (q := HV.bool false) (.inr rfl) (resT rfl rfl) rfl trivial
  · have hc := of_decide_eq_false hc
    have h := ifF hc h
    refine AW.skip ?_
    refine AW.seq ?_
    refine AW.rgs rfl fun K hK => ?_
    refine mv rfl rfl ?_
    refine bv rfl (v_lenF rfl rfl ty30 rfl) ?_
    refine mv rfl rfl ?_
    refine b_nil (hK _ (AW.to (to_le (s' := ⟨[(0, slE eStr p0), (1, slE eStr p1), (12, HV.int .i64 ((p0).length : Int)), (13, HV.int .i64 0)], []⟩) (AS.le_of ⟨rfl, rfl, rfl, rfl, trivial⟩ trivial) ?_)))
    clear hK K
    refine AW.lpR h (by first | exact up_then | exact up_to) (S := Int) (V := Unit) (fun a v => ⟨[(0, slE eStr p0), (1, slE eStr p1), (12, HV.int .i64 ((p0).length : Int)), (13, HV.int .i64 a)], []⟩) ?_ (X := Unit) (W := Unit) (fun a v => ⟨[], []⟩) (fun a9 w10 h => ?_) (fun a1 w2 st3 h hr4=> ?_)
    · exact to_le (s' := ⟨[(0, slE eStr p0), (1, slE eStr p1), (12, HV.int .i64 ((p0).length : Int)), (13, HV.int .i64 0)], []⟩) (AS.le_of ⟨rfl, rfl, rfl, rfl, trivial⟩ trivial) ⟨(), rfl⟩
    · refine AW.rgs rfl fun K hK => ?_
      refine mv rfl rfl ?_
      refine b_nil (hK _ (AW.to (to_le (s' := ⟨[(4, HV.bool true)], []⟩) (AS.le_of ⟨rfl, trivial⟩ trivial) ?_)))
      clear hK K
      refine AW.ret ?_
      have h := Option.some.inj h
      subst h
      exact ret_pure (hs := [HV.bool true]) (q := HV.bool true) (.inr rfl) (resT rfl rfl) rfl trivial
    · refine AW.rgs rfl fun K hK => ?_
      refine bv rfl (v_bin rfl rfl b_lss) ?_
      refine b_nil (hK _ (AW.to (to_le (s' := ⟨[(0, slE eStr p0), (1, slE eStr p1), (12, HV.int .i64 ((p0).length : Int)), (13, HV.int .i64 a1), (14, HV.bool (decide (a1 < ((p0).length : Int))))], []⟩) (AS.le_of ⟨rfl, rfl, rfl, rfl, rfl, trivial⟩ trivial) ?_)))
      clear hK K
      refine AW.cseq rfl (fun hc => ?_) (fun hc => ?_)
      · have hc := of_decide_eq_true hc
        have h := ifT hc h
        refine AW.skip ?_
        refine AW.seq (AW.block ?_)
        refine AW.rgs rfl fun K hK => ?_
        refine mv rfl rfl ?_
        refine mv rfl rfl ?_
        refine b_nil (hK _ (AW.to (to_le (s' := ⟨[(0, slE eStr p0), (1, slE eStr p1), (5, HV.int .i64 a1), (12, HV.int .i64 ((p0).length : Int)), (13, HV.int .i64 a1)], []⟩) (AS.le_of ⟨rfl, rfl, rfl, rfl, rfl, trivial⟩ trivial) ?_)))
        clear hK K
        refine AW.dgs 9 follows rfl rfl fun K hK => ?_
        refine sm rfl rfl ?_
        refine sm rfl rfl ?_
        obtain ⟨x5, h6, h⟩ := bS h
        refine sv rfl (v_idxF ty30 es30 rfl rfl (idx_lt h6)) ?_
        refine sv rfl (v_loadF ty9 rfl (l_cell eStr h6 (o := 0) rfl rfl)) ?_
        refine sm rfl rfl ?_
        refine sm rfl rfl ?_
        obtain ⟨x7, h8, h⟩ := bS h
        refine sv rfl (v_idxF ty30 es30 rfl rfl (idx_lt h8)) ?_
        refine sv rfl (v_loadF ty9 rfl (l_cell eStr h8 (o := 0) rfl rfl)) ?_
        refine sv rfl (v_bin rfl rfl b_sneq) ?_
        refine s_nil ?_
        refine b_nil (hK _ (AW.to (to_le (s' := ⟨[(0, slE eStr p0), (1, slE eStr p1), (12, HV.int .i64 ((p0).length : Int)), (13, HV.int .i64 a1), (24, HV.bool (decide (x5 ≠ x7)))], []⟩) (AS.le_of ⟨rfl, rfl, rfl, rfl, rfl, trivial⟩ trivial) ?_)))
        clear hK K
        refine AW.cond rfl (fun hc => ?_) (fun hc => ?_)
        · have hc := of_decide_eq_true hc
          have h := ifT hc h
          refine AW.rgs rfl fun K hK => ?_
          refine mv rfl rfl ?_
          refine b_nil (hK _ (AW.to (to_le (s' := ⟨[(4, HV.bool false)], []⟩) (AS.le_of ⟨rfl, trivial⟩ trivial) ?_)))
          clear hK K
          have h := hr4 _ h
          refine AW.ret ?_
          have h := Option.some.inj h
          subst h
          exact ret_pure (hs := [HV.bool false]) (q := HV.bool false) (.inr rfl) (resT rfl rfl) rfl trivial
        · have hc := of_decide_eq_false hc
          have h := ifF hc h
          refine AW.skip ?_
          refine AW.rg rfl fun K hK => ?_
          refine bv rfl (v_bin rfl rfl b_add) ?_
          refine mv rfl rfl ?_
          refine b_nil (hK _ ?_)
          clear hK K
          exact to_le (s' := ⟨[(0, slE eStr p0), (1, slE eStr p1), (12, HV.int .i64 ((p0).length : Int)), (13, HV.int .i64 (IntKind.wrap .i64 (a1 + 1)))], []⟩) (AS.le_of ⟨rfl, rfl, rfl, rfl, trivial⟩ trivial) ⟨IntKind.wrap .i64 (a1 + 1), (), h, rfl⟩
      · have hc := of_decide_eq_false hc
        have h := ifF hc h
        refine AW.exit ?_
        exact to_le (s' := ⟨[], []⟩) (AS.le_of trivial trivial) ⟨(), (), h, rfl⟩

set_option maxHeartbeats 1600000 in
set_option maxRecDepth 100000 in
theorem w_slices_Equal_Lint_int {p0 : List (Int)} {p1 : List (Int)} {r : Bool} (h : m_slices_Equal_Lint_int p0 p1 = some r) : Pure Try.prog 32 [slE eInt p0, slE eInt p1] (· = HV.bool r) := by
  unfold m_slices_Equal_Lint_int at h
  refine Pure.of_body Try.func32 rfl rfl (Nat.le_of_ble_eq_true rfl) fun hf => ?_
  unfold Try.f32
  dsimp only [enumS, Nat.reduceAdd]
  refine AW.rgs rfl fun K hK => ?_
  refine mv rfl rfl ?_
  refine b_nil (hK _ (AW.to (to_le (s' := ⟨[(0, slE eInt p0), (1, slE eInt p1)], []⟩) (AS.le_of ⟨rfl, rfl, trivial⟩ trivial) ?_)))
  clear hK K
  refine AW.seq ?_
  refine AW.rgs rfl fun K hK => ?_
  refine mv rfl rfl ?_
  refine bv rfl (v_lenF rfl rfl ty42 rfl) ?_
  refine mv rfl rfl ?_
  refine bv rfl (v_lenF rfl rfl ty42 rfl) ?_
  refine bv rfl (v_bin rfl rfl b_neq) ?_
  refine b_nil (hK _ (AW.to (to_le (s' := ⟨[(0, slE eInt p0), (1, slE eInt p1), (10, HV.bool (decide (((p0).length : Int) ≠ ((p1).length : Int))))], []⟩) (AS.le_of ⟨rfl, rfl, rfl, trivial⟩ trivial) ?_)))
  clear hK K
  refine AW.cond rfl (fun hc => ?_) (fun hc => ?_)
  · have hc := of_decide_eq_true hc
    have h := ifT hc h
    refine AW.rgs rfl fun K hK => ?_
    refine mv rfl rfl ?_
    refine b_nil (hK _ (AW.to (to_le (s' := ⟨[(4, HV.bool false)], []⟩) (AS.le_of ⟨rfl, trivial⟩ trivial) ?_)))
    clear hK K
    refine AW.ret ?_
    have h := Option.some.inj h
    subst h
    exact ret_pure (hs := [HV.bool false]) (q := HV.bool false) (.inr rfl) (resT rfl rfl) rfl trivial
  · have hc := of_decide_eq_false hc
    have h := ifF hc h
    refine AW.skip ?_
    refine AW.seq ?_
    refine AW.rgs rfl fun K hK => ?_
    refine mv rfl rfl ?_
    refine bv rfl (v_lenF rfl rfl ty42 rfl) ?_
    refine mv rfl rfl ?_
    refine b_nil (hK _ (AW.to (to_le (s' := ⟨[(0, slE eInt p0), (1, slE eInt p1), (12, HV.int .i64 ((p0).length : Int)), (13, HV.int .i64 0)], []⟩) (AS.le_of ⟨rfl, rfl, rfl, rfl, trivial⟩ trivial) ?_)))
    clear hK K
    refine AW.lpR h (by first | exact up_then | exact up_to) (S := Int) (V := Unit) (fun a v => ⟨[(0, slE eInt p0), (1, slE eInt p1), (12, HV.int .i64 ((p0).length : Int)), (13, HV.int .i64 a)], []⟩) ?_ (X := Unit) (W := Unit) (fun a v => ⟨[], []⟩) (fun a9 w10 h => ?_) (fun a1 w2 st3 h hr4=> ?_)
    · exact to_le (s' := ⟨[(0, slE eInt p0), (1, slE eInt p1), (12, HV.int .i64 ((p0).length : Int)), (13, HV.int .i64 0)], []⟩) (AS.le_of ⟨rfl, rfl, rfl, rfl, trivial⟩ trivial) ⟨(), rfl⟩
    · refine AW.rgs rfl fun K hK => ?_
      refine mv rfl rfl ?_
      refine b_nil (hK _ (AW.to (to_le (s' := ⟨[(4, HV.bool true)], []⟩) (AS.le_of ⟨rfl, trivial⟩ trivial) ?_)))
      clear hK K
      refine AW.ret ?_
      have h := Option.some.inj h
      subst h
      exact ret_pure (hs := [HV.bool true]) (q := HV.bool true) (.inr rfl) (resT rfl rfl) rfl trivial
    · refine AW.rgs rfl fun K hK => ?_
      refine bv rfl (v_bin rfl rfl b_lss) ?_
      refine b_nil (hK _ (AW.to (to_le (s' := ⟨[(0, slE eInt p0), (1, slE eInt p1), (12, HV.int .i64 ((p0).length : Int)), (13, HV.int .i64 a1), (14, HV.bool (decide (a1 < ((p0).length : Int))))], []⟩) (AS.le_of ⟨rfl, rfl, rfl, rfl, rfl, trivial⟩ trivial) ?_)))
      clear hK K
      refine AW.cseq rfl (fun hc => ?_) (fun hc => ?_)
      · have hc := of_decide_eq_true hc
        have h := ifT hc h
        refine AW.skip ?_
        refine AW.seq (AW.block ?_)
        refine AW.rgs rfl fun K hK => ?_
        refine mv rfl rfl ?_
        refine mv rfl rfl ?_
        refine b_nil (hK _ (AW.to (to_le (s' := ⟨[(0, slE eInt p0), (1, slE eInt p1), (5, HV.int .i64 a1), (12, HV.int .i64 ((p0).length : Int)), (13, HV.int .i64 a1)], []⟩) (AS.le_of ⟨rfl, rfl, rfl, rfl, rfl, trivial⟩ trivial) ?_)))
        clear hK K
        refine AW.dgs 9 follows rfl rfl fun K hK => ?_
        refine sm rfl rfl ?_
        refine sm rfl rfl ?_
        obtain ⟨x5, h6, h⟩ := bS h
        refine sv rfl (v_idxF ty42 es42 rfl rfl (idx_lt h6)) ?_
        refine sv rfl (v_loadF ty3 rfl (l_cell eInt h6 (o := 0) rfl rfl)) ?_
        refine sm rfl rfl ?_
        refine sm rfl rfl ?_
        obtain ⟨x7, h8, h⟩ := bS h
        refine sv rfl (v_idxF ty42 es42 rfl rfl (idx_lt h8)) ?_
        refine sv rfl (v_loadF ty3 rfl (l_cell eInt h8 (o := 0) rfl rfl)) ?_
        refine sv rfl (v_bin rfl rfl b_neq) ?_
        refine s_nil ?_
        refine b_nil (hK _ (AW.to (to_le (s' := ⟨[(0, slE eInt p0), (1, slE eInt p1), (12, HV.int .i64 ((p0).length : Int)), (13, HV.int .i64 a1), (24, HV.bool (decide (x5 ≠ x7)))], []⟩) (AS.le_of ⟨rfl, rfl, rfl, rfl, rfl, trivial⟩ trivial) ?_)))
        clear hK K
        refine AW.cond rfl (fun hc => ?_) (fun hc => ?_)
        · have hc := of_decide_eq_true hc
          have h := ifT hc h
          refine AW.rgs rfl fun K hK => ?_
          refine mv rfl rfl ?_
          refine b_nil (hK _ (AW.to (to_le (s' := ⟨[(4, HV.bool false)], []⟩) (AS.le_of ⟨rfl, trivial⟩ trivial) ?_)))
          clear hK K
          have h := hr4 _ h
          refine AW.ret ?_
          have h := Option.some.inj h
          subst h
          exact ret_pure (hs := [HV.bool false]) (q := HV.bool false) (.inr rfl) (resT rfl rfl) rfl trivial
        · have hc := of_decide_eq_false hc
          have h := ifF hc h
          refine AW.skip ?_
          refine AW.rg rfl fun K hK => ?_
          refine bv rfl (v_bin rfl rfl b_add) ?_
          refine mv rfl rfl ?_
          refine b_nil (hK _ ?_)
          clear hK K
          exact to_le (s' := ⟨[(0, slE eInt p0), (1, slE eInt p1), (12, HV.int .i64 ((p0).length : Int)), (13, HV.int .i64 (IntKind.wrap .i64 (a1 + 1)))], []⟩) (AS.le_of ⟨rfl, rfl, rfl, rfl, trivial⟩ trivial) ⟨IntKind.wrap .i64 (a1 + 1), (), h, rfl⟩
      · have hc := of_decide_eq_false hc
        have h := ifF hc h
        refine AW.exit ?_
        exact to_le (s' := ⟨[], []⟩) (AS.le_of trivial trivial) ⟨(), (), h, rfl⟩

set_option maxHeartbeats 1600000 in
set_option maxRecDepth 100000 in
theorem w_language_Words {p0 : TLabelsStatesEdges} {p1 : Int} {r : (List (List UInt8)) × Int} (h : m_language_Words p0 p1 = some r) : Pure Try.prog 36 [HV.agg [HV.int .i64 p0.1, HV.int .i64 p0.2.1, slE eFromLabelTo p0.2.2], HV.int .i64 p1] (· = HV.tup [slE eStr r.1, HV.int .i64 r.2]) := by
  unfold m_language_Words at h
  refine Pure.of_body Try.func36 rfl rfl (Nat.le_of_ble_eq_true rfl) fun hf => ?_
  unfold Try.f36
  dsimp only [enumS, Nat.reduceAdd]
  refine AW.rgs rfl fun K hK => ?_
  refine b_op rfl (o_box rfl rfl rfl ?_)
  refine mv rfl rfl ?_
  refine mv rfl rfl ?_
  refine b_nil (hK _ (AW.to (to_le (s' := ⟨[(1, HV.int .i64 p1), (2, HV.fptr [HV.int .i64 p0.1, HV.int .i64 p0.2.1, slE eFromLabelTo p0.2.2] 0)], []⟩) (AS.le_of ⟨rfl, rfl, trivial⟩ trivial) ?_)))
  clear hK K
  refine AW.seq ?_
  refine AW.rgs rfl fun K hK => ?_
  refine bv rfl (v_loadF ty24 rfl (l_litA rfl (Nat.le_of_ble_eq_true rfl) rfl)) ?_
  refine mv rfl rfl ?_
  obtain ⟨x1, h2, h⟩ := bS h
  refine b_op rfl (o_call rfl rfl rfl rfl (ACallD.pure0 (w_language_lengths h2)) ?_)
  refine mv rfl rfl ?_
  refine b_nil (hK _ (AW.to (to_le (s' := ⟨[(1, HV.int .i64 p1), (2, HV.fptr [HV.int .i64 p0.1, HV.int .i64 p0.2.1, slE eFromLabelTo p0.2.2] 0), (6, HV.int .i64 x1)], []⟩) (AS.le_of ⟨rfl, rfl, rfl, trivial⟩ trivial) ?_)))
  clear hK K
  refine AW.rgs rfl fun K hK => ?_
  refine mv rfl rfl ?_
  refine bv rfl (v_bin rfl rfl b_neq) ?_
  refine b_nil (hK _ (AW.to (to_le (s' := ⟨[(1, HV.int .i64 p1), (2, HV.fptr [HV.int .i64 p0.1, HV.int .i64 p0.2.1, slE eFromLabelTo p0.2.2] 0), (6, HV.int .i64 x1), (13, HV.bool (decide (x1 ≠ 0)))], []⟩) (AS.le_of ⟨rfl, rfl, rfl, rfl, trivial⟩ trivial) ?_)))
  clear hK K
  refine AW.cond rfl (fun hc => ?_) (fun hc => ?_)
  · have hc := of_decide_eq_true hc
    have h := ifT hc h
    refine AW.rgs rfl fun K hK => ?_
    refine mv rfl rfl ?_
    refine mv rfl rfl ?_
    refine mv rfl rfl ?_
    refine b_nil (hK _ (AW.to (to_le (s' := ⟨[(4, HV.v (.slice none 0 0)), (5, HV.int .i64 x1)], []⟩) (AS.le_of ⟨rfl, rfl, trivial⟩ trivial) ?_)))
    clear hK K
    refine AW.to (to_weak ⟨[(4, slE eStr ([] : List (List UInt8))), (5, HV.int .i64 x1)], []⟩ ⟨⟨_, rfl, .nil _⟩, ⟨_, rfl, .refl _⟩, trivial⟩ trivial ?_)
    refine AW.ret ?_
    have h := Option.some.inj h
    subst h
    exact ret_pure (hs := [slE eStr ([] : List (List UInt8)), HV.int .i64 x1]) (q := HV.tup [slE eStr ([] : List (List UInt8)), HV.int .i64 x1]) (.inr rfl) (resT rfl (resT rfl rfl)) rfl ⟨(clean_slE fun _ _ => ⟨trivial, trivial⟩), trivial, trivial⟩
  · have hc := of_decide_eq_false hc
    have h := ifF hc h
    refine AW.skip ?_
    refine AW.dys follows fun K hK => ?_
    refine y_st 4 rfl rfl ?_
    refine sv rfl (v_loadF ty24 rfl (l_litA rfl (Nat.le_of_ble_eq_true rfl) rfl)) ?_
    refine sv rfl (v_loadF ty24 rfl (l_litA rfl (Nat.le_of_ble_eq_true rfl) rfl)) ?_
    obtain ⟨x3, h4, h⟩ := bS h
    refine s_op rfl rfl (ops_call rfl rfl rfl rfl (ACallD.pure0 (w_language_states h4)) ?_)
    refine sm rfl rfl ?_
    refine s_nil ?_
    obtain ⟨x5, h6, h⟩ := bS h
    by_cases hg7 : x5.2 = true
    · have h := ifT hg7 h
      refine y_op rfl rfl rfl rfl (o_callA rfl rfl rfl rfl (c_listT h6 hg7 fun i8 v9 es10 hes11 => ?_) )
      refine b_nil ?_
      refine y_st 10 rfl rfl ?_
      refine sm rfl rfl ?_
      refine sv rfl (v_extract rfl rfl) ?_
      refine sv rfl (v_extract rfl rfl) ?_
      refine sm rfl rfl ?_
      refine sm rfl rfl ?_
      refine s_nil ?_
      refine y_nil rfl (hK _ (AW.to (to_le (s' := ⟨[(7, HV.mp i8 v9), (8, HV.bool true)], [(i8, v9, .map es10)]⟩) (AS.le_of ⟨rfl, rfl, trivial⟩ ⟨hget_0, trivial⟩) ?_)))
      clear hK K
      refine AW.seq ?_
      refine AW.rgs rfl fun K hK => ?_
      refine mv rfl rfl ?_
      refine bv rfl (v_not rfl) ?_
      refine b_nil (hK _ (AW.to (to_le (s' := ⟨[(7, HV.mp i8 v9), (24, HV.bool false)], [(i8, v9, .map es10)]⟩) (AS.le_of ⟨rfl, rfl, trivial⟩ ⟨hget_0, trivial⟩) ?_)))
      clear hK K
      refine AW.cond rfl (fun hc => by cases hc) (fun _ => ?_)
      refine AW.skip ?_
      refine AW.rgs rfl fun K hK => ?_
      refine mv rfl rfl ?_
      refine b_op rfl (o_callK [(i8, v9, .map es10)] rfl rfl rfl rfl (fun K hK => w82 hK) ?_)
      refine b_op rfl (o_callK (q := slE eStr (sortS ((x5.1).map Prod.fst))) [] rfl rfl rfl rfl (fun K hK => c_sortedKeys hes11 hK) ?_)
      refine mv rfl rfl ?_
      refine mv rfl rfl ?_
      refine b_nil (hK _ (AW.to (to_le (s' := ⟨[(4, slE eStr (sortS ((x5.1).map Prod.fst))), (5, HV.int .i64 0)], []⟩) (AS.le_of ⟨rfl, rfl, trivial⟩ trivial) ?_)))
      clear hK K
      refine AW.ret ?_
      have h := Option.some.inj h
      subst h
      exact ret_pure (hs := [slE eStr (sortS ((x5.1).map Prod.fst)), HV.int .i64 0]) (q := HV.tup [slE eStr (sortS ((x5.1).map Prod.fst)), HV.int .i64 0]) (.inr rfl) (resT rfl (resT rfl rfl)) rfl ⟨(clean_slE fun _ _ => ⟨trivial, trivial⟩), trivial, trivial⟩
    · have h := ifF hg7 h
      refine y_op rfl rfl rfl rfl (o_callA rfl rfl rfl rfl (c_listF h6 hg7 ?_) )
      refine b_nil ?_
      refine y_st 10 rfl rfl ?_
      refine sm rfl rfl ?_
      refine sv rfl (v_extract rfl rfl) ?_
      refine sv rfl (v_extract rfl rfl) ?_
      refine sm rfl rfl ?_
      refine sm rfl rfl ?_
      refine s_nil ?_
      refine y_nil rfl (hK _ (AW.to (to_le (s' := ⟨[(7, HV.v (.map none)), (8, HV.bool false)], []⟩) (AS.le_of ⟨rfl, rfl, trivial⟩ trivial) ?_)))
      clear hK K
      refine AW.seq ?_
      refine AW.rgs rfl fun K hK => ?_
      refine mv rfl rfl ?_
      refine bv rfl (v_not rfl) ?_
      refine b_nil (hK _ (AW.to (to_le (s' := ⟨[(7, HV.v (.map none)), (24, HV.bool true)], []⟩) (AS.le_of ⟨rfl, rfl, trivial⟩ trivial) ?_)))
      clear hK K
      refine AW.cond rfl (fun _ => ?_) (fun hc => by cases hc)
      refine AW.rgs rfl fun K hK => ?_
      refine mv rfl rfl ?_
      refine mv rfl rfl ?_
      refine b_nil (hK _ (AW.to (to_le (s' := ⟨[(4, HV.v (.slice none 0 0)), (5, HV.int .i64 4)], []⟩) (AS.le_of ⟨rfl, rfl, trivial⟩ trivial) ?_)))
      clear hK K
      refine AW.to (to_weak ⟨[(4, slE eStr ([] : List (List UInt8))), (5, HV.int .i64 4)], []⟩ ⟨⟨_, rfl, .nil _⟩, ⟨_, rfl, .refl _⟩, trivial⟩ trivial ?_)
      refine AW.ret ?_
      have h := Option.some.inj h
      subst h
      exact ret_pure (hs := [slE eStr ([] : List (List UInt8)), HV.int .i64 4]) (q := HV.tup [slE eStr ([] : List (List UInt8)), HV.int .i64 4]) (.inr rfl) (resT rfl (resT rfl rfl)) rfl ⟨(clean_slE fun _ _ => ⟨trivial, trivial⟩), trivial, trivial⟩

set_option maxHeartbeats 1600000 in
set_option maxRecDepth 100000 in
theorem w_law11_golden  {r : TLabelsStatesEdges} (h : m_law11_golden  = some r) : Pure Try.prog 87 [] (· = HV.agg [HV.int .i64 r.1, HV.int .i64 r.2.1, slE eFromLabelTo r.2.2]) := by
  unfold m_law11_golden at h
  refine Pure.of_body Try.func87 rfl rfl (Nat.le_of_ble_eq_true rfl) fun hf => ?_
  unfold Try.f87
  dsimp only [enumS, Nat.reduceAdd]
  refine AW.rgs rfl fun K hK => ?_
  refine b_op rfl (o_alloc (fid := 87) (zs := [HV.int .i64 0, HV.int .i64 0, HV.v (.slice none 0 0)]) 87000 rfl rfl ty24 rfl (fun v1 => ?_))
  refine b_nil (hK _ (AW.to (to_le (s' := ⟨[(0, HV.ptr 87000 v1 0)], [(87000, v1, .arr 3 24 [HV.int .i64 0, HV.int .i64 0, HV.v (.slice none 0 0)])]⟩) (AS.le_of ⟨rfl, trivial⟩ ⟨rfl, trivial⟩) ?_)))
  clear hK K
  refine AW.rgs rfl fun K hK => ?_
  refine b_op rfl (o_build (cs := [HV.int .i64 0, HV.int .i64 0, HV.int .i64 0]) rfl (bl_of ty66 rfl rfl rfl rfl) ?_)
  refine b_op rfl (o_build (cs := [HV.int .i64 0, HV.int .i64 1, HV.int .i64 1]) rfl (bl_of ty66 rfl rfl rfl rfl) ?_)
  refine b_op rfl (o_build (cs := [HV.int .i64 1, HV.int .i64 0, HV.int .i64 0]) rfl (bl_of ty66 rfl rfl rfl rfl) ?_)
  refine b_op rfl (o_bsl rfl rfl (as_of (cs := [HV.int .i64 0, HV.int .i64 0, HV.int .i64 0, HV.int .i64 0, HV.int .i64 1, HV.int .i64 1, HV.int .i64 1, HV.int .i64 0, HV.int .i64 0]) ty22 ty66 rfl rfl rfl rfl rfl) ?_)
  refine b_op rfl (o_build (cs := [HV.int .i64 2, HV.int .i64 2, slE eFromLabelTo [(0, 0, 0), (0, 1, 1), (1, 0, 0)]]) rfl (bl_of ty24 rfl rfl rfl rfl) ?_)
  refine b_op rfl (o_store (cs := [HV.int .i64 2, HV.int .i64 2, slE eFromLabelTo [(0, 0, 0), (0, 1, 1), (1, 0, 0)]]) (zs := [HV.int .i64 2, HV.int .i64 2, slE eFromLabelTo [(0, 0, 0), (0, 1, 1), (1, 0, 0)]]) rfl rfl rfl ty24 rfl rfl rfl rfl rfl ?_)
  refine b_nil (hK _ (AW.to (to_le (s' := ⟨[(0, HV.ptr 87000 v1 0)], [(87000, v1, .arr 3 24 [HV.int .i64 2, HV.int .i64 2, slE eFromLabelTo [(0, 0, 0), (0, 1, 1), (1, 0, 0)]])]⟩) (AS.le_of ⟨rfl, trivial⟩ ⟨rfl, trivial⟩) ?_)))
  clear hK K
  refine AW.ret ?_
  have h := Option.some.inj h
  subst h
  exact ret_pure (hs := [HV.agg [HV.int .i64 2, HV.int .i64 2, slE eFromLabelTo [(0, 0, 0), (0, 1, 1), (1, 0, 0)]]]) (q := HV.agg [HV.int .i64 2, HV.int .i64 2, slE eFromLabelTo [(0, 0, 0), (0, 1, 1), (1, 0, 0)]]) (.inr rfl) (resP ty24 rfl rfl (l_litA rfl (Nat.le_of_ble_eq_true rfl) rfl) rfl) rfl ⟨trivial, trivial, (clean_slE fun _ _ => ⟨trivial, trivial, trivial, trivial⟩), trivial⟩

set_option maxHeartbeats 1600000 in
set_option maxRecDepth 100000 in
theorem w_law11_awakeG  {r : Bool} (h : m_law11_awakeG  = some r) : Pure Try.prog 41 [] (· = HV.bool r) := by
  unfold m_law11_awakeG at h
  refine Pure.of_body Try.func41 rfl rfl (Nat.le_of_ble_eq_true rfl) fun hf => ?_
  unfold Try.f41
  dsimp only [enumS, Nat.reduceAdd]
  refine AW.rgs rfl fun K hK => ?_
  refine mv rfl rfl ?_
  refine b_nil (hK _ (AW.to (to_le (s' := ⟨[], []⟩) (AS.le_of trivial trivial) ?_)))
  clear hK K
  refine AW.rgs rfl fun K hK => ?_
  obtain ⟨x1, h2, h⟩ := bS h
  refine b_op rfl (o_call rfl rfl rfl rfl (ACallD.pure0 (w_law11_golden h2)) ?_)
  obtain ⟨x3, h4, h⟩ := bS h
  refine b_op rfl (o_call rfl rfl rfl rfl (ACallD.pure0 (w_language_Words h4)) ?_)
  refine mv rfl rfl ?_
  refine bv rfl (v_extract rfl rfl) ?_
  refine bv rfl (v_extract rfl rfl) ?_
  refine mv rfl rfl ?_
  refine mv rfl rfl ?_
  refine b_nil (hK _ (AW.to (to_le (s' := ⟨[(1, slE eStr x3.1), (2, HV.int .i64 x3.2)], []⟩) (AS.le_of ⟨rfl, rfl, trivial⟩ trivial) ?_)))
  clear hK K
  refine AW.rgs rfl fun K hK => ?_
  obtain ⟨x5, h6, h⟩ := bS h
  refine b_op rfl (o_call rfl rfl rfl rfl (ACallD.pure0 (w_law11_golden h6)) ?_)
  obtain ⟨x7, h8, h⟩ := bS h
  refine b_op rfl (o_call rfl rfl rfl rfl (ACallD.pure0 (w_language_Missing h8)) ?_)
  refine mv rfl rfl ?_
  refine bv rfl (v_extract rfl rfl) ?_
  refine bv rfl (v_extract rfl rfl) ?_
  refine bv rfl (v_extract rfl rfl) ?_
  refine mv rfl rfl ?_
  refine mv rfl rfl ?_
  refine mv rfl rfl ?_
  refine b_nil (hK _ (AW.to (to_le (s' := ⟨[(1, slE eStr x3.1), (2, HV.int .i64 x3.2), (3, HV.str x7.1), (4, HV.bool x7.2.1), (5, HV.int .i64 x7.2.2)], []⟩) (AS.le_of ⟨rfl, rfl, rfl, rfl, rfl, trivial⟩ trivial) ?_)))
  clear hK K
  refine AW.rgs rfl fun K hK => ?_
  obtain ⟨x9, h10, h⟩ := bS h
  refine b_op rfl (o_call rfl rfl rfl rfl (ACallD.pure0 (w_law11_golden h10)) ?_)
  obtain ⟨x11, h12, h⟩ := bS h
  refine b_op rfl (o_call rfl rfl rfl rfl (ACallD.pure0 (w_language_Path h12)) ?_)
  refine mv rfl rfl ?_
  refine bv rfl (v_extract rfl rfl) ?_
  refine bv rfl (v_extract rfl rfl) ?_
  refine mv rfl rfl ?_
  refine mv rfl rfl ?_
  refine b_nil (hK _ (AW.to (to_le (s' := ⟨[(1, slE eStr x3.1), (2, HV.int .i64 x3.2), (3, HV.str x7.1), (4, HV.bool x7.2.1), (5, HV.int .i64 x7.2.2), (6, slE eInt x11.1), (7, HV.int .i64 x11.2)], []⟩) (AS.le_of ⟨rfl, rfl, rfl, rfl, rfl, rfl, rfl, trivial⟩ trivial) ?_)))
  clear hK K
  refine AW.seqJ h (S := Bool) (V := Unit) (fun a v => ⟨[(0, HV.bool a)], []⟩) (fun a13 w14 h => ?_) (fun k15 h => ?_)
  · refine AW.ret ?_
    have h := Option.some.inj h
    subst h
    exact ret_pure (hs := [HV.bool a13]) (q := HV.bool a13) (.inr rfl) (resT rfl rfl) rfl trivial
  · refine AW.rg rfl fun K hK => ?_
    refine mv rfl rfl ?_
    refine mv rfl rfl ?_
    refine mv rfl rfl ?_
    refine bv rfl (v_max3 rfl rfl rfl rfl) ?_
    refine bv rfl (v_bin rfl rfl b_eql) ?_
    refine mv rfl rfl ?_
    by_cases hg23 : (max (max x3.2 x7.2.2) x11.2) = 0
    · have h := ifT hg23 h
      refine b_T rfl rfl rfl rfl (decide_eq_true hg23) (o_val rfl (mv_val rfl rfl).2 ?_)
      refine b_T rfl rfl rfl rfl rfl (o_bsl rfl rfl (as_of (cs := [HV.str [48, 48], HV.str [48, 49], HV.str [49, 48]]) ty30 ty9 rfl rfl rfl rfl rfl) ?_)
      obtain ⟨x16, h17, h⟩ := bS h
      refine b_T rfl rfl rfl rfl rfl (o_call rfl rfl rfl rfl (ACallD.pure0 (w_slices_Equal_Lstring_string h17)) ?_)
      refine bv rfl (v_pickT rfl rfl rfl) ?_
      refine mv rfl rfl ?_
      by_cases hg22 : x16 = true
      · have h := ifT hg22 h
        refine b_T rfl rfl rfl rfl hg22 (o_val rfl (mv_val rfl rfl).2 ?_)
        refine b_T rfl rfl rfl rfl rfl (o_val rfl (v_bin rfl rfl b_seql) ?_)
        refine bv rfl (v_pickT rfl rfl rfl) ?_
        refine mv rfl rfl ?_
        by_cases hg21 : x7.1 = [49, 49]
        · have h := ifT hg21 h
          refine b_T rfl rfl rfl rfl (decide_eq_true hg21) (o_val rfl (mv_val rfl rfl).2 ?_)
          refine bv rfl (v_pickT rfl rfl rfl) ?_
          refine mv rfl rfl ?_
          by_cases hg20 : x7.2.1 = true
          · have h := ifT hg20 h
            refine b_T rfl rfl rfl rfl hg20 (o_val rfl (mv_val rfl rfl).2 ?_)
            refine b_T rfl rfl rfl rfl rfl (o_bsl rfl rfl (as_of (cs := [HV.int .i64 0, HV.int .i64 1, HV.int .i64 2]) ty42 ty3 rfl rfl rfl rfl rfl) ?_)
            obtain ⟨x18, h19, h⟩ := bS h
            refine b_T rfl rfl rfl rfl rfl (o_call rfl rfl rfl rfl (ACallD.pure0 (w_slices_Equal_Lint_int h19)) ?_)
            refine bv rfl (v_pickT rfl rfl rfl) ?_
            refine mv rfl rfl ?_
            refine b_nil (hK _ ?_)
            clear hK K
            exact to_le (s' := ⟨[(0, HV.bool x18)], []⟩) (AS.le_of ⟨rfl, trivial⟩ trivial) ⟨x18, (), h, rfl⟩
          · have h := ifF hg20 h
            refine b_F rfl rfl rfl rfl rfl (bF hg20) ?_
            refine b_F rfl rfl rfl rfl rfl rfl ?_
            refine b_F rfl rfl rfl rfl rfl rfl ?_
            refine bv rfl (v_pickF rfl rfl rfl) ?_
            refine mv rfl rfl ?_
            refine b_nil (hK _ ?_)
            clear hK K
            exact to_le (s' := ⟨[(0, HV.bool false)], []⟩) (AS.le_of ⟨rfl, trivial⟩ trivial) ⟨false, (), h, rfl⟩
        · have h := ifF hg21 h
          refine b_F rfl rfl rfl rfl rfl (decide_eq_false hg21) ?_
          refine bv rfl (v_pickF rfl rfl rfl) ?_
          refine mv rfl rfl ?_
          refine b_F rfl rfl rfl rfl rfl rfl ?_
          refine b_F rfl rfl rfl rfl rfl rfl ?_
          refine b_F rfl rfl rfl rfl rfl rfl ?_
          refine bv rfl (v_pickF rfl rfl rfl) ?_
          refine mv rfl rfl ?_
          refine b_nil (hK _ ?_)
          clear hK K
          exact to_le (s' := ⟨[(0, HV.bool false)], []⟩) (AS.le_of ⟨rfl, trivial⟩ trivial) ⟨false, (), h, rfl⟩
      · have h := ifF hg22 h
        refine b_F rfl rfl rfl rfl rfl (bF hg22) ?_
        refine b_F rfl rfl rfl rfl rfl rfl ?_
        refine bv rfl (v_pickF rfl rfl rfl) ?_
        refine mv rfl rfl ?_
        refine b_F rfl rfl rfl rfl rfl rfl ?_
        refine bv rfl (v_pickF rfl rfl rfl) ?_
        refine mv rfl rfl ?_
        refine b_F rfl rfl rfl rfl rfl rfl ?_
        refine b_F rfl rfl rfl rfl rfl rfl ?_
        refine b_F rfl rfl rfl rfl rfl rfl ?_
        refine bv rfl (v_pickF rfl rfl rfl) ?_
        refine mv rfl rfl ?_
        refine b_nil (hK _ ?_)
        clear hK K
        exact to_le (s' := ⟨[(0, HV.bool false)], []⟩) (AS.le_of ⟨rfl, trivial⟩ trivial) ⟨false, (), h, rfl⟩
    · have h := ifF hg23 h
      refine b_F rfl rfl rfl rfl rfl (decide_eq_false hg23) ?_
      refine b_F rfl rfl rfl rfl rfl rfl ?_
      refine b_F rfl rfl rfl rfl rfl rfl ?_
      refine bv rfl (v_pickF rfl rfl rfl) ?_
      refine mv rfl rfl ?_
      refine b_F rfl rfl rfl rfl rfl rfl ?_
      refine b_F rfl rfl rfl rfl rfl rfl ?_
      refine bv rfl (v_pickF rfl rfl rfl) ?_
      refine mv rfl rfl ?_
      refine b_F rfl rfl rfl rfl rfl rfl ?_
      refine bv rfl (v_pickF rfl rfl rfl) ?_
      refine mv rfl rfl ?_
      refine b_F rfl rfl rfl rfl rfl rfl ?_
      refine b_F rfl rfl rfl rfl rfl rfl ?_
      refine b_F rfl rfl rfl rfl rfl rfl ?_
      refine bv rfl (v_pickF rfl rfl rfl) ?_
      refine mv rfl rfl ?_
      refine b_nil (hK _ ?_)
      clear hK K
      exact to_le (s' := ⟨[(0, HV.bool false)], []⟩) (AS.le_of ⟨rfl, trivial⟩ trivial) ⟨false, (), h, rfl⟩

end Go.AW

/- The least path that is labelled with a word. -/
namespace Go.AW
open Go
set_option linter.unusedSimpArgs false
set_option linter.unusedVariables false

theorem letters_inj {i j : Nat} (hi : i < letters.length) (hj : j < letters.length) : ((letters[i]).toNat : Int) = ((letters[j]).toNat : Int) ↔ i = j := by
  have h : ∀ a b : Fin 16, ((letters[a.1]'(show a.1 < letters.length from a.2)).toNat : Int) = ((letters[b.1]'(show b.1 < letters.length from b.2)).toNat : Int) → a.1 = b.1 := by decide
  exact ⟨fun e => h ⟨i, hi⟩ ⟨j, hj⟩ e, fun e => by subst e; rfl⟩

section
variable {g : Gr}

/-- from which states a word can be read -/
def canB (g : Gr) : List UInt8 → List Bool
  | [] => List.replicate g.2.1.toNat true
  | c :: w => (upto g.2.1).map fun s => g.2.2.any fun x => decide (x.1 = s ∧ x.2.1 = lab c) && (canB g w).getD x.2.2.toNat false
theorem canB_len : ∀ w, (canB g w).length = g.2.1.toNat
  | [] => by simp [canB]
  | c :: w => by simp [canB, upto_len]
/-- the word can be read from a state -/
def canR (g : Gr) (w : List UInt8) (s : Int) : Prop := (canB g w).getD s.toNat false = true
theorem upto_get {n : Int} {i : Nat} (h : i < (upto n).length) : (upto n)[i] = (i : Int) := by simp [upto]
theorem canR_cons {c : UInt8} {w : List UInt8} {s : Int} (h0 : 0 ≤ s) (h1 : s < g.2.1) : canR g (c :: w) s ↔ ∃ x ∈ g.2.2, x.1 = s ∧ x.2.1 = lab c ∧ canR g w x.2.2 := by
  have hs : s.toNat < (upto g.2.1).length := by rw [upto_len]; omega
  simp only [canR, canB]
  rw [List.getD_eq_getElem?_getD, List.getElem?_map, List.getElem?_eq_getElem hs, upto_get]
  simp only [Option.map_some, Option.getD_some, List.any_eq_true, Bool.and_eq_true, decide_eq_true_eq]
  have e : ((s.toNat : Nat) : Int) = s := by omega
  rw [e]
  exact ⟨fun ⟨x, hx, ⟨h2, h3⟩, h4⟩ => ⟨x, hx, h2, h3, h4⟩, fun ⟨x, hx, h2, h3, h4⟩ => ⟨x, hx, ⟨h2, h3⟩, h4⟩⟩

/-- an edge with which a word goes on -/
def okE (g : Gr) (w : List UInt8) (c : UInt8) (prev : Option Int) (x : Ed) : Bool := decide (x.2.1 = lab c) && (canB g w).getD x.2.2.toNat false && (match prev with
  | none => true
  | some s => decide (x.1 = s))
def pick (g : Gr) (w : List UInt8) (c : UInt8) (prev : Option Int) : Nat := g.2.2.findIdx (okE g w c prev)
/-- the least path behind a state -/
def pathR (g : Gr) (prev : Option Int) : List UInt8 → List Int
  | [] => []
  | c :: w => (pick g w c prev : Int) :: pathR g (some (g.2.2.getD (pick g w c prev) (0, 0, 0)).2.2) w
def feas (g : Gr) (prev : Option Int) (w : List UInt8) : Prop := match prev with
  | none => ∃ s, 0 ≤ s ∧ s < g.2.1 ∧ canR g w s
  | some s => 0 ≤ s ∧ s < g.2.1 ∧ canR g w s
theorem feas_pick (hv : VG g) {prev : Option Int} {c : UInt8} {w : List UInt8} (h : feas g prev (c :: w)) : ∃ h : pick g w c prev < g.2.2.length, okE g w c prev g.2.2[pick g w c prev] = true ∧ feas g (some (g.2.2[pick g w c prev]).2.2) w := by
  have hex : ∃ x ∈ g.2.2, okE g w c prev x = true := by
    cases prev with
    | none =>
      obtain ⟨s, h0, h1, hc⟩ := h
      obtain ⟨x, hx, h2, h3, h4⟩ := (canR_cons h0 h1).1 hc
      exact ⟨x, hx, by simp [okE, h3]; exact h4⟩
    | some s =>
      obtain ⟨h0, h1, hc⟩ := h
      obtain ⟨x, hx, h2, h3, h4⟩ := (canR_cons h0 h1).1 hc
      exact ⟨x, hx, by simp [okE, h2, h3]; exact h4⟩
  have hlt : pick g w c prev < g.2.2.length := List.findIdx_lt_length_of_exists (by simpa using hex)
  have hok : okE g w c prev g.2.2[pick g w c prev] = true := List.findIdx_getElem (p := okE g w c prev) (w := hlt)
  refine ⟨hlt, hok, ?_⟩
  obtain ⟨_, _, h2, h3, _⟩ := hv.ed _ (List.getElem_mem hlt)
  simp only [okE, Bool.and_eq_true] at hok
  exact ⟨h2, h3, hok.1.2⟩
theorem pick_min {w : List UInt8} {c : UInt8} {prev : Option Int} {k : Nat} (h : k < pick g w c prev) (hk : k < g.2.2.length) : okE g w c prev g.2.2[k] = false := by
  have := List.not_of_lt_findIdx h
  simpa using this

/-- the end of the path so far -/
def prevOf (g : Gr) (out : List Int) (i : Nat) : Option Int := if i = 0 then none else some (g.2.2.getD (out.getD (i - 1) 0).toNat (0, 0, 0)).2.2

theorem IndexB_eq {l : List Bool} (hm : l.length ≤ 9223372036854775807) : ∃ r, m_slices_Index_Lbool_bool l true = some r ∧ (0 ≤ r ↔ true ∈ l) := by
  unfold m_slices_Index_Lbool_bool
  have hx : ∃ x, loopW (S := Int) (X := Ou (Unit) (Int)) (fun a1 =>
      if a1 < ((l).length : Int) then
        (idx l a1).bind fun x5 =>
        if (true == x5) = true then
          some (Stp.exit (Ou.ret a1))
        else
          some (Stp.next (IntKind.wrap .i64 (a1 + 1)))
      else
        some (Stp.exit (Ou.go ()))) 0 = some x ∧ ((x = .go () ∧ ¬ true ∈ l) ∨ ∃ r : Int, x = .ret r ∧ 0 ≤ r ∧ true ∈ l) := by
    refine loopN l.length (fun i s => s = (i : Int) ∧ ∀ (j : Nat) (h : j < l.length), j < i → l[j] = false) ?_ ?_ 0 _ (Nat.zero_le _) ⟨rfl, fun _ _ h => by omega⟩
    · rintro i s hi ⟨rfl, hj⟩
      rw [if_pos (lt_int hi), ix hi]
      simp only [Option.bind_some]
      by_cases hb : l[i] = true
      · rw [hb]
        exact .inr ⟨_, rfl, .inr ⟨_, rfl, by omega, by rw [← hb]; exact List.getElem_mem hi⟩⟩
      · have hb : l[i] = false := by simpa using hb
        rw [hb]
        refine .inl ⟨_, rfl, by rw [nx hm hi], fun j h hji => ?_⟩
        by_cases e : j = i
        · subst e; exact hb
        · exact hj j h (by omega)
    · rintro s ⟨rfl, hj⟩
      rw [if_neg (not_lt_int _)]
      refine ⟨_, rfl, .inl ⟨rfl, fun hm => ?_⟩⟩
      obtain ⟨j, h, e⟩ := List.getElem_of_mem hm
      rw [hj j h h] at e
      cases e
  obtain ⟨x, hx, ⟨rfl, hn⟩ | ⟨r, rfl, h0, hm⟩⟩ := hx
  · rw [hx]
    exact ⟨-1, rfl, by simp [hn]⟩
  · rw [hx]
    exact ⟨r, rfl, by simp [h0, hm]⟩
theorem ContainsB_eq {l : List Bool} (hm : l.length ≤ 9223372036854775807) : m_slices_Contains_Lbool_bool l true = some (decide (true ∈ l)) := by
  obtain ⟨r, hr, h⟩ := IndexB_eq hm
  unfold m_slices_Contains_Lbool_bool
  rw [hr]
  simp only [Option.bind_some, h]
theorem can_mem {w : List UInt8} : true ∈ canB g w ↔ feas g none w := by
  constructor
  · intro h
    obtain ⟨i, hi, e⟩ := List.getElem_of_mem h
    have := canB_len (g := g) w
    refine ⟨(i : Int), by omega, by omega, ?_⟩
    simp [canR, List.getD, hi, e]
  · rintro ⟨s, h0, h1, hc⟩
    have hlen := canB_len (g := g) w
    have hs : s.toNat < (canB g w).length := by omega
    have : (canB g w)[s.toNat] = true := by simpa [canR, List.getD, hs] using hc
    rw [← this]
    exact List.getElem_mem hs

/-- which places of the table are filled -/
def canT (g : Gr) (w : List UInt8) (t : Nat) : List (List Bool) := (List.range (w.length + 1)).map fun j => if w.length - t ≤ j then canB g (w.drop j) else []
theorem canT_len (w : List UInt8) (t : Nat) : (canT g w t).length = w.length + 1 := by simp [canT]
theorem canT_get {w : List UInt8} {t j : Nat} (h : j ≤ w.length) : idx (canT g w t) (j : Int) = some (if w.length - t ≤ j then canB g (w.drop j) else []) := by
  rw [ix (by rw [canT_len]; omega)]
  simp [canT]
theorem canT_zero (w : List UInt8) : (List.replicate (w.length + 1) ([] : List Bool)).set w.length (canB g []) = canT g w 0 := by
  apply List.ext_getElem
  · simp [canT_len]
  · intro j h1 h2
    simp only [List.length_set, List.length_replicate] at h1
    rw [List.getElem_set]
    simp only [canT, List.getElem_map, List.getElem_range, Nat.sub_zero, List.getElem_replicate]
    by_cases e : w.length = j
    · subst e; simp
    · rw [if_neg e, if_neg (by omega)]
theorem canT_succ {w : List UInt8} {t : Nat} (h : t < w.length) : (canT g w t).set (w.length - 1 - t) (canB g (w.drop (w.length - 1 - t))) = canT g w (t + 1) := by
  apply List.ext_getElem
  · simp [canT_len]
  · intro j h1 h2
    rw [List.getElem_set]
    simp only [canT, List.getElem_map, List.getElem_range]
    by_cases e : w.length - 1 - t = j
    · subst e; rw [if_pos rfl, if_pos (by omega)]
    · rw [if_neg e]
      by_cases e2 : w.length - t ≤ j
      · rw [if_pos e2, if_pos (by omega)]
      · rw [if_neg e2, if_neg (by omega)]

/-- a row of the table, the edges ahead of k seen -/
def rowT (g : Gr) (cs : List Bool) (c : UInt8) (k : Nat) : List Bool := (upto g.2.1).map fun s => (g.2.2.take k).any fun x => decide (x.1 = s ∧ x.2.1 = lab c) && cs.getD x.2.2.toNat false
theorem rowT_len (cs : List Bool) (c : UInt8) (k : Nat) : (rowT g cs c k).length = g.2.1.toNat := by simp [rowT, upto_len]
theorem rowT_next {cs : List Bool} {c : UInt8} {k : Nat} (hk : k < g.2.2.length) (h0 : 0 ≤ g.2.2[k].1) : rowT g cs c (k + 1) = if decide (g.2.2[k].2.1 = lab c) && cs.getD g.2.2[k].2.2.toNat false then (rowT g cs c k).set g.2.2[k].1.toNat true else rowT g cs c k := by
  have e : g.2.2.take (k + 1) = g.2.2.take k ++ [g.2.2[k]] := by rw [List.take_add_one, List.getElem?_eq_getElem hk]; rfl
  by_cases hb : (decide (g.2.2[k].2.1 = lab c) && cs.getD g.2.2[k].2.2.toNat false) = true
  · rw [if_pos hb]
    simp only [Bool.and_eq_true, decide_eq_true_eq] at hb
    apply List.ext_getElem
    · simp [rowT]
    · intro j h1 h2
      rw [List.getElem_set]
      simp only [rowT, List.getElem_map, e, List.any_append, List.any_cons, List.any_nil, Bool.or_false, upto_get]
      by_cases ej : g.2.2[k].1.toNat = j
      · rw [if_pos ej, hb.2, hb.1]
        have : g.2.2[k].1 = (j : Int) := by omega
        simp [this]
      · rw [if_neg ej]
        have : ¬ g.2.2[k].1 = (j : Int) := by omega
        simp [this]
  · rw [if_neg hb]
    have hb : (decide (g.2.2[k].2.1 = lab c) && cs.getD g.2.2[k].2.2.toNat false) = false := by simpa using hb
    simp only [rowT, e, List.any_append, List.any_cons, List.any_nil, Bool.or_false]
    congr 1
    funext s
    have : (decide (g.2.2[k].1 = s ∧ g.2.2[k].2.1 = lab c) && cs.getD g.2.2[k].2.2.toNat false) = false := by
      simp only [Bool.and_eq_false_iff, decide_eq_false_iff_not] at hb ⊢
      rcases hb with hb | hb
      · exact .inl fun h => hb h.2
      · exact .inr hb
    rw [this, Bool.or_false]
theorem rowT_zero (cs : List Bool) (c : UInt8) : rowT g cs c 0 = List.replicate g.2.1.toNat false := by
  apply List.ext_getElem
  · simp [rowT, upto_len]
  · intro j h1 h2; simp [rowT]
theorem rowT_all (w : List UInt8) (c : UInt8) : rowT g (canB g w) c g.2.2.length = canB g (c :: w) := by simp [rowT, canB]

/-- the letter of an edge -/
theorem edge_letter (hv : VG g) (h16 : g.1 ≤ 16) {x : Ed} (hx : x ∈ g.2.2) {c : UInt8} (hc : c ∈ lets g) : ∃ d : UInt8, idx ([48, 49, 50, 51, 52, 53, 54, 55, 56, 57, 97, 98, 99, 100, 101, 102] : List UInt8) x.2.1 = some d ∧ ((d.toNat : Int) = (c.toNat : Int) ↔ x.2.1 = lab c) := by
  obtain ⟨_, _, _, _, h0, h1⟩ := hv.ed x hx
  obtain ⟨i, hi, hg, rfl, el⟩ := lab_mem hc
  obtain ⟨l, hl⟩ := Int.eq_ofNat_of_zero_le h0
  have hl16 : l < letters.length := by rw [letters_len]; omega
  refine ⟨letters[l], ?_, ?_⟩
  · rw [hl]
    exact ix (l := letters) hl16
  · rw [letters_inj hl16 hi, hl, el]
    omega
end
end Go.AW

/- language.Path gives the least path. -/
namespace Go.AW
open Go
set_option linter.unusedSimpArgs false
set_option linter.unusedVariables false
section
variable {g : Gr}

theorem path_table (hv : VG g) (h16 : g.1 ≤ 16) {w : List UInt8} (hw : WOk g w) : (loopW (S := Int × (List (List (Bool)))) (X := (List (List (Bool)))) (fun a9 =>
          if 0 ≤ a9.1 then
            if 0 ≤ (g.2.1 : Int) ∧ (g.2.1 : Int) ≤ g.2.1 ∧ (g.2.1 : Int) * 1 ≤ 281474976710656 then
              (idx a9.2 a9.1).bind fun x15 =>
              (loopW (S := Int × (List Bool)) (X := (List Bool)) (fun a17 =>
                  if a17.1 < ((g.2.2).length : Int) then
                    jp (fun (a21 : (List Bool)) =>
                      some (Stp.next (IntKind.wrap .i64 (a17.1 + 1), a21)))
                      fun k23 =>
                      (idx g.2.2 a17.1).bind fun x24 =>
                      jp (fun (a27 : Bool) =>
                        if a27 = true then
                          (idx a9.2 a9.1).bind fun x30 =>
                          (idx a17.2 x24.1).bind fun x32 =>
                          k23 ((a17.2).set (x24.1).toNat true)
                        else
                          k23 a17.2)
                        fun k29 =>
                        (idx ([48, 49, 50, 51, 52, 53, 54, 55, 56, 57, 97, 98, 99, 100, 101, 102] : List UInt8) x24.2.1).bind fun x34 =>
                        (idx w a9.1).bind fun x36 =>
                        if (x34.toNat : Int) = (x36.toNat : Int) then
                          (idx a9.2 (IntKind.wrap .i64 (a9.1 + 1))).bind fun x38 =>
                          if (IntKind.wrap .i64 (a9.1 + 1)).toNat ≠ (a9.1).toNat then
                            (idx a9.2 (IntKind.wrap .i64 (a9.1 + 1))).bind fun x40 =>
                            (idx x40 x24.2.2).bind fun x43 =>
                            k29 x43
                          else none
                        else
                          k29 false
                  else
                    some (Stp.exit a17.2)) (0, List.replicate (g.2.1).toNat (false : Bool))).bind fun a46 =>
              some (Stp.next (IntKind.wrap .i64 (a9.1 - 1), (a9.2).set (a9.1).toNat a46))
            else none
          else
            some (Stp.exit a9.2)) (IntKind.wrap .i64 (((w).length : Int) - 1), canT g w 0)) = some (canT g w w.length) := by
  obtain ⟨hl, hc⟩ := hw
  have hs0 := hv.s0
  have hs1 := hv.s1
  have hel := hv.el
  refine loop_is (fun t => ((w.length : Int) - 1 - (t : Int), canT g w t)) w.length _ (fun t ht => ?_) ?_ (by rw [w64 (by omega) (by omega)]; simp)
  · dsimp only
    rw [if_pos (by omega), if_pos (by omega)]
    have ei : (w.length : Int) - 1 - (t : Int) = ((w.length - 1 - t : Nat) : Int) := by omega
    have hi : w.length - 1 - t < w.length := by omega
    have ew : IntKind.wrap .i64 ((w.length : Int) - 1 - (t : Int) - 1) = (w.length : Int) - 1 - ((t + 1 : Nat) : Int) := by rw [w64 (by omega) (by omega)]; omega
    rw [ew]
    rw [ei]
    generalize hI : w.length - 1 - t = i at *
    have e1 : IntKind.wrap .i64 ((i : Int) + 1) = ((i + 1 : Nat) : Int) := nx (by omega : w.length ≤ _) hi
    have hdrop : w.drop i = w[i] :: w.drop (i + 1) := List.drop_eq_getElem_cons hi
    have hcl := canB_len (g := g) (w.drop (i + 1))
    rw [canT_get (by omega)]
    simp only [Option.bind_some, jp]
    refine bindL (loop_is (fun k => ((k : Int), rowT g (canB g (w.drop (i + 1))) w[i] k)) g.2.2.length (canB g (w.drop i)) (fun k hk => ?_) ?_ (by rw [rowT_zero]; rfl)) ?_
    · dsimp only
      obtain ⟨d, hd, hde⟩ := edge_letter hv h16 (List.getElem_mem hk) (hc _ (List.getElem_mem hi))
      obtain ⟨q0, q1, q2, q3, _, _⟩ := hv.ed _ (List.getElem_mem hk)
      have hnx := nx (by omega : g.2.2.length ≤ _) hk
      rw [if_pos (lt_int hk), ix hk]
      simp only [Option.bind_some, hd, ix hi]
      rw [rowT_next hk q0]
      have hti : w.length - t ≤ i + 1 := by omega
      by_cases hlab : g.2.2[k].2.1 = lab w[i]
      · rw [if_pos (hde.2 hlab), e1, canT_get (by omega), if_pos hti]
        simp only [Option.bind_some, Int.toNat_natCast]
        rw [if_pos (by omega)]
        have hto : idx (canB g (w.drop (i + 1))) g.2.2[k].2.2 = some ((canB g (w.drop (i + 1))).getD g.2.2[k].2.2.toNat false) := by
          obtain ⟨m, hm⟩ := Int.eq_ofNat_of_zero_le q2
          rw [hm, ix (by omega)]
          simp [List.getD, show m < (canB g (w.drop (i + 1))).length by omega]
        rw [hto]
        simp only [Option.bind_some, hlab, decide_true, Bool.true_and]
        by_cases hb : (canB g (w.drop (i + 1))).getD g.2.2[k].2.2.toNat false = true
        · rw [if_pos hb, if_pos hb]
          have hfr : ∃ b, idx (rowT g (canB g (w.drop (i + 1))) w[i] k) g.2.2[k].1 = some b := by
            obtain ⟨m, hm⟩ := Int.eq_ofNat_of_zero_le q0
            rw [hm, ix (by rw [rowT_len]; omega)]
            exact ⟨_, rfl⟩
          obtain ⟨b, hb2⟩ := hfr
          rw [hb2]
          simp only [Option.bind_some, hnx]
        · rw [if_neg hb, if_neg hb, hnx]
      · rw [if_neg (fun h => hlab (hde.1 h))]
        simp only [Bool.false_eq_true, if_false, hlab, decide_false, Bool.false_and, hnx]
    · dsimp only
      rw [if_neg (not_lt_int _), rowT_all, hdrop]
    · simp only [Int.toNat_natCast]
      have := canT_succ (g := g) (w := w) (t := t) ht
      rw [hI] at this
      rw [this]
  · dsimp only
    rw [if_neg (by omega)]
end
end Go.AW

/- language.Path: the edges; the whole function. -/
namespace Go.AW
open Go
set_option linter.unusedSimpArgs false
set_option linter.unusedVariables false
section
variable {g : Gr}

theorem loopN_eq {S X : Type} {body : S → Option (Stp S X)} (x0 : X) (n : Nat) (I : Nat → S → Prop)
    (step : ∀ i s, i < n → I i s → (∃ s', body s = some (.next s') ∧ I (i + 1) s') ∨ ∃ x, body s = some (.exit x) ∧ x = x0) (fin : ∀ s, I n s → ∃ x, body s = some (.exit x) ∧ x = x0) {s0 : S} (h : I 0 s0) : loopW body s0 = some x0 := by
  obtain ⟨x, hx, rfl⟩ := loopN n I step fin 0 s0 (Nat.zero_le _) h
  exact hx
theorem prevOf_succ {out : List Int} {i k : Nat} (ho : out.length = i) : prevOf g (out ++ [(k : Int)]) (i + 1) = some (g.2.2.getD k (0, 0, 0)).2.2 := by
  unfold prevOf
  rw [if_neg (by omega)]
  have : (out ++ [(k : Int)]).getD (i + 1 - 1) 0 = k := by
    rw [List.getD_eq_getElem?_getD, List.getElem?_append_right (by omega)]
    simp [ho]
  rw [this]
  rfl

theorem path_walk (hv : VG g) (h16 : g.1 ≤ 16) {w : List UInt8} (hw : WOk g w) (hf : feas g none w) : loopW (S := Int × (List Int)) (X := (List Int)) (fun a56 =>
            if a56.1 < ((w).length : Int) then
              (loopW (S := Int) (X := (List Int)) (fun a60 =>
                  if a60 < ((g.2.2).length : Int) then
                    (idx g.2.2 a60).bind fun x64 =>
                    jp (fun (a67 : Bool) =>
                      if a67 = true then
                        if fits 8 ((a56.2 : List Int).length + ([a60]).length) then
                          some (Stp.exit (a56.2 ++ [a60]))
                        else none
                      else
                        some (Stp.next (IntKind.wrap .i64 (a60 + 1))))
                      fun k69 =>
                      (idx ([48, 49, 50, 51, 52, 53, 54, 55, 56, 57, 97, 98, 99, 100, 101, 102] : List UInt8) x64.2.1).bind fun x72 =>
                      (idx w a56.1).bind fun x74 =>
                      if (x72.toNat : Int) = (x74.toNat : Int) then
                        (idx (canT g w w.length) (IntKind.wrap .i64 (a56.1 + 1))).bind fun x76 =>
                        (idx (canT g w w.length) (IntKind.wrap .i64 (a56.1 + 1))).bind fun x78 =>
                        (idx x78 x64.2.2).bind fun x80 =>
                        if x80 = true then
                          if a56.1 = 0 then
                            k69 true
                          else
                            (idx a56.2 (IntKind.wrap .i64 (a56.1 - 1))).bind fun x82 =>
                            (idx a56.2 (IntKind.wrap .i64 (a56.1 - 1))).bind fun x84 =>
                            (idx g.2.2 x84).bind fun x86 =>
                            k69 (decide (x64.1 = x86.2.2))
                        else
                          k69 false
                      else
                        k69 false
                  else
                    some (Stp.exit a56.2)) 0).bind fun a91 =>
              some (Stp.next (IntKind.wrap .i64 (a56.1 + 1), a91))
            else
              some (Stp.exit a56.2)) (0, ([] : List Int)) = some (pathR g none w) := by
  obtain ⟨hl, hc⟩ := hw
  have hel := hv.el
  refine loopN_eq (pathR g none w) w.length (fun i s => ∃ out : List Int, s = ((i : Int), out) ∧ out.length = i ∧ pathR g none w = out ++ pathR g (prevOf g out i) (w.drop i) ∧ feas g (prevOf g out i) (w.drop i) ∧ ∀ k ∈ out, 0 ≤ k ∧ k < g.2.2.length) ?_ ?_ ⟨[], rfl, rfl, rfl, hf, by simp⟩
  · rintro i s hi ⟨out, rfl, ho, hp, hfe, hk0⟩
    dsimp only
    rw [if_pos (lt_int hi)]
    have e1 : IntKind.wrap .i64 ((i : Int) + 1) = ((i + 1 : Nat) : Int) := nx (by omega : w.length ≤ _) hi
    have hdrop : w.drop i = w[i] :: w.drop (i + 1) := List.drop_eq_getElem_cons hi
    have hcl := canB_len (g := g) (w.drop (i + 1))
    rw [hdrop] at hfe hp
    obtain ⟨hk, hok, hfe2⟩ := feas_pick hv hfe
    have hmin := fun {k : Nat} => pick_min (g := g) (w := w.drop (i + 1)) (c := w[i]) (prev := prevOf g out i) (k := k)
    simp only [pathR] at hp
    generalize hK : pick g (w.drop (i + 1)) w[i] (prevOf g out i) = K at *
    have hin : ∃ x, loopW (S := Int) (X := (List Int)) (fun a60 =>
                  if a60 < ((g.2.2).length : Int) then
                    (idx g.2.2 a60).bind fun x64 =>
                    jp (fun (a67 : Bool) =>
                      if a67 = true then
                        if fits 8 ((out : List Int).length + ([a60]).length) then
                          some (Stp.exit (out ++ [a60]))
                        else none
                      else
                        some (Stp.next (IntKind.wrap .i64 (a60 + 1))))
                      fun k69 =>
                      (idx ([48, 49, 50, 51, 52, 53, 54, 55, 56, 57, 97, 98, 99, 100, 101, 102] : List UInt8) x64.2.1).bind fun x72 =>
                      (idx w (i : Int)).bind fun x74 =>
                      if (x72.toNat : Int) = (x74.toNat : Int) then
                        (idx (canT g w w.length) (IntKind.wrap .i64 ((i : Int) + 1))).bind fun x76 =>
                        (idx (canT g w w.length) (IntKind.wrap .i64 ((i : Int) + 1))).bind fun x78 =>
                        (idx x78 x64.2.2).bind fun x80 =>
                        if x80 = true then
                          if (i : Int) = 0 then
                            k69 true
                          else
                            (idx out (IntKind.wrap .i64 ((i : Int) - 1))).bind fun x82 =>
                            (idx out (IntKind.wrap .i64 ((i : Int) - 1))).bind fun x84 =>
                            (idx g.2.2 x84).bind fun x86 =>
                            k69 (decide (x64.1 = x86.2.2))
                        else
                          k69 false
                      else
                        k69 false
                  else
                    some (Stp.exit out)) 0 = some x ∧ x = out ++ [(K : Int)] := by
      refine loopN g.2.2.length (fun k s => s = (k : Int) ∧ k ≤ K) ?_ ?_ 0 _ (Nat.zero_le _) ⟨rfl, Nat.zero_le _⟩
      · rintro k s hkl ⟨rfl, hkK⟩
        obtain ⟨d, hd, hde⟩ := edge_letter hv h16 (List.getElem_mem hkl) (hc _ (List.getElem_mem hi))
        obtain ⟨q0, q1, q2, q3, _, _⟩ := hv.ed _ (List.getElem_mem hkl)
        have hnx := nx (by omega : g.2.2.length ≤ _) hkl
        rw [if_pos (lt_int hkl), ix hkl]
        simp only [Option.bind_some, hd, ix hi, jp, e1]
        have hcT : idx (canT g w w.length) ((i + 1 : Nat) : Int) = some (canB g (w.drop (i + 1))) := by rw [canT_get (by omega), if_pos (by omega)]
        rw [hcT]
        simp only [Option.bind_some]
        have hto : idx (canB g (w.drop (i + 1))) g.2.2[k].2.2 = some ((canB g (w.drop (i + 1))).getD g.2.2[k].2.2.toNat false) := by
          obtain ⟨m, hm⟩ := Int.eq_ofNat_of_zero_le q2
          rw [hm, ix (by omega)]
          simp [List.getD, show m < (canB g (w.drop (i + 1))).length by omega]
        rw [hto]
        simp only [Option.bind_some]
        have hfit : fits 8 (out.length + [(k : Int)].length) := fits_le (by simp; omega) (by simp; omega)
        -- the test is okE
        have hgoal : ∀ b : Bool, b = okE g (w.drop (i + 1)) w[i] (prevOf g out i) g.2.2[k] → (∃ s', (if b = true then if fits 8 (out.length + [(k : Int)].length) then some (Stp.exit (out ++ [(k : Int)])) else none else some (Stp.next (IntKind.wrap .i64 ((k : Int) + 1)))) = some (Stp.next s') ∧ s' = ((k + 1 : Nat) : Int) ∧ k + 1 ≤ K) ∨ ∃ x, (if b = true then if fits 8 (out.length + [(k : Int)].length) then some (Stp.exit (out ++ [(k : Int)])) else none else some (Stp.next (IntKind.wrap .i64 ((k : Int) + 1)))) = some (Stp.exit x) ∧ x = out ++ [(K : Int)] := by
          intro b hb
          cases b with
          | true =>
            rw [if_pos rfl, if_pos hfit]
            have : k = K := by
              apply Classical.byContradiction
              intro hne
              have := hmin (by omega) hkl
              rw [← hb] at this
              cases this
            exact .inr ⟨_, rfl, by rw [this]⟩
          | false =>
            rw [if_neg (by simp), hnx]
            refine .inl ⟨_, rfl, rfl, ?_⟩
            have : k ≠ K := fun e => by subst e; rw [hok] at hb; cases hb
            omega
        by_cases hlab : g.2.2[k].2.1 = lab w[i]
        · rw [if_pos (hde.2 hlab)]
          by_cases hb : (canB g (w.drop (i + 1))).getD g.2.2[k].2.2.toNat false = true
          · rw [if_pos hb]
            by_cases h0 : i = 0
            · rw [if_pos (by omega)]
              have hok2 : okE g (w.drop (i + 1)) w[i] (prevOf g out i) g.2.2[k] = true := by
                have hp0 : prevOf g out i = none := by unfold prevOf; rw [if_pos h0]
                rw [hp0]
                show (decide _ && _ && true) = true
                rw [hb, hlab]; simp
              have : k = K := by
                apply Classical.byContradiction
                intro hne
                have := hmin (by omega) hkl
                rw [hok2] at this
                cases this
              rw [if_pos trivial, if_pos hfit]
              exact .inr ⟨_, rfl, by rw [this]⟩
            · rw [if_neg (by omega)]
              have hio : idx out (IntKind.wrap .i64 ((i : Int) - 1)) = some (out[i - 1]'(by omega)) := by
                have := ix_pred (l := out) (i := i) 
                rw [w64 (by omega) (by omega), show ((i : Int) - 1) = ((i - 1 : Nat) : Int) by omega]
                exact ix (by omega)
              obtain ⟨z0, z1⟩ := hk0 _ (List.getElem_mem (show i - 1 < out.length by omega))
              obtain ⟨j, hj⟩ := Int.eq_ofNat_of_zero_le z0
              rw [hio]
              simp only [Option.bind_some, hj]
              rw [ix (by omega)]
              simp only [Option.bind_some]
              refine hgoal _ ?_
              have hpv : prevOf g out i = some (g.2.2[j]'(by omega)).2.2 := by
                unfold prevOf
                rw [if_neg h0]
                have e : out.getD (i - 1) 0 = (j : Int) := by simp [List.getD, show i - 1 < out.length by omega, hj]
                rw [e]
                simp [List.getD, show j < g.2.2.length by omega]
              rw [hpv]
              show _ = (decide _ && _ && decide _)
              rw [hb, hlab]; simp
          · rw [if_neg hb]
            refine hgoal false ?_
            have hb : (canB g (w.drop (i + 1))).getD g.2.2[k].2.2.toNat false = false := by simpa using hb
            show false = (_ && _ && _)
            rw [hb]; simp
        · rw [if_neg (fun h => hlab (hde.1 h))]
          refine hgoal false ?_
          show false = (decide _ && _ && _)
          rw [decide_eq_false hlab]; simp
      · rintro s ⟨rfl, hkK⟩
        omega
    obtain ⟨x, hx, rfl⟩ := hin
    rw [hx]
    simp only [Option.bind_some]
    have hprev : prevOf g (out ++ [(K : Int)]) (i + 1) = some (g.2.2.getD K (0, 0, 0)).2.2 := prevOf_succ ho
    have hgd : g.2.2.getD K (0, 0, 0) = g.2.2[K] := by simp [List.getD, hk]
    refine .inl ⟨_, rfl, out ++ [(K : Int)], by rw [e1], by simp [ho], ?_, ?_, fun k hkm => ?_⟩
    · rw [hprev, hp, List.append_assoc]; rfl
    · rw [hprev, hgd]; exact hfe2
    · rcases List.mem_append.1 hkm with h | h
      · exact hk0 k h
      · simp at h; subst h; omega
  · rintro s ⟨out, rfl, ho, hp, hfe, hk0⟩
    dsimp only
    rw [if_neg (not_lt_int _)]
    refine ⟨_, rfl, ?_⟩
    rw [hp, List.drop_length]
    simp [pathR]

/-- language.Path -/
theorem Path_eq (hv : VG g) (h16 : g.1 ≤ 16) {w : List UInt8} (hw : WOk g w) : (feas g none w → m_language_Path g w = some (pathR g none w, 0)) ∧ (¬ feas g none w → m_language_Path g w = some ([], 13)) := by
  obtain ⟨e, he, hz⟩ := spells_tot g w
  have h0 := hz.2 ⟨hv, h16, hw⟩
  subst h0
  have hl := hw.1
  have hs0 := hv.s0
  have hs1 := hv.s1
  have hx : m_language_Path g w = if true ∈ canB g w then some (pathR g none w, 0) else some ([], 13) := by
    have w1 : IntKind.wrap .i64 ((w.length : Int) + 1) = ((w.length + 1 : Nat) : Int) := by rw [w64 (by omega) (by omega)]; omega
    have hrep : m_slices_Repeat_Lbool_bool [true] g.2.1 = some (canB g []) := by
      unfold m_slices_Repeat_Lbool_bool
      rw [if_pos ⟨rfl, hs0, by omega⟩]
      rfl
    unfold m_language_Path
    rw [he]
    simp only [Option.bind_some, ne_eq, not_true_eq_false, if_false]
    rw [w1, if_pos (by omega), hrep]
    simp only [Option.bind_some, Int.toNat_natCast]
    rw [ix (by simp)]
    simp only [Option.bind_some]
    rw [canT_zero]
    refine bindL (path_table hv h16 hw) ?_
    have hg0 : idx (canT g w w.length) 0 = some (canB g w) := by
      have := canT_get (g := g) (w := w) (t := w.length) (j := 0) (Nat.zero_le _)
      simpa using this
    have hlen := canB_len (g := g) w
    rw [hg0]
    simp only [Option.bind_some, ContainsB_eq (show (canB g w).length ≤ 9223372036854775807 by omega)]
    by_cases hm : true ∈ canB g w
    · rw [if_pos hm, if_neg (by simp [hm])]
      exact bindL (path_walk hv h16 hw (can_mem.1 hm)) rfl
    · rw [if_neg hm, if_pos (by simp [hm])]
  refine ⟨fun hf => ?_, fun hf => ?_⟩
  · rw [hx, if_pos (can_mem.2 hf)]
  · rw [hx, if_neg (fun h => hf (can_mem.1 h))]
end
end Go.AW

/- The words of a length, by reading; the anchor of chapter 11. -/
namespace Go.AW
open Go
set_option linter.unusedSimpArgs false
set_option linter.unusedVariables false

theorem lvl_congr {f h : List Int → UInt8 → List Int} {cs : List UInt8} {A : List Int → Prop} {set : List Int} (hs : A set) (hA : ∀ a c, A a → c ∈ cs → A (f a c)) (he : ∀ a c, A a → c ∈ cs → f a c = h a c) : ∀ n, lvl f cs set n = lvl h cs set n
  | 0 => rfl
  | n + 1 => by
    simp only [lvl]
    rw [← lvl_congr hs hA he n]
    have hall : ∀ x ∈ lvl f cs set n, A x.2 := lvl_all hs hA n
    have hcs : ∀ (cs' : List UInt8), (∀ c ∈ cs', c ∈ cs) → ∀ x ∈ lvl f cs set n, ext1 f cs' x = ext1 h cs' x := by
      intro cs' hsub x hx
      unfold ext1
      induction cs' with
      | nil => rfl
      | cons c cs' ih =>
        rw [List.filterMap_cons, List.filterMap_cons, he x.2 c (hall x hx) (hsub c (List.mem_cons_self ..)), ih fun d hd => hsub d (List.mem_cons_of_mem _ hd)]
    have : ∀ l : List WS, (∀ x ∈ l, ext1 f cs x = ext1 h cs x) → l.flatMap (ext1 f cs) = l.flatMap (ext1 h cs) := by
      intro l hl
      induction l with
      | nil => rfl
      | cons x l ih => rw [List.flatMap_cons, List.flatMap_cons, hl x (List.mem_cons_self ..), ih fun y hy => hl y (List.mem_cons_of_mem _ hy)]
    exact this _ (hcs cs fun _ h => h)

section
variable {g : Gr}
def stpL (g : Gr) (a : List Int) (c : UInt8) : List Int := stepL g a (lab c)
theorem LV_lab (hv : VG g) {set : List Int} (hs : SetOk g set) (n : Nat) : LV g set n = lvl (stpL g) (lets g) set n := by
  refine lvl_congr (A := SetOk g) hs (fun a c ha hc => stpM_ok hv ha hc) (fun a c ha hc => ?_) n
  unfold stpM
  rw [step_lab hv ha hc]
  rfl

end

theorem EqS_eq {a b : List (List UInt8)} (hm : a.length ≤ 9223372036854775807) : m_slices_Equal_Lstring_string a b = some (decide (a = b)) := by
  unfold m_slices_Equal_Lstring_string
  by_cases hl : a.length = b.length
  · rw [if_neg (by omega)]
    refine lpL (loop_any (fun i => (i : Int)) a.length (fun i => decide (a.getD i [] ≠ b.getD i [])) (Ou.ret false) (Ou.go ()) (fun i hi => ?_) (by rw [if_neg (not_lt_int _)]) rfl) ?_
    · have hi' : i < b.length := by omega
      have e1 : a.getD i [] = a[i] := by simp [List.getD, hi]
      have e2 : b.getD i [] = b[i] := by simp [List.getD, hi']
      rw [if_pos (lt_int hi), ix hi, ix hi']
      simp only [Option.bind_some, nx hm hi, e1, e2, decide_eq_true_eq]
    · by_cases he : a = b
      · subst he
        rw [if_neg]
        · simp [lpO]
        · simp
      · rw [if_pos]
        · simp [lpO, he]
        · refine List.any_eq_true.2 ?_
          apply Classical.byContradiction
          intro hno
          refine he (List.ext_getElem hl fun i h1 h2 => ?_)
          apply Classical.byContradiction
          intro hne
          refine hno ⟨i, List.mem_range.2 h1, decide_eq_true ?_⟩
          rwa [show a.getD i [] = a[i] by simp [List.getD, h1], show b.getD i [] = b[i] by simp [List.getD, h2]]
  · rw [if_pos (by omega)]
    have : ¬ a = b := fun e => hl (by rw [e])
    simp [this]

theorem gT_ok : VG gT where
  l1 := by decide
  l2 := by decide
  s0 := by decide
  s1 := by decide
  el := by decide
  ed := by decide
  ord := fun i h => match i, h with
    | 0, _ => show cmp3 (0, 0, 0) (0, 1, 1) < 0 by decide
    | 1, _ => show cmp3 (0, 1, 1) (1, 0, 0) < 0 by decide
    | _ + 2, h => absurd h (by simp [gT])

theorem awake11_eq : m_law11_awakeG = some true := by
  have h1 : m_language_Words gT 2 = some ([[48, 48], [48, 49], [49, 48]], 0) := by
    obtain ⟨r, hr, _, h2, h3⟩ := Words_both gT 2
    have hs := upto_ok gT
    have e0 : ∀ n, LV gT (upto gT.2.1) n = lvl (stpL gT) (lets gT) (upto gT.2.1) n := LV_lab gT_ok hs
    have h0 := h3 gT_ok (by decide) (by decide) (by decide) (OKL_iff.2 fun j j1 j2 => by
      rw [e0]
      have : j = 1 ∨ j = 2 := by have : (2 : Int).toNat = 2 := rfl; omega
      rcases this with rfl | rfl <;> decide)
    obtain ⟨_, hw⟩ := h2 h0
    have e1 : wordsE gT 2 = [[48, 48], [48, 49], [49, 48]] := by
      unfold wordsE
      rw [e0]
      decide
    rw [hr]
    obtain ⟨r1, r2⟩ := r
    dsimp only at h0 hw
    rw [h0, hw, e1]
  have h2 : m_language_Path gT [48, 49, 48] = some ([0, 1, 2], 0) := by
    have h := (Path_eq gT_ok (by decide) (w := [48, 49, 48]) ⟨by decide, by decide⟩).1 (can_mem.1 (by decide))
    have e : pathR gT none [48, 49, 48] = [0, 1, 2] := by decide
    rw [e] at h
    exact h
  have h3 : m_language_Missing gT 3 = some ([49, 49], true, 0) := rfl
  have h4 : m_law11_golden = some gT := rfl
  unfold m_law11_awakeG
  simp only [h4, Option.bind_some, h1, h2, h3, jp]
  rw [EqS_eq (by decide), EqI_eq (by decide)]
  decide
end Go.AW

/- The anchor of chapter 11. -/
namespace Go.AW
open Go Go.Proofs
theorem w_law11_awake {r : Bool} (h : m_law11_awake = some r) : Pure Try.prog 41 [] (· = HV.bool r) := by
  cases h
  exact w_law11_awakeG awake11_eq
end Go.AW

namespace Go.AW
open Go Go.Proofs
set_option linter.unusedVariables false
set_option maxHeartbeats 1600000 in
set_option maxRecDepth 100000 in
theorem w_law11_LanguageFactors {p0 : TLabelsStatesEdges} {p1 : List UInt8} {p2 : Int} {p3 : Int} {r : Bool} (h : m_law11_LanguageFactors p0 p1 p2 p3 = some r) : Pure Try.prog 9 [HV.agg [HV.int .i64 p0.1, HV.int .i64 p0.2.1, slE eFromLabelTo p0.2.2], HV.str p1, HV.int .u8 p2, HV.int .u8 p3] (· = HV.bool r) := by
  unfold m_law11_LanguageFactors at h
  refine Pure.of_body Try.func9 rfl rfl (Nat.le_of_ble_eq_true rfl) fun hf => ?_
  unfold Try.f9
  dsimp only [enumS, Nat.reduceAdd]
  refine AW.rgs rfl fun K hK => ?_
  refine b_op rfl (o_box rfl rfl rfl ?_)
  refine mv rfl rfl ?_
  refine b_nil (hK _ (AW.to (to_le (s' := ⟨[(1, HV.str p1), (2, HV.int .u8 p2), (3, HV.int .u8 p3), (4, HV.fptr [HV.int .i64 p0.1, HV.int .i64 p0.2.1, slE eFromLabelTo p0.2.2] 0)], []⟩) (AS.le_of ⟨rfl, rfl, rfl, rfl, trivial⟩ trivial) ?_)))
  clear hK K
  refine AW.seq ?_
  refine AW.seqJ h (S := Bool) (V := Unit) (fun a v => ⟨[(1, HV.str p1), (2, HV.int .u8 p2), (3, HV.int .u8 p3), (4, HV.fptr [HV.int .i64 p0.1, HV.int .i64 p0.2.1, slE eFromLabelTo p0.2.2] 0), (35, HV.bool a)], []⟩) (fun a1 w2 h => ?_) (fun k3 h => ?_)
  · refine AW.cond rfl (fun hc => ?_) (fun hc => ?_)
    · have h := ifT hc h
      refine AW.rgs rfl fun K hK => ?_
      obtain ⟨x4, h5, h⟩ := bS h
      refine b_op rfl (o_call rfl rfl rfl rfl (ACallD.pure0 (w_law11_awake h5)) ?_)
      refine mv rfl rfl ?_
      refine b_nil (hK _ (AW.to (to_le (s' := ⟨[(8, HV.bool x4)], []⟩) (AS.le_of ⟨rfl, trivial⟩ trivial) ?_)))
      clear hK K
      refine AW.ret ?_
      have h := Option.some.inj h
      subst h
      exact ret_pure (hs := [HV.bool x4]) (q := HV.bool x4) (.inr rfl) (resT rfl rfl) rfl trivial
    · have h := ifF (bF' hc) h
      refine AW.skip ?_
      refine AW.rgs rfl fun K hK => ?_
      refine mv rfl rfl ?_
      refine bv rfl (v_convI ty5 ty3 rfl) ?_
      refine mv rfl rfl ?_
      refine bv rfl (v_lenS rfl rfl ty9 rfl) ?_
      refine bv rfl (v_bin rfl rfl b_add) ?_
      obtain ⟨h6, h⟩ := ifN h
      refine bv rfl (v_bin rfl rfl (b_rem h6)) ?_
      refine mv rfl rfl ?_
      refine b_nil (hK _ (AW.to (to_le (s' := ⟨[(1, HV.str p1), (3, HV.int .u8 p3), (4, HV.fptr [HV.int .i64 p0.1, HV.int .i64 p0.2.1, slE eFromLabelTo p0.2.2] 0), (9, HV.int .i64 (Int.tmod (IntKind.wrap .i64 p2) (IntKind.wrap .i64 (((p1).length : Int) + 1))))], []⟩) (AS.le_of ⟨rfl, rfl, rfl, rfl, trivial⟩ trivial) ?_)))
      clear hK K
      refine AW.rgs rfl fun K hK => ?_
      refine mv rfl rfl ?_
      refine mv rfl rfl ?_
      refine bv rfl (v_convI ty5 ty3 rfl) ?_
      refine mv rfl rfl ?_
      refine bv rfl (v_lenS rfl rfl ty9 rfl) ?_
      refine bv rfl (v_bin rfl rfl b_add) ?_
      refine mv rfl rfl ?_
      refine bv rfl (v_bin rfl rfl b_sub) ?_
      obtain ⟨h7, h⟩ := ifN h
      refine bv rfl (v_bin rfl rfl (b_rem h7)) ?_
      refine bv rfl (v_bin rfl rfl b_add) ?_
      refine mv rfl rfl ?_
      refine b_nil (hK _ (AW.to (to_le (s' := ⟨[(1, HV.str p1), (4, HV.fptr [HV.int .i64 p0.1, HV.int .i64 p0.2.1, slE eFromLabelTo p0.2.2] 0), (9, HV.int .i64 (Int.tmod (IntKind.wrap .i64 p2) (IntKind.wrap .i64 (((p1).length : Int) + 1)))), (10, HV.int .i64 (IntKind.wrap .i64 ((Int.tmod (IntKind.wrap .i64 p2) (IntKind.wrap .i64 (((p1).length : Int) + 1))) + (Int.tmod (IntKind.wrap .i64 p3) (IntKind.wrap .i64 ((IntKind.wrap .i64 (((p1).length : Int) + 1)) - (Int.tmod (IntKind.wrap .i64 p2) (IntKind.wrap .i64 (((p1).length : Int) + 1)))))))))], []⟩) (AS.le_of ⟨rfl, rfl, rfl, rfl, trivial⟩ trivial) ?_)))
      clear hK K
      refine AW.rgs rfl fun K hK => ?_
      refine bv rfl (v_loadF ty24 rfl (l_litA rfl (Nat.le_of_ble_eq_true rfl) rfl)) ?_
      refine mv rfl rfl ?_
      obtain ⟨x8, h9, h⟩ := bS h
      refine b_op rfl (o_call rfl rfl rfl rfl (ACallD.pure0 (w_language_Accepts h9)) ?_)
      refine mv rfl rfl ?_
      refine bv rfl (v_extract rfl rfl) ?_
      refine bv rfl (v_extract rfl rfl) ?_
      refine mv rfl rfl ?_
      refine mv rfl rfl ?_
      refine b_nil (hK _ (AW.to (to_le (s' := ⟨[(1, HV.str p1), (4, HV.fptr [HV.int .i64 p0.1, HV.int .i64 p0.2.1, slE eFromLabelTo p0.2.2] 0), (9, HV.int .i64 (Int.tmod (IntKind.wrap .i64 p2) (IntKind.wrap .i64 (((p1).length : Int) + 1)))), (10, HV.int .i64 (IntKind.wrap .i64 ((Int.tmod (IntKind.wrap .i64 p2) (IntKind.wrap .i64 (((p1).length : Int) + 1))) + (Int.tmod (IntKind.wrap .i64 p3) (IntKind.wrap .i64 ((IntKind.wrap .i64 (((p1).length : Int) + 1)) - (Int.tmod (IntKind.wrap .i64 p2) (IntKind.wrap .i64 (((p1).length : Int) + 1))))))))), (11, HV.bool x8.1), (12, HV.int .i64 x8.2)], []⟩) (AS.le_of ⟨rfl, rfl, rfl, rfl, rfl, rfl, trivial⟩ trivial) ?_)))
      clear hK K
      refine AW.dgs 11 follows rfl rfl fun K hK => ?_
      refine sv rfl (v_loadF ty24 rfl (l_litA rfl (Nat.le_of_ble_eq_true rfl) rfl)) ?_
      refine sm rfl rfl ?_
      refine sm rfl rfl ?_
      refine sm rfl rfl ?_
      obtain ⟨h10, h⟩ := ifN h
      refine sv rfl (v_sliceS ty9 rfl rfl rfl h10) ?_
      obtain ⟨x11, h12, h⟩ := bS h
      refine s_op rfl rfl (ops_call rfl rfl rfl rfl (ACallD.pure0 (w_language_Accepts h12)) ?_)
      refine sm rfl rfl ?_
      refine sv rfl (v_extract rfl rfl) ?_
      refine sv rfl (v_extract rfl rfl) ?_
      refine sm rfl rfl ?_
      refine sm rfl rfl ?_
      refine s_nil ?_
      refine b_nil (hK _ (AW.to (to_le (s' := ⟨[(1, HV.str p1), (4, HV.fptr [HV.int .i64 p0.1, HV.int .i64 p0.2.1, slE eFromLabelTo p0.2.2] 0), (9, HV.int .i64 (Int.tmod (IntKind.wrap .i64 p2) (IntKind.wrap .i64 (((p1).length : Int) + 1)))), (11, HV.bool x8.1), (12, HV.int .i64 x8.2), (13, HV.bool x11.1), (14, HV.int .i64 x11.2)], []⟩) (AS.le_of ⟨rfl, rfl, rfl, rfl, rfl, rfl, rfl, trivial⟩ trivial) ?_)))
      clear hK K
      refine AW.dgs 10 follows rfl rfl fun K hK => ?_
      refine sv rfl (v_loadF ty24 rfl (l_litA rfl (Nat.le_of_ble_eq_true rfl) rfl)) ?_
      refine sv rfl (v_loadF ty24 rfl (l_litA rfl (Nat.le_of_ble_eq_true rfl) rfl)) ?_
      obtain ⟨x13, h14, h⟩ := bS h
      refine s_op rfl rfl (ops_call rfl rfl rfl rfl (ACallD.pure0 (w_law11_every h14)) ?_)
      refine sm rfl rfl ?_
      obtain ⟨x15, h16, h⟩ := bS h
      refine s_op rfl rfl (ops_call rfl rfl rfl rfl (ACallD.pure0 (w_language_Ends h16)) ?_)
      refine sm rfl rfl ?_
      refine sv rfl (v_extract rfl rfl) ?_
      refine sv rfl (v_extract rfl rfl) ?_
      refine sm rfl rfl ?_
      refine sm rfl rfl ?_
      refine s_nil ?_
      refine b_nil (hK _ (AW.to (to_le (s' := ⟨[(1, HV.str p1), (4, HV.fptr [HV.int .i64 p0.1, HV.int .i64 p0.2.1, slE eFromLabelTo p0.2.2] 0), (9, HV.int .i64 (Int.tmod (IntKind.wrap .i64 p2) (IntKind.wrap .i64 (((p1).length : Int) + 1)))), (11, HV.bool x8.1), (12, HV.int .i64 x8.2), (13, HV.bool x11.1), (14, HV.int .i64 x11.2), (15, slE eInt x15.1), (16, HV.int .i64 x15.2)], []⟩) (AS.le_of ⟨rfl, rfl, rfl, rfl, rfl, rfl, rfl, rfl, rfl, trivial⟩ trivial) ?_)))
      clear hK K
      refine AW.dgs 12 follows rfl rfl fun K hK => ?_
      refine sv rfl (v_loadF ty24 rfl (l_litA rfl (Nat.le_of_ble_eq_true rfl) rfl)) ?_
      refine sv rfl (v_loadF ty24 rfl (l_litA rfl (Nat.le_of_ble_eq_true rfl) rfl)) ?_
      obtain ⟨x17, h18, h⟩ := bS h
      refine s_op rfl rfl (ops_call rfl rfl rfl rfl (ACallD.pure0 (w_law11_every h18)) ?_)
      refine sm rfl rfl ?_
      refine sm rfl rfl ?_
      obtain ⟨h19, h⟩ := ifN h
      refine sv rfl (v_sliceS ty9 rfl rfl rfl h19) ?_
      obtain ⟨x20, h21, h⟩ := bS h
      refine s_op rfl rfl (ops_call rfl rfl rfl rfl (ACallD.pure0 (w_language_Ends h21)) ?_)
      refine sm rfl rfl ?_
      refine sv rfl (v_extract rfl rfl) ?_
      refine sv rfl (v_extract rfl rfl) ?_
      refine sm rfl rfl ?_
      refine sm rfl rfl ?_
      refine s_nil ?_
      refine b_nil (hK _ (AW.to (to_le (s' := ⟨[(1, HV.str p1), (4, HV.fptr [HV.int .i64 p0.1, HV.int .i64 p0.2.1, slE eFromLabelTo p0.2.2] 0), (9, HV.int .i64 (Int.tmod (IntKind.wrap .i64 p2) (IntKind.wrap .i64 (((p1).length : Int) + 1)))), (11, HV.bool x8.1), (12, HV.int .i64 x8.2), (13, HV.bool x11.1), (14, HV.int .i64 x11.2), (15, slE eInt x15.1), (16, HV.int .i64 x15.2), (17, slE eInt x20.1), (18, HV.int .i64 x20.2)], []⟩) (AS.le_of ⟨rfl, rfl, rfl, rfl, rfl, rfl, rfl, rfl, rfl, rfl, rfl, trivial⟩ trivial) ?_)))
      clear hK K
      refine AW.dgs 11 follows rfl rfl fun K hK => ?_
      refine sv rfl (v_loadF ty24 rfl (l_litA rfl (Nat.le_of_ble_eq_true rfl) rfl)) ?_
      refine sm rfl rfl ?_
      refine sm rfl rfl ?_
      refine sm rfl rfl ?_
      obtain ⟨h22, h⟩ := ifN h
      refine sv rfl (v_sliceS ty9 rfl rfl rfl h22) ?_
      obtain ⟨x23, h24, h⟩ := bS h
      refine s_op rfl rfl (ops_call rfl rfl rfl rfl (ACallD.pure0 (w_language_Ends h24)) ?_)
      refine sm rfl rfl ?_
      refine sv rfl (v_extract rfl rfl) ?_
      refine sv rfl (v_extract rfl rfl) ?_
      refine sm rfl rfl ?_
      refine sm rfl rfl ?_
      refine s_nil ?_
      refine b_nil (hK _ (AW.to (to_le (s' := ⟨[(11, HV.bool x8.1), (12, HV.int .i64 x8.2), (13, HV.bool x11.1), (14, HV.int .i64 x11.2), (15, slE eInt x15.1), (16, HV.int .i64 x15.2), (18, HV.int .i64 x20.2), (19, slE eInt x23.1), (20, HV.int .i64 x23.2)], []⟩) (AS.le_of ⟨rfl, rfl, rfl, rfl, rfl, rfl, rfl, rfl, rfl, trivial⟩ trivial) ?_)))
      clear hK K
      refine AW.seqJ h (S := Bool) (V := Unit) (fun a v => ⟨[(8, HV.bool a)], []⟩) (fun a25 w26 h => ?_) (fun k27 h => ?_)
      · refine AW.ret ?_
        have h := Option.some.inj h
        subst h
        exact ret_pure (hs := [HV.bool a25]) (q := HV.bool a25) (.inr rfl) (resT rfl rfl) rfl trivial
      · refine AW.rg rfl fun K hK => ?_
        refine mv rfl rfl ?_
        refine mv rfl rfl ?_
        refine mv rfl rfl ?_
        refine mv rfl rfl ?_
        refine mv rfl rfl ?_
        refine bv rfl (v_max5 rfl rfl rfl rfl rfl rfl) ?_
        refine bv rfl (v_bin rfl rfl b_eql) ?_
        refine mv rfl rfl ?_
        by_cases hg42 : (max (max (max (max x8.2 x11.2) x15.2) x20.2) x23.2) = 0
        · have h := ifT hg42 h
          refine b_T rfl rfl rfl rfl (decide_eq_true hg42) (o_val rfl (mv_val rfl rfl).2 ?_)
          refine b_T rfl rfl rfl rfl rfl (o_val rfl (v_not rfl) ?_)
          refine b_T rfl rfl rfl rfl rfl (o_val rfl (mv_val rfl rfl).2 ?_)
          by_cases hg41 : (!x8.1) = true
          · have h := ifT hg41 h
            refine b_F rfl rfl rfl rfl rfl hg41 ?_
            refine b_T rfl rfl rfl rfl rfl (o_val rfl (v_pickT rfl rfl rfl) ?_)
            refine bv rfl (v_pickT rfl rfl rfl) ?_
            refine mv rfl rfl ?_
            refine b_T rfl rfl rfl rfl rfl (o_val rfl (mv_val rfl rfl).2 ?_)
            refine b_T rfl rfl rfl rfl rfl (o_val rfl (mv_val rfl rfl).2 ?_)
            refine b_T rfl rfl rfl rfl rfl (o_val rfl (v_lenF rfl rfl ty42 rfl) ?_)
            refine b_T rfl rfl rfl rfl rfl (o_val rfl (v_bin rfl rfl b_gtr) ?_)
            refine b_T rfl rfl rfl rfl rfl (o_val rfl (v_bin rfl rfl (b_eqB ty4)) ?_)
            refine bv rfl (v_pickT rfl rfl rfl) ?_
            refine mv rfl rfl ?_
            by_cases hg33 : (x8.1 == (decide (0 < ((x15.1).length : Int)))) = true
            · have h := ifT hg33 h
              refine b_T rfl rfl rfl rfl hg33 (o_val rfl (mv_val rfl rfl).2 ?_)
              refine b_T rfl rfl rfl rfl rfl (o_val rfl (mv_val rfl rfl).2 ?_)
              obtain ⟨x28, h29, h⟩ := bS h
              refine b_T rfl rfl rfl rfl rfl (o_call rfl rfl rfl rfl (ACallD.pure0 (w_slices_Equal_Lint_int h29)) ?_)
              refine bv rfl (v_pickT rfl rfl rfl) ?_
              refine mv rfl rfl ?_
              by_cases hg32 : x28 = true
              · have h := ifT hg32 h
                obtain ⟨x30, h31, h⟩ := bS h
                refine b_T rfl rfl rfl rfl hg32 (o_call rfl rfl rfl rfl (ACallD.pure0 (w_law11_awake h31)) ?_)
                refine bv rfl (v_pickT rfl rfl rfl) ?_
                refine mv rfl rfl ?_
                refine b_nil (hK _ ?_)
                clear hK K
                exact to_le (s' := ⟨[(8, HV.bool x30)], []⟩) (AS.le_of ⟨rfl, trivial⟩ trivial) ⟨x30, (), h, rfl⟩
              · have h := ifF hg32 h
                refine b_F rfl rfl rfl rfl rfl (bF hg32) ?_
                refine bv rfl (v_pickF rfl rfl rfl) ?_
                refine mv rfl rfl ?_
                refine b_nil (hK _ ?_)
                clear hK K
                exact to_le (s' := ⟨[(8, HV.bool false)], []⟩) (AS.le_of ⟨rfl, trivial⟩ trivial) ⟨false, (), h, rfl⟩
            · have h := ifF hg33 h
              refine b_F rfl rfl rfl rfl rfl (bF hg33) ?_
              refine b_F rfl rfl rfl rfl rfl rfl ?_
              refine b_F rfl rfl rfl rfl rfl rfl ?_
              refine bv rfl (v_pickF rfl rfl rfl) ?_
              refine mv rfl rfl ?_
              refine b_F rfl rfl rfl rfl rfl rfl ?_
              refine bv rfl (v_pickF rfl rfl rfl) ?_
              refine mv rfl rfl ?_
              refine b_nil (hK _ ?_)
              clear hK K
              exact to_le (s' := ⟨[(8, HV.bool false)], []⟩) (AS.le_of ⟨rfl, trivial⟩ trivial) ⟨false, (), h, rfl⟩
          · have h := ifF hg41 h
            refine b_T rfl rfl rfl rfl (bF hg41) (o_val rfl (mv_val rfl rfl).2 ?_)
            refine b_T rfl rfl rfl rfl rfl (o_val rfl (v_pickF rfl rfl rfl) ?_)
            refine bv rfl (v_pickT rfl rfl rfl) ?_
            refine mv rfl rfl ?_
            by_cases hg40 : x11.1 = true
            · have h := ifT hg40 h
              refine b_T rfl rfl rfl rfl hg40 (o_val rfl (mv_val rfl rfl).2 ?_)
              refine b_T rfl rfl rfl rfl rfl (o_val rfl (mv_val rfl rfl).2 ?_)
              refine b_T rfl rfl rfl rfl rfl (o_val rfl (v_lenF rfl rfl ty42 rfl) ?_)
              refine b_T rfl rfl rfl rfl rfl (o_val rfl (v_bin rfl rfl b_gtr) ?_)
              refine b_T rfl rfl rfl rfl rfl (o_val rfl (v_bin rfl rfl (b_eqB ty4)) ?_)
              refine bv rfl (v_pickT rfl rfl rfl) ?_
              refine mv rfl rfl ?_
              by_cases hg39 : (x8.1 == (decide (0 < ((x15.1).length : Int)))) = true
              · have h := ifT hg39 h
                refine b_T rfl rfl rfl rfl hg39 (o_val rfl (mv_val rfl rfl).2 ?_)
                refine b_T rfl rfl rfl rfl rfl (o_val rfl (mv_val rfl rfl).2 ?_)
                obtain ⟨x34, h35, h⟩ := bS h
                refine b_T rfl rfl rfl rfl rfl (o_call rfl rfl rfl rfl (ACallD.pure0 (w_slices_Equal_Lint_int h35)) ?_)
                refine bv rfl (v_pickT rfl rfl rfl) ?_
                refine mv rfl rfl ?_
                by_cases hg38 : x34 = true
                · have h := ifT hg38 h
                  obtain ⟨x36, h37, h⟩ := bS h
                  refine b_T rfl rfl rfl rfl hg38 (o_call rfl rfl rfl rfl (ACallD.pure0 (w_law11_awake h37)) ?_)
                  refine bv rfl (v_pickT rfl rfl rfl) ?_
                  refine mv rfl rfl ?_
                  refine b_nil (hK _ ?_)
                  clear hK K
                  exact to_le (s' := ⟨[(8, HV.bool x36)], []⟩) (AS.le_of ⟨rfl, trivial⟩ trivial) ⟨x36, (), h, rfl⟩
                · have h := ifF hg38 h
                  refine b_F rfl rfl rfl rfl rfl (bF hg38) ?_
                  refine bv rfl (v_pickF rfl rfl rfl) ?_
                  refine mv rfl rfl ?_
                  refine b_nil (hK _ ?_)
                  clear hK K
                  exact to_le (s' := ⟨[(8, HV.bool false)], []⟩) (AS.le_of ⟨rfl, trivial⟩ trivial) ⟨false, (), h, rfl⟩
              · have h := ifF hg39 h
                refine b_F rfl rfl rfl rfl rfl (bF hg39) ?_
                refine b_F rfl rfl rfl rfl rfl rfl ?_
                refine b_F rfl rfl rfl rfl rfl rfl ?_
                refine bv rfl (v_pickF rfl rfl rfl) ?_
                refine mv rfl rfl ?_
                refine b_F rfl rfl rfl rfl rfl rfl ?_
                refine bv rfl (v_pickF rfl rfl rfl) ?_
                refine mv rfl rfl ?_
                refine b_nil (hK _ ?_)
                clear hK K
                exact to_le (s' := ⟨[(8, HV.bool false)], []⟩) (AS.le_of ⟨rfl, trivial⟩ trivial) ⟨false, (), h, rfl⟩
            · have h := ifF hg40 h
              refine b_F rfl rfl rfl rfl rfl (bF hg40) ?_
              refine b_F rfl rfl rfl rfl rfl rfl ?_
              refine b_F rfl rfl rfl rfl rfl rfl ?_
              refine b_F rfl rfl rfl rfl rfl rfl ?_
              refine b_F rfl rfl rfl rfl rfl rfl ?_
              refine bv rfl (v_pickF rfl rfl rfl) ?_
              refine mv rfl rfl ?_
              refine b_F rfl rfl rfl rfl rfl rfl ?_
              refine b_F rfl rfl rfl rfl rfl rfl ?_
              refine b_F rfl rfl rfl rfl rfl rfl ?_
              refine bv rfl (v_pickF rfl rfl rfl) ?_
              refine mv rfl rfl ?_
              refine b_F rfl rfl rfl rfl rfl rfl ?_
              refine bv rfl (v_pickF rfl rfl rfl) ?_
              refine mv rfl rfl ?_
              refine b_nil (hK _ ?_)
              clear hK K
              exact to_le (s' := ⟨[(8, HV.bool false)], []⟩) (AS.le_of ⟨rfl, trivial⟩ trivial) ⟨false, (), h, rfl⟩
        · have h := ifF hg42 h
          refine b_F rfl rfl rfl rfl rfl (decide_eq_false hg42) ?_
          refine b_F rfl rfl rfl rfl rfl rfl ?_
          refine b_F rfl rfl rfl rfl rfl rfl ?_
          refine b_U rfl rfl rfl rfl rfl ?_
          refine b_F rfl rfl rfl rfl rfl rfl ?_
          refine bv rfl (v_pickF rfl rfl rfl) ?_
          refine mv rfl rfl ?_
          refine b_F rfl rfl rfl rfl rfl rfl ?_
          refine b_F rfl rfl rfl rfl rfl rfl ?_
          refine b_F rfl rfl rfl rfl rfl rfl ?_
          refine b_F rfl rfl rfl rfl rfl rfl ?_
          refine b_F rfl rfl rfl rfl rfl rfl ?_
          refine bv rfl (v_pickF rfl rfl rfl) ?_
          refine mv rfl rfl ?_
          refine b_F rfl rfl rfl rfl rfl rfl ?_
          refine b_F rfl rfl rfl rfl rfl rfl ?_
          refine b_F rfl rfl rfl rfl rfl rfl ?_
          refine bv rfl (v_pickF rfl rfl rfl) ?_
          refine mv rfl rfl ?_
          refine b_F rfl rfl rfl rfl rfl rfl ?_
          refine bv rfl (v_pickF rfl rfl rfl) ?_
          refine mv rfl rfl ?_
          refine b_nil (hK _ ?_)
          clear hK K
          exact to_le (s' := ⟨[(8, HV.bool false)], []⟩) (AS.le_of ⟨rfl, trivial⟩ trivial) ⟨false, (), h, rfl⟩
  · refine AW.rg rfl fun K hK => ?_
    refine bv rfl (v_loadF ty24 rfl (l_litA rfl (Nat.le_of_ble_eq_true rfl) rfl)) ?_
    obtain ⟨x43, h44, h⟩ := bS h
    refine b_op rfl (o_call rfl rfl rfl rfl (ACallD.pure0 (w_law11_fine h44)) ?_)
    refine bv rfl (v_not rfl) ?_
    refine mv rfl rfl ?_
    by_cases hg48 : (!x43) = true
    · have h := ifT hg48 h
      refine b_F rfl rfl rfl rfl rfl hg48 ?_
      refine b_F rfl rfl rfl rfl rfl rfl ?_
      refine b_F rfl rfl rfl rfl rfl rfl ?_
      refine bv rfl (v_pickT rfl rfl rfl) ?_
      refine mv rfl rfl ?_
      refine b_F rfl rfl rfl rfl rfl rfl ?_
      refine b_F rfl rfl rfl rfl rfl rfl ?_
      refine b_F rfl rfl rfl rfl rfl rfl ?_
      refine b_F rfl rfl rfl rfl rfl rfl ?_
      refine b_F rfl rfl rfl rfl rfl rfl ?_
      refine bv rfl (v_pickT rfl rfl rfl) ?_
      refine b_nil (hK _ ?_)
      clear hK K
      exact to_le (s' := ⟨[(1, HV.str p1), (2, HV.int .u8 p2), (3, HV.int .u8 p3), (4, HV.fptr [HV.int .i64 p0.1, HV.int .i64 p0.2.1, slE eFromLabelTo p0.2.2] 0), (35, HV.bool true)], []⟩) (AS.le_of ⟨rfl, rfl, rfl, rfl, rfl, trivial⟩ trivial) ⟨true, (), h, rfl⟩
    · have h := ifF hg48 h
      refine b_T rfl rfl rfl rfl (bF hg48) (o_val rfl (mv_val rfl rfl).2 ?_)
      refine b_T rfl rfl rfl rfl rfl (o_val rfl (v_lenS rfl rfl ty9 rfl) ?_)
      refine b_T rfl rfl rfl rfl rfl (o_val rfl (v_bin rfl rfl b_gtr) ?_)
      refine bv rfl (v_pickF rfl rfl rfl) ?_
      refine mv rfl rfl ?_
      by_cases hg47 : 12 < ((p1).length : Int)
      · have h := ifT hg47 h
        refine b_F rfl rfl rfl rfl rfl (decide_eq_true hg47) ?_
        refine b_F rfl rfl rfl rfl rfl rfl ?_
        refine b_F rfl rfl rfl rfl rfl rfl ?_
        refine b_F rfl rfl rfl rfl rfl rfl ?_
        refine b_F rfl rfl rfl rfl rfl rfl ?_
        refine bv rfl (v_pickT rfl rfl rfl) ?_
        refine b_nil (hK _ ?_)
        clear hK K
        exact to_le (s' := ⟨[(1, HV.str p1), (2, HV.int .u8 p2), (3, HV.int .u8 p3), (4, HV.fptr [HV.int .i64 p0.1, HV.int .i64 p0.2.1, slE eFromLabelTo p0.2.2] 0), (35, HV.bool true)], []⟩) (AS.le_of ⟨rfl, rfl, rfl, rfl, rfl, trivial⟩ trivial) ⟨true, (), h, rfl⟩
      · have h := ifF hg47 h
        refine b_T rfl rfl rfl rfl (decide_eq_false hg47) (o_val rfl (v_fieldAddrF fo24_0 rfl) ?_)
        refine b_T rfl rfl rfl rfl rfl (o_val rfl (v_loadF ty3 rfl (l_lit rfl rfl)) ?_)
        refine b_T rfl rfl rfl rfl rfl (o_val rfl (mv_val rfl rfl).2 ?_)
        obtain ⟨x45, h46, h⟩ := bS h
        refine b_T rfl rfl rfl rfl rfl (o_call rfl rfl rfl rfl (ACallD.pure0 (w_word_Check h46)) ?_)
        refine b_T rfl rfl rfl rfl rfl (o_val rfl (v_bin rfl rfl b_neq) ?_)
        refine bv rfl (v_pickF rfl rfl rfl) ?_
        refine b_nil (hK _ ?_)
        clear hK K
        exact to_le (s' := ⟨[(1, HV.str p1), (2, HV.int .u8 p2), (3, HV.int .u8 p3), (4, HV.fptr [HV.int .i64 p0.1, HV.int .i64 p0.2.1, slE eFromLabelTo p0.2.2] 0), (35, HV.bool (decide (x45 ≠ 0)))], []⟩) (AS.le_of ⟨rfl, rfl, rfl, rfl, rfl, trivial⟩ trivial) ⟨decide (x45 ≠ 0), (), h, rfl⟩

end Go.AW

namespace Go.AW
open Go Go.ChangeShapes Go.WideShapes Go.ChangeAt Go.RowKit

/-- of what was there nothing turns -/
def Kept (W W' : World) : Prop := W'.os = W.os ∧ W'.output = W.output ∧ W.heap.size ≤ W'.heap.size ∧ ∀ b : Nat, b < W.heap.size → W'.heap[b]? = W.heap[b]?

theorem Kept.frame {W W' : World} (h : Kept W W') (may : MemPlace → Prop) : W.keptBut W' may := by
  refine ⟨h.1, h.2.1, fun i hi => ?_⟩
  rw [h.2.2.2 i hi]
  cases W.heap[i]? with
  | none => rfl
  | some o => cases o with
    | cells c t fr => exact ⟨rfl, rfl, rfl, fun _ _ => rfl⟩
    | map es clock => exact .inr ⟨rfl, rfl⟩
    | _ => rfl

theorem Kept.frozen {W W' : World} (h : Kept W W') (a : Addr) (ha : a.block < W.heap.size) : W'.frozen? a = W.frozen? a := by
  simp only [World.frozen?, h.2.2.2 _ ha]

def Mu.zero : Mu := { nx := 0, loc := fun _ => none, held := fun _ => False }

theorem SR.zero (W : World) : SR W Mu.zero [] :=
  ⟨(fun _ _ _ h => by cases h), (fun _ _ _ h => by cases h), (fun _ _ h => by cases h), (fun _ _ _ _ _ h => by cases h), (fun _ h => h.elim)⟩

theorem calls_of_pure {P : Program} {f : FuncId} {args : List HV} {vs : List Value} {W : World} (hp : Pure P f args (· = .bool true)) (hr : RepL W Mu.zero args vs) :
    Calls P f vs.toArray W fun e W' => e = .returned (.bool true) ∧ Kept W W' := by
  refine (hp.2 Mu.zero W vs (SR.zero W) hr).mono ?_
  rintro e W' ⟨v, r, H', μ', rfl, ⟨rfl, _, _⟩, hs, hv, E⟩
  have hv' : v = .bool true := hv
  subst hv'
  exact ⟨rfl, E.os, E.output, E.size, fun b hb => E.keep b hb fun ⟨_, _, hl⟩ => by cases hl⟩

theorem rep_string {W : World} {μ : Mu} (s : ByteArray) (h : s.size ≤ maxLen) : Rep W μ (.str s.data.toList) (.string s) := by
  refine ⟨by cases s; simp, ?_⟩
  have : s.data.toList.length = s.size := by simp
  omega

theorem post_of_kept {H : Type} {enc : TypeId × Value → H} {P : Program} {f : Func} {s : ChangeSpec} {apart fresh handsOn again : Bool} {W W' : World} {args : Array Value} {v : Value} {ds gs : List (DataW H)} {before pa pv : List MemPlace}
    (hW : DataW.Whole enc P f.params.toList s.vars apart W args.toList ds gs before)
    (hres : ∀ (b : Nat) (sp : Nat → Bool) (hd : Bool), DataW.TrodAll enc P W' b sp hd f.resultTypes.toList (v.resultList f.resultTypes.size) (s.fn H (ds ++ gs)).results [])
    (hargs : ∀ sp : Nat → Bool, (∀ p ∈ before, sp p.block = true) → DataW.TrodAll enc P W' 0 sp true f.params.toList args.toList (s.fn H (ds ++ gs)).args pa)
    (hvars : ∀ sp : Nat → Bool, (∀ p ∈ before, sp p.block = true) → DataW.TrodVars enc P W' sp s.vars (s.fn H (ds ++ gs)).vars pv)
    (hps : before = pa ++ pv) (hk : Kept W W')
    (hok : ∀ (j : Nat) (t : TypeId) (r : Value), f.resultTypes[j]? = some t → (v.resultList f.resultTypes.size)[j]? = some r → Value.okWide P W' .any 0 t r) :
    s.post enc P f apart fresh handsOn again W args v W' := by
  have hold : ∀ p ∈ before, (fun b => decide (b < W.heap.size)) p.block = true := fun p hp => by simpa using hW.lt p hp
  refine ⟨ds, gs, before, [], pa, pv, hW, hres _ _ _, hargs _ hold, hvars _ hold, World.keptBut_mono (fun p hp => ⟨hp, ?_⟩) (hk.frame (· ∈ before)), fun _ => ?_⟩
  · rw [hps, List.mem_append] at hp
    exact Or.inr hp
  · have hlt := hW.lt
    obtain ⟨_, _, _, _, _, hz, hn⟩ := hW
    refine ⟨hok, _, _, ([] ++ pa) ++ pv, ⟨[] ++ pa, pv, trodAll_append (hargs _ (fun _ _ => rfl)) (hres _ _ _), hvars _ (fun _ _ => rfl), rfl, ?_, ?_⟩, ?_⟩
    · intro b off hp
      have hp' : MemPlace.cell b off ∈ before := by rw [hps]; simpa using hp
      rw [hk.frozen _ (hlt _ hp')]
      exact hz b off hp'
    · intro ha
      have := hn ha
      rw [hps] at this
      simpa using this
    · intro p hp _
      rw [hps]
      simpa using hp
end Go.AW

/- Arguments: from what is read of them to what the layer says of them; and the law's end for any arguments. -/
namespace Go.AW
open Go Go.ChangeShapes Go.WideShapes Go.ChangeAt Go.RowKit

theorem rowAt_le {p : Program} {fits : TypeId → Bool} {d : Nat} {e : TypeId} {count off n : Nat} (h : rowAt p fits d e count off n = true) : off ≤ count * p.cellsOf e := by
  cases d with
  | zero => simp [rowAt] at h
  | succ d =>
    unfold rowAt at h
    simp only at h
    split at h
    · cases h
    · rename_i hs
      have hs' : 0 < p.cellsOf e := Nat.pos_of_ne_zero hs
      have hd := Nat.div_add_mod off (p.cellsOf e)
      rw [Nat.mul_comm] at hd
      simp only [Bool.or_eq_true, Bool.and_eq_true, beq_iff_eq, decide_eq_true_eq] at h
      rcases h with ⟨⟨h0, h1⟩, _⟩ | ⟨h1, _⟩
      · rw [← hd, h0, Nat.add_zero]
        exact Nat.mul_le_mul_right _ (by omega)
      · have hm := Nat.mod_lt off hs'
        have : (off / p.cellsOf e + 1) * p.cellsOf e ≤ count * p.cellsOf e := Nat.mul_le_mul_right _ h1
        rw [Nat.add_mul] at this
        omega

theorem liesAt_le {p : Program} {d : Nat} {e u : TypeId} {count off n : Nat} (h : liesAt p d e count off u n = true) : off ≤ count * p.cellsOf e := by
  induction d generalizing u n with
  | zero => simp [liesAt] at h
  | succ d ih =>
    unfold liesAt at h
    rw [Bool.or_eq_true] at h
    rcases h with h | h
    · exact rowAt_le h
    · split at h
      · exact ih h
      · cases h

/-- where an argument's slice lies -/
theorem has_seg {P : Program} {W : World} {r : Reach} {base : Nat} {a : Addr} {e : TypeId} {cap : Nat} (h : W.has P r base a e cap) {vs : List Value} (hc : ∀ i (hi : i < vs.length), W.cell? (a.add i) = some vs[i]) :
    ∃ b off, a = ⟨b, off, none⟩ ∧ Seg W b off vs := by
  obtain ⟨_, hsp, row, cells, hsh, hl⟩ := h
  obtain ⟨b, off, spot⟩ := a
  dsimp only at hsp hsh hl
  subst hsp
  refine ⟨b, off, rfl, ?_⟩
  unfold World.shape? at hsh
  split at hsh
  · rename_i cur e' fr hb
    simp only [Option.some.injEq, Prod.mk.injEq] at hsh
    obtain ⟨rfl, rfl⟩ := hsh
    have hoff : off ≤ cur.size := Nat.le_trans (liesAt_le hl) (Nat.div_mul_le_self _ _)
    have hget : ∀ i (hi : i < vs.length), cur.toList[off + i]? = some vs[i] := fun i hi => by
      have := hc i hi
      rw [add_plain] at this
      unfold World.cell? at this
      rw [hb] at this
      simpa using this
    refine ⟨cur, e', fr, cur.toList.take off, cur.toList.drop (off + vs.length), hb, ?_, by simp [hoff]⟩
    have hvs : vs = (cur.toList.drop off).take vs.length := by
      apply List.ext_getElem?
      intro i
      rcases Nat.lt_or_ge i vs.length with hi | hi
      · rw [List.getElem?_take_of_lt hi, List.getElem?_drop, hget i hi, List.getElem?_eq_getElem hi]
      · rw [List.getElem?_eq_none hi, List.getElem?_eq_none (by simp; omega)]
    have : vs ++ cur.toList.drop (off + vs.length) = cur.toList.drop off := by
      conv => lhs; arg 1; rw [hvs]
      rw [← List.drop_drop]
      exact List.take_append_drop _ _
    rw [List.append_assoc, this, List.take_append_drop]
  · cases hsh

theorem nown (b : Nat) : ¬ Mu.zero.owns b := fun h => h.elim (fun ⟨_, _, h⟩ => by cases h) id

/-- a number -/
theorem open_num {H : Type} {enc : TypeId × Value → H} {P : Program} {W : World} {base : Nat} {t : TypeId} {k : IntKind} {v : Value} {d : DataW H} {ps : List MemPlace} (ht : P.underlying t = some (.int k))
    (hval : Value.okWide P W .any base t v) (h : DataW.Trod enc P W 0 (fun _ => true) true t v d ps) : ∃ n : Int, (Lit.int k n).wf = true ∧ Rep W Mu.zero (.int k n) v := by
  obtain ⟨n, rfl, _, _, hw⟩ := open_int ht hval h
  exact ⟨n, hw, rfl, hw⟩

/-- a byte -/
theorem open_u8 {H : Type} {enc : TypeId × Value → H} {P : Program} {W : World} {base : Nat} {t : TypeId} {v : Value} {d : DataW H} {ps : List MemPlace} (ht : P.underlying t = some (.int .u8))
    (hval : Value.okWide P W .any base t v) (h : DataW.Trod enc P W 0 (fun _ => true) true t v d ps) : ∃ b : UInt8, Rep W Mu.zero (.int .u8 (b.toNat : Int)) v := by
  obtain ⟨n, hw, hr⟩ := open_num ht hval h
  have hw' : (0 : Int) ≤ n ∧ n ≤ 255 := by
    simp only [Lit.wf, Bool.and_eq_true, decide_eq_true_eq] at hw
    exact hw
  refine ⟨UInt8.ofNat n.toNat, ?_⟩
  have : ((UInt8.ofNat n.toNat).toNat : Int) = n := by
    rw [UInt8.toNat_ofNat']
    omega
  rw [this]
  exact hr

/-- the arguments read again -/
theorem trodAll_stays {H : Type} {enc : TypeId × Value → H} {P : Program} (hl : laidOutB P = true) {W W' : World} {sp : Nat → Bool} : ∀ {ts : List TypeId} {vs : List Value} {ds : List (DataW H)} {ps : List MemPlace},
    (ts.all fun t => P.readableRec t && decide (t < P.types.size)) = true → DataW.TrodAll enc P W 0 (fun _ => true) true ts vs ds ps → (∀ p ∈ ps, W.sameAt W' p) → (∀ p ∈ ps, sp p.block = true) → DataW.TrodAll enc P W' 0 sp true ts vs ds ps
  | [], vs, ds, ps, _, h, _, _ => by
    obtain ⟨rfl, rfl, rfl⟩ := trodAll_nil h
    exact trodAll_mk0
  | t :: ts, vs, ds, ps, ht, h, h1, h2 => by
    obtain ⟨v, vs', d, ds', p, q, rfl, rfl, rfl, h3, h4⟩ := trodAll_cons h
    simp only [List.all_cons, Bool.and_eq_true, decide_eq_true_eq] at ht
    exact trodAll_cons_mk (WideElems.Trod_stays hl ht.1.1 ht.1.2 h3 (fun x hx => h1 x (List.mem_append_left _ hx)) (fun x hx => h2 x (List.mem_append_left _ hx)))
      (trodAll_stays hl ht.2 h4 (fun x hx => h1 x (List.mem_append_right _ hx)) (fun x hx => h2 x (List.mem_append_right _ hx)))

theorem Kept.same {W W' : World} (h : Kept W W') (p : MemPlace) (hp : p.block < W.heap.size) : W.sameAt W' p := by
  cases p with
  | cell b off =>
    show W'.cell? ⟨b, off, none⟩ = W.cell? ⟨b, off, none⟩
    unfold World.cell?
    rw [h.2.2.2 b hp]
  | map b => exact h.2.2.2 b hp

/-- A LAW'S END: true, and the arguments read as they did. -/
theorem post_of_true {H : Type} {enc : TypeId × Value → H} {P : Program} {f : Func} {s : ChangeSpec} {apart fresh handsOn again : Bool} {W W' : World} {args : Array Value} {ds gs : List (DataW H)} {before : List MemPlace} {t : TypeId}
    (hl : laidOutB P = true) (hps : (f.params.toList.all fun t => P.readableRec t && decide (t < P.types.size)) = true) (hres : f.resultTypes = #[t]) (ht : P.underlying t = some .bool) (hv : s.vars = [])
    (hW : DataW.Whole enc P f.params.toList s.vars apart W args.toList ds gs before) (hk : Kept W W')
    (h1 : (s.fn H (ds ++ gs)).results = [.lit (.bool true)]) (h2 : (s.fn H (ds ++ gs)).args = ds) (h3 : (s.fn H (ds ++ gs)).vars = []) :
    s.post enc P f apart fresh handsOn again W args (.bool true) W' := by
  have hlt := hW.lt
  have hW' := hW
  obtain ⟨p, q, hA, hV, rfl, _, _⟩ := hW
  rw [hv] at hV
  obtain ⟨rfl, rfl⟩ := trodVars_none hV
  refine post_of_kept (pa := p) (pv := []) hW' (fun _ _ _ => ?_) (fun sp hsp => ?_) (fun _ _ => ?_) (by simp) hk (ok_one hres rfl (okWide_bool_mk ht _))
  · rw [hres, h1]
    exact trodAll_cons_mk (shut_bool ht _) trodAll_mk0
  · rw [h2]
    exact trodAll_stays hl hps hA (fun x hx => hk.same x (hlt x (by simpa using hx))) (fun x hx => hsp x (by simpa using hx))
  · rw [h3, hv]
    rfl
end Go.AW

/- Arguments that are graphs: what is read of them, and what the layer says of them. -/
namespace Go.AW
open Go Go.ChangeShapes Go.WideShapes Go.ChangeAt Go.RowKit

section
variable {H : Type} {enc : TypeId × Value → H} {P : Program} {W : World} {base : Nat}

theorem repL_app {μ : Mu} : ∀ {hs ks : List HV} {vs us : List Value}, RepL W μ hs vs → RepL W μ ks us → RepL W μ (hs ++ ks) (vs ++ us)
  | [], _, _, _, h, h' => by cases h; exact h'
  | _ :: _, _, _, _, ⟨x, xs, rfl, h1, h2⟩, h' => ⟨x, _, rfl, h1, repL_app h2 h'⟩

theorem add_adds (a : Addr) (i j : Nat) : (a.add i).add j = a.add (i + j) := by
  unfold Addr.add
  repeat' split
  all_goals simp_all [Nat.add_assoc]

theorem open_rows {α : Type} (c : EncL α) {fuel : Nat} {t e : TypeId} {cs : List Value} {x : DataW H × List MemPlace} (ht : P.underlying t = some (.slice e)) (hk : P.cellsOf e = c.k) (hone : ∀ x, ones (c.C x))
    (hel : ∀ n cs y, DataW.trod enc P W 0 (fun _ => true) true n e cs = some y → ∃ x : α, RepL W Mu.zero (c.C x) cs)
    (hhas : ∀ a len cap, cs = [.slice (some a) len cap] → W.has P .any base a e cap) (h : DataW.trod enc P W 0 (fun _ => true) true fuel t cs = some x) : ∃ l : List α, RepL W Mu.zero [slE c l] cs := by
  rcases DataW.trod_slice ht h with ⟨rfl, _⟩ | ⟨a, len, cap, elems, rest, n, _, rfl, _, _, hl, hm, hlen, hel', _, _⟩
  · refine ⟨[], _, _, rfl, ?_, rfl⟩
    show _ ∧ _
    exact ⟨(by rw [c.nil]; exact fun _ h => nomatch h), (by rw [c.nil]; simp), Nat.zero_le _, .inl ⟨rfl, rfl⟩⟩
  · have each : ∀ i, i < len → ∃ cs' x, W.cells? 0 (a.add (i * c.k)) c.k = some cs' ∧ RepL W Mu.zero (c.C x) cs' := fun i hi => by
      have h1 := hel' i hi
      rw [List.getElem?_eq_getElem (by omega), Option.bind_eq_some_iff, hk] at h1
      obtain ⟨cs', h2, h3⟩ := h1
      obtain ⟨x, hx⟩ := hel _ _ _ h3
      exact ⟨cs', x, h2, hx⟩
    have build : ∀ m, m ≤ len → ∃ (l : List α) (vs : List Value), l.length = m ∧ vs.length = m * c.k ∧ RepL W Mu.zero (c.E l) vs ∧ ∀ i (hi : i < vs.length), W.cell? (a.add i) = some vs[i] := by
      intro m
      induction m with
      | zero => exact fun _ => ⟨[], [], rfl, by simp, by rw [c.nil]; rfl, fun i hi => by simp at hi⟩
      | succ m ih =>
        intro hm
        obtain ⟨l, vs, h1, h2, h3, h4⟩ := ih (by omega)
        obtain ⟨cs', x, h5, h6⟩ := each m (by omega)
        obtain ⟨_, h7, h8⟩ := World.cells?_some h5
        refine ⟨l ++ [x], vs ++ cs', by simp [h1], by rw [List.length_append, h2, h7, Nat.succ_mul], by rw [c.append, c.one]; exact repL_app h3 h6, fun i hi => ?_⟩
        rcases Nat.lt_or_ge i vs.length with hi' | hi'
        · rw [List.getElem_append_left hi']; exact h4 i hi'
        · rw [List.getElem_append_right hi']
          rw [List.length_append] at hi
          have := h8 (i - vs.length) (by omega)
          rw [add_adds, h2, show m * c.k + (i - m * c.k) = i by omega] at this
          rw [this, List.getElem?_eq_getElem (by omega)]
          simp only [h2]
    obtain ⟨l, vs, h1, h2, h3, h4⟩ := build len (Nat.le_refl _)
    obtain ⟨b, off, rfl, hseg⟩ := has_seg (hhas _ _ _ rfl) h4
    refine ⟨l, _, _, rfl, ?_, rfl⟩
    show _ ∧ _
    refine ⟨fun d hd => ?_, c.len l, by omega, .inr ⟨b, off, cap, vs, by rw [h1], by omega, nown b, hseg, h3⟩⟩
    rw [c.hE] at hd
    obtain ⟨x, _, hdx⟩ := List.mem_flatMap.1 hd
    exact hone x d hdx

theorem open3 {t : TypeId} {f0 f1 f2 : Field} {fuel : Nat} {cs : List Value} {x : DataW H × List MemPlace} (ht : P.underlying t = some (.struct #[f0, f1, f2])) (o0 : f0.offset = 0) (o1 : f1.offset = 1) (o2 : f2.offset = 2) (c : P.cellsOf t = 3)
    (c0 : P.cellsOf f0.type = 1) (c1 : P.cellsOf f1.type = 1) (c2 : P.cellsOf f2.type = 1) (h : DataW.trod enc P W 0 (fun _ => true) true fuel t cs = some x) :
    ∃ v0 v1 v2 y0 y1 y2 n, cs = [v0, v1, v2] ∧ DataW.trod enc P W 0 (fun _ => true) true n f0.type [v0] = some y0 ∧ DataW.trod enc P W 0 (fun _ => true) true n f1.type [v1] = some y1 ∧ DataW.trod enc P W 0 (fun _ => true) true n f2.type [v2] = some y2 := by
  obtain ⟨xs, n, _, rfl, hl, hlen, hf⟩ := DataW.trod_struct ht h
  rw [c] at hl
  match cs, hl with
  | [v0, v1, v2], _ =>
    match xs, hlen with
    | [y0, y1, y2], _ =>
      refine ⟨v0, v1, v2, y0, y1, y2, n, rfl, ?_, ?_, ?_⟩
      · have := hf 0 f0 rfl; rw [o0, c0] at this; exact this
      · have := hf 1 f1 rfl; rw [o1, c1] at this; exact this
      · have := hf 2 f2 rfl; rw [o2, c2] at this; exact this

theorem rep_i64 {n : Int} {ti : TypeId} {m : Nat} {v : Value} {y : DataW H × List MemPlace} (hti : P.underlying ti = some (.int .i64)) (h : DataW.trod enc P W 0 (fun _ => true) true m ti [v] = some y) : ∃ n : Int, Rep W Mu.zero (.int .i64 n) v := by
  obtain ⟨n, hv, _, hw⟩ := DataW.trod_int hti h
  cases hv
  exact ⟨n, rfl, hw⟩

/-- a graph -/
theorem open_graph {t ti ts te : TypeId} {f0 f1 f2 e0 e1 e2 : Field} {v : Value} {d : DataW H} {ps : List MemPlace} (ht : P.underlying t = some (.struct #[f0, f1, f2])) (o : f0.offset = 0 ∧ f1.offset = 1 ∧ f2.offset = 2) (y : f0.type = ti ∧ f1.type = ti ∧ f2.type = ts)
    (c : P.cellsOf t = 3) (ci : P.cellsOf ti = 1) (cs : P.cellsOf ts = 1) (ct : P.cellTypes P.depth t = some [ti, ti, ts]) (hti : P.underlying ti = some (.int .i64)) (hts : P.underlying ts = some (.slice te))
    (hte : P.underlying te = some (.struct #[e0, e1, e2])) (oe : e0.offset = 0 ∧ e1.offset = 1 ∧ e2.offset = 2) (ye : e0.type = ti ∧ e1.type = ti ∧ e2.type = ti) (ce : P.cellsOf te = 3)
    (hval : Value.okWide P W .any base t v) (h : DataW.Trod enc P W 0 (fun _ => true) true t v d ps) : ∃ g : TLabelsStatesEdges, Rep W Mu.zero (.agg [.int .i64 g.1, .int .i64 g.2.1, slE eFromLabelTo g.2.2]) v := by
  obtain ⟨y0, y1, y2⟩ := y
  obtain ⟨z0, z1, z2⟩ := ye
  simp only [Value.okWide, ht] at hval
  obtain ⟨arr, rfl, _, hrow⟩ := hval
  obtain ⟨fuel, hf⟩ := h
  obtain ⟨v0, v1, v2, a0, a1, a2, n, hcs, h0, h1, h2⟩ := open3 ht o.1 o.2.1 o.2.2 c (by rw [y0]; exact ci) (by rw [y1]; exact ci) (by rw [y2]; exact cs) hf
  have harr : arr = #[v0, v1, v2] := by
    have : arr.toList = [v0, v1, v2] := hcs
    cases arr
    simp_all
  subst harr
  rw [y0] at h0
  rw [y1] at h1
  rw [y2] at h2
  obtain ⟨l, r0⟩ := rep_i64 (n := 0) hti h0
  obtain ⟨s, r1⟩ := rep_i64 (n := 0) hti h1
  obtain ⟨es, _, _, r2, r2', r2''⟩ := open_rows (base := base) eFromLabelTo hts ce (fun x d hd => by
      have hd : d ∈ [HV.int .i64 x.1, HV.int .i64 x.2.1, HV.int .i64 x.2.2] := hd
      simp only [List.mem_cons, List.not_mem_nil, or_false] at hd
      rcases hd with rfl | rfl | rfl <;> rfl) (fun m cs' y hy => by
      obtain ⟨w0, w1, w2, b0, b1, b2, n', rfl, k0, k1, k2⟩ := open3 hte oe.1 oe.2.1 oe.2.2 ce (by rw [z0]; exact ci) (by rw [z1]; exact ci) (by rw [z2]; exact ci) hy
      rw [z0] at k0
      rw [z1] at k1
      rw [z2] at k2
      obtain ⟨p0, q0⟩ := rep_i64 (n := 0) hti k0
      obtain ⟨p1, q1⟩ := rep_i64 (n := 0) hti k1
      obtain ⟨p2, q2⟩ := rep_i64 (n := 0) hti k2
      exact ⟨(p0, p1, p2), _, _, rfl, q0, _, _, rfl, q1, _, _, rfl, q2, rfl⟩) (fun a len cap e => by
      cases e
      obtain ⟨tys, ht1, _, hcell⟩ := hrow
      rw [ct] at ht1
      cases ht1
      obtain ⟨u, hu, hok⟩ := hcell 2 (.slice (some a) len cap) rfl
      cases hu
      simp only [Cell.okWide, hts, Cell.ok] at hok
      exact hok.2.2) h2
  cases r2
  refine ⟨(l, s, es), ?_⟩
  show _ ∧ _
  refine ⟨fun d hd => ?_, _, rfl, _, _, rfl, r0, _, _, rfl, r1, _, _, rfl, r2', rfl⟩
  simp only [List.mem_cons, List.not_mem_nil, or_false] at hd
  rcases hd with rfl | rfl | rfl <;> rfl
end
end Go.AW

namespace Go.Proofs.Ytccnafddjjamoaa
open Go Go.AW Go.ChangeShapes Go.WideShapes Go.ChangeAt Go.RowKit Go.ChangeMaps
set_option linter.unusedVariables false

theorem ownM : ownKnob Try.prog.godebug = none := by kernel_rfl
theorem laidB : laidOutB Try.prog = true := by kernel_rfl

theorem wLaw (a0 : TLabelsStatesEdges) (a1 : List UInt8) (a2 : UInt8) (a3 : UInt8) : Pure Try.prog 9 [HV.agg [HV.int .i64 a0.1, HV.int .i64 a0.2.1, slE eFromLabelTo a0.2.2], .str a1, .int .u8 a2.toNat, .int .u8 a3.toNat] (· = .bool true) := w_law11_LanguageFactors (law_factors a0 a1 a2.toNat a3.toNat (by omega) (by have := a2.toNat_lt; omega) (by omega) (by have := a3.toNat_lt; omega))

set_option maxRecDepth 100000 in
theorem liftedL (os : Os) (started : os.Started) (H : Type) (enc : TypeId × Value → H) :
    ReturnsInHanded {} Try.checked os 9 .any (Rows.languageFactorsSpec.pre6 enc Try.prog Try.f9 Rows.languageFactorsRow.domain false) (Rows.languageFactorsSpec.post enc Try.prog Try.f9 false true false false) := by
  refine returnsInHanded_of_change (C := Try.checked) ownM started (by kernel_rfl) Try.func9
    (ChangeSpec.witness6 (enc := enc) (C := Try.checked) false ⟨#[], #[.agg #[.int .i64 0, .int .i64 0, .slice none 0 0], .string ⟨#[]⟩, .int .u8 0, .int .u8 0], []⟩ 8 (by kernel_rfl) (by kernel_rfl) (by kernel_rfl) (by kernel_rfl)) ?_
  intro W base args ds gs before hval0 hW hcnd _
  have hval : ∀ (j : Nat) t v, Try.f9.params[j]? = some t → args[j]? = some v → Value.okWide Try.prog W .any base t v := hval0
  have hW' := hW
  obtain ⟨p, q, hA0, hV, rfl, hfz, hnd⟩ := hW
  have hA : DataW.TrodAll enc Try.prog W 0 (fun _ => true) true Try.f9.params.toList args.toList ds p := hA0
  rw [Try.params9] at hA hval
  obtain ⟨v0, vs0, d0, ds0, p0, q0, hargs, rfl, rfl, h0, r0⟩ := trodAll_cons hA
  obtain ⟨v1, vs1, d1, ds1, p1, q1, rfl, rfl, rfl, h1, r1⟩ := trodAll_cons r0
  obtain ⟨v2, vs2, d2, ds2, p2, q2, rfl, rfl, rfl, h2, r2⟩ := trodAll_cons r1
  obtain ⟨v3, vs3, d3, ds3, p3, q3, rfl, rfl, rfl, h3, r3⟩ := trodAll_cons r2
  obtain ⟨rfl, rfl, rfl⟩ := trodAll_nil r3
  obtain rfl : args = #[v0, v1, v2, v3] := by cases args; simp_all
  obtain ⟨rfl, rfl⟩ := trodVars_none hV
  obtain ⟨a0, hr0⟩ := open_graph Try.underlying24 ⟨rfl, rfl, rfl⟩ ⟨rfl, rfl, rfl⟩ (by kernel_rfl) (by kernel_rfl) (by kernel_rfl) (by kernel_rfl) Try.underlying3 Try.underlying22 Try.underlying66 ⟨rfl, rfl, rfl⟩ ⟨rfl, rfl, rfl⟩ (by kernel_rfl) (hval 0 24 v0 rfl rfl) h0
  obtain ⟨s1, rfl, _, _, l1⟩ := open_string Try.underlying9 (hval 1 9 v1 rfl rfl) h1
  obtain ⟨a2, hr2⟩ := open_u8 Try.underlying5 (hval 2 5 v2 rfl rfl) h2
  obtain ⟨a3, hr3⟩ := open_u8 Try.underlying5 (hval 3 5 v3 rfl rfl) h3
  refine (calls_of_pure (vs := [v0, .string s1, v2, v3]) (wLaw a0 s1.data.toList a2 a3) ⟨_, _, rfl, hr0, _, _, rfl, rep_string s1 l1, _, _, rfl, hr2, _, _, rfl, hr3, rfl⟩).mono fun e W' ⟨he, hk⟩ => ?_
  subst he
  exact ⟨_, rfl, post_of_true laidB (by kernel_rfl) rfl Try.underlying4 rfl hW' hk rfl rfl rfl⟩

theorem languageFactorsProved : Rows.LanguageFactorsSaid :=
  OpenClaim.holds_of_wide 9 Try.f9 rfl rfl rfl rfl rfl rfl rfl ⟨rfl, rfl, rfl, rfl, rfl⟩ rfl rfl rfl rfl rfl (by kernel_rfl) Try.func9 (by kernel_rfl)
    (of_decide_eq_true (by kernel_rfl)) (by unfold Func.isWrapper; first | (rw [if_pos (by decide +kernel)]; kernel_rfl) | (rw [if_neg (by decide +kernel)]; exact ⟨rfl, rfl⟩))
    (fun os started H enc _ => liftedL os started H enc)
#print axioms languageFactorsProved
end Go.Proofs.Ytccnafddjjamoaa
