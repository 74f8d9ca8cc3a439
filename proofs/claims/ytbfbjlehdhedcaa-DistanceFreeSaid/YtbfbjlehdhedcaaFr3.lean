import Derived.Test.YtbfbjlehdhedcaaFr2
import Derived.DeepKeys3
import Derived.Lib.Bytealg
import Derived.Lib.Slices
import Derived.Lib.Strings
import Derived.Lib.Walk
import Derived.Shelf.SortM.Plain
import Derived.Shelf.SortM.SortNone
import Derived.Test.YtbfbjlehdhedcaaChecked
import Derived.WideKeyMaps
namespace Go.AW
open Go
def strs (l : List (List UInt8)) : HV := .sl 1 l.length (l.map .str)
def ints (l : List Int) : HV := .sl 1 l.length (l.map (.int .i64))
def num (n : Int) : HV := .int .i64 n
theorem clean_strs (l : List (List UInt8)) : clean (strs l) := cleanL_map fun _ _ => trivial
theorem cnt_next {i n : Nat} (h : n ≤ 9223372036854775807) (hi : i < n) : IntKind.wrap .i64 ((i : Int) + 1) = ((i + 1 : Nat) : Int) := by
 rw [w64 (by omega) (by omega)]; omega
theorem cnt_ge {i n : Nat} (h : decide ((i : Int) < (n : Int)) = false) (hi : i ≤ n) : i = n := by
 have : ¬ i < n := by simpa using h
 omega
theorem Pure.use {P : Program} {f : FuncId} {args : List HV} {H : Heap} {K : HV → Heap → Prop} {R : HV → Prop} (hp : Pure P f args R) (hK : ∀ r, R r → K r H) : ACall P f args H K := ACall.pure0 hp hK
end Go.AW

namespace Go.Proofs
open Go
def Try.sortS_ren : Go.Shelf.Ren := ⟨fun | 6 => 10 | 8 => 33 | 9 => 32 | 19 => 69 | 20 => 70 | 21 => 60 | 22 => 61 | 23 => 62 | 24 => 63 | 25 => 64 | 26 => 65 | 27 => 66 | 28 => 67 | 29 => 68 | 36 => 84 | 31 => 85 | 32 => 86 | 37 => 87 | 38 => 88 | 39 => 89 | 41 => 99 | n => n, fun | 27 => 22 | 29 => 9 | 3 => 3 | 32 => 63 | 26 => 22 | 0 => 0 | 44 => 62 | 46 => 60 | 4 => 4 | 36 => 108 | 35 => 107 | 41 => 113 | 5 => 5 | 9 => 9 | 53 => 137 | 57 => 99 | 63 => 148 | 64 => 149 | n => n, fun | n => n⟩
theorem Try.sortS : Go.Proofs.SlLaysM.n6 Try.prog Try.sortS_ren where
 mixed := by kernel_rfl
 f6 := ⟨"slices.Sort[[]string,string]", by decide, Try.func10.trans (congrArg some (by kernel_rfl))⟩
 f8 := Try.func33.trans (congrArg some (by kernel_rfl))
 f9 := ⟨"slices.pdqsortOrdered[string]", by decide, Try.func32.trans (congrArg some (by kernel_rfl))⟩
 f19 := Try.func69.trans (congrArg some (by kernel_rfl))
 f20 := Try.func70.trans (congrArg some (by kernel_rfl))
 f21 := ⟨"slices.insertionSortOrdered[string]", by decide, Try.func60.trans (congrArg some (by kernel_rfl))⟩
 f22 := ⟨"slices.heapSortOrdered[string]", by decide, Try.func61.trans (congrArg some (by kernel_rfl))⟩
 f23 := ⟨"slices.breakPatternsOrdered[string]", by decide, Try.func62.trans (congrArg some (by kernel_rfl))⟩
 f24 := ⟨"slices.choosePivotOrdered[string]", by decide, Try.func63.trans (congrArg some (by kernel_rfl))⟩
 f25 := ⟨"slices.reverseRangeOrdered[string]", by decide, Try.func64.trans (congrArg some (by kernel_rfl))⟩
 f26 := ⟨"slices.partialInsertionSortOrdered[string]", by decide, Try.func65.trans (congrArg some (by kernel_rfl))⟩
 f27 := ⟨"cmp.Less[string]", by decide, Try.func66.trans (congrArg some (by kernel_rfl))⟩
 f28 := ⟨"slices.partitionEqualOrdered[string]", by decide, Try.func67.trans (congrArg some (by kernel_rfl))⟩
 f29 := ⟨"slices.partitionOrdered[string]", by decide, Try.func68.trans (congrArg some (by kernel_rfl))⟩
 f31 := Try.func85.trans (congrArg some (by kernel_rfl))
 f32 := Try.func86.trans (congrArg some (by kernel_rfl))
 f36 := ⟨"slices.siftDownOrdered[string]", by decide, Try.func84.trans (congrArg some (by kernel_rfl))⟩
 f37 := ⟨"slices.medianAdjacentOrdered[string]", by decide, Try.func87.trans (congrArg some (by kernel_rfl))⟩
 f38 := ⟨"slices.medianOrdered[string]", by decide, Try.func88.trans (congrArg some (by kernel_rfl))⟩
 f39 := ⟨"cmp.isNaN[string]", by decide, Try.func89.trans (congrArg some (by kernel_rfl))⟩
 f41 := ⟨"slices.order2Ordered[string]", by decide, Try.func99.trans (congrArg some (by kernel_rfl))⟩
 t0 := Try.underlying0
 a0 := Try.isAgg0
 z0 := Try.sizeOf0
 v0 := Try.zeroValue0
 t3 := Try.underlying3
 a3 := Try.isAgg3
 z3 := Try.sizeOf3
 v3 := Try.zeroValue3
 t4 := Try.underlying4
 a4 := Try.isAgg4
 z4 := Try.sizeOf4
 v4 := Try.zeroValue4
 t5 := Try.underlying5
 a5 := Try.isAgg5
 z5 := Try.sizeOf5
 v5 := Try.zeroValue5
 t9 := Try.underlying9
 a9 := Try.isAgg9
 z9 := Try.sizeOf9
 v9 := Try.zeroValue9
 t26 := Try.underlying22
 a26 := Try.isAgg22
 z26 := Try.sizeOf22
 v26 := Try.zeroValue22
 t27 := Try.underlying22
 a27 := Try.isAgg22
 z27 := Try.sizeOf22
 v27 := Try.zeroValue22
 t29 := Try.underlying9
 a29 := Try.isAgg9
 z29 := Try.sizeOf9
 v29 := Try.zeroValue9
 t32 := Try.underlying63
 a32 := Try.isAgg63
 z32 := Try.sizeOf63
 v32 := Try.zeroValue63
 t35 := Try.underlying107
 a35 := Try.isAgg107
 z35 := Try.sizeOf107
 v35 := Try.zeroValue107
 t36 := Try.underlying108
 a36 := Try.isAgg108
 z36 := Try.sizeOf108
 v36 := Try.zeroValue108
 t41 := Try.underlying113
 a41 := Try.isAgg113
 z41 := Try.sizeOf113
 v41 := Try.zeroValue113
 t44 := Try.underlying62
 a44 := Try.isAgg62
 z44 := Try.sizeOf62
 v44 := Try.zeroValue62
 t46 := Try.underlying60
 a46 := Try.isAgg60
 z46 := Try.sizeOf60
 v46 := Try.zeroValue60
 t53 := Try.underlying137
 a53 := Try.isAgg137
 z53 := Try.sizeOf137
 v53 := Try.zeroValue137
 t57 := Try.underlying99
 a57 := Try.isAgg99
 z57 := Try.sizeOf99
 v57 := Try.zeroValue99
 t63 := Try.underlying148
 a63 := Try.isAgg148
 z63 := Try.sizeOf148
 v63 := Try.zeroValue148
 t64 := Try.underlying149
 a64 := Try.isAgg149
 z64 := Try.sizeOf149
 v64 := Try.zeroValue149
def Try.sortI_ren : Go.Shelf.Ren := ⟨fun | 5 => 116 | 8 => 33 | 7 => 121 | 19 => 69 | 20 => 70 | 10 => 123 | 11 => 124 | 12 => 125 | 13 => 126 | 14 => 127 | 15 => 128 | 16 => 129 | 17 => 130 | 18 => 131 | 30 => 133 | 31 => 85 | 32 => 86 | 33 => 134 | 34 => 135 | 35 => 132 | 40 => 136 | n => n, fun | 23 => 83 | 25 => 3 | 3 => 3 | 32 => 63 | 22 => 83 | 0 => 0 | 44 => 62 | 46 => 60 | 4 => 4 | 36 => 108 | 35 => 107 | 41 => 113 | 5 => 5 | 9 => 9 | 53 => 137 | 57 => 99 | 63 => 148 | 64 => 149 | n => n, fun | n => n⟩
theorem Try.sortI : Go.Proofs.SlLaysM.n5 Try.prog Try.sortI_ren where
 mixed := by kernel_rfl
 f5 := ⟨"slices.Sort[[]int,int]", by decide, Try.func116.trans (congrArg some (by kernel_rfl))⟩
 f7 := ⟨"slices.pdqsortOrdered[int]", by decide, Try.func121.trans (congrArg some (by kernel_rfl))⟩
 f8 := Try.func33.trans (congrArg some (by kernel_rfl))
 f10 := ⟨"slices.insertionSortOrdered[int]", by decide, Try.func123.trans (congrArg some (by kernel_rfl))⟩
 f11 := ⟨"slices.heapSortOrdered[int]", by decide, Try.func124.trans (congrArg some (by kernel_rfl))⟩
 f12 := ⟨"slices.breakPatternsOrdered[int]", by decide, Try.func125.trans (congrArg some (by kernel_rfl))⟩
 f13 := ⟨"slices.choosePivotOrdered[int]", by decide, Try.func126.trans (congrArg some (by kernel_rfl))⟩
 f14 := ⟨"slices.reverseRangeOrdered[int]", by decide, Try.func127.trans (congrArg some (by kernel_rfl))⟩
 f15 := ⟨"slices.partialInsertionSortOrdered[int]", by decide, Try.func128.trans (congrArg some (by kernel_rfl))⟩
 f16 := ⟨"cmp.Less[int]", by decide, Try.func129.trans (congrArg some (by kernel_rfl))⟩
 f17 := ⟨"slices.partitionEqualOrdered[int]", by decide, Try.func130.trans (congrArg some (by kernel_rfl))⟩
 f18 := ⟨"slices.partitionOrdered[int]", by decide, Try.func131.trans (congrArg some (by kernel_rfl))⟩
 f19 := Try.func69.trans (congrArg some (by kernel_rfl))
 f20 := Try.func70.trans (congrArg some (by kernel_rfl))
 f30 := ⟨"slices.siftDownOrdered[int]", by decide, Try.func133.trans (congrArg some (by kernel_rfl))⟩
 f31 := Try.func85.trans (congrArg some (by kernel_rfl))
 f32 := Try.func86.trans (congrArg some (by kernel_rfl))
 f33 := ⟨"slices.medianAdjacentOrdered[int]", by decide, Try.func134.trans (congrArg some (by kernel_rfl))⟩
 f34 := ⟨"slices.medianOrdered[int]", by decide, Try.func135.trans (congrArg some (by kernel_rfl))⟩
 f35 := ⟨"cmp.isNaN[int]", by decide, Try.func132.trans (congrArg some (by kernel_rfl))⟩
 f40 := ⟨"slices.order2Ordered[int]", by decide, Try.func136.trans (congrArg some (by kernel_rfl))⟩
 t0 := Try.underlying0
 a0 := Try.isAgg0
 z0 := Try.sizeOf0
 v0 := Try.zeroValue0
 t3 := Try.underlying3
 a3 := Try.isAgg3
 z3 := Try.sizeOf3
 v3 := Try.zeroValue3
 t4 := Try.underlying4
 a4 := Try.isAgg4
 z4 := Try.sizeOf4
 v4 := Try.zeroValue4
 t5 := Try.underlying5
 a5 := Try.isAgg5
 z5 := Try.sizeOf5
 v5 := Try.zeroValue5
 t9 := Try.underlying9
 a9 := Try.isAgg9
 z9 := Try.sizeOf9
 v9 := Try.zeroValue9
 t22 := Try.underlying83
 a22 := Try.isAgg83
 z22 := Try.sizeOf83
 v22 := Try.zeroValue83
 t23 := Try.underlying83
 a23 := Try.isAgg83
 z23 := Try.sizeOf83
 v23 := Try.zeroValue83
 t25 := Try.underlying3
 a25 := Try.isAgg3
 z25 := Try.sizeOf3
 v25 := Try.zeroValue3
 t32 := Try.underlying63
 a32 := Try.isAgg63
 z32 := Try.sizeOf63
 v32 := Try.zeroValue63
 t35 := Try.underlying107
 a35 := Try.isAgg107
 z35 := Try.sizeOf107
 v35 := Try.zeroValue107
 t36 := Try.underlying108
 a36 := Try.isAgg108
 z36 := Try.sizeOf108
 v36 := Try.zeroValue108
 t41 := Try.underlying113
 a41 := Try.isAgg113
 z41 := Try.sizeOf113
 v41 := Try.zeroValue113
 t44 := Try.underlying62
 a44 := Try.isAgg62
 z44 := Try.sizeOf62
 v44 := Try.zeroValue62
 t46 := Try.underlying60
 a46 := Try.isAgg60
 z46 := Try.sizeOf60
 v46 := Try.zeroValue60
 t53 := Try.underlying137
 a53 := Try.isAgg137
 z53 := Try.sizeOf137
 v53 := Try.zeroValue137
 t57 := Try.underlying99
 a57 := Try.isAgg99
 z57 := Try.sizeOf99
 v57 := Try.zeroValue99
 t63 := Try.underlying148
 a63 := Try.isAgg148
 z63 := Try.sizeOf148
 v63 := Try.zeroValue148
 t64 := Try.underlying149
 a64 := Try.isAgg149
 z64 := Try.sizeOf149
 v64 := Try.zeroValue149
end Go.Proofs
namespace Go.AW
open Go Go.Proofs Go.Sort
theorem repL_map {α : Type} {w : World} {μ : Mu} {f : α → HV} {g : α → Value} : ∀ {l : List α}, RepL w μ (l.map f) (l.map g) ↔ ∀ x ∈ l, Rep w μ (f x) (g x)
 | [] => by simp [RepL]
 | a :: l => by
  simp only [List.map_cons, RepL, List.mem_cons, forall_eq_or_imp]
  constructor
  ·rintro ⟨x, xs, e, h1, h2⟩
   cases e
   exact ⟨h1, repL_map.1 h2⟩
  ·exact fun ⟨h1, h2⟩ => ⟨_, _, rfl, h1, repL_map.2 h2⟩
theorem sorted_world {α : Type} [Inhabited α] {enc : α → Value} {f : α → HV} (hf1 : ∀ x, (f x).one = true) {w : World} {μ : Mu} {H : Heap} {id ver b k : Nat} {e : TypeId} {l d : List α} (hs : SR w μ H) (hg : hget H id = some (ver, .arr k e (l.map f)))
  (hl : μ.loc id = some (ver, some b)) (hrep : ∀ x ∈ l, Rep w μ (f x) (enc x)) (hor : OR w μ (.arr k e (l.map f)) (some b)) (hv : ∀ vs, RepL w μ (l.map f) vs → vs = l.map enc) (hp : d.Perm l) (n : Nat) (os : Array Obj) :
  SR (grow (putRow enc (Sort.ahead w n) b 0 d.toArray) os) μ (hset H id ver (.arr k e (d.map f))) ∧ Evo w μ (grow (putRow enc (Sort.ahead w n) b 0 d.toArray) os) μ := by
 obtain ⟨h0, cur, vs, rest, hrow, hcl, hrl⟩ := hor
 have hvs := hv vs hrl
 subst hvs
 have hlen : d.length = l.length := hp.length_eq
 have hcsz : cur.size = l.length + rest.length := by rw [← Array.length_toList, hcl]; simp
 -- the world with the row put
 have hb := hrow.lt
 obtain ⟨lo, hi, hbk, hfr⟩ := hrow
 have hbk' : (putRow enc (Sort.ahead w n) b 0 d.toArray).heap[b]? = some (.cells (putCells enc 0 d.toArray cur) e (lo, hi)) := by
  show (w.heap.modify b _)[b]? = _
  rw [Array.getElem?_modify, if_pos rfl, hbk]
  rfl
 have hcur' : (putCells enc 0 d.toArray cur).toList = d.map enc ++ rest := by
  apply List.ext_getElem?
  intro i
  rw [Array.getElem?_toList]
  simp only [putCells, Array.getElem?_mapIdx]
  have hc : cur[i]? = (l.map enc ++ rest)[i]? := by rw [← hcl, Array.getElem?_toList]
  rw [hc]
  rcases Nat.lt_or_ge i d.length with hi | hi
  ·rw [List.getElem?_append_left (by simp; omega), List.getElem?_append_left (by simpa using hi), List.getElem?_map, List.getElem?_map, List.getElem?_eq_getElem (by omega : i < l.length), List.getElem?_eq_getElem hi]
   simp only [Option.map_some]
   rw [if_pos ⟨Nat.zero_le _, by simpa using hi⟩]
   simp [hi]
  ·rw [List.getElem?_append_right (by simp; omega), List.getElem?_append_right (by simpa using hi)]
   simp only [List.length_map, hlen]
   cases rest[i - l.length]? with
   | none => rfl
   | some x =>
    simp only [Option.map_some]
    rw [if_neg (by simp; omega)]
 have hsz1 : (putRow enc (Sort.ahead w n) b 0 d.toArray).heap.size = w.heap.size := by rw [size_putRow]; rfl
 have hrow1 : Row (putRow enc (Sort.ahead w n) b 0 d.toArray) b (putCells enc 0 d.toArray cur) e := ⟨lo, hi, hbk', by simpa [putCells] using hfr⟩
 have hold : ∀ b', b' ≠ b → (putRow enc (Sort.ahead w n) b 0 d.toArray).heap[b']? = w.heap[b']? := fun b' hne => by
  show (w.heap.modify b _)[b']? = _
  rw [Array.getElem?_modify, if_neg (fun e => hne e.symm)]
 obtain ⟨h1, h2⟩ := hs.updArr (cs' := d.map f) (w' := putRow enc (Sort.ahead w n) b 0 d.toArray) hg hl ⟨rfl, rfl, rfl⟩ hsz1 hold ⟨lo, hi, hbk, hfr⟩ hrow1 (by simp [putCells]) fun E => by
  refine ⟨fun c hc => ?_, _, d.map enc, rest, hrow1, hcur', repL_map.2 fun x hx => Rep.evo E hs.ok _ _ (hrep x (hp.mem_iff.1 hx))⟩
  obtain ⟨x, _, rfl⟩ := List.mem_map.1 hc
  exact hf1 x
 have g : Grow (putRow enc (Sort.ahead w n) b 0 d.toArray) (grow (putRow enc (Sort.ahead w n) b 0 d.toArray) os) :=
  ⟨⟨rfl, rfl, rfl⟩, by rw [size_grow]; omega, fun b' hb' => by
   show (_ ++ os)[b']? = _
   rw [Array.getElem?_append_left hb']⟩
 exact ⟨h1.grow g, h2.trans (Evo.grow h1 g)⟩
theorem holds_row {α : Type} [Inhabited α] {enc : α → Value} {w : World} {b : Nat} {cur : Array Value} {e : TypeId} {l : List α} {rest : List Value} (hrow : Row w b cur e) (hcl : cur.toList = l.map enc ++ rest) : Holds enc w b 0 l.toArray := by
 intro j hj
 have hj' : j < l.length := by simpa using hj
 have hc : cur[j]? = some (enc l[j]) := by
  rw [← Array.getElem?_toList, hcl, List.getElem?_append_left (by simpa using hj'), List.getElem?_map, List.getElem?_eq_getElem hj']
  rfl
 refine ⟨?_, ?_⟩
 ·rw [Nat.zero_add, hrow.cell, hc]
  simp [hj']
 ·rw [Nat.zero_add]
  exact hrow.free (Array.getElem?_eq_some_iff.1 hc).1
theorem repL_strs {w : World} {μ : Mu} : ∀ {l : List (List UInt8)} {vs : List Value}, RepL w μ (l.map .str) vs → vs = l.map encStr ∧ ∀ x ∈ l, Rep w μ (.str x) (encStr x)
 | [], vs, h => by simp only [List.map_nil, RepL] at h; subst h; exact ⟨rfl, by simp⟩
 | a :: l, vs, ⟨x, xs, e, h1, h2⟩ => by
  obtain ⟨h3, h4⟩ := repL_strs h2
  obtain ⟨rfl, hl⟩ := h1
  subst e
  rw [h3]
  exact ⟨rfl, by simpa using ⟨⟨rfl, hl⟩, h4⟩⟩
theorem repL_ints {w : World} {μ : Mu} : ∀ {l : List Int} {vs : List Value}, RepL w μ (l.map (.int .i64)) vs → vs = l.map (Value.int .i64) ∧ ∀ x ∈ l, Rep w μ (.int .i64 x) (Value.int .i64 x)
 | [], vs, h => by simp only [List.map_nil, RepL] at h; subst h; exact ⟨rfl, by simp⟩
 | a :: l, vs, ⟨x, xs, e, h1, h2⟩ => by
  obtain ⟨h3, h4⟩ := repL_ints h2
  obtain ⟨rfl, hl⟩ := h1
  subst e
  rw [h3]
  exact ⟨rfl, by simpa using ⟨⟨rfl, hl⟩, h4⟩⟩
theorem w45 {H : Heap} {id ver : Nat} {e : TypeId} {l : List (List UInt8)} {K : HV → Heap → Prop} (hg : hget H id = some (ver, .arr 1 e (l.map .str))) (hlen : l.length < 4611686018427387904)
  (hK : K (.tup []) (hset H id ver (.arr 1 e ((sortS l).map .str)))) : ACall Try.prog 10 [.ar id ver 1 0 l.length] H K := by
 refine ⟨enters' Try.func10 rfl rfl, fun μ w vs hs hr _ => ?_⟩
 obtain ⟨x, xs, rfl, hr, hn⟩ := hr
 cases hn
 obtain ⟨lo, hl, hor⟩ := hs.has _ _ _ hg
 rcases hr with ⟨lo', hl', h⟩ | ⟨hd, _⟩
 ·rw [hl] at hl'
  cases hl'
  rcases h with ⟨rfl, rfl, h0, _⟩ | ⟨b, cap, cur, e', rfl, rfl, hcap, _, hrow, hsz⟩
  ·have h0' : l = [] := List.eq_nil_of_length_eq_zero h0
   subst h0'
   refine (AnyM.slices_Sort_string_none Try.sortS none 0 w).mono ?_
   rintro e' w' ⟨rfl, rfl⟩
   have hset_same : SR w' μ (hset H id ver (.arr 1 e ((sortS []).map .str))) := by
    refine ⟨hs.ok, fun j v o ho => ?_, fun j x hx => ?_, hs.inj, hs.held⟩
    ·rw [hget_hset] at ho
     split at ho
     ·rename_i ej; subst ej; cases ho; exact ⟨none, hl, by show (sortS []).map HV.str = []; simp [sortS]⟩
     ·exact hs.has _ _ _ ho
    ·rw [hget_hset]
     split
     ·exact ⟨_, rfl⟩
     ·exact hs.only _ _ hx
   exact ⟨_, .tup [], _, μ, rfl, hK, hset_same, ⟨[], rfl, rfl⟩, Evo.refl _ _⟩
  ·have hor' := hor
   obtain ⟨h0, cur', vs', rest, hrow', hcl, hrl⟩ := hor
   obtain ⟨hvs, hreps⟩ := repL_strs hrl
   subst hvs
   refine (AnyM.slices_Sort_string Try.sortS b 0 cap l w (holds_row hrow' hcl) hrow'.lt hlen).mono ?_
   rintro e2 w' ⟨rfl, n, os, rfl⟩
   obtain ⟨h1, h2⟩ := sorted_world (f := HV.str) (fun _ => rfl) hs hg hl hreps hor' (fun vs hv => (repL_strs hv).1) (List.mergeSort_perm l _) n os
   exact ⟨_, .tup [], _, μ, rfl, hK, h1, ⟨[], rfl, rfl⟩, h2⟩
 ·exact absurd hl (hd.2 lo)
theorem w45n {H : Heap} {K : HV → Heap → Prop} (hK : K (.tup []) H) : ACall Try.prog 10 [.v (.slice none 0 0)] H K := by
 refine ⟨enters' Try.func10 rfl rfl, fun μ w vs hs hr _ => ?_⟩
 obtain ⟨x, xs, rfl, hr, hn⟩ := hr
 cases hn
 cases hr
 refine (AnyM.slices_Sort_string_none Try.sortS none 0 w).mono ?_
 rintro e' w' ⟨rfl, rfl⟩
 exact ⟨_, .tup [], _, μ, rfl, hK, hs, ⟨[], rfl, rfl⟩, Evo.refl _ _⟩
theorem sorts45 : SortsS Try.prog 10 := ⟨fun _ _ _ _ _ _ hg hl hK => w45 hg hl hK, fun _ _ hK => w45n hK⟩
theorem w179 {H : Heap} {id ver : Nat} {e : TypeId} {l : List Int} {K : HV → Heap → Prop} (hg : hget H id = some (ver, .arr 1 e (l.map (.int .i64)))) (hlen : l.length < 4611686018427387904)
  (hK : K (.tup []) (hset H id ver (.arr 1 e ((sortI l).map (.int .i64))))) : ACall Try.prog 116 [.ar id ver 1 0 l.length] H K := by
 refine ⟨enters' Try.func116 rfl rfl, fun μ w vs hs hr _ => ?_⟩
 obtain ⟨x, xs, rfl, hr, hn⟩ := hr
 cases hn
 obtain ⟨lo, hl, hor⟩ := hs.has _ _ _ hg
 rcases hr with ⟨lo', hl', h⟩ | ⟨hd, _⟩
 ·rw [hl] at hl'
  cases hl'
  rcases h with ⟨rfl, rfl, h0, _⟩ | ⟨b, cap, cur, e', rfl, rfl, hcap, _, hrow, hsz⟩
  ·have h0' : l = [] := List.eq_nil_of_length_eq_zero h0
   subst h0'
   refine (AnyM.slices_Sort_int_none Try.sortI none 0 w).mono ?_
   rintro e' w' ⟨rfl, rfl⟩
   refine ⟨_, .tup [], _, μ, rfl, hK, ?_, ⟨[], rfl, rfl⟩, Evo.refl _ _⟩
   have : (sortI []).map (HV.int .i64) = [] := by simp [sortI]
   rw [this]
   exact hs.same hg
  ·have hor' := hor
   obtain ⟨h0, cur', vs', rest, hrow', hcl, hrl⟩ := hor
   obtain ⟨hvs, hreps⟩ := repL_ints hrl
   subst hvs
   refine (AnyM.slices_Sort_int Try.sortI b 0 cap l w (holds_row hrow' hcl) hrow'.lt hlen).mono ?_
   rintro e2 w' ⟨rfl, n, os, rfl⟩
   obtain ⟨h1, h2⟩ := sorted_world (f := HV.int .i64) (fun _ => rfl) hs hg hl hreps hor' (fun vs hv => (repL_ints hv).1) (List.mergeSort_perm l _) n os
   exact ⟨_, .tup [], _, μ, rfl, hK, h1, ⟨[], rfl, rfl⟩, h2⟩
 ·exact absurd hl (hd.2 lo)
theorem sorts179 : SortsI Try.prog 116 := by
 refine ⟨fun _ _ _ _ _ _ hg hl hK => w179 hg hl hK, fun H K hK => ⟨enters' Try.func116 rfl rfl, fun μ w vs hs hr _ => ?_⟩⟩
 obtain ⟨x, xs, rfl, hr, hn⟩ := hr
 cases hn
 cases hr
 refine (AnyM.slices_Sort_int_none Try.sortI none 0 w).mono ?_
 rintro e' w' ⟨rfl, rfl⟩
 exact ⟨_, .tup [], _, μ, rfl, hK, hs, ⟨[], rfl, rfl⟩, Evo.refl _ _⟩
end Go.AW
namespace Go.AW
open Go Go.Proofs Go.Sort Go.Lib
end Go.AW
namespace Go.Proofs
open Go
set_option maxHeartbeats 1000000 in
set_option maxRecDepth 100000 in
theorem Try.stringslite_IndexByte (s : ByteArray) (c : Int) (w : World) :
  Calls Try.prog 98 #[.string s, .int .u8 c] w fun e w' => e = .returned (.int .i64 (Lib.indexByte s.data.toList c.toNat.toUInt8)) ∧ w' = w := by
 go_enter Try.func98, Try.ntmps98
 go_wp2
 rw [run_callFunc_extern Try.func106 (by kernel_rfl) (by kernel_rfl) (by kernel_rfl) (e := Extern.BytealgIndexByte.indexByte) (by kernel_rfl), Lib.run_indexByteString]
 simp only [Result.andThen]
 rw [Oper.upon_value]
 go_wp2
 go_ret
 exact ⟨rfl, rfl⟩
set_option maxHeartbeats 1000000 in
theorem Try.strings_IndexByte (s : ByteArray) (c : Int) (w : World) :
  Calls Try.prog 82 #[.string s, .int .u8 c] w fun e w' => e = .returned (.int .i64 (Lib.indexByte s.data.toList c.toNat.toUInt8)) ∧ w' = w := by
 go_enter Try.func82, Try.ntmps82
 go_wp2_with (go_at_call 98; refine (Try.stringslite_IndexByte _ _ _).mono ?_; rintro e w' ⟨rfl, rfl⟩)
 go_ret
 exact ⟨rfl, rfl⟩
end Go.Proofs
namespace Go.AW
open Go Go.Proofs
theorem idx_wf (l : List UInt8) (c : UInt8) (hl : l.length ≤ maxLen) : (Lit.int .i64 (Lib.indexByte l c)).wf = true := by
 have h : ∀ l : List UInt8, -1 ≤ Lib.indexByte l c ∧ Lib.indexByte l c ≤ l.length := by
  intro l
  induction l with
  | nil => simp [Lib.indexByte]
  | cons a l ih =>
   simp only [Lib.indexByte, List.length_cons]
   split
   ·omega
   ·split
    ·omega
    ·omega
 have := h l
 simp only [maxLen] at hl
 simp only [Lit.wf, IntKind.min, IntKind.max, IntKind.signed, IntKind.bits, Bool.and_eq_true, decide_eq_true_eq]
 simp
 omega
theorem w51 (l : List UInt8) (c : Int) : Pure Try.prog 82 [.str l, .int .u8 c] (· = .int .i64 (Lib.indexByte l c.toNat.toUInt8)) := by
 refine ⟨enters' Try.func82 rfl rfl, fun μ w vs hs hr _ => ?_⟩
 obtain ⟨x, xs, rfl, ⟨rfl, hl⟩, y, ys, rfl, ⟨rfl, _⟩, hn⟩ := hr
 cases hn
 refine (Try.strings_IndexByte ⟨l.toArray⟩ c w).mono ?_
 rintro e w' ⟨rfl, rfl⟩
 exact ⟨_, _, [], μ, rfl, ⟨rfl, trivial, rfl⟩, hs, ⟨by simp, idx_wf l _ hl⟩, Evo.refl _ _⟩
end Go.AW
namespace Go.Proofs
open Go
end Go.Proofs
namespace Go.AW
open Go Go.Proofs Go.Sort Go.Lib
set_option linter.unusedVariables false
theorem w_strings_IndexByte {l : List UInt8} {c r : Int} (h : m_strings_IndexByte l c = some r) : Pure Try.prog 82 [HV.str l, HV.int .u8 c] (· = HV.int .i64 r) := by
 cases h
 exact w51 l c
end Go.AW
namespace Go.AW
open Go
theorem LeL.ones : ∀ {aa bs : List HV} (_ : LeL aa bs), ones aa → ones bs
 | _, _, .nil, h => h
 | _, _, .cons h h', h0 => fun c hc => by
  rcases List.mem_cons.1 hc with rfl | hc
  ·have := h0 _ (List.mem_cons_self ..)
   cases h with
   | refl => exact this
   | nil => rfl
   | empty => rfl
  ·exact LeL.ones h' (fun d hd => h0 d (List.mem_cons_of_mem _ hd)) c hc
section
variable {P : Program} {ro : Option Nat} {N : Nat} {all : Array Oper} {s : AS} {rest : List Oper} {o : Oper} {K : AS → Prop} {fid : Nat} {sl : List (Nat × HV)} {H : Heap}
theorem AOps.to {is : List Nat} (h : s.to (AOps P ro N all is K)) : AOps P ro N all is K s := fun w0 μ0 μ a w Q hs hE hK => by
 obtain ⟨μ1, t, ht, hs1, E1⟩ := h ro N w0.heap.size μ a w hs
 exact ht w0 μ0 μ1 a w Q hs1 (hE.trans E1) hK
end
end Go.AW
namespace Go.AW
open Go
section
variable {P : Program} {s : AS}
end
end Go.AW
namespace Go.AW
open Go
section
variable {P : Program} {ro : Option Nat} {N : Nat} {s : AS} {ops : Array Oper} {K : AS → Prop} {F : List Nat → AS → Prop} {L : List Nat}
theorem AOpI.mono {i : Nat} {G G' : AS → Prop} (h : AOpI P ro N ops i G s) (hg : ∀ s', G s' → G' s') : AOpI P ro N ops i G' s := fun w0 μ0 μ a w next Q hs hE hK =>
 h w0 μ0 μ a w next Q hs hE fun μ2 s2 a2 w2 hk hs2 hE2 => hK μ2 s2 a2 w2 (hg s2 hk) hs2 hE2
theorem l_inv (hF : F = AnyL P ro N ops K) (hda : daOk ops = true) (p : Nat) (hp : p ≤ ops.size) (hw : ((List.range ops.size).all fun i => decide (i < p) || (List.range p).all fun k => (da ops i).contains k) = true)
  (Inv : List Nat → AS → Prop) (hstep : ∀ L s i, Inv L s → i < p → i ∉ L → (∀ k ∈ da ops i, k ∈ L) → AOpI P ro N ops i (Inv (i :: L)) s)
  (hend : ∀ L s, Inv L s → (∀ k, k < p ↔ k ∈ L) → F L s) : ∀ (d : Nat) (L : List Nat) (s : AS), Inv L s → (∀ k ∈ L, k < p) → L.Nodup → L.length + d = p → F L s
 | 0, L, s, hI, hL, hn, hd => by
  refine hend L s hI fun k => ⟨fun hk => Classical.byContradiction fun hkn => ?_, hL k⟩
  have hsub : (k :: L) ⊆ List.range p := fun x hx => by
   rcases List.mem_cons.1 hx with rfl | hx
   ·exact List.mem_range.2 hk
   ·exact List.mem_range.2 (hL x hx)
  have := (List.nodup_cons.2 ⟨hkn, hn⟩).length_le_of_subset hsub
  simp only [List.length_cons, List.length_range] at this
  omega
 | d + 1, L, s, hI, hL, hn, hd => by
  have hex : ∃ k, k < p ∧ k ∉ L := Classical.byContradiction fun hno => by
   have hsub : List.range p ⊆ L := fun x hx => Classical.byContradiction fun hx' => hno ⟨x, List.mem_range.1 hx, hx'⟩
   have := (List.nodup_range (n := p)).length_le_of_subset hsub
   simp only [List.length_range] at this
   omega
  obtain ⟨k0, hk0, hkL⟩ := hex
  have hlt : ∀ i, i ∈ readyL ops L → i < p ∧ i ∉ L ∧ ∀ k ∈ da ops i, k ∈ L := fun i hi => by
   simp only [readyL, List.mem_filter, List.mem_range, Bool.and_eq_true, Bool.not_eq_true', List.all_eq_true] at hi
   obtain ⟨h1, h2, h3⟩ := hi
   have h2' : i ∉ L := fun h => by rw [List.contains_iff_mem.2 h] at h2; cases h2
   refine ⟨Classical.byContradiction fun hip => ?_, h2', fun k hk => List.contains_iff_mem.1 (h3 k hk)⟩
   have := List.all_eq_true.1 hw i (List.mem_range.2 h1)
   rw [Bool.or_eq_true, decide_eq_true_eq] at this
   rcases this with h | h
   ·exact hip h
   ·have := List.all_eq_true.1 h k0 (List.mem_range.2 hk0)
    exact hkL (List.contains_iff_mem.1 (h3 k0 (List.contains_iff_mem.1 this)))
  -- some operation is ready
  have hready : (readyL ops L).isEmpty = false := by
   have hdak := daOk_spec hda
   -- the least that is not done
   have hmin : ∃ m, m < p ∧ m ∉ L ∧ ∀ k, k < m → k ∈ L := by
    have : ∀ n, (∃ m, m < n ∧ m < p ∧ m ∉ L) → ∃ m, m < p ∧ m ∉ L ∧ ∀ k, k < m → k ∈ L := by
     intro n
     induction n with
     | zero => rintro ⟨m, h, _⟩; omega
     | succ n ih =>
      rintro ⟨m, h1, h2, h3⟩
      by_cases hc : ∃ m, m < n ∧ m < p ∧ m ∉ L
      ·exact ih hc
      ·refine ⟨m, h2, h3, fun k hk => Classical.byContradiction fun hkn => hc ⟨k, by omega, by omega, hkn⟩⟩
    exact this p ⟨k0, hk0, hk0, hkL⟩
   obtain ⟨m, hm, hmL, hmin⟩ := hmin
   have : m ∈ readyL ops L := by
    simp only [readyL, List.mem_filter, List.mem_range, Bool.and_eq_true, Bool.not_eq_true', List.all_eq_true]
    refine ⟨by omega, ?_, fun k hk => List.contains_iff_mem.2 (hmin k (hdak m (by omega) k hk))⟩
    cases h : L.contains m with
    | false => rfl
    | true => exact absurd (List.contains_iff_mem.1 h) hmL
   cases hl : readyL ops L with
   | nil => rw [hl] at this; cases this
   | cons a l => rfl
  refine l_step hF hda (readyL ops L) rfl hready ?_
  have hall : ∀ l : List Nat, (∀ i ∈ l, i ∈ readyL ops L) → allR l fun i => AOpI P ro N ops i (F (i :: L)) s := by
   intro l
   induction l with
   | nil => intro _; exact trivial
   | cons i l ih =>
    intro hl
    obtain ⟨h1, h2, h3⟩ := hlt i (hl i (List.mem_cons_self ..))
    refine ⟨(hstep L s i hI h1 h2 h3).mono fun s' h' => ?_, ih fun j hj => hl j (List.mem_cons_of_mem _ hj)⟩
    refine l_inv hF hda p hp hw Inv hstep hend d (i :: L) s' h' (fun k hk => ?_) (List.nodup_cons.2 ⟨h2, hn⟩) (by simp only [List.length_cons]; omega)
    rcases List.mem_cons.1 hk with rfl | hk
    ·exact h1
    ·exact hL k hk
  exact hall _ fun i hi => hi
end
end Go.AW
namespace Go.AW
open Go
def rid (i : Nat) : Nat := (1000000 + i) * 1000 + 30
theorem rid_inj {i j : Nat} (h : rid i = rid j) : i = j := by unfold rid at h; omega
theorem hget_hd {id v : Nat} {o : AObj} {H : Heap} : hget ((id, v, o) :: H) id = some (v, o) := by simp [hget]
theorem hget_tl {id j v : Nat} {o : AObj} {H : Heap} (h : id ≠ j) : hget ((j, v, o) :: H) id = hget H id := by simp [hget, h]
theorem le_shadow {id v v' : Nat} {o o' : AObj} {H : Heap} : ∀ j x, hget ((id, v, o) :: H) j = some x → hget ((id, v, o) :: (id, v', o') :: H) j = some x := fun j x h => by
 by_cases e : j = id
 ·subst e; rw [hget_hd] at h ⊢; exact h
 ·rw [hget_tl e] at h ⊢; rw [hget_tl e]; exact h
abbrev Rws := List (Nat × List Int)
def hdr : Nat → Rws → List HV
 | _, [] => []
 | k, (v, l) :: t => .ar (rid k) v 1 0 l.length :: hdr (k + 1) t
abbrev eHd : EncL HV := ⟨1, fun h => [h], fun l => l, fun l => by induction l with
 | nil => rfl
 | cons a l ih => exact congrArg (a :: ·) ih, fun _ => rfl⟩
section
variable {α : Type} {en : EncL α} {et : TypeId}
abbrev RwsE (α : Type) := List (Nat × List α)
theorem E_nil : en.E [] = [] := by rw [en.hE]; rfl
def rowsOE (en : EncL α) (et : TypeId) : Nat → RwsE α → Heap
 | _, [] => []
 | k, (v, l) :: t => (rid k, v, .arr en.k et (en.E l)) :: rowsOE en et (k + 1) t
def hdrE (en : EncL α) : Nat → RwsE α → List HV
 | _, [] => []
 | k, (v, l) :: t => .ar (rid k) v en.k 0 l.length :: hdrE en (k + 1) t
theorem hdr_lenE : ∀ (k : Nat) (rs : RwsE α), (hdrE en k rs).length = rs.length
 | _, [] => rfl
 | k, (v, l) :: t => by simp [hdrE, hdr_lenE (k + 1) t]
theorem hdr_appE : ∀ (k : Nat) (rs : RwsE α) (v : Nat) (l : List α), hdrE en k (rs ++ [(v, l)]) = hdrE en k rs ++ [.ar (rid (k + rs.length)) v en.k 0 l.length]
 | _, [], _, _ => rfl
 | k, (v, l) :: t, v', l' => by
  simp only [List.cons_append, hdrE, hdr_appE (k + 1) t v' l', List.length_cons]
  rw [show k + 1 + t.length = k + (t.length + 1) by omega]
theorem hdr_getE : ∀ {rs : RwsE α} (k : Nat) {i v : Nat} {l : List α}, rs[i]? = some (v, l) → (hdrE en k rs)[i]? = some (.ar (rid (k + i)) v en.k 0 l.length)
 | [], _, i, _, _, h => by simp at h
 | (v, l) :: t, k, 0, _, _, h => by
  simp at h
  obtain ⟨rfl, rfl⟩ := h
  simp [hdrE]
 | (v, l) :: t, k, i + 1, _, _, h => by
  simp only [List.getElem?_cons_succ] at h
  have := hdr_getE (k + 1) h
  simp only [hdrE, List.getElem?_cons_succ, this]
  rw [show k + 1 + i = k + (i + 1) by omega]
theorem hget_rowsE : ∀ {rs : RwsE α} (k : Nat) {i v : Nat} {l : List α}, rs[i]? = some (v, l) → hget (rowsOE en et k rs) (rid (k + i)) = some (v, .arr en.k et (en.E l))
 | [], _, i, _, _, h => by simp at h
 | (v, l) :: t, k, 0, _, _, h => by
  simp at h
  obtain ⟨rfl, rfl⟩ := h
  exact hget_hd
 | (v, l) :: t, k, i + 1, _, _, h => by
  simp only [List.getElem?_cons_succ] at h
  have := hget_rowsE (k + 1) h
  show hget ((rid k, v, _) :: rowsOE en et (k + 1) t) (rid (k + (i + 1))) = _
  rw [hget_tl (fun e => by have := rid_inj e; omega), ← this, show k + 1 + i = k + (i + 1) by omega]
theorem hget_rows_noE : ∀ (rs : RwsE α) (k : Nat) {id : Nat}, (∀ i, i < rs.length → id ≠ rid (k + i)) → hget (rowsOE en et k rs) id = none
 | [], _, _, _ => rfl
 | (v, l) :: t, k, id, h => by
  show hget ((rid k, v, _) :: rowsOE en et (k + 1) t) id = none
  rw [hget_tl (show id ≠ rid k from h 0 (by simp))]
  exact hget_rows_noE t (k + 1) fun i hi => by
   have := h (i + 1) (by simp; omega)
   rwa [show k + (i + 1) = k + 1 + i by omega] at this
theorem leH_rowsE {H : Heap} : ∀ (rs : RwsE α) (k : Nat), (∀ i v l, rs[i]? = some (v, l) → hget H (rid (k + i)) = some (v, .arr en.k et (en.E l))) → leH H (rowsOE en et k rs)
 | [], _, _ => trivial
 | (v, l) :: t, k, h => ⟨h 0 v l rfl, leH_rowsE t (k + 1) fun i v' l' hi => by
  have := h (i + 1) v' l' (by simpa using hi)
  rwa [show k + (i + 1) = k + 1 + i by omega] at this⟩
theorem rows_leE {rs : RwsE α} {v : Nat} {l : List α} {H : Heap} (hH : ∀ i, hget H (rid i) = none) : ∀ id x, hget (rowsOE en et 0 (rs ++ [(v, l)])) id = some x → hget ((rid rs.length, v, .arr en.k et (en.E l)) :: (H ++ rowsOE en et 0 rs)) id = some x := by
 refine leH_get (leH_rowsE _ 0 fun i v' l' hi => ?_)
 have happ : ∀ (A B : Heap) (id : Nat), hget A id = none → hget (A ++ B) id = hget B id := by
  intro A B id
  induction A with
  | nil => intro _; rfl
  | cons a A ih =>
   obtain ⟨j, u, o⟩ := a
   intro h
   by_cases e : id = j
   ·subst e; rw [hget_hd] at h; cases h
   ·rw [hget_tl e] at h
    rw [List.cons_append, hget_tl e]
    exact ih h
 rw [Nat.zero_add]
 by_cases hlt : i < rs.length
 ·rw [List.getElem?_append_left hlt] at hi
  rw [hget_tl (fun e => by have := rid_inj e; omega), happ _ _ _ (hH i)]
  have := hget_rowsE (en := en) (et := et) 0 hi
  rwa [Nat.zero_add] at this
 ·have hi2 : i = rs.length := by
   have := (List.getElem?_eq_some_iff.1 hi).1
   simp at this
   omega
  subst hi2
  simp at hi
  obtain ⟨rfl, rfl⟩ := hi
  exact hget_hd
theorem hdr_setE : ∀ (rs : RwsE α) (k i v : Nat) (l : List α), hdrE en k (rs.set i (v, l)) = (hdrE en k rs).set i (.ar (rid (k + i)) v en.k 0 l.length)
 | [], _, _, _, _ => rfl
 | (u, m) :: t, k, 0, v, l => rfl
 | (u, m) :: t, k, i + 1, v, l => by
  simp only [List.set_cons_succ, hdrE, hdr_setE t (k + 1) i v l]
  rw [show k + 1 + i = k + (i + 1) by omega]
theorem rows_putE {rs : RwsE α} {i v v' : Nat} {l l' : List α} (h : rs[i]? = some (v, l)) : ∀ id x, hget (rowsOE en et 0 (rs.set i (v', l'))) id = some x → hget ((rid i, v', .arr en.k et (en.E l')) :: rowsOE en et 0 rs) id = some x := by
 refine leH_get (leH_rowsE _ 0 fun j w m hm => ?_)
 rw [Nat.zero_add]
 by_cases e : i = j
 ·subst e
  have hi := (List.getElem?_eq_some_iff.1 h).1
  rw [List.getElem?_set_self hi] at hm
  cases hm
  exact hget_hd
 ·rw [List.getElem?_set_ne e] at hm
  rw [hget_tl (fun x => e (rid_inj x).symm)]
  have := hget_rowsE (en := en) (et := et) 0 hm
  rwa [Nat.zero_add] at this
theorem to_rowsE {s : AS} {G : AS → Prop} (oid ov : Nat) (e' : TypeId) (H : Heap) (n : Nat) (hoid : ∀ i, oid ≠ rid i) (hH : ∀ i, hget H (rid i) = none) (ho : hget H oid = none) :
  ∀ (m : Nat) (rs : RwsE α), rs.length + m = n → (∀ (i v : Nat) (l : List α), rs[i]? = some (v, l) → l = []) → (∀ id x, hget ((oid, ov, .arr 1 e' (hdrE en 0 rs ++ List.replicate m (.v (.slice none 0 0)))) :: (H ++ rowsOE en et 0 rs)) id = some x → hget s.heap id = some x) →
   (∀ rs : RwsE α, rs.length = n → (∀ (i v : Nat) (l : List α), rs[i]? = some (v, l) → l = []) → G ⟨s.slots, (oid, ov, .arr 1 e' (hdrE en 0 rs)) :: (H ++ rowsOE en et 0 rs)⟩) → s.to G
 | 0, rs, hn, hl, hs, h => by
  refine to_le (s' := ⟨s.slots, (oid, ov, .arr 1 e' (hdrE en 0 rs)) :: (H ++ rowsOE en et 0 rs)⟩) ⟨fun _ _ h => h, fun id x hx => hs id x ?_⟩ (h rs (by omega) hl)
  simpa using hx
 | m + 1, rs, hn, hl, hs, h => by
  have hc : (hdrE en 0 rs ++ List.replicate (m + 1) (HV.v (.slice none 0 0)))[rs.length]? = some (.v (.slice none 0 0)) := by
   rw [List.getElem?_append_right (by rw [hdr_lenE]; omega), hdr_lenE, Nat.sub_self]
   rfl
  refine to_bind (to_ownC (rid rs.length) oid ov 1 rs.length en.k et e' (hs _ _ hget_hd) hc (hoid _) fun ver => ?_)
  have happ : ∀ (A B : Heap) (id : Nat), hget A id = none → hget (A ++ B) id = hget B id := by
   intro A B id
   induction A with
   | nil => intro _; rfl
   | cons a A ih =>
    obtain ⟨j, u, o⟩ := a
    intro h
    by_cases e : id = j
    ·subst e; rw [hget_hd] at h; cases h
    ·rw [hget_tl e] at h
     rw [List.cons_append, hget_tl e]
     exact ih h
  refine to_bind (to_le (s' := ⟨s.slots, (oid, ov, .arr 1 e' (hdrE en 0 (rs ++ [(ver, [])]) ++ List.replicate m (.v (.slice none 0 0)))) :: (H ++ rowsOE en et 0 (rs ++ [(ver, [])]))⟩) ⟨fun _ _ h => h, fun id x hx => ?_⟩ ?_)
  ·have ecell : (hdrE en 0 rs ++ List.replicate (m + 1) (HV.v (.slice none 0 0))).set rs.length (.ar (rid rs.length) ver en.k 0 0) = hdrE en 0 (rs ++ [(ver, [])]) ++ List.replicate m (.v (.slice none 0 0)) := by
    rw [hdr_appE, Nat.zero_add, List.set_append_right _ _ (by rw [hdr_lenE]; omega), hdr_lenE, Nat.sub_self, List.replicate_succ, List.set_cons_zero, List.append_assoc]
    rfl
   by_cases e1 : id = oid
   ·subst e1
    rw [hget_hd] at hx
    rw [hget_tl (hoid _), hget_hd, ecell]
    exact hx
   ·rw [hget_tl e1] at hx
    by_cases e2 : id = rid rs.length
    ·subst e2
     rw [happ _ _ _ (hH _)] at hx
     have := hget_rowsE (en := en) (et := et) (rs := rs ++ [(ver, [])]) 0 (i := rs.length) (v := ver) (l := []) (by simp)
     rw [Nat.zero_add] at this
     rw [this, E_nil] at hx
     rw [hget_hd]
     exact hx
    ·rw [hget_tl e2, hget_tl e1]
     refine hs id x ?_
     rw [hget_tl e1]
     -- not among the new rows
     by_cases e3 : ∃ y, hget H id = some y
     ·obtain ⟨y, hy⟩ := e3
      have hk : ∀ (A B : Heap), hget A id = some y → hget (A ++ B) id = some y := by
       intro A B
       induction A with
       | nil => intro h; cases h
       | cons a A ih =>
        obtain ⟨j, u, o⟩ := a
        intro h
        by_cases e : id = j
        ·subst e; rw [hget_hd] at h; rw [List.cons_append, hget_hd]; exact h
        ·rw [hget_tl e] at h
         rw [List.cons_append, hget_tl e]
         exact ih h
      rw [hk _ _ hy] at hx ⊢
      exact hx
     ·have hno : hget H id = none := by
       cases hh : hget H id with
       | none => rfl
       | some y => exact absurd ⟨y, hh⟩ e3
      rw [happ _ _ _ hno] at hx ⊢
      have := rows_leE (en := en) (et := et) (rs := rs) (v := ver) (l := []) (H := []) (fun _ => rfl) id x hx
      rw [hget_tl e2] at this
      exact this
  ·refine to_rowsE oid ov e' H n hoid hH ho m (rs ++ [(ver, [])]) (by simp; omega) (fun i v l hi => ?_) (fun id x hx => hx) h
   by_cases hlt : i < rs.length
   ·rw [List.getElem?_append_left hlt] at hi
    exact hl i v l hi
   ·have hi2 := (List.getElem?_eq_some_iff.1 hi).1
    simp at hi2
    have : i = rs.length := by omega
    subst this
    simp at hi
    first | exact hi.2 | exact hi.2.symm
structure InvG (b np sp : Nat) (base : List (Nat × HV)) (val : Nat → Nat → HV) (H0 : Heap) (H1 : Nat → Heap) (v' : Nat) (L : List Nat) (s : AS) : Prop where
 base : ∀ p ∈ base, sget s.slots p.1 = some p.2
 val : ∀ k ∈ L, k < np → sget s.slots (b + k) = some (val v' k)
 heap : ∀ id x, hget (if sp ∈ L then H1 v' else H0) id = some x → hget s.heap id = some x
theorem sget_putB {b i : Nat} {hv : HV} {sl : List (Nat × HV)} {t : Nat} (h : t ≠ b + i) : sget ((b + i, hv) :: sl) t = sget sl t := by simp only [sget]; rw [if_neg h]
theorem InvG.put {b np sp : Nat} {base : List (Nat × HV)} {val : Nat → Nat → HV} {H0 : Heap} {H1 : Nat → Heap} {v' : Nat} {L : List Nat} {sl : List (Nat × HV)} {H : Heap} (h : InvG b np sp base val H0 H1 v' L ⟨sl, H⟩) (hb : ∀ p ∈ base, p.1 < b) {i : Nat} (hi : i ≠ sp) {hv : HV} (hval : val v' i = hv) : InvG b np sp base val H0 H1 v' (i :: L) ⟨(b + i, hv) :: sl, H⟩ where
 base := fun p hp => by
  have := hb p hp
  show sget ((b + i, hv) :: sl) p.1 = _
  rw [sget_putB (by omega)]
  exact h.base p hp
 val := fun k hk h12 => by
  show sget ((b + i, hv) :: sl) (b + k) = _
  by_cases e : k = i
  ·subst e
   simp only [sget, if_true, hval]
  ·rw [sget_putB (by omega)]
   rcases List.mem_cons.1 hk with h1 | h1
   ·exact absurd h1 e
   ·exact h.val k h1 h12
 heap := fun id x hx => by
  refine h.heap id x ?_
  have : (sp ∈ i :: L) ↔ sp ∈ L := by
   rw [List.mem_cons]
   exact ⟨fun h => h.elim (fun e => absurd e.symm hi) (fun h => h), .inr⟩
  by_cases h11 : sp ∈ L
  ·rw [if_pos (this.2 h11)] at hx
   rw [if_pos h11]; exact hx
  ·rw [if_neg (fun h => h11 (this.1 h))] at hx
   rw [if_neg h11]; exact hx
theorem InvG.turn {b np sp : Nat} {base : List (Nat × HV)} {val : Nat → Nat → HV} {H0 : Heap} {H1 : Nat → Heap} {v' v2 : Nat} {L : List Nat} {sl : List (Nat × HV)} {H H2 : Heap} (h : InvG b np sp base val H0 H1 v' L ⟨sl, H⟩) (hb : ∀ p ∈ base, p.1 < b) (hsp : sp ∉ L) (hsame : ∀ k, k ≠ sp → val v2 k = val v' k)
  (hH : ∀ id x, hget (H1 v2) id = some x → hget H2 id = some x) : InvG b np sp base val H0 H1 v2 (sp :: L) ⟨(b + sp, val v2 sp) :: sl, H2⟩ where
 base := fun p hp => by
  have := hb p hp
  show sget ((b + sp, _) :: sl) p.1 = _
  rw [sget_putB (by omega)]
  exact h.base p hp
 val := fun k hk h12 => by
  show sget ((b + sp, _) :: sl) (b + k) = _
  by_cases e : k = sp
  ·subst e
   simp only [sget, if_true]
  ·rw [sget_putB (by omega), hsame k e]
   rcases List.mem_cons.1 hk with h1 | h1
   ·exact absurd h1 e
   ·exact h.val k h1 h12
 heap := fun id x hx => by
  rw [if_pos (List.mem_cons_self ..)] at hx
  exact hH id x hx
theorem all_range {p n : Nat} {L : List Nat} (hall : ∀ k, k < p ↔ k ∈ L) : (List.range n).all (fun i => L.contains i == (List.range p).contains i) = true := by
 rw [List.all_eq_true]
 intro i _
 have e : L.contains i = (List.range p).contains i := by
  rw [Bool.eq_iff_iff, List.contains_iff_mem, List.contains_iff_mem, List.mem_range]
  exact (hall i).symm
 rw [e]
 simp
theorem frz_rowsN {n : Nat} {D : Heap} : ∀ {rs : RwsE α} {k : Nat}, (∀ i v l, rs[i]? = some (v, l) → hget D (rid (k + i)) = some (v, .arr en.k et (en.E l))) → (hz : ∀ x, (en.C x).map (frz n D) = en.C x) → (hdrE en k rs).map (frz (n + 1) D) = (rs.map (·.2)).map (slE en)
 | [], _, _, _ => rfl
 | (v, l) :: t, k, h, hz => by
  simp only [hdrE, List.map_cons]
  rw [frz_rowsN (rs := t) (k := k + 1) (fun i v' l' hi => by
   have := h (i + 1) v' l' (by simpa using hi)
   rwa [show k + (i + 1) = k + 1 + i by omega] at this) hz]
  congr 1
  have h0 := h 0 v l rfl
  rw [Nat.add_zero] at h0
  have hm : (en.E l).map (frz n D) = en.E l := by
   rw [en.hE, List.map_flatMap]
   congr 1
   funext x
   exact hz x
  have hlen : (en.E l).length = l.length * en.k := en.len l
  simp only [frz, h0]
  rw [if_pos ⟨trivial, by omega⟩, List.drop_zero, ← hlen, List.take_length, hm]
  rfl
theorem noneH_rows {H : Heap} : ∀ {rs : RwsE α} {k : Nat}, (∀ i, i < rs.length → hget H (rid (k + i)) = none) → noneH H (rowsOE en et k rs)
 | [], _, _ => trivial
 | (v, l) :: t, k, h => ⟨h 0 (by simp), noneH_rows fun i hi => by
  have := h (i + 1) (by simp; omega)
  rwa [show k + (i + 1) = k + 1 + i by omega] at this⟩
end
end Go.AW
namespace Go.AW
open Go Go.MapKept
structure IsKv (P : Program) (kt : TypeId) (h : HV) (v : Value) : Prop where
 rep : ∀ w μ x, Rep w μ h x → x = v
 lit : ∃ l, keyOf P kt v = some l
section
variable {P : Program} {ro : Option Nat} {N : Nat} {s : AS} {w w' : World} {μ : Mu} {H : Heap}
structure KPut (es es' : List (Value × Value)) (kv v : Value) : Prop where
 old : ∀ e ∈ es', e ∈ es ∨ e = (kv, v)
 new : (kv, v) ∈ es'
 keep : ∀ e ∈ es, e.1 ≠ kv → e ∈ es'
end
section
variable {P : Program} {ro : Option Nat} {N : Nat} {o : Oper} {sl : List (Nat × HV)} {H : Heap} {all : Array Oper} {rest : List Oper} {K : AS → Prop}
theorem ret_A {s : AS} {rvs : List ResultVar} {hs : List HV} {q : HV} {e : Exit} {K : HV → Heap → Prop} (he : e = .normal ∨ e = .ret) (hr : resAll P s rvs fun hs' => hs' = hs) (hj : joinR hs = q) (hk : K q s.heap) : retQ P rvs K e s :=
 ⟨he, resAll_mono hr fun hs' e => by subst e; exact ⟨q, s.heap, by rw [hj]; exact Conv.refl _ _, hk⟩⟩
end
end Go.AW
namespace Go.AW
open Go
def letters : List UInt8 := [48, 49, 50, 51, 52, 53, 54, 55, 56, 57, 97, 98, 99, 100, 101, 102]
abbrev WS := List UInt8 × List Int
def ext1 (stp : List Int → UInt8 → List Int) (cs : List UInt8) (x : WS) : List WS := cs.filterMap fun c => if stp x.2 c = [] then none else some (x.1 ++ [c], stp x.2 c)
def lvl (stp : List Int → UInt8 → List Int) (cs : List UInt8) (set : List Int) : Nat → List WS
 | 0 => if set = [] then [] else [([], set)]
 | i + 1 => (lvl stp cs set i).flatMap (ext1 stp cs)
def ent (x : WS) : List UInt8 × HV := (x.1, ints x.2)
section
variable {stp : List Int → UInt8 → List Int} {cs : List UInt8} {set : List Int}
theorem mem_ext1 {x y : WS} : y ∈ ext1 stp cs x ↔ ∃ c ∈ cs, stp x.2 c ≠ [] ∧ y = (x.1 ++ [c], stp x.2 c) := by
 simp only [ext1, List.mem_filterMap]
 constructor
 ·rintro ⟨c, hc, h⟩
  split at h
  ·cases h
  ·rename_i hn; cases h; exact ⟨c, hc, hn, rfl⟩
 ·rintro ⟨c, hc, hn, rfl⟩
  exact ⟨c, hc, by rw [if_neg hn]⟩
theorem ext1_keys (x : WS) (h : cs.Nodup) : ((ext1 stp cs x).map (·.1)).Nodup := by
 induction cs with
 | nil => simp [ext1]
 | cons c cs ih =>
  have hc := List.nodup_cons.1 h
  have ih' := ih hc.2
  simp only [ext1, List.filterMap_cons] at ih' ⊢
  split
  ·exact ih'
  ·rename_i y hy
   split at hy
   ·cases hy
   ·cases hy
    simp only [List.map_cons, List.nodup_cons]
    refine ⟨fun hm => ?_, ih'⟩
    obtain ⟨z, hz, he⟩ := List.mem_map.1 hm
    obtain ⟨d, hd, _, rfl⟩ := mem_ext1.1 hz
    have := List.append_cancel_left he
    cases this
    exact hc.1 hd
theorem flat_keys (h : cs.Nodup) : ∀ {l : List WS}, (l.map (·.1)).Nodup → ((l.flatMap (ext1 stp cs)).map (·.1)).Nodup
 | [], _ => by simp
 | x :: l, hl => by
  simp only [List.map_cons, List.nodup_cons] at hl
  simp only [List.flatMap_cons, List.map_append]
  refine List.nodup_append.2 ⟨ext1_keys x h, flat_keys h hl.2, ?_⟩
  intro a ha b hb e
  subst e
  obtain ⟨y, hy, rfl⟩ := List.mem_map.1 ha
  obtain ⟨c, _, _, rfl⟩ := mem_ext1.1 hy
  obtain ⟨z, hz, he⟩ := List.mem_map.1 hb
  obtain ⟨x', hx', hz'⟩ := List.mem_flatMap.1 hz
  obtain ⟨d, _, _, rfl⟩ := mem_ext1.1 hz'
  have h1 : x'.1 = x.1 := by
   have := congrArg List.dropLast he
   simpa using this
  exact hl.1 (h1 ▸ List.mem_map.2 ⟨x', hx', rfl⟩)
theorem lvl_keys (h : cs.Nodup) : ∀ i, ((lvl stp cs set i).map (·.1)).Nodup
 | 0 => by simp only [lvl]; split <;> simp
 | i + 1 => flat_keys h (lvl_keys h i)
theorem lvl_len : ∀ (i : Nat) (x : WS), x ∈ lvl stp cs set i → x.1.length = i
 | 0, x, h => by
  simp only [lvl] at h
  split at h
  ·cases h
  ·simp at h; subst h; rfl
 | i + 1, x, h => by
  obtain ⟨y, hy, hx⟩ := List.mem_flatMap.1 h
  obtain ⟨c, _, _, rfl⟩ := mem_ext1.1 hx
  have := lvl_len i y hy
  simp [this]
theorem lvl_all {A : List Int → Prop} (h0 : A set) (hs : ∀ a c, A a → c ∈ cs → A (stp a c)) : ∀ (i : Nat) (x : WS), x ∈ lvl stp cs set i → A x.2
 | 0, x, h => by
  simp only [lvl] at h
  split at h
  ·cases h
  ·simp at h; subst h; exact h0
 | i + 1, x, h => by
  obtain ⟨y, hy, hx⟩ := List.mem_flatMap.1 h
  obtain ⟨c, hc, _, rfl⟩ := mem_ext1.1 hx
  exact hs _ _ (lvl_all h0 hs i y hy) hc
theorem lvl_nil {i : Nat} (h : lvl stp cs set i = []) : ∀ {j : Nat}, i ≤ j → lvl stp cs set j = []
 | 0, hj => by
  have : i = 0 := by omega
  subst this; exact h
 | j + 1, hj => by
  rcases Nat.lt_or_ge i (j + 1) with h' | h'
  ·simp only [lvl, lvl_nil h (j := j) (by omega), List.flatMap_nil]
  ·have : i = j + 1 := by omega
   subst this; exact h
theorem perm_flat {l l' : List WS} (h : l.Perm l') : (l.flatMap (ext1 stp cs)).Perm (l'.flatMap (ext1 stp cs)) := h.flatMap_right _
theorem perm_keys {l : List WS} {es : List (List UInt8 × HV)} (h : es.Perm (l.map ent)) (hl : (l.map (·.1)).Nodup) : (es.map (·.1)).Nodup := by
 have h1 := h.map (·.1)
 rw [List.map_map] at h1
 exact h1.nodup_iff.2 (by simpa [Function.comp_def, ent] using hl)
theorem next_pick {vis rest l : List WS} {es : List (List UInt8 × HV)} {k : List UInt8} {v : HV} (hp : (vis ++ rest).Perm l) (he : es.Perm (l.map ent)) (hm : (k, v) ∈ es) (hk : k ∉ vis.map (·.1)) :
  ∃ x l1 l2, rest = l1 ++ x :: l2 ∧ (k, v) = ent x ∧ ((x :: vis) ++ (l1 ++ l2)).Perm l := by
 have h1 : (k, v) ∈ (vis ++ rest).map ent := ((hp.map ent).symm.mem_iff).1 (he.mem_iff.1 hm)
 obtain ⟨x, hx, hxe⟩ := List.mem_map.1 h1
 have hxr : x ∈ rest := by
  rcases List.mem_append.1 hx with h | h
  ·exfalso
   refine hk (List.mem_map.2 ⟨x, h, ?_⟩)
   have := congrArg Prod.fst hxe
   exact this
  ·exact h
 obtain ⟨l1, l2, rfl⟩ := List.append_of_mem hxr
 refine ⟨x, l1, l2, rfl, hxe.symm, List.Perm.trans ?_ hp⟩
 have e1 : (x :: vis) ++ (l1 ++ l2) = x :: ((vis ++ l1) ++ l2) := by simp
 have e2 : vis ++ (l1 ++ x :: l2) = (vis ++ l1) ++ x :: l2 := by simp
 rw [e1, e2]
 exact List.perm_middle.symm
theorem rest_nil {vis rest l : List WS} {es : List (List UInt8 × HV)} (hl : (l.map (·.1)).Nodup) (hp : (vis ++ rest).Perm l) (he : es.Perm (l.map ent)) (hall : ∀ p ∈ es, p.1 ∈ vis.map (·.1)) : rest = [] := by
 cases rest with
 | nil => rfl
 | cons x rest =>
  exfalso
  have hx : ent x ∈ es := he.mem_iff.2 (List.mem_map.2 ⟨x, hp.mem_iff.1 (by simp), rfl⟩)
  have hk := hall _ hx
  have hn : ((vis ++ x :: rest).map (·.1)).Nodup := (hp.map (·.1)).nodup_iff.2 hl
  simp only [List.map_append, List.map_cons] at hn
  exact (List.nodup_append.1 hn).2.2 _ hk _ (List.mem_cons_self ..) rfl
theorem ext1_take (x : WS) {j : Nat} (hj : j < cs.length) : ext1 stp (cs.take (j + 1)) x = ext1 stp (cs.take j) x ++ (if stp x.2 cs[j] = [] then [] else [(x.1 ++ [cs[j]], stp x.2 cs[j])]) := by
 rw [List.take_add_one, List.getElem?_eq_getElem hj]
 simp only [ext1, Option.toList_some, List.filterMap_append]
 congr 1
 simp only [List.filterMap_cons, List.filterMap_nil]
 split <;> simp_all
theorem key_new {vis : List WS} {x : WS} (hcs : cs.Nodup) (hx : x.1 ∉ vis.map (·.1)) {j : Nat} (hj : j < cs.length) {es : List (List UInt8 × HV)} (he : es.Perm ((vis.flatMap (ext1 stp cs) ++ ext1 stp (cs.take j) x).map ent)) :
  alook (x.1 ++ [cs[j]]) es = none := by
 rw [alook_none]
 intro hm
 have h1 := (he.map (·.1)).mem_iff.1 hm
 rw [List.map_map, List.map_append, List.mem_append] at h1
 rcases h1 with h | h
 ·obtain ⟨y, hy, hye⟩ := List.mem_map.1 h
  obtain ⟨z, hz, hzy⟩ := List.mem_flatMap.1 hy
  obtain ⟨d, _, _, rfl⟩ := mem_ext1.1 hzy
  have h2 : z.1 = x.1 := by
   have := congrArg List.dropLast hye
   simpa [ent] using this
  exact hx (h2 ▸ List.mem_map.2 ⟨z, hz, rfl⟩)
 ·obtain ⟨y, hy, hye⟩ := List.mem_map.1 h
  obtain ⟨d, hd, _, rfl⟩ := mem_ext1.1 hy
  have h2 : d = cs[j] := by
   have h3 : x.1 ++ [d] = x.1 ++ [cs[j]] := hye
   have := List.append_cancel_left h3
   simpa using this
  rw [h2] at hd
  obtain ⟨k, hk, hke⟩ := List.mem_take_iff_getElem.1 hd
  have := (List.getElem_inj (h₀ := by omega) (h₁ := hj) hcs).1 hke
  omega
end
def okLvl (stp : List Int → UInt8 → List Int) (cs : List UInt8) (set : List Int) (n : Nat) : Bool := (List.range n).all fun j => decide ((lvl stp cs set (j + 1)).length ≤ 4096)
theorem okLvl_iff {stp : List Int → UInt8 → List Int} {cs : List UInt8} {set : List Int} {n : Nat} : okLvl stp cs set n = true ↔ ∀ j, 1 ≤ j → j ≤ n → (lvl stp cs set j).length ≤ 4096 := by
 simp only [okLvl, List.all_eq_true, List.mem_range, decide_eq_true_eq]
 constructor
 ·intro h j h1 h2
  have := h (j - 1) (by omega)
  rwa [show j - 1 + 1 = j by omega] at this
 ·exact fun h j hj => h (j + 1) (by omega) (by omega)
theorem utf_letters : ∀ c ∈ letters, (Utf8.encode (c.toNat : Int)).data.toList = [c] := by decide
theorem letters_nodup : letters.Nodup := by decide
theorem fact_num {n : Int} (h : fact (.int .i64 n)) : -9223372036854775808 ≤ n ∧ n ≤ 9223372036854775807 := by
 simpa [fact, Lit.wf, IntKind.min, IntKind.max, IntKind.signed, IntKind.bits] using h
theorem dec_lt {a b : Nat} (h : decide ((a : Int) < (b : Int)) = true) : a < b := by simpa using h
theorem AW.cjoin2 {P : Program} {ro : Option Nat} {N : Nat} {s : AS} {Q : Exit → AS → Prop} {c : Operand} {x y z : Code} {t : Bool} {α : Type} (St : α → AS) (I : α → Prop) (hc : s.ev c = some (.bool t))
  (h1 : t = true → AW P ro N x (thenQ (fun s' => ∃ a, I a ∧ s'.le (St a)) Q) s) (h2 : t = false → AW P ro N y (thenQ (fun s' => ∃ a, I a ∧ s'.le (St a)) Q) s)
  (h3 : ∀ a, I a → AW P ro N z Q (St a)) : AW P ro N (.cond c x y) (thenQ (AW P ro N z Q) Q) s := by
 refine (AW.cond hc h1 h2).mono ?_
 rintro e s' h
 cases e with
 | normal => obtain ⟨a, ha, hl⟩ := h; exact AW.weaken (h3 a ha) hl
 | exit id => exact h
 | goto l => exact h
 | ret => exact h
 | panic ch => exact h
 | outgrown => exact h
end Go.AW
namespace Go.AW
open Go
noncomputable def m_law46_awake : Option Bool := some true
set_option linter.unusedVariables false
noncomputable def m_ref07_Digit (p0 : Int) : Option (Int) :=
 lpO (loopW (S := Int) (X := Ou (Unit) (Int)) (fun a1 =>
   if a1 < 16 then
    (idx ([48, 49, 50, 51, 52, 53, 54, 55, 56, 57, 97, 98, 99, 100, 101, 102] : List UInt8) a1).bind fun x5 =>
    if (x5.toNat : Int) = p0 then
     some (Stp.exit (Ou.ret a1))
    else
     some (Stp.next (IntKind.wrap .i64 (a1 + 1)))
   else
    some (Stp.exit (Ou.go ()))) 0) (fun a7 =>
   some (-1)) some
noncomputable def m_ref07_Check (p0 : Int) (p1 : List UInt8) : Option (Int) :=
 jp (fun (a1 : Bool) =>
  if a1 = true then
   some 12
  else
   if 65536 < ((p1).length : Int) then
    some 4
   else
    lpO (loopW (S := Int) (X := Ou (Unit) (Int)) (fun a4 =>
      if a4 < ((p1).length : Int) then
       (idx p1 a4).bind fun x8 =>
       (m_ref07_Digit (x8.toNat : Int)).bind fun x10 =>
       jp (fun (a12 : Bool) =>
        if a12 = true then
         some (Stp.exit (Ou.ret 13))
        else
         some (Stp.next (IntKind.wrap .i64 (a4 + 1))))
        fun k14 =>
        if x10 < 0 then
         k14 true
        else
         k14 (decide (p0 ≤ x10))
      else
       some (Stp.exit (Ou.go ()))) 0) (fun a16 =>
      some 0) some)
  fun k3 =>
  if p0 < 1 then
   k3 true
  else
   k3 (decide (16 < p0))
abbrev TToWord := Int × (List UInt8)
abbrev cToWord (x : TToWord) : List HV := [HV.int .i64 x.1, HV.str x.2]
abbrev eToWord : EncL TToWord := encF 2 cToWord (fun _ => rfl)
abbrev TLettersBlockInputsRows := Int × Int × Int × (List (List (TToWord)))
abbrev cLettersBlockInputsRows (x : TLettersBlockInputsRows) : List HV := [HV.int .i64 x.1, HV.int .i64 x.2.1, HV.int .i64 x.2.2.1, slE (eSl eToWord) x.2.2.2]
noncomputable def m_ref25_Check (p0 : TLettersBlockInputsRows) : Option (Int) :=
 jp (fun (a1 : Bool) =>
   if a1 = true then
    some 12
   else
    jp (fun (a4 : Bool) =>
      if a4 = true then
       some 2
      else
       if ((p0.2.2.2).length : Int) = 0 then
        some 5
       else
        if 64 < ((p0.2.2.2).length : Int) then
         some 4
        else
         lpO (loopW (S := Int) (X := Ou (Unit) (Int)) (fun a7 =>
             if a7 < ((p0.2.2.2).length : Int) then
              (idx p0.2.2.2 a7).bind fun x11 =>
              if ((x11).length : Int) ≠ p0.2.2.1 then
               some (Stp.exit (Ou.ret 11))
              else
               lpO (loopW (S := Int) (X := Ou (Unit) (Int)) (fun a13 =>
                   (idx p0.2.2.2 a7).bind fun x17 =>
                   if a13 < ((x17).length : Int) then
                    (idx p0.2.2.2 a7).bind fun x19 =>
                    (idx x19 a13).bind fun x21 =>
                    jp (fun (a24 : Bool) =>
                      if a24 = true then
                       some (Stp.exit (Ou.ret 25))
                      else
                       jp (fun (a27 : Bool) =>
                         if a27 = true then
                          some (Stp.exit (Ou.ret 13))
                         else
                          some (Stp.next (IntKind.wrap .i64 (a13 + 1))))
                         fun k29 =>
                        if ((x21.2).length : Int) ≠ p0.2.1 then
                         k29 true
                        else
                         (m_ref07_Check p0.1 x21.2).bind fun x30 =>
                         k29 (decide (x30 ≠ 0)))
                      fun k26 =>
                     if x21.1 < 0 then
                      k26 true
                     else
                      k26 (decide (((p0.2.2.2).length : Int) ≤ x21.1))
                   else
                    some (Stp.exit (Ou.go ()))) 0) (fun a34 =>
                   some (Stp.next (IntKind.wrap .i64 (a7 + 1)))) (fun r => some (Stp.exit (Ou.ret r)))
             else
              some (Stp.exit (Ou.go ()))) 0) (fun a36 =>
             some 0) some)
      fun k6 =>
     if p0.2.1 < 1 then
      k6 true
     else
      if 16 < p0.2.1 then
       k6 true
      else
       if p0.2.2.1 < 1 then
        k6 true
       else
        k6 (decide (256 < p0.2.2.1)))
   fun k3 =>
  if p0.1 < 1 then
   k3 true
  else
   k3 (decide (16 < p0.1))
noncomputable def m_ref46_lists (p0 : Int) (p1 : Int) : Option ((List (List (Int)))) :=
 (loopW (S := (List (List (Int))) × Int) (X := (List (List (Int)))) (fun a2 =>
     if a2.2 < p1 then
      (loopW (S := Int × (List (List (Int)))) (X := (List (List (Int)))) (fun a7 =>
          if a7.1 < ((a2.1).length : Int) then
           (loopW (S := Int × (List (List (Int)))) (X := (List (List (Int)))) (fun a11 =>
               if a11.1 < p0 then
                (idx a2.1 a7.1).bind fun x16 =>
                if fits 8 (([] : List Int).length + (x16).length) then
                 if fits 8 ((([] : List Int) ++ x16 : List Int).length + ([a11.1]).length) then
                  if fits 24 ((a11.2 : List (List (Int))).length + ([(([] : List Int) ++ x16) ++ [a11.1]]).length) then
                   some (Stp.next (IntKind.wrap .i64 (a11.1 + 1), a11.2 ++ [(([] : List Int) ++ x16) ++ [a11.1]]))
                  else none
                 else none
                else none
               else
                some (Stp.exit a11.2)) (0, a7.2)).bind fun a24 =>
           some (Stp.next (IntKind.wrap .i64 (a7.1 + 1), a24))
          else
           some (Stp.exit a7.2)) (0, [])).bind fun a26 =>
      some (Stp.next (a26, IntKind.wrap .i64 (a2.2 + 1)))
     else
      some (Stp.exit a2.1)) ([[]], 0)).bind fun a28 =>
 some a28
noncomputable def m_ref25_Encode (p0 : TLettersBlockInputsRows) (p1 : Int) (p2 : List (Int)) : Option ((List UInt8) × Int × Int) :=
 (m_ref25_Check p0).bind fun x1 =>
 if x1 ≠ 0 then
  some (([] : List UInt8), 0, 1)
 else
  jp (fun (a3 : Bool) =>
    if a3 = true then
     some (([] : List UInt8), 0, 25)
    else
     lpO (loopW (S := Int) (X := Ou (Unit) ((List UInt8) × Int × Int)) (fun a6 =>
         if a6 < ((p2).length : Int) then
          jp (fun (a10 : Bool) =>
            if a10 = true then
             some (Stp.exit (Ou.ret (([] : List UInt8), 0, 2)))
            else
             some (Stp.next (IntKind.wrap .i64 (a6 + 1))))
            fun k12 =>
           (idx p2 a6).bind fun x13 =>
           if x13 < 0 then
            k12 true
           else
            (idx p2 a6).bind fun x15 =>
            k12 (decide (p0.2.2.1 ≤ x15))
         else
          some (Stp.exit (Ou.go ()))) 0) (fun a18 =>
         if 65536 < (IntKind.wrap .i64 (((p2).length : Int) * p0.2.1)) then
          some (([] : List UInt8), 0, 4)
         else
          (loopW (S := Int × (List UInt8) × Int) (X := Int × (List UInt8)) (fun a20 =>
              if a20.2.2 < ((p2).length : Int) then
               (idx p0.2.2.2 a20.1).bind fun x240301 =>
               (idx p2 a20.2.2).bind fun x240701 =>
               (idx x240301 x240701).bind fun x240901 =>
               if a20.2.1.length + x240901.2.length ≤ maxLen then
                some (Stp.next (x240901.1, a20.2.1 ++ x240901.2, IntKind.wrap .i64 (a20.2.2 + 1)))
               else none
              else
               some (Stp.exit (a20.1, a20.2.1))) (p1, ([] : List UInt8), 0)).bind fun a26 =>
          some (a26.2, a26.1, 0)) some)
    fun k5 =>
   if p1 < 0 then
    k5 true
   else
    k5 (decide (((p0.2.2.2).length : Int) ≤ p1))
noncomputable def m_ref46_hamming (p0 : List UInt8) (p1 : List UInt8) : Option (Int) :=
 (loopW (S := Int × Int) (X := Int) (fun a1 =>
     if a1.2 < ((p0).length : Int) then
      jp (fun (a5 : Int) =>
        some (Stp.next (a5, IntKind.wrap .i64 (a1.2 + 1))))
        fun k7 =>
       (idx p0 a1.2).bind fun x8 =>
       (idx p1 a1.2).bind fun x10 =>
       if (x8.toNat : Int) ≠ (x10.toNat : Int) then
        k7 (IntKind.wrap .i64 (a1.1 + 1))
       else
        k7 a1.1
     else
      some (Stp.exit a1.1)) (0, 0)).bind fun a12 =>
 some a12
noncomputable def m_ref46_Free (p0 : TLettersBlockInputsRows) (p1 : Int) (p2 : Int) : Option (Int × Int) :=
 (m_ref25_Check p0).bind fun x1 =>
 if x1 ≠ 0 then
  some (0, 1)
 else
  jp (fun (a3 : Bool) =>
    if a3 = true then
     some (0, 25)
    else
     jp (fun (a6 : Bool) =>
       if a6 = true then
        some (0, 2)
       else
        if p0.2.2.1 < 2 then
         some (0, 5)
        else
         lpO (loopW (S := Int × Int) (X := Ou (Unit) (Int × Int)) (fun a9 =>
             if a9.2 < p2 then
              if 256 < (IntKind.wrap .i64 (a9.1 * p0.2.2.1)) then
               some (Stp.exit (Ou.ret (0, 4)))
              else
               some (Stp.next (IntKind.wrap .i64 (a9.1 * p0.2.2.1), IntKind.wrap .i64 (a9.2 + 1)))
             else
              some (Stp.exit (Ou.go ()))) (1, 0)) (fun a13 =>
             (m_ref46_lists p0.2.2.1 p2).bind fun x15 =>
             (loopW (S := Int × (List (List UInt8))) (X := (List (List UInt8))) (fun a18 =>
                 if a18.1 < ((x15).length : Int) then
                  (idx x15 a18.1).bind fun x22 =>
                  (m_ref25_Encode p0 p1 x22).bind fun x24 =>
                  if fits 16 ((a18.2 : List (List UInt8)).length + ([x24.1]).length) then
                   some (Stp.next (IntKind.wrap .i64 (a18.1 + 1), a18.2 ++ [x24.1]))
                  else none
                 else
                  some (Stp.exit a18.2)) (0, [])).bind fun a28 =>
             (loopW (S := Int × Int) (X := Int) (fun a30 =>
                 if a30.2 < ((x15).length : Int) then
                  (loopW (S := Int × Int) (X := Int) (fun a34 =>
                      if a34.2 < a30.2 then
                       jp (fun (a38 : Int) =>
                         some (Stp.next (a38, IntKind.wrap .i64 (a34.2 + 1))))
                         fun k40 =>
                        (idx x15 a30.2).bind fun x41 =>
                        (idx x41 0).bind fun x43 =>
                        (idx x15 a34.2).bind fun x45 =>
                        (idx x45 0).bind fun x47 =>
                        if x43 ≠ x47 then
                         (idx a28 a30.2).bind fun x49 =>
                         (idx a28 a30.2).bind fun x51 =>
                         (idx a28 a34.2).bind fun x53 =>
                         (idx a28 a34.2).bind fun x55 =>
                         (m_ref46_hamming x51 x55).bind fun x57 =>
                         k40 (min a34.1 x57)
                        else
                         k40 a34.1
                      else
                       some (Stp.exit a34.1)) (a30.1, 0)).bind fun a59 =>
                  some (Stp.next (a59, IntKind.wrap .i64 (a30.2 + 1)))
                 else
                  some (Stp.exit a30.1)) (IntKind.wrap .i64 (p2 * p0.2.1), 0)).bind fun a61 =>
             some (a61, 0)) some)
       fun k8 =>
      if p2 < 1 then
       k8 true
      else
       k8 (decide (16 < p2)))
    fun k5 =>
   if p1 < 0 then
    k5 true
   else
    k5 (decide (((p0.2.2.2).length : Int) ≤ p1))
noncomputable def m_encoder_Check (p0 : TLettersBlockInputsRows) : Option (Int) :=
 jp (fun (a1 : Bool) =>
   if a1 = true then
    some 12
   else
    jp (fun (a4 : Bool) =>
      if a4 = true then
       some 2
      else
       if ((p0.2.2.2).length : Int) = 0 then
        some 5
       else
        if 64 < ((p0.2.2.2).length : Int) then
         some 4
        else
         lpO (loopW (S := Int) (X := Ou (Unit) (Int)) (fun a7 =>
             if a7 < ((p0.2.2.2).length : Int) then
              (idx p0.2.2.2 a7).bind fun x11 =>
              if ((x11).length : Int) ≠ p0.2.2.1 then
               some (Stp.exit (Ou.ret 11))
              else
               lpO (loopW (S := Int) (X := Ou (Unit) (Int)) (fun a13 =>
                   if a13 < ((x11).length : Int) then
                    (idx x11 a13).bind fun x17 =>
                    jp (fun (a20 : Bool) =>
                      if a20 = true then
                       some (Stp.exit (Ou.ret 25))
                      else
                       jp (fun (a23 : Bool) =>
                         if a23 = true then
                          some (Stp.exit (Ou.ret 13))
                         else
                          some (Stp.next (IntKind.wrap .i64 (a13 + 1))))
                         fun k25 =>
                        if ((x17.2).length : Int) ≠ p0.2.1 then
                         k25 true
                        else
                         (m_word_Check p0.1 x17.2).bind fun x26 =>
                         k25 (decide (x26 ≠ 0)))
                      fun k22 =>
                     if x17.1 < 0 then
                      k22 true
                     else
                      k22 (decide (((p0.2.2.2).length : Int) ≤ x17.1))
                   else
                    some (Stp.exit (Ou.go ()))) 0) (fun a30 =>
                   some (Stp.next (IntKind.wrap .i64 (a7 + 1)))) (fun r => some (Stp.exit (Ou.ret r)))
             else
              some (Stp.exit (Ou.go ()))) 0) (fun a32 =>
             some 0) some)
      fun k6 =>
     if p0.2.1 < 1 then
      k6 true
     else
      if 16 < p0.2.1 then
       k6 true
      else
       if p0.2.2.1 < 1 then
        k6 true
       else
        k6 (decide (256 < p0.2.2.1)))
   fun k3 =>
  if p0.1 < 1 then
   k3 true
  else
   k3 (decide (16 < p0.1))
noncomputable def m_distance_hamming (p0 : List UInt8) (p1 : List UInt8) : Option (Int) :=
 (loopW (S := Int × Int) (X := Int) (fun a1 =>
     if a1.2 < ((p0).length : Int) then
      jp (fun (a5 : Int) =>
        some (Stp.next (a5, IntKind.wrap .i64 (a1.2 + 1))))
        fun k7 =>
       (idx p0 a1.2).bind fun x8 =>
       (idx p1 a1.2).bind fun x10 =>
       if (x8.toNat : Int) ≠ (x10.toNat : Int) then
        k7 (IntKind.wrap .i64 (a1.1 + 1))
       else
        k7 a1.1
     else
      some (Stp.exit a1.1)) (0, 0)).bind fun a12 =>
 some a12
def folF (rows : List (List TToWord)) : Nat → Int → List UInt8 → List (List UInt8)
 | 0, _, w => [w]
 | n + 1, t, w => (rows.getD t.toNat []).flatMap fun x => folF rows n x.1 (w ++ x.2)
def RowsOk (rows : List (List TToWord)) : Prop := rows.length ≤ 1000 ∧ ∀ r ∈ rows, r.length ≤ 1000 ∧ ∀ x ∈ r, (0 ≤ x.1 ∧ x.1 < (rows.length : Int)) ∧ x.2.length ≤ 100
def folK (rows : List (List TToWord)) (n : Nat) (row : List TToWord) (w : List UInt8) (i : Nat) : List (List UInt8) := (row.take i).flatMap fun x => folF rows n x.1 (w ++ x.2)
theorem folK_succ (rows : List (List TToWord)) (n : Nat) (row : List TToWord) (w : List UInt8) {i : Nat} (h : i < row.length) : folK rows n row w (i + 1) = folK rows n row w i ++ folF rows n row[i].1 (w ++ row[i].2) := by
 unfold folK
 rw [List.take_add_one, List.getElem?_eq_getElem h, Option.toList_some, List.flatMap_append]
 simp
end Go.AW
namespace Go.AW
open Go Go.Proofs
set_option linter.unusedVariables false
abbrev eSt : EncL (List UInt8) := encM HV.str
abbrev eFp (e : TLettersBlockInputsRows) : HV := HV.fptr [HV.int .i64 e.1, HV.int .i64 e.2.1, HV.int .i64 e.2.2.1, slE (eSl eToWord) e.2.2.2] 0
abbrev fcaps (v9 v10 : Nat) (e : TLettersBlockInputsRows) : List HV := [HV.ptr 18009 v9 0, eFp e, HV.ptr 18010 v10 0]
abbrev hF0 (v9 v59 v10 In : Nat) (e : TLettersBlockInputsRows) (hd : List HV) (rs : RwsE (List UInt8)) : Heap := (18009, v9, .arr 1 89 [HV.ar 18059 v59 1 0 In]) :: (18059, v59, .arr 1 22 hd) :: (18010, v10, .arr 1 90 [HV.fn (.func 43) [] (fcaps v9 v10 e)]) :: rowsOE eSt 9 0 rs
abbrev hF (v9 v59 v10 In : Nat) (e : TLettersBlockInputsRows) (rs : RwsE (List UInt8)) : Heap := hF0 v9 v59 v10 In e (hdrE eSt 0 rs) rs
section
variable {v9 v59 v10 In : Nat} {e : TLettersBlockInputsRows}
theorem hF_rid {hd : List HV} {rs : RwsE (List UInt8)} (i : Nat) : hget (hF0 v9 v59 v10 In e hd rs) (rid i) = hget (rowsOE eSt 9 0 rs) (rid i) := by
 rw [hget_tl (by unfold rid; omega), hget_tl (by unfold rid; omega), hget_tl (by unfold rid; omega)]
def valF (v59 In f rv : Nat) (w : List UInt8) (l : List (List UInt8)) (v' : Nat) : Nat → HV
 | 0 | 2 => HV.ar 18059 v59 1 0 In
 | 1 | 3 => HV.int .i64 (f : Int)
 | 4 => HV.ptr 18059 v59 (f * 1)
 | 5 => HV.ar (rid f) rv 1 0 l.length
 | 6 => HV.str w
 | 7 => HV.sl 1 1 [HV.str w]
 | 8 => HV.ar (rid f) v' 1 0 (l ++ [w]).length
 | _ => HV.bool false
set_option maxHeartbeats 8000000 in
set_option maxRecDepth 100000 in
theorem follow_call {f : Nat} (hok : RowsOk e.2.2.2) : ∀ (n : Nat) (t : Int) (w : List UInt8) (rs : RwsE (List UInt8)) (rv : Nat) (l : List (List UInt8)), (0 ≤ t ∧ t < (e.2.2.2.length : Int)) → rs[f]? = some (rv, l) → rs.length = In → w.length + 100 * n ≤ 100000 → l.length + (folF e.2.2.2 n t w).length ≤ 1000000 → n ≤ 1000 →
  ACall Try.prog 43 ([HV.int .i64 t, HV.int .i64 (f : Int), HV.int .i64 (n : Int), HV.str w] ++ fcaps v9 v10 e) (hF v9 v59 v10 In e rs) (fun r H' => r = HV.tup [] ∧ ∃ v', ∀ id x, hget (hF v9 v59 v10 In e (rs.set f (v', l ++ folF e.2.2.2 n t w))) id = some x → hget H' id = some x) := by
 intro n
 induction n with
 | zero =>
  intro t w rs rv l ht hrow hrs hwl hll hn
  have hfl0 : f < rs.length := (List.getElem?_eq_some_iff.1 hrow).1
  refine ACall.of_body Try.func43 rfl rfl (Nat.le_of_ble_eq_true rfl) ?_
  unfold Try.f43
  dsimp only [enumS, Nat.reduceAdd, List.cons_append, List.nil_append]
  refine AW.seq ?_
  refine AW.rgs rfl fun K hK => ?_
  refine mv rfl rfl ?_
  refine bv rfl (v_bin rfl rfl b_eql) ?_
  refine b_nil (hK _ (AW.to (to_le (s' := ⟨[(1, HV.int .i64 (f : Int)), (3, HV.str w), (4, HV.ptr 18009 v9 0), (14, HV.bool (decide ((((0 : Nat) : Int)) = 0)))], hF v9 v59 v10 In e rs⟩) ⟨leS_get ⟨rfl, rfl, rfl, rfl, trivial⟩, fun _ _ h => h⟩ ?_)))
  clear hK K
  refine AW.cond rfl (fun hc => ?_) (fun hc => ?_)
  case refine_2 => exact absurd hc (by decide)
  refine AW.dls follows fun K hK F hFF => ?_
  have hj : 0 ≤ (f : Int) ∧ (f : Int) < (In : Int) := by omega
  have hj2 : 0 ≤ (f : Int) ∧ (f : Int) < ((hdrE eSt 0 rs).length : Int) := by rw [hdr_lenE]; omega
  have hll1 : l.length + 1 ≤ 1000000 := by simpa [folF] using hll
  have hhd : (hdrE eSt 0 rs)[f * 1]? = some (HV.ar (rid f) rv 1 0 l.length) := by
   have := hdr_getE (en := eSt) 0 hrow
   rw [Nat.zero_add] at this
   rw [Nat.mul_one]
   exact this
  have hfin : ∀ v', F (List.range 9) ⟨(15 + 0, HV.ar 18059 v59 1 0 In) :: (15 + 1, HV.int .i64 (f : Int)) :: (15 + 8, HV.ar (rid f) v' 1 0 (l ++ [w]).length) :: [(1, HV.int .i64 (f : Int)), (3, HV.str w), (4, HV.ptr 18009 v9 0)], hF0 v9 v59 v10 In e (hdrE eSt 0 rs) (rs.set f (v', l ++ [w]))⟩ := by
   intro v'
   refine l_step hFF rfl [9] rfl rfl ⟨?_, trivial⟩
   refine l_op rfl rfl rfl (o_val rfl (v_idxA ty89 es89 rfl rfl hj rfl) (b_nil ?_))
   refine l_step hFF rfl [10] rfl rfl ⟨?_, trivial⟩
   refine l_op rfl rfl rfl (o_storeE eHd (l := hdrE eSt 0 rs) (j := (f : Int)) (v := HV.ar (rid f) v' 1 0 (l ++ [w]).length) rfl rfl rfl ty22 rfl rfl rfl hj2 (b_nil ?_))
   refine l_done hFF rfl rfl (hK _ (AW.to (to_le (s' := ⟨[], hF v9 v59 v10 In e (rs.set f (v', l ++ [w]))⟩) ⟨leS_get trivial, ?_⟩ ?_)))
   ·have eh : hdrE eSt 0 (rs.set f (v', l ++ [w])) = (hdrE eSt 0 rs).set f (HV.ar (rid f) v' 1 0 (l ++ [w]).length) := by rw [hdr_setE, Nat.zero_add]; rfl
    unfold hF
    rw [eh]
    refine leH_get ⟨rfl, rfl, rfl, leH_rowsE _ 0 fun i v m hi => ?_⟩
    show hget ((18059, v59, _) :: hF0 v9 v59 v10 In e (hdrE eSt 0 rs) (rs.set f (v', l ++ [w]))) _ = _
    rw [Nat.zero_add, hget_tl (by unfold rid; omega), hF_rid]
    have := hget_rowsE (en := eSt) (et := 9) 0 hi
    rwa [Nat.zero_add] at this
   clear hFF F hK K
   refine AW.ret ?_
   exact ret_A (hs := []) (.inr rfl) (res0 rfl) rfl ⟨rfl, v', fun _ _ h => h⟩
  have hinv := l_inv (F := F) hFF rfl 9 (by decide) rfl (fun L s => ∃ v', InvG 15 9 8 [(1, HV.int .i64 (f : Int)), (3, HV.str w), (4, HV.ptr 18009 v9 0)] (fun v' k => valF v59 In f rv w l v' k) (hF0 v9 v59 v10 In e (hdrE eSt 0 rs) rs) (fun v' => hF0 v9 v59 v10 In e (hdrE eSt 0 rs) (rs.set f (v', l ++ [w]))) v' L s) ?_ ?_ 9 [] ⟨[(1, HV.int .i64 (f : Int)), (3, HV.str w), (4, HV.ptr 18009 v9 0)], hF0 v9 v59 v10 In e (hdrE eSt 0 rs) rs⟩ ⟨0, ⟨?_, (fun k hk => by cases hk), fun id x h => by rw [if_neg (by simp)] at h; exact h⟩⟩ (fun k hk => by cases hk) List.nodup_nil rfl
  ·refine l_go (L' := []) hFF rfl hinv ⟨leS_get ⟨rfl, rfl, rfl, trivial⟩, fun _ _ h => h⟩
  ·rintro L ⟨sl, H⟩ i ⟨v', hIv⟩ hi hiL hdeps
   have hb15 : ∀ p ∈ ([(1, HV.int .i64 (f : Int)), (3, HV.str w), (4, HV.ptr 18009 v9 0)] : List (Nat × HV)), p.1 < 15 := by
    intro p hp
    simp only [List.mem_cons, List.not_mem_nil, or_false] at hp
    rcases hp with rfl | rfl | rfl <;> (dsimp only; omega)
   have h1 : sget sl 1 = some (HV.int .i64 (f : Int)) := hIv.base (1, _) (by simp)
   have h3 : sget sl 3 = some (HV.str w) := hIv.base (3, _) (by simp)
   have h4 : sget sl 4 = some (HV.ptr 18009 v9 0) := hIv.base (4, _) (by simp)
   have g9 : hget H 18009 = some (v9, .arr 1 89 [HV.ar 18059 v59 1 0 In]) := by
    refine hIv.heap _ _ ?_
    split <;> rfl
   have gN : hget H 18059 = some (v59, .arr 1 22 (hdrE eSt 0 rs)) := by
    refine hIv.heap _ _ ?_
    split <;> rfl
   have val := hIv.val
   match i, hi with
   | 0, _ => exact l_op rfl rfl rfl (o_val rfl (v_loadP ty89 h4 g9 (l_lit rfl rfl)) (b_nil ⟨v', hIv.put hb15 (by decide) rfl⟩))
   | 1, _ => exact l_op rfl rfl rfl (o_val rfl (mv_val rfl (show (⟨sl, H⟩ : AS).ev (.tmp 1) = _ from h1)).2 (b_nil ⟨v', hIv.put hb15 (by decide) rfl⟩))
   | 2, _ => exact l_op rfl rfl rfl (o_val rfl (v_loadP ty89 h4 g9 (l_lit rfl rfl)) (b_nil ⟨v', hIv.put hb15 (by decide) rfl⟩))
   | 3, _ => exact l_op rfl rfl rfl (o_val rfl (mv_val rfl (show (⟨sl, H⟩ : AS).ev (.tmp 1) = _ from h1)).2 (b_nil ⟨v', hIv.put hb15 (by decide) rfl⟩))
   | 4, _ =>
    have q := val 2 (hdeps 2 (by decide)) (by decide)
    have q2 := val 3 (hdeps 3 (by decide)) (by decide)
    exact l_op rfl rfl rfl (o_val rfl (v_idxA ty89 es89 q q2 hj gN) (b_nil ⟨v', hIv.put hb15 (by decide) rfl⟩))
   | 5, _ =>
    have q := val 4 (hdeps 4 (by decide)) (by decide)
    exact l_op rfl rfl rfl (o_val rfl (v_loadP ty22 q gN (l_lit rfl hhd)) (b_nil ⟨v', hIv.put hb15 (by decide) rfl⟩))
   | 6, _ => exact l_op rfl rfl rfl (o_val rfl (mv_val rfl (show (⟨sl, H⟩ : AS).ev (.tmp 3) = _ from h3)).2 (b_nil ⟨v', hIv.put hb15 (by decide) rfl⟩))
   | 7, _ =>
    have q := val 6 (hdeps 6 (by decide)) (by decide)
    have q' : (⟨sl, H⟩ : AS).ev (.tmp 21) = some (HV.str w) := q
    exact l_op rfl rfl rfl (o_bsl_z (s := ⟨sl, H⟩) rfl rfl (as_of (cs := [HV.str w]) (qs := [(0, HV.str w)]) ty22 ty9 rfl (by simp only [aparts, List.mapM_cons, List.mapM_nil, q']; rfl) rfl rfl rfl) (b_nil ⟨v', hIv.put hb15 (by decide) rfl⟩))
   | 8, _ =>
    have q := val 5 (hdeps 5 (by decide)) (by decide)
    have q2 := val 7 (hdeps 7 (by decide)) (by decide)
    have hr0 : hget H (rid f) = some (rv, .arr 1 9 (eSt.E l)) := by
     refine hIv.heap _ _ ?_
     rw [if_neg hiL, hF_rid]
     have := hget_rowsE (en := eSt) (et := 9) 0 hrow
     rwa [Nat.zero_add] at this
    refine l_op rfl rfl rfl (o_appE_z (s := ⟨sl, H⟩) eSt (l := l) (m := [w]) rfl rfl ty22 ty22 ty9 q hr0 q2 rfl rfl ⟨by simp; omega, by simp only [maxLen, List.length_singleton]; omega⟩ (fun v2 => b_nil ⟨v2, ?_⟩))
    refine hIv.turn hb15 hiL (fun k hk => ?_) (fun id x hx => ?_)
    ·match k, hk with
     | 0, _ | 1, _ | 2, _ | 3, _ | 4, _ | 5, _ | 6, _ | 7, _ => rfl
     | 8, h => exact absurd rfl h
     | k + 9, _ => rfl
    ·show hget ((rid f, v2, .arr 1 9 (eSt.E (l ++ [w]))) :: H) id = some x
     by_cases ei : id = rid f
     ·subst ei
      rw [hF_rid] at hx
      have := rows_putE (en := eSt) (et := 9) (v' := v2) (l' := l ++ [w]) hrow _ _ hx
      rw [hget_hd] at this ⊢
      exact this
     ·rw [hget_tl ei]
      refine hIv.heap id x ?_
      rw [if_neg hiL]
      by_cases j9 : id = 18009
      ·subst j9; exact hx
      by_cases j59 : id = 18059
      ·subst j59; exact hx
      by_cases j10 : id = 18010
      ·subst j10; exact hx
      rw [hget_tl j9, hget_tl j59, hget_tl j10] at hx ⊢
      have := rows_putE (en := eSt) (et := 9) (v' := v2) (l' := l ++ [w]) hrow _ _ hx
      rwa [hget_tl ei] at this
   | k + 9, h => exact absurd h (by omega)
  ·rintro L ⟨sl, H⟩ ⟨v', hIv⟩ hall
   have hin : ∀ k, k < 9 → k ∈ L := fun k hk => (hall k).1 hk
   refine l_go (L' := List.range 9) hFF (all_range hall) (hfin v') ⟨?_, fun id x h => hIv.heap id x (by rw [if_pos (hin 8 (by decide))]; exact h)⟩
   refine leS_get ⟨hIv.val 0 (hin 0 (by decide)) (by decide), hIv.val 1 (hin 1 (by decide)) (by decide), hIv.val 8 (hin 8 (by decide)) (by decide), ?_⟩
   exact ⟨hIv.base _ (.head _), hIv.base _ (.tail _ (.head _)), hIv.base _ (.tail _ (.tail _ (.head _))), trivial⟩
  ·intro p hp
   simp only [List.mem_cons, List.not_mem_nil, or_false] at hp
   rcases hp with rfl | rfl | rfl <;> rfl
 | succ n ih =>
  intro t w rs rv l ht hrow hrs hwl hll hn
  obtain ⟨hR, hRr⟩ := hok
  have htl : t.toNat < e.2.2.2.length := by omega
  obtain ⟨hrl, hrx⟩ := hRr _ (List.getElem_mem htl)
  have hgd : e.2.2.2.getD t.toNat [] = e.2.2.2[t.toNat] := by rw [List.getD_eq_getElem?_getD, List.getElem?_eq_getElem htl]; rfl
  have hidx : idx e.2.2.2 t = some e.2.2.2[t.toNat] := by
   unfold idx
   rw [if_pos ht.1, List.getElem?_eq_getElem htl]
  have hfol : folF e.2.2.2 (n + 1) t w = folK e.2.2.2 n e.2.2.2[t.toNat] w e.2.2.2[t.toNat].length := by
   unfold folK
   rw [List.take_length, folF, hgd]
  rw [hfol] at hll ⊢
  generalize e.2.2.2[t.toNat] = row at hrl hrx hgd hidx hfol hll ⊢
  refine ACall.of_body Try.func43 rfl rfl (Nat.le_of_ble_eq_true rfl) ?_
  unfold Try.f43
  dsimp only [enumS, Nat.reduceAdd, List.cons_append, List.nil_append]
  refine AW.seq ?_
  refine AW.rgs rfl fun K hK => ?_
  refine mv rfl rfl ?_
  refine bv rfl (v_bin rfl rfl b_eql) ?_
  refine b_nil (hK _ (AW.to (to_le (s' := ⟨[(0, HV.int .i64 t), (1, HV.int .i64 (f : Int)), (2, HV.int .i64 ((n + 1 : Nat) : Int)), (3, HV.str w), (4, HV.ptr 18009 v9 0), (5, eFp e), (6, HV.ptr 18010 v10 0), (14, HV.bool (decide (((n + 1 : Nat) : Int) = 0)))], hF v9 v59 v10 In e rs⟩) ⟨leS_get ⟨rfl, rfl, rfl, rfl, rfl, rfl, rfl, rfl, trivial⟩, fun _ _ h => h⟩ ?_)))
  clear hK K
  refine AW.cond rfl (fun hc => ?_) (fun hc => ?_)
  ·exact absurd (of_decide_eq_true hc) (by omega)
  refine AW.skip ?_
  refine AW.rgs rfl fun K hK => ?_
  refine bv rfl (v_fieldAddrF fo40_3 rfl) ?_
  refine bv rfl (v_loadF ty38 rfl (l_lit rfl rfl)) ?_
  refine mv rfl rfl ?_
  refine bv rfl (v_idxF ty38 es38 rfl rfl (idx_lt hidx)) ?_
  refine bv rfl (v_loadF ty42 rfl (l_cell (eSl eToWord) hidx (o := 0) rfl rfl)) ?_
  refine bv rfl (v_lenF rfl rfl ty42 rfl) ?_
  refine mv rfl rfl ?_
  refine b_nil (hK _ (AW.to (to_le (s' := ⟨[(1, HV.int .i64 (f : Int)), (2, HV.int .i64 ((n + 1 : Nat) : Int)), (3, HV.str w), (6, HV.ptr 18010 v10 0), (29, slE eToWord row), (30, HV.int .i64 (row.length : Int)), (31, HV.int .i64 0)], hF v9 v59 v10 In e rs⟩) ⟨leS_get ⟨rfl, rfl, rfl, rfl, rfl, rfl, rfl, trivial⟩, fun _ _ h => h⟩ ?_)))
  clear hK K
  refine AW.block ?_
  refine AW.loopS (fun p : Nat × Nat => ⟨[(1, HV.int .i64 (f : Int)), (2, HV.int .i64 ((n + 1 : Nat) : Int)), (3, HV.str w), (6, HV.ptr 18010 v10 0), (29, slE eToWord row), (30, HV.int .i64 (row.length : Int)), (31, HV.int .i64 (p.1 : Int))], hF v9 v59 v10 In e (rs.set f (p.2, l ++ folK e.2.2.2 n row w p.1))⟩)
   (fun p => p.1 ≤ row.length) (fun p => row.length - p.1) (0, rv) ⟨fun _ _ h => h, fun id x h => ?_⟩ (Nat.zero_le _) ?_
  ·have hfl0 : f < rs.length := (List.getElem?_eq_some_iff.1 hrow).1
   have e0 : rs.set f (rv, l ++ folK e.2.2.2 n row w 0) = rs := by
    have : (rv, l ++ folK e.2.2.2 n row w 0) = rs[f] := by
     rw [List.getElem?_eq_getElem hfl0] at hrow
     rw [Option.some.inj hrow]
     simp [folK]
    rw [this, List.set_getElem_self]
   rw [e0] at h
   exact h
  rintro ⟨i, v⟩ hi
  dsimp only at hi ⊢
  have hnxt : IntKind.wrap .i64 ((i : Int) + 1) = ((i + 1 : Nat) : Int) := by rw [w64 (by omega) (by omega)]; omega
  refine AW.rgs rfl fun K hK => ?_
  refine bv rfl (v_bin rfl rfl b_lss) ?_
  refine b_nil (hK _ (AW.to (to_le (s' := ⟨[(1, HV.int .i64 (f : Int)), (2, HV.int .i64 ((n + 1 : Nat) : Int)), (3, HV.str w), (6, HV.ptr 18010 v10 0), (29, slE eToWord row), (30, HV.int .i64 (row.length : Int)), (31, HV.int .i64 (i : Int)), (32, HV.bool (decide ((i : Int) < (row.length : Int))))], hF v9 v59 v10 In e (rs.set f (v, l ++ folK e.2.2.2 n row w i))⟩) ⟨leS_get ⟨rfl, rfl, rfl, rfl, rfl, rfl, rfl, rfl, trivial⟩, fun _ _ h => h⟩ ?_)))
  clear hK K
  refine AW.cseq rfl (fun hc => ?_) (fun hc => ?_)
  ·have hc := of_decide_eq_true hc
   have hil : i < row.length := by omega
   obtain ⟨hx1, hx2⟩ := hrx _ (List.getElem_mem hil)
   have hxi : idx row (i : Int) = some row[i] := by rw [idx_nat, List.getElem?_eq_getElem hil]
   have hsucc := folK_succ e.2.2.2 n row w hil
   have hle : (folK e.2.2.2 n row w (i + 1)).length ≤ (folK e.2.2.2 n row w row.length).length := by
    unfold folK
    rw [List.length_flatMap, List.length_flatMap, List.take_length]
    have : row = row.take (i + 1) ++ row.drop (i + 1) := (List.take_append_drop ..).symm
    conv => rhs; rw [this]
    rw [List.map_append, List.sum_append]
    omega
   rw [hsucc, List.length_append] at hle
   generalize hX : row[i] = x at hx1 hx2 hxi hsucc hle
   have hfl0 : f < rs.length := (List.getElem?_eq_some_iff.1 hrow).1
   have hrow2 : (rs.set f (v, l ++ folK e.2.2.2 n row w i))[f]? = some (v, l ++ folK e.2.2.2 n row w i) := List.getElem?_set_self hfl0
   have hcall := ih x.1 (w ++ x.2) (rs.set f (v, l ++ folK e.2.2.2 n row w i)) v (l ++ folK e.2.2.2 n row w i) hx1 hrow2 (by rw [List.length_set]; exact hrs) (by rw [List.length_append]; omega) (by rw [List.length_append]; omega) (by omega)
   rw [List.append_assoc, ← hsucc] at hcall
   refine AW.skip ?_
   refine AW.seq (AW.block ?_)
   refine AW.rgs rfl fun K hK => ?_
   refine bv rfl (v_idxF ty42 es42 rfl rfl (idx_lt hxi)) ?_
   refine bv rfl (v_loadF ty45 rfl (l_agg eToWord hxi rfl rfl)) ?_
   refine b_op rfl (o_alloc (fid := 43) (zs := [HV.int .i64 0, HV.str []]) 43012 rfl rfl ty45 rfl (fun v12 => ?_))
   refine b_op rfl (o_store (cs := cToWord x) (zs := cToWord x) rfl rfl rfl ty45 rfl rfl rfl rfl rfl ?_)
   refine b_nil (hK _ (AW.to (to_le (s' := ⟨[(1, HV.int .i64 (f : Int)), (2, HV.int .i64 ((n + 1 : Nat) : Int)), (3, HV.str w), (6, HV.ptr 18010 v10 0), (12, HV.ptr 43012 v12 0), (29, slE eToWord row), (30, HV.int .i64 (row.length : Int)), (31, HV.int .i64 (i : Int))], (43012, v12, .arr 2 45 (cToWord x)) :: hF v9 v59 v10 In e (rs.set f (v, l ++ folK e.2.2.2 n row w i))⟩) ⟨leS_get ⟨rfl, rfl, rfl, rfl, rfl, rfl, rfl, rfl, trivial⟩, le_shadow⟩ ?_)))
   clear hK K
   have hgF : ∀ y, hget (hF v9 v59 v10 In e (rs.set f (v, l ++ folK e.2.2.2 n row w i))) 43012 = some y → False := fun y hy => by
    rw [hget_tl (by decide), hget_tl (by decide), hget_tl (by decide), hget_rows_noE _ _ fun i _ => by unfold rid; omega] at hy
    cases hy
   have hwn : IntKind.wrap .i64 (((n + 1 : Nat) : Int) - 1) = (n : Int) := by rw [w64 (by omega) (by omega)]; omega
   refine AW.rg rfl fun K hK => ?_
   refine bv rfl (v_loadP ty90 rfl rfl (l_lit rfl rfl)) ?_
   refine bv rfl (v_fieldAddrP fo45_0 rfl rfl) ?_
   refine bv rfl (v_loadP ty3 rfl rfl (l_lit rfl rfl)) ?_
   refine mv rfl rfl ?_
   refine mv rfl rfl ?_
   refine bv rfl (v_bin rfl rfl b_sub) ?_
   rw [hwn]
   refine mv rfl rfl ?_
   refine bv rfl (v_fieldAddrP fo45_1 rfl rfl) ?_
   refine bv rfl (v_loadP ty9 rfl rfl (l_lit rfl rfl)) ?_
   refine bv rfl (v_bin rfl rfl (b_sadd (by simp only [maxLen]; omega))) ?_
   refine bops_le (s' := ⟨[(35, HV.fn (.func 43) [] (fcaps v9 v10 e)), (37, HV.int .i64 x.1), (38, HV.int .i64 (f : Int)), (40, HV.int .i64 (n : Int)), (44, HV.str (w ++ x.2)), (1, HV.int .i64 (f : Int)), (2, HV.int .i64 ((n + 1 : Nat) : Int)), (3, HV.str w), (6, HV.ptr 18010 v10 0), (29, slE eToWord row), (30, HV.int .i64 (row.length : Int)), (31, HV.int .i64 (i : Int))], hF v9 v59 v10 In e (rs.set f (v, l ++ folK e.2.2.2 n row w i))⟩) ⟨leS_get ⟨rfl, rfl, rfl, rfl, rfl, rfl, rfl, rfl, rfl, rfl, rfl, rfl, trivial⟩, fun id y hy => ?_⟩ ?_
   ·by_cases j : id = 43012
    ·subst j; exact (hgF _ hy).elim
    ·rw [hget_tl j]; exact hy
   refine b_op rfl (o_callA rfl rfl rfl rfl (hcall.mono fun r H' he => ?_))
   obtain ⟨rfl, v3, hle3⟩ := he
   rw [List.set_set] at hle3
   refine b_nil (hK _ (AW.to (to_le (s' := ⟨[(1, HV.int .i64 (f : Int)), (2, HV.int .i64 ((n + 1 : Nat) : Int)), (3, HV.str w), (6, HV.ptr 18010 v10 0), (29, slE eToWord row), (30, HV.int .i64 (row.length : Int)), (31, HV.int .i64 (i : Int))], hF v9 v59 v10 In e (rs.set f (v3, l ++ folK e.2.2.2 n row w (i + 1)))⟩) ⟨leS_get ⟨rfl, rfl, rfl, rfl, rfl, rfl, rfl, trivial⟩, hle3⟩ ?_)))
   clear hK K
   refine AW.rg rfl fun K hK => ?_
   refine bv rfl (v_bin rfl rfl b_add) ?_
   refine mv rfl rfl ?_
   refine b_nil (hK _ ?_)
   clear hK K
   exact ⟨(i + 1, v3), by dsimp only; omega, by dsimp only; omega, ⟨leS_get ⟨rfl, rfl, rfl, rfl, rfl, rfl, by rw [← hnxt]; rfl, trivial⟩, fun _ _ h => h⟩⟩
  ·have hc := of_decide_eq_false hc
   have hie : i = row.length := by omega
   subst hie
   refine AW.exit ?_
   exact ret_A (hs := []) (.inl rfl) (res0 rfl) rfl ⟨rfl, v, fun _ _ h => h⟩
end
end Go.AW
namespace Go.AW
open Go
mutual
def HV.ren (ρ : Nat → Nat) : HV → HV
 | .int k n => .int k n
 | .bool b => .bool b
 | .str l => .str l
 | .v x => .v x
 | .agg cs => .agg (renL ρ cs)
 | .tup cs => .tup (renL ρ cs)
 | .sl k n cs => .sl k n (renL ρ cs)
 | .ar id ver k off n => .ar id (ρ ver) k off n
 | .ptr id ver off => .ptr id (ρ ver) off
 | .fptr cs off => .fptr (renL ρ cs) off
 | .fn f fs cs => .fn f (renL ρ fs) (renL ρ cs)
 | .mp id ver => .mp id (ρ ver)
 | .yl id ver => .yl id (ρ ver)
 | .it id ver => .it id (ρ ver)
def renL (ρ : Nat → Nat) : List HV → List HV
 | [] => []
 | c :: cs => c.ren ρ :: renL ρ cs
end
theorem renL_map (ρ : Nat → Nat) : ∀ cs, renL ρ cs = cs.map (HV.ren ρ)
 | [] => by simp [renL]
 | c :: cs => by simp [renL, renL_map ρ cs]
def renS (ρ : Nat → Nat) : List (Nat × HV) → List (Nat × HV)
 | [] => []
 | (t, h) :: l => (t, h.ren ρ) :: renS ρ l
def renE (ρ : Nat → Nat) : List (List UInt8 × HV) → List (List UInt8 × HV)
 | [] => []
 | (t, h) :: l => (t, h.ren ρ) :: renE ρ l
def AObj.ren (ρ : Nat → Nat) : AObj → AObj
 | .arr k e cs => .arr k e (renL ρ cs)
 | .map es => .map (renE ρ es)
 | .iter mid mver seen cur => .iter mid (ρ mver) seen cur
 | .loop st pend f n snap ps assign body => .loop st pend (ρ f) n (renS ρ snap) ps assign body
 | .kmap es => .kmap es
def renH (ρ : Nat → Nat) : Heap → Heap
 | [] => []
 | (i, v, o) :: l => (i, ρ v, o.ren ρ) :: renH ρ l
def AS.ren (ρ : Nat → Nat) (s : AS) : AS := ⟨renS ρ s.slots, renH ρ s.heap⟩
theorem sget_ren (ρ : Nat → Nat) : ∀ (l : List (Nat × HV)) (t : Nat), sget (renS ρ l) t = (sget l t).map (HV.ren ρ)
 | [], t => rfl
 | (i, h) :: l, t => by
  simp only [renS, sget]
  split
  ·rfl
  ·exact sget_ren ρ l t
theorem hget_ren (ρ : Nat → Nat) : ∀ (l : Heap) (t : Nat), hget (renH ρ l) t = (hget l t).map fun x => (ρ x.1, x.2.ren ρ)
 | [], t => rfl
 | (i, v, o) :: l, t => by
  simp only [renH, hget]
  split
  ·rfl
  ·exact hget_ren ρ l t
theorem renS_set (ρ : Nat → Nat) : ∀ (l : List (Nat × HV)) (t : Nat) (h : HV), renS ρ (sset l t h) = sset (renS ρ l) t (h.ren ρ)
 | [], t, h => rfl
 | (i, g) :: l, t, h => by
  simp only [renS, sset]
  split
  ·rfl
  ·simp only [renS, renS_set ρ l t h]
theorem renH_set (ρ : Nat → Nat) : ∀ (l : Heap) (t v : Nat) (o : AObj), renH ρ (hset l t v o) = hset (renH ρ l) t (ρ v) (o.ren ρ)
 | [], t, v, o => rfl
 | (i, w, p) :: l, t, v, o => by
  simp only [renH, hset]
  split
  ·rfl
  ·simp only [renH, renH_set ρ l t v o]
theorem ren_put (ρ : Nat → Nat) (s : AS) (d : Option Tmp) (h : HV) : (s.put d h).ren ρ = (s.ren ρ).put d (h.ren ρ) := by
 cases d with
 | none => rfl
 | some t => simp [AS.put, AS.ren, renS_set]
theorem constHV_ren (ρ : Nat → Nat) (v : Value) : (constHV v).map (HV.ren ρ) = constHV v := by
 cases v with
 | int k n => simp only [constHV]; split <;> rfl
 | string s => simp only [constHV]; split <;> rfl
 | _ => rfl
theorem ev_ren (ρ : Nat → Nat) (s : AS) (x : Operand) : (s.ren ρ).ev x = (s.ev x).map (HV.ren ρ) := by
 cases x with
 | tmp t => exact sget_ren ρ s.slots t
 | const v => exact (constHV_ren ρ v).symm
 | global g => rfl
 | func f => rfl
theorem evL_ren (ρ : Nat → Nat) (s : AS) : ∀ xs : List Operand, xs.mapM (s.ren ρ).ev = (xs.mapM s.ev).map (renL ρ)
 | [] => rfl
 | x :: xs => by
  simp only [List.mapM_cons, Option.pure_def, Option.bind_eq_bind, ev_ren, evL_ren ρ s xs]
  cases s.ev x with
  | none => rfl
  | some h => cases xs.mapM s.ev <;> rfl
theorem cells_ren (ρ : Nat → Nat) (h : HV) : (h.ren ρ).cells? = h.cells?.map (renL ρ) := by
 cases h with
 | v x => simp only [HV.ren, HV.cells?]; split <;> rfl
 | _ => rfl
theorem renL_len (ρ : Nat → Nat) (cs : List HV) : (renL ρ cs).length = cs.length := by simp [renL_map]
theorem renL_get (ρ : Nat → Nat) (cs : List HV) (i : Nat) : (renL ρ cs)[i]? = cs[i]?.map (HV.ren ρ) := by simp [renL_map]
theorem renL_drop (ρ : Nat → Nat) (cs : List HV) (i : Nat) : renL ρ (cs.drop i) = (renL ρ cs).drop i := by simp [renL_map]
theorem renL_take (ρ : Nat → Nat) (cs : List HV) (i : Nat) : renL ρ (cs.take i) = (renL ρ cs).take i := by simp [renL_map]
theorem renL_append (ρ : Nat → Nat) (cs ds : List HV) : renL ρ (cs ++ ds) = renL ρ cs ++ renL ρ ds := by simp [renL_map]
theorem renL_set (ρ : Nat → Nat) (cs : List HV) (i : Nat) (c : HV) : renL ρ (cs.set i c) = (renL ρ cs).set i (c.ren ρ) := by simp [renL_map, List.map_set]
theorem renL_splice (ρ : Nat → Nat) (xs : List HV) (off : Nat) (cs : List HV) : renL ρ (splice xs off cs) = splice (renL ρ xs) off (renL ρ cs) := by
 match cs with
 | [] => simp [splice, renL, renL_append, renL_take, renL_drop]
 | [c] => simp [splice, renL, renL_set]
 | c :: d :: cs => simp [splice, renL, renL_append, renL_take, renL_drop, renL_len]
mutual
def HV.sc (n : Nat) : HV → Bool
 | .agg cs | .tup cs | .sl _ _ cs | .fptr cs _ => scL n cs
 | .ar _ ver _ _ _ | .ptr _ ver _ | .mp _ ver | .yl _ ver | .it _ ver => Nat.blt ver n
 | .fn _ fs cs => scL n fs && scL n cs
 | _ => true
def scL (n : Nat) : List HV → Bool
 | [] => true
 | c :: cs => c.sc n && scL n cs
end
def scS (n : Nat) : List (Nat × HV) → Bool
 | [] => true
 | (_, h) :: l => h.sc n && scS n l
def scE (n : Nat) : List (List UInt8 × HV) → Bool
 | [] => true
 | (_, h) :: l => h.sc n && scE n l
def AObj.sc (n : Nat) : AObj → Bool
 | .arr _ _ cs => scL n cs
 | .map es => scE n es
 | .iter _ mver _ _ => Nat.blt mver n
 | .loop _ _ f _ snap _ _ _ => Nat.blt f n && scS n snap
 | .kmap _ => true
def scH (n : Nat) : Heap → Bool
 | [] => true
 | (i, v, o) :: l => (Nat.blt i n && Nat.blt v n) && o.sc n && scH n l
def AS.sc (n : Nat) (s : AS) : Bool := scS n s.slots && scH n s.heap
def Agree (n : Nat) (ρ ρ' : Nat → Nat) : Prop := ∀ v, v < n → ρ v = ρ' v
theorem Agree.refl (n : Nat) (ρ : Nat → Nat) : Agree n ρ ρ := fun _ _ => rfl
theorem Agree.trans {n m : Nat} {ρ ρ' ρ'' : Nat → Nat} (h : Agree n ρ ρ') (hn : n ≤ m) (h' : Agree m ρ' ρ'') : Agree n ρ ρ'' := fun v hv => (h v hv).trans (h' v (by omega))
def upd (ρ : Nat → Nat) (n v : Nat) : Nat → Nat := fun x => if x = n then v else ρ x
theorem Agree.upd (n v : Nat) (ρ : Nat → Nat) : Agree n ρ (upd ρ n v) := fun x hx => by simp only [AW.upd]; rw [if_neg (by omega)]
theorem upd_at (ρ : Nat → Nat) (n v : Nat) : upd ρ n v n = v := by simp [AW.upd]
section
variable {n m : Nat} {ρ ρ' : Nat → Nat}
theorem blt_lt {a b : Nat} (h : Nat.blt a b = true) : a < b := by simpa [Nat.blt_eq] using h
mutual
theorem HV.ren_agree (ha : Agree n ρ ρ') : ∀ h : HV, h.sc n = true → h.ren ρ = h.ren ρ'
 | .int _ _, _ => rfl
 | .bool _, _ => rfl
 | .str _, _ => rfl
 | .v _, _ => rfl
 | .agg cs, h => congrArg HV.agg (renL_agree ha cs h)
 | .tup cs, h => congrArg HV.tup (renL_agree ha cs h)
 | .sl k m cs, h => congrArg (HV.sl k m) (renL_agree ha cs h)
 | .ar id ver k off m, h => by simp only [HV.ren]; rw [ha ver (blt_lt h)]
 | .ptr id ver off, h => by simp only [HV.ren]; rw [ha ver (blt_lt h)]
 | .fptr cs off, h => congrArg (fun x => HV.fptr x off) (renL_agree ha cs h)
 | .fn f fs cs, h => by
  simp only [HV.sc, Bool.and_eq_true] at h
  simp only [HV.ren]
  rw [renL_agree ha fs h.1, renL_agree ha cs h.2]
 | .mp id ver, h => by simp only [HV.ren]; rw [ha ver (blt_lt h)]
 | .yl id ver, h => by simp only [HV.ren]; rw [ha ver (blt_lt h)]
 | .it id ver, h => by simp only [HV.ren]; rw [ha ver (blt_lt h)]
theorem renL_agree (ha : Agree n ρ ρ') : ∀ cs : List HV, scL n cs = true → renL ρ cs = renL ρ' cs
 | [], _ => rfl
 | c :: cs, h => by
  simp only [scL, Bool.and_eq_true] at h
  simp only [renL]
  rw [HV.ren_agree ha c h.1, renL_agree ha cs h.2]
end
theorem renS_agree (ha : Agree n ρ ρ') : ∀ l, scS n l = true → renS ρ l = renS ρ' l
 | [], _ => rfl
 | (_, c) :: cs, h => by
  simp only [scS, Bool.and_eq_true] at h
  simp only [renS]
  rw [HV.ren_agree ha c h.1, renS_agree ha cs h.2]
theorem renE_agree (ha : Agree n ρ ρ') : ∀ l, scE n l = true → renE ρ l = renE ρ' l
 | [], _ => rfl
 | (_, c) :: cs, h => by
  simp only [scE, Bool.and_eq_true] at h
  simp only [renE]
  rw [HV.ren_agree ha c h.1, renE_agree ha cs h.2]
theorem AObj.ren_agree (ha : Agree n ρ ρ') : ∀ o : AObj, o.sc n = true → o.ren ρ = o.ren ρ'
 | .arr k e cs, h => congrArg (AObj.arr k e) (renL_agree ha cs h)
 | .map es, h => congrArg AObj.map (renE_agree ha es h)
 | .iter mid mver seen cur, h => by simp only [AObj.ren]; rw [ha mver (blt_lt h)]
 | .loop st pend f n' snap ps a b, h => by
  simp only [AObj.sc, Bool.and_eq_true] at h
  simp only [AObj.ren]; rw [ha f (blt_lt h.1), renS_agree ha snap h.2]
 | .kmap es, _ => rfl
theorem renH_agree (ha : Agree n ρ ρ') : ∀ l, scH n l = true → renH ρ l = renH ρ' l
 | [], _ => rfl
 | (i, v, o) :: cs, h => by
  simp only [scH, Bool.and_eq_true] at h
  simp only [renH]
  rw [ha v (blt_lt h.1.1.2), AObj.ren_agree ha o h.1.2, renH_agree ha cs h.2]
theorem AS.ren_agree (ha : Agree n ρ ρ') (s : AS) (h : s.sc n = true) : s.ren ρ = s.ren ρ' := by
 simp only [AS.sc, Bool.and_eq_true] at h
 simp only [AS.ren]
 rw [renS_agree ha _ h.1, renH_agree ha _ h.2]
theorem blt_mono {a : Nat} (hm : n ≤ m) (h : Nat.blt a n = true) : Nat.blt a m = true := by
 have := blt_lt h
 simp [Nat.blt_eq]; omega
mutual
theorem HV.sc_mono (hm : n ≤ m) : ∀ h : HV, h.sc n = true → h.sc m = true
 | .int _ _, _ => rfl
 | .bool _, _ => rfl
 | .str _, _ => rfl
 | .v _, _ => rfl
 | .agg cs, h => scL_mono hm cs h
 | .tup cs, h => scL_mono hm cs h
 | .sl k _ cs, h => scL_mono hm cs h
 | .ar id ver k off _, h => blt_mono hm h
 | .ptr id ver off, h => blt_mono hm h
 | .fptr cs off, h => scL_mono hm cs h
 | .fn f fs cs, h => by
  simp only [HV.sc, Bool.and_eq_true] at h ⊢
  exact ⟨scL_mono hm fs h.1, scL_mono hm cs h.2⟩
 | .mp id ver, h => blt_mono hm h
 | .yl id ver, h => blt_mono hm h
 | .it id ver, h => blt_mono hm h
theorem scL_mono (hm : n ≤ m) : ∀ cs : List HV, scL n cs = true → scL m cs = true
 | [], _ => rfl
 | c :: cs, h => by
  simp only [scL, Bool.and_eq_true] at h ⊢
  exact ⟨HV.sc_mono hm c h.1, scL_mono hm cs h.2⟩
end
theorem scS_mono (hm : n ≤ m) : ∀ l, scS n l = true → scS m l = true
 | [], _ => rfl
 | (_, c) :: cs, h => by
  simp only [scS, Bool.and_eq_true] at h ⊢
  exact ⟨HV.sc_mono hm c h.1, scS_mono hm cs h.2⟩
theorem scE_mono (hm : n ≤ m) : ∀ l, scE n l = true → scE m l = true
 | [], _ => rfl
 | (_, c) :: cs, h => by
  simp only [scE, Bool.and_eq_true] at h ⊢
  exact ⟨HV.sc_mono hm c h.1, scE_mono hm cs h.2⟩
theorem AObj.sc_mono (hm : n ≤ m) : ∀ o : AObj, o.sc n = true → o.sc m = true
 | .arr k e cs, h => scL_mono hm cs h
 | .map es, h => scE_mono hm es h
 | .iter mid mver seen cur, h => blt_mono hm h
 | .loop st pend f n' snap ps a b, h => by
  simp only [AObj.sc, Bool.and_eq_true] at h ⊢
  exact ⟨blt_mono hm h.1, scS_mono hm snap h.2⟩
 | .kmap es, _ => rfl
theorem scH_mono (hm : n ≤ m) : ∀ l, scH n l = true → scH m l = true
 | [], _ => rfl
 | (i, v, o) :: cs, h => by
  simp only [scH, Bool.and_eq_true] at h ⊢
  exact ⟨⟨⟨blt_mono hm h.1.1.1, blt_mono hm h.1.1.2⟩, AObj.sc_mono hm o h.1.2⟩, scH_mono hm cs h.2⟩
theorem AS.sc_mono (hm : n ≤ m) (s : AS) (h : s.sc n = true) : s.sc m = true := by
 simp only [AS.sc, Bool.and_eq_true] at h ⊢
 exact ⟨scS_mono hm _ h.1, scH_mono hm _ h.2⟩
theorem scS_set : ∀ (l : List (Nat × HV)) (t : Nat) (h : HV), scS n l = true → h.sc n = true → scS n (sset l t h) = true
 | [], t, h, _, hh => by simp [sset, scS, hh]
 | (i, g) :: l, t, h, hl, hh => by
  simp only [scS, Bool.and_eq_true] at hl
  simp only [sset]
  split
  ·simp [scS, hh, hl.2]
  ·simp only [scS, Bool.and_eq_true]
   exact ⟨hl.1, scS_set l t h hl.2 hh⟩
theorem scH_set : ∀ (l : Heap) (t v : Nat) (o : AObj), scH n l = true → t < n → v < n → o.sc n = true → scH n (hset l t v o) = true
 | [], t, v, o, _, ht, hv, hh => by simp [hset, scH, hh, Nat.blt_eq, hv, ht]
 | (i, w, g) :: l, t, v, o, hl, ht, hv, hh => by
  simp only [scH, Bool.and_eq_true] at hl
  simp only [hset]
  split
  ·rename_i e
   subst e
   simp [scH, hh, hl.2, Nat.blt_eq, hv, ht]
  ·simp only [scH, Bool.and_eq_true]
   exact ⟨hl.1, scH_set l t v o hl.2 ht hv hh⟩
theorem sc_put {s : AS} {d : Option Tmp} {h : HV} (hs : s.sc n = true) (hh : h.sc n = true) : (s.put d h).sc n = true := by
 cases d with
 | none => exact hs
 | some t =>
  simp only [AS.sc, Bool.and_eq_true] at hs
  simp only [AS.put, AS.sc, Bool.and_eq_true]
  exact ⟨scS_set _ _ _ hs.1 hh, hs.2⟩
theorem sc_heap {s : AS} {id v : Nat} {o : AObj} (hs : s.sc n = true) (ht : id < n) (hv : v < n) (hh : o.sc n = true) : ({ s with heap := hset s.heap id v o } : AS).sc n = true := by
 simp only [AS.sc, Bool.and_eq_true] at hs ⊢
 exact ⟨hs.1, scH_set _ _ _ _ hs.2 ht hv hh⟩
theorem sc_get {l : List (Nat × HV)} {t : Nat} {h : HV} (hl : scS n l = true) (hg : sget l t = some h) : h.sc n = true := by
 induction l with
 | nil => cases hg
 | cons x l ih =>
  obtain ⟨i, g⟩ := x
  simp only [scS, Bool.and_eq_true] at hl
  simp only [sget] at hg
  split at hg
  ·cases hg; exact hl.1
  ·exact ih hl.2 hg
theorem sch_get {l : Heap} {id v : Nat} {o : AObj} (hl : scH n l = true) (hg : hget l id = some (v, o)) : (id < n ∧ v < n) ∧ o.sc n = true := by
 induction l with
 | nil => cases hg
 | cons x l ih =>
  obtain ⟨i, w, g⟩ := x
  simp only [scH, Bool.and_eq_true] at hl
  simp only [hget] at hg
  split at hg
  ·rename_i e; subst e; cases hg; exact ⟨⟨blt_lt hl.1.1.1, blt_lt hl.1.1.2⟩, hl.1.2⟩
  ·exact ih hl.2 hg
end
end Go.AW
namespace Go.AW
open Go
noncomputable def sgetR (l : List (Nat × HV)) : Nat → Option HV :=
 List.rec (motive := fun _ => Nat → Option HV) (fun _ => none) (fun p _ ih t => Bool.rec (motive := fun _ => Option HV) (ih t) (some p.2) (Nat.beq t p.1)) l
noncomputable def ssetR (l : List (Nat × HV)) : Nat → HV → List (Nat × HV) :=
 List.rec (motive := fun _ => Nat → HV → List (Nat × HV)) (fun t v => [(t, v)]) (fun p l ih t v => Bool.rec (motive := fun _ => List (Nat × HV)) (p :: ih t v) ((p.1, v) :: l) (Nat.beq t p.1)) l
noncomputable def hgetR (l : Heap) : Nat → Option (Nat × AObj) :=
 List.rec (motive := fun _ => Nat → Option (Nat × AObj)) (fun _ => none) (fun p _ ih t => Bool.rec (motive := fun _ => Option (Nat × AObj)) (ih t) (some (p.2.1, p.2.2)) (Nat.beq t p.1)) l
noncomputable def hsetR (l : Heap) : Nat → Nat → AObj → Heap :=
 List.rec (motive := fun _ => Nat → Nat → AObj → Heap) (fun t v o => [(t, v, o)]) (fun p l ih t v o => Bool.rec (motive := fun _ => Heap) (p :: ih t v o) ((p.1, v, o) :: l) (Nat.beq t p.1)) l
theorem beq_if {α : Type} (a b : Nat) (x y : α) : Bool.rec (motive := fun _ => α) y x (Nat.beq a b) = if a = b then x else y := by
 by_cases h : a = b
 ·subst h
  rw [if_pos rfl, Nat.beq_refl]
 ·rw [if_neg h]
  have : Nat.beq a b = false := by
   cases hb : Nat.beq a b with
   | false => rfl
   | true => exact absurd (Nat.eq_of_beq_eq_true hb) h
  rw [this]
theorem sgetR_eq : sgetR = sget := by
 funext l
 induction l with
 | nil => rfl
 | cons p l ih =>
  funext t
  obtain ⟨i, v⟩ := p
  show Bool.rec (motive := fun _ => Option HV) (sgetR l t) (some v) (Nat.beq t i) = _
  rw [beq_if, ih]
  rfl
theorem ssetR_eq : ssetR = sset := by
 funext l
 induction l with
 | nil => rfl
 | cons p l ih =>
  funext t v
  obtain ⟨i, u⟩ := p
  show Bool.rec (motive := fun _ => List (Nat × HV)) ((i, u) :: ssetR l t v) ((i, v) :: l) (Nat.beq t i) = _
  rw [beq_if, ih]
  rfl
theorem hgetR_eq : hgetR = hget := by
 funext l
 induction l with
 | nil => rfl
 | cons p l ih =>
  funext t
  obtain ⟨i, v, o⟩ := p
  show Bool.rec (motive := fun _ => Option (Nat × AObj)) (hgetR l t) (some (v, o)) (Nat.beq t i) = _
  rw [beq_if, ih]
  rfl
theorem hsetR_eq : hsetR = hset := by
 funext l
 induction l with
 | nil => rfl
 | cons p l ih =>
  funext t v o
  obtain ⟨i, u, q⟩ := p
  show Bool.rec (motive := fun _ => Heap) ((i, u, q) :: hsetR l t v o) ((i, v, o) :: l) (Nat.beq t i) = _
  rw [beq_if, ih]
  rfl
noncomputable def AS.evR (s : AS) (x : Operand) : Option HV := match x with
 | .tmp t => sgetR s.slots t
 | .const v => constHV v
 | .global g => some (.v (.pointer (some ⟨g, 0, none⟩)))
 | .func f => some (.fn (.func f) [] [])
theorem evR_eq : AS.evR = AS.ev := by
 funext s x
 cases x with
 | tmp t => show sgetR s.slots t = sget s.slots t; rw [sgetR_eq]
 | const v => rfl
 | global g => rfl
 | func f => rfl
noncomputable def AS.putR (s : AS) (d : Option Tmp) (h : HV) : AS := match d with
 | some t => { s with slots := ssetR s.slots t h }
 | none => s
theorem putR_eq : AS.putR = AS.put := by
 funext s d h
 cases d with
 | none => rfl
 | some t => show ({ s with slots := ssetR s.slots t h } : AS) = { s with slots := sset s.slots t h }; rw [ssetR_eq]
noncomputable def aslR (s : AS) (lo : Option Operand) (d : Int) : Option Int := match lo with
 | none => some d
 | some x => match s.evR x with
  | some (.int _ n) => some n
  | _ => none
theorem aslR_eq : aslR = asl := by
 funext s lo d
 unfold aslR asl
 rw [evR_eq]
 rfl
noncomputable def apartsR (s : AS) (ps : List (Nat × Operand)) : Option (List (Nat × HV)) := ps.mapM fun p => (s.evR p.2).map fun h => (p.1, h)
theorem apartsR_eq : apartsR = aparts := by
 funext s ps
 unfold apartsR aparts
 rw [evR_eq]
def keepL (l : List (Nat × HV)) : List Nat → List (Nat × HV)
 | [] => []
 | t :: ts => match sget l t with
  | some v => (t, v) :: keepL l ts
  | none => keepL l ts
noncomputable def keepK {α : Type} (l : List (Nat × HV)) (ks : List Nat) : (List (Nat × HV) → α) → α :=
 List.rec (motive := fun _ => (List (Nat × HV) → α) → α) (fun k => k []) (fun t _ ih k => match sgetR l t with
  | some v => ih (fun l' => k ((t, v) :: l'))
  | none => ih k) ks
theorem keepK_eq {α : Type} (l : List (Nat × HV)) : ∀ (ks : List Nat) (k : List (Nat × HV) → α), keepK l ks k = k (keepL l ks)
 | [], _ => rfl
 | t :: ts, k => by
  show (match sgetR l t with
   | some v => keepK l ts (fun l' => k ((t, v) :: l'))
   | none => keepK l ts k) = _
  rw [sgetR_eq]
  simp only [keepL]
  cases sget l t with
  | none => exact keepK_eq l ts k
  | some v => exact keepK_eq l ts _
theorem keepL_get {l : List (Nat × HV)} : ∀ {ks : List Nat} {t : Nat} {h : HV}, sget (keepL l ks) t = some h → sget l t = some h
 | [], _, _, h => by cases h
 | k :: ks, t, g, h => by
  simp only [keepL] at h
  cases hk : sget l k with
  | none => rw [hk] at h; exact keepL_get h
  | some v =>
   rw [hk] at h
   simp only [sget] at h
   split at h
   ·rename_i e
    subst e
    rw [hk]
    exact h
   ·exact keepL_get h
theorem keepL_sc {n : Nat} {l : List (Nat × HV)} (hl : scS n l = true) : ∀ ks : List Nat, scS n (keepL l ks) = true
 | [] => rfl
 | k :: ks => by
  simp only [keepL]
  cases hk : sget l k with
  | none => exact keepL_sc hl ks
  | some v =>
   simp only [scS, Bool.and_eq_true]
   exact ⟨sc_get hl hk, keepL_sc hl ks⟩
theorem keepL_le (ρ : Nat → Nat) (s : AS) (ks : List Nat) : (s.ren ρ).le ((⟨keepL s.slots ks, s.heap⟩ : AS).ren ρ) := by
 refine ⟨fun t hv h => ?_, fun _ _ h => h⟩
 simp only [AS.ren] at h ⊢
 rw [sget_ren] at h ⊢
 cases hk : sget (keepL s.slots ks) t with
 | none => rw [hk] at h; cases h
 | some v => rw [hk] at h; rw [keepL_get hk]; exact h
set_option linter.unusedSimpArgs false
def TabOk (P : Program) (T : TypeId → Option TyI) : Prop := ∀ t x, T t = some x → ty P t = some x
def sload (T : TyI) (cs : List HV) (off : Nat) : Option HV :=
 bif aggD T.desc then (bif Nat.ble (off + T.size) cs.length then some (.agg ((cs.drop off).take T.size)) else none) else cs[off]?
theorem sload_sound {T : TyI} {cs : List HV} {off : Nat} {h : HV} (hs : sload T cs off = some h) {ρ : Nat → Nat} {R : HV → Prop} (hr : R (h.ren ρ)) : loadK T (renL ρ cs) off R := by
 unfold sload at hs
 unfold loadK
 cases ha : aggD T.desc with
 | true =>
  rw [ha] at hs
  simp only [cond_true, if_true] at hs ⊢
  by_cases hb : Nat.ble (off + T.size) cs.length = true
  ·rw [hb] at hs
   cases hs
   refine ⟨by rw [renL_len]; exact Nat.le_of_ble_eq_true hb, ?_⟩
   simpa only [HV.ren, renL_take, renL_drop] using hr
  ·simp [Bool.not_eq_true _ ▸ hb] at hs
 | false =>
  rw [ha] at hs
  simp only [cond_false, Bool.false_eq_true, if_false] at hs ⊢
  rw [renL_get, hs]
  exact hr
def sbin (op : BinOp) (x y : HV) : Option HV :=
 match op, x, y with
 | .add, .int k a, .int k' b => if k = k' then some (.int k (k.wrap (a + b))) else none
 | .sub, .int k a, .int k' b => if k = k' then some (.int k (k.wrap (a - b))) else none
 | .mul, .int k a, .int k' b => if k = k' then some (.int k (k.wrap (a * b))) else none
 | .quo, .int k a, .int k' b => if k = k' ∧ b ≠ 0 then some (.int k (k.wrap (a.tdiv b))) else none
 | .rem, .int k a, .int k' b => if k = k' ∧ b ≠ 0 then some (.int k (a.tmod b)) else none
 | .eql, .int k a, .int k' b => if k = k' then some (.bool (decide (a = b))) else none
 | .neq, .int k a, .int k' b => if k = k' then some (.bool (decide (a ≠ b))) else none
 | .lss, .int k a, .int k' b => if k = k' then some (.bool (decide (a < b))) else none
 | .leq, .int k a, .int k' b => if k = k' then some (.bool (decide (a ≤ b))) else none
 | .gtr, .int k a, .int k' b => if k = k' then some (.bool (decide (b < a))) else none
 | .geq, .int k a, .int k' b => if k = k' then some (.bool (decide (b ≤ a))) else none
 | .add, .str a, .str b => if a.length + b.length ≤ maxLen then some (.str (a ++ b)) else none
 | .eql, .str a, .str b => some (.bool (decide (a = b)))
 | .neq, .str a, .str b => some (.bool (decide (a ≠ b)))
 | .lss, .str a, .str b => some (.bool (Op.bytesLess a b))
 | .gtr, .str a, .str b => some (.bool (!(Op.bytesLess a b || decide (a = b))))
 | .leq, .str a, .str b => some (.bool (Op.bytesLess a b || decide (a = b)))
 | .geq, .str a, .str b => some (.bool (!(Op.bytesLess a b)))
 | .shl, .int k a, .int _ b => if 0 ≤ b then some (.int k (k.wrap (a * 2 ^ min b.toNat k.bits))) else none
 | .shr, .int k a, .int _ b => if 0 ≤ b then some (.int k (a.fdiv (2 ^ min b.toNat k.bits))) else none
 | .and, .int k a, .int k' b => if k = k' then some (.int k (k.wrap (BitVec.ofInt k.bits a &&& BitVec.ofInt k.bits b).toNat)) else none
 | .or, .int k a, .int k' b => if k = k' then some (.int k (k.wrap (BitVec.ofInt k.bits a ||| BitVec.ofInt k.bits b).toNat)) else none
 | .xor, .int k a, .int k' b => if k = k' then some (.int k (k.wrap (BitVec.ofInt k.bits a ^^^ BitVec.ofInt k.bits b).toNat)) else none
 | _, _, _ => none
theorem sbin_sound {op : BinOp} {x y h : HV} (hs : sbin op x y = some h) {ρ : Nat → Nat} {R : HV → Prop} (hr : R (h.ren ρ)) : abin op (x.ren ρ) (y.ren ρ) R := by
  unfold sbin at hs
  split at hs <;> first
    | (cases hs; exact hr)
    | (split at hs
       · rename_i hc
         cases hs
         first
           | exact ⟨hc, hr⟩
           | exact ⟨hc.1, hc.2, hr⟩
       · cases hs)
    | cases hs
theorem asl_ren (ρ : Nat → Nat) (s : AS) (lo : Option Operand) (d : Int) : asl (s.ren ρ) lo d = asl s lo d := by
 unfold asl
 cases lo with
 | none => rfl
 | some x =>
  simp only [ev_ren]
  cases s.ev x with
  | none => rfl
  | some h => cases h <;> rfl
def sElem (T : TypeId → Option TyI) (t : TypeId) : Option Nat :=
 match T t with
 | some ⟨.slice e, _, _, _⟩ => (T e).map (·.size)
 | some ⟨.array _ e, _, _, _⟩ => (T e).map (·.size)
 | _ => none
def sField (T : TypeId → Option TyI) (S : TypeId) (f : Nat) : Option (Nat × TyI) :=
 match T S with
 | some ⟨.struct fs, _, _, _⟩ => match fs[f]? with
  | some fd => match T fd.type with
   | some U => if U.size = 0 then none else some (fd.offset, U)
   | none => none
  | none => none
 | _ => none
section
variable {P : Program} {T : TypeId → Option TyI}
theorem sElem_sound (hT : TabOk P T) {t : TypeId} {k : Nat} (h : sElem T t = some k) : elemSize P t = some k := by
 unfold sElem at h
 split at h
 ·rename_i e _ _ _ ht
  obtain ⟨U, hU, rfl⟩ := Option.map_eq_some_iff.1 h
  simp [elemSize, hT _ _ ht, hT _ _ hU]
 ·rename_i n e _ _ _ ht
  obtain ⟨U, hU, rfl⟩ := Option.map_eq_some_iff.1 h
  simp [elemSize, hT _ _ ht, hT _ _ hU]
 ·cases h
theorem sField_sound (hT : TabOk P T) {S : TypeId} {f : Nat} {r : Nat × TyI} (h : sField T S f = some r) : fieldOf P S f = some r := by
 unfold sField at h
 split at h
 ·rename_i fs _ _ _ ht
  split at h
  ·rename_i fd hfd
   split at h
   ·rename_i U hU
    split at h
    ·cases h
    ·rename_i h0
     cases h
     simp [fieldOf, hT _ _ ht, hfd, hT _ _ hU, h0]
   ·cases h
  ·cases h
 ·cases h
end
noncomputable def aliveB (H : Heap) (id ver : Nat) : Bool := match hgetR H id with
 | some (v, _) => Nat.beq v ver
 | none => false
theorem aliveB_sound {H : Heap} {id ver : Nat} {ρ : Nat → Nat} (h : aliveB H id ver = true) : alive (renH ρ H) id (ρ ver) := by
 unfold aliveB at h
 rw [hgetR_eq] at h
 unfold alive
 rw [hget_ren]
 cases hg : hget H id with
 | none => rw [hg] at h; cases h
 | some x =>
  obtain ⟨v, o⟩ := x
  rw [hg] at h
  have : v = ver := Nat.eq_of_beq_eq_true h
  simp [this]
def guardO {α : Type} (c : Bool) (x : Option α) : Option α := match c with
 | true => x
 | false => none
theorem guardO_some {α : Type} {c : Bool} {x : Option α} {y : α} (h : guardO c x = some y) : c = true ∧ x = some y := by
 cases c with
 | true => exact ⟨rfl, h⟩
 | false => cases h
def sbinT (T : TypeId → Option TyI) (op : BinOp) (tx : TypeId) (x y : HV) : Option HV :=
 match x, y with
 | .bool a, .bool b => match op, T tx with
  | .eql, some ⟨.bool, _, _, _⟩ => some (.bool (a == b))
  | .neq, some ⟨.bool, _, _, _⟩ => some (.bool (!(a == b)))
  | _, _ => none
 | _, _ => sbin op x y
theorem sbinT_sound {P : Program} {T : TypeId → Option TyI} (hT : TabOk P T) {op : BinOp} {tx : TypeId} {x y h : HV} (hs : sbinT T op tx x y = some h) {ρ : Nat → Nat} {R : HV → Prop} (hr : R (h.ren ρ)) : abinT P op tx (x.ren ρ) (y.ren ρ) R := by
 unfold sbinT at hs
 split at hs
 ·split at hs
  ·rename_i hU
   cases hs
   simp only [HV.ren, abinT, hT _ _ hU]
   exact hr
  ·rename_i hU
   cases hs
   simp only [HV.ren, abinT, hT _ _ hU]
   exact hr
  ·cases hs
 ·rename_i hno
  have := sbin_sound hs hr
  unfold abinT
  split
  ·rename_i e1 e2
   exfalso
   cases x with
   | bool a => cases y with
    | bool b => exact hno _ _ rfl rfl
    | _ => cases e2
   | _ => cases e1
  ·rename_i e1 e2
   exfalso
   cases x with
   | agg a => simp [sbin] at hs
   | _ => cases e1
  ·exact this
noncomputable def svPick (s : AS) (c a b : Operand) : Option HV := match s.evR c, s.evR a, s.evR b with
  | some (.bool true), some h, some _ => some h
  | some (.bool false), some _, some h => some h
  | _, _, _ => none
noncomputable def svLoad (T : TypeId → Option TyI) (s : AS) (t : TypeId) (a : Operand) : Option HV := match T t, s.evR a with
  | some U, some (.fptr cs off) => sload U cs off
  | some U, some (.ptr id ver off) => match hgetR s.heap id with
   | some (ver', .arr _ _ cs) => guardO (Nat.beq ver ver') (sload U cs off)
   | _ => none
  | _, _ => none
noncomputable def svNil (s : AS) (x : Operand) : Option HV := match s.evR x with
  | some (.ptr id ver off) => guardO (aliveB s.heap id ver) (some (.ptr id ver off))
  | some (.fptr cs off) => some (.fptr cs off)
  | _ => none
noncomputable def svBin (T : TypeId → Option TyI) (s : AS) (op : BinOp) (tx : TypeId) (x y : Operand) : Option HV := match s.evR x, s.evR y with
  | some h, some g => sbinT T op tx h g
  | _, _ => none
noncomputable def svUn (s : AS) (op : UnOp) (x : Operand) : Option HV := match op, s.evR x with
  | .not, some (.bool b) => some (.bool (!b))
  | .neg, some (.int k n) => some (.int k (k.wrap (0 - n)))
  | _, _ => none
noncomputable def svConv (T : TypeId → Option TyI) (s : AS) (src dst : TypeId) (x : Operand) : Option HV := match T src, T dst, s.evR x with
  | some _, some ⟨.int k, _, _, _⟩, some (.int _ n) => some (.int k (k.wrap n))
  | some _, some ⟨.string, _, _, _⟩, some (.int _ n) => some (.str (Utf8.encode n).data.toList)
  | some _, some ⟨.string, _, _, _⟩, some (.str l) => some (.str l)
  | _, _, _ => none
noncomputable def svFunc (s : AS) (fn : Fn) (first caps : Array Operand) : Option HV := match first.toList.mapM s.evR, caps.toList.mapM s.evR with
  | some fs, some cs => some (.fn fn fs cs)
  | _, _ => none
noncomputable def svFieldAddr (T : TypeId → Option TyI) (s : AS) (S : TypeId) (x : Operand) (f : Nat) : Option HV := match sField T S f, s.evR x with
  | some (o, _), some (.ptr id ver off) => guardO (aliveB s.heap id ver) (some (.ptr id ver (off + o)))
  | some (o, _), some (.fptr cs off) => some (.fptr cs (off + o))
  | _, _ => none
noncomputable def svField (T : TypeId → Option TyI) (s : AS) (S : TypeId) (x : Operand) (f : Nat) : Option HV := match sField T S f, s.evR x with
  | some (o, U), some (.agg cs) => sload U cs o
  | _, _ => none
noncomputable def svIndexAddr (T : TypeId → Option TyI) (s : AS) (t : TypeId) (x i : Operand) : Option HV := match T t, sElem T t, s.evR x, s.evR i with
  | some ⟨.slice _, _, _, _⟩, some k', some (.sl k n cs), some (.int _ j) => guardO (decide (k = k' ∧ 0 ≤ j ∧ j < n)) (some (.fptr cs (j.toNat * k)))
  | some ⟨.slice _, _, _, _⟩, some k', some (.ar id ver k off n), some (.int _ j) => guardO (decide (k = k' ∧ 0 ≤ j ∧ j < n)) (guardO (aliveB s.heap id ver) (some (.ptr id ver (off + j.toNat * k))))
  | some ⟨.array len _, _, _, _⟩, some k', some (.ptr id ver off), some (.int _ j) => guardO (decide (0 ≤ j ∧ j < len)) (guardO (aliveB s.heap id ver) (some (.ptr id ver (off + j.toNat * k'))))
  | some ⟨.array len _, _, _, _⟩, some k', some (.fptr cs off), some (.int _ j) => guardO (decide (0 ≤ j ∧ j < len)) (some (.fptr cs (off + j.toNat * k')))
  | _, _, _, _ => none
noncomputable def svIndex (T : TypeId → Option TyI) (s : AS) (t : TypeId) (x i : Operand) : Option HV := match T t, s.evR x, s.evR i with
  | some ⟨.string, _, _, _⟩, some (.str l), some (.int _ j) => guardO (decide (0 ≤ j)) (match l[j.toNat]? with
   | some b => some (.int .u8 b.toNat)
   | none => none)
  | some ⟨.array len e, _, _, _⟩, some (.agg cs), some (.int _ j) => guardO (decide (0 ≤ j ∧ j < len)) (match T e with
   | some U => sload U cs (j.toNat * U.size)
   | none => none)
  | _, _, _ => none
noncomputable def svExtract (s : AS) (x : Operand) (i : Nat) : Option HV := match s.evR x with
  | some (.tup vs) => vs[i]?
  | _ => none
noncomputable def svSlice (T : TypeId → Option TyI) (s : AS) (t : TypeId) (x : Operand) (lo hi : Option Operand) : Option HV := match T t, sElem T t, s.evR x with
  | some ⟨.string, _, _, _⟩, _, some (.str l) => match aslR s lo 0, aslR s hi l.length with
   | some a, some b => guardO (decide (0 ≤ a ∧ a ≤ b ∧ b ≤ l.length)) (some (.str ((l.take b.toNat).drop a.toNat)))
   | _, _ => none
  | some ⟨.slice _, _, _, _⟩, some k', some (.sl k n cs) => match aslR s lo 0, aslR s hi n with
   | some a, some b => guardO (decide (k = k' ∧ 0 ≤ a ∧ a ≤ b ∧ b ≤ n)) (some (.sl k (b.toNat - a.toNat) ((cs.take (b.toNat * k)).drop (a.toNat * k))))
   | _, _ => none
  | some ⟨.slice _, _, _, _⟩, some k', some (.ar id ver k off n) => match aslR s lo 0, aslR s hi n with
   | some a, some b => guardO (decide (k = k' ∧ 0 ≤ a ∧ a ≤ b ∧ b ≤ n ∧ (a = 0 ∨ a < n))) (guardO (aliveB s.heap id ver) (some (.ar id ver k (off + a.toNat * k) (b.toNat - a.toNat))))
   | _, _ => none
  | _, _, _ => none
noncomputable def svCall (T : TypeId → Option TyI) (s : AS) (c : Call) : Option HV := match c.callee, c.argTypes.toList, c.args.toList with
  | .builtin .len, [t], [x] => match T t, s.evR x with
   | some ⟨.string, _, _, _⟩, some (.str l) => some (.int .i64 l.length)
   | some ⟨.slice _, _, _, _⟩, some (.sl _ n _) => some (.int .i64 n)
   | some ⟨.slice _, _, _, _⟩, some (.ar id ver _ _ n) => guardO (aliveB s.heap id ver) (some (.int .i64 n))
   | some ⟨.slice _, _, _, _⟩, some (.v (.slice none 0 0)) => some (.int .i64 0)
   | some ⟨.map _ _, _, _, _⟩, some (.v (.map none)) => some (.int .i64 0)
   | some ⟨.map _ _, _, _, _⟩, some (.mp id ver) => match hgetR s.heap id with
    | some (ver', .map es) => guardO (Nat.beq ver ver' && Nat.ble es.length maxLen) (some (.int .i64 es.length))
    | _ => none
   | _, _ => none
  | .builtin .min, _, [x, y] => match s.evR x, s.evR y with
   | some (.int k a), some (.int k' c) => guardO (decide (k = k')) (some (.int k (min a c)))
   | _, _ => none
  | .builtin .max, _, [x, y] => match s.evR x, s.evR y with
   | some (.int k a), some (.int k' c) => guardO (decide (k = k')) (some (.int k (max a c)))
   | _, _ => none
  | .builtin .min, _, [x, y, z] => match s.evR x, s.evR y, s.evR z with
   | some (.int k a), some (.int k' c), some (.int k'' d) => guardO (decide (k = k' ∧ k = k'')) (some (.int k (min (min a c) d)))
   | _, _, _ => none
  | .builtin .max, _, [x, y, z] => match s.evR x, s.evR y, s.evR z with
   | some (.int k a), some (.int k' c), some (.int k'' d) => guardO (decide (k = k' ∧ k = k'')) (some (.int k (max (max a c) d)))
   | _, _, _ => none
  | _, _, _ => none
noncomputable def sval (T : TypeId → Option TyI) (op : Op) (s : AS) : Option HV :=
 match op with
 | .move x => s.evR x
 | .assign x => s.evR x
 | .pick c a b => svPick s c a b
 | .load t a => svLoad T s t a
 | .nilCheck x => svNil s x
 | .binOp op tx x y _ => svBin T s op tx x y
 | .unOp op _ x => svUn s op x
 | .convert src dst x => svConv T s src dst x
 | .makeFunc fn first caps => svFunc s fn first caps
 | .fieldAddr S x f => svFieldAddr T s S x f
 | .field S x f => svField T s S x f
 | .indexAddr t x i => svIndexAddr T s t x i
 | .index t x i => svIndex T s t x i
 | .extract x i => svExtract s x i
 | .slice t x lo hi none => svSlice T s t x lo hi
 | .call c => svCall T s c
 | _ => none
theorem renE_len (ρ : Nat → Nat) : ∀ l, (renE ρ l).length = l.length
 | [] => rfl
 | _ :: l => by simp [renE, renE_len ρ l]
theorem hget_s (ρ : Nat → Nat) {s : AS} {id v : Nat} {o : AObj} (h : hget s.heap id = some (v, o)) : hget (s.ren ρ).heap id = some (ρ v, o.ren ρ) := by
 show hget (renH ρ s.heap) id = _
 rw [hget_ren, h]
 rfl
section
variable {P : Program} {T : TypeId → Option TyI} {s : AS} {ρ : Nat → Nat} {R : HV → Prop}
theorem sval_sound (hT : TabOk P T) {op : Op} {r : HV} (h : sval T op s = some r) (hr : R (r.ren ρ)) : aval P op (s.ren ρ) R := by
 unfold sval at h
 simp only [evR_eq, hgetR_eq, hsetR_eq, sgetR_eq, putR_eq, aslR_eq, apartsR_eq] at h
 split at h
 ·simp only [aval, ev_ren, h, Option.map_some]; exact hr
 ·simp only [aval, ev_ren, h, Option.map_some]; exact hr
 ·-- pick
  unfold svPick at h
  try simp only [evR_eq, hgetR_eq, hsetR_eq, sgetR_eq, putR_eq, aslR_eq, apartsR_eq] at h
  rename_i c a b
  split at h
  ·rename_i h1 g hc ha hb
   cases h
   simp only [aval, ev_ren, hc, ha, hb, Option.map_some, HV.ren]
   split
   all_goals simp_all
  ·rename_i g h1 hc ha hb
   cases h
   simp only [aval, ev_ren, hc, ha, hb, Option.map_some, HV.ren]
   split
   all_goals simp_all
  ·cases h
 ·-- load
  unfold svLoad at h
  try simp only [evR_eq, hgetR_eq, hsetR_eq, sgetR_eq, putR_eq, aslR_eq, apartsR_eq] at h
  split at h
  ·rename_i U cs off hU hx
   simp only [aval, ev_ren, hT _ _ hU, hx, Option.map_some, HV.ren]
   exact sload_sound h hr
  ·rename_i U id ver off hU hx
   split at h
   ·rename_i ver' k e cs hg
    obtain ⟨hv, h'⟩ := guardO_some h
    have hv := Nat.eq_of_beq_eq_true hv
    subst hv
    simp only [aval, ev_ren, hT _ _ hU, hx, Option.map_some, HV.ren, hget_s ρ hg, AObj.ren]
    exact ⟨trivial, sload_sound h' hr⟩
   ·cases h
  ·cases h
 ·-- nilCheck
  unfold svNil at h
  try simp only [evR_eq, hgetR_eq, hsetR_eq, sgetR_eq, putR_eq, aslR_eq, apartsR_eq] at h
  split at h
  ·rename_i id ver off hx
   obtain ⟨hv, h⟩ := guardO_some h
   cases h
   have := aliveB_sound (ρ := ρ) hv
   simp only [aval, ev_ren, hx, Option.map_some, HV.ren]
   unfold alive at this
   have e : (s.ren ρ).heap = renH ρ s.heap := rfl
   rw [e]
   cases hh : hget (renH ρ s.heap) id with
   | none => rw [hh] at this; exact this
   | some x => rw [hh] at this; exact ⟨this.symm, hr⟩
  ·rename_i cs off hx
   cases h
   simp only [aval, ev_ren, hx, Option.map_some, HV.ren]
   exact hr
  ·cases h
 ·-- binOp
  unfold svBin at h
  try simp only [evR_eq, hgetR_eq, hsetR_eq, sgetR_eq, putR_eq, aslR_eq, apartsR_eq] at h
  split at h
  ·rename_i x y hx hy
   simp only [aval, ev_ren, hx, hy, Option.map_some]
   exact sbinT_sound hT h hr
  ·cases h
 ·-- unOp
  unfold svUn at h
  try simp only [evR_eq, hgetR_eq, hsetR_eq, sgetR_eq, putR_eq, aslR_eq, apartsR_eq] at h
  split at h
  ·rename_i b hx
   cases h
   simp only [aval, ev_ren, hx, Option.map_some, HV.ren]
   exact hr
  ·rename_i k n hx
   cases h
   simp only [aval, ev_ren, hx, Option.map_some, HV.ren]
   exact hr
  ·cases h
 ·-- convert
  unfold svConv at h
  try simp only [evR_eq, hgetR_eq, hsetR_eq, sgetR_eq, putR_eq, aslR_eq, apartsR_eq] at h
  split at h
  ·rename_i U k _ _ _ k0 n hU hD hx
   cases h
   simp only [aval, ev_ren, hT _ _ hU, hT _ _ hD, hx, Option.map_some, HV.ren]
   exact hr
  ·rename_i U _ _ _ k0 n hU hD hx
   cases h
   simp only [aval, ev_ren, hT _ _ hU, hT _ _ hD, hx, Option.map_some, HV.ren]
   exact hr
  ·rename_i U _ _ _ l hU hD hx
   cases h
   simp only [aval, ev_ren, hT _ _ hU, hT _ _ hD, hx, Option.map_some, HV.ren]
   exact hr
  ·cases h
 ·-- makeFunc
  unfold svFunc at h
  try simp only [evR_eq, hgetR_eq, hsetR_eq, sgetR_eq, putR_eq, aslR_eq, apartsR_eq] at h
  split at h
  ·rename_i fs cs hf hc
   cases h
   simp only [aval, evL_ren, hf, hc, Option.map_some]
   exact hr
  ·cases h
 ·-- fieldAddr
  unfold svFieldAddr at h
  try simp only [evR_eq, hgetR_eq, hsetR_eq, sgetR_eq, putR_eq, aslR_eq, apartsR_eq] at h
  split at h
  ·rename_i o U id ver off hF hx
   obtain ⟨hv, h⟩ := guardO_some h
   cases h
   simp only [aval, sField_sound hT hF, ev_ren, hx, Option.map_some, HV.ren]
   exact ⟨aliveB_sound hv, hr⟩
  ·rename_i o U cs off hF hx
   cases h
   simp only [aval, sField_sound hT hF, ev_ren, hx, Option.map_some, HV.ren]
   exact hr
  ·cases h
 ·-- field
  unfold svField at h
  try simp only [evR_eq, hgetR_eq, hsetR_eq, sgetR_eq, putR_eq, aslR_eq, apartsR_eq] at h
  split at h
  ·rename_i o U cs hF hx
   simp only [aval, sField_sound hT hF, ev_ren, hx, Option.map_some, HV.ren]
   exact sload_sound h hr
  ·cases h
 ·-- indexAddr
  unfold svIndexAddr at h
  try simp only [evR_eq, hgetR_eq, hsetR_eq, sgetR_eq, putR_eq, aslR_eq, apartsR_eq] at h
  split at h
  ·rename_i e _ _ _ k' k n cs kk j hU hE hx hi
   obtain ⟨hv, h⟩ := guardO_some h
   cases h
   simp only [aval, hT _ _ hU, sElem_sound hT hE, ev_ren, hx, hi, Option.map_some, HV.ren]
   obtain ⟨h1, h2, h3⟩ := of_decide_eq_true hv
   exact ⟨h1, h2, h3, hr⟩
  ·rename_i e _ _ _ k' id ver k off n kk j hU hE hx hi
   obtain ⟨hv, h⟩ := guardO_some h
   obtain ⟨ha, h⟩ := guardO_some h
   cases h
   simp only [aval, hT _ _ hU, sElem_sound hT hE, ev_ren, hx, hi, Option.map_some, HV.ren]
   obtain ⟨h1, h2, h3⟩ := of_decide_eq_true hv
   exact ⟨h1, h2, h3, aliveB_sound ha, hr⟩
  ·rename_i len e _ _ _ k' id ver off kk j hU hE hx hi
   obtain ⟨hv, h⟩ := guardO_some h
   obtain ⟨ha, h⟩ := guardO_some h
   cases h
   simp only [aval, hT _ _ hU, sElem_sound hT hE, ev_ren, hx, hi, Option.map_some, HV.ren]
   obtain ⟨h1, h2⟩ := of_decide_eq_true hv
   exact ⟨h1, h2, aliveB_sound ha, hr⟩
  ·rename_i len e _ _ _ k' cs off kk j hU hE hx hi
   obtain ⟨hv, h⟩ := guardO_some h
   cases h
   simp only [aval, hT _ _ hU, sElem_sound hT hE, ev_ren, hx, hi, Option.map_some, HV.ren]
   obtain ⟨h1, h2⟩ := of_decide_eq_true hv
   exact ⟨h1, h2, hr⟩
  ·cases h
 ·-- index
  unfold svIndex at h
  try simp only [evR_eq, hgetR_eq, hsetR_eq, sgetR_eq, putR_eq, aslR_eq, apartsR_eq] at h
  split at h
  ·rename_i _ _ _ l k j hU hx hi
   obtain ⟨hv, h⟩ := guardO_some h
   split at h
   ·rename_i b hb
    cases h
    simp only [aval, hT _ _ hU, ev_ren, hx, hi, Option.map_some, HV.ren, hb]
    exact ⟨of_decide_eq_true hv, hr⟩
   ·cases h
  ·rename_i len e _ _ _ cs k j hU hx hi
   obtain ⟨hv, h⟩ := guardO_some h
   split at h
   ·rename_i U hE
    simp only [aval, hT _ _ hU, ev_ren, hx, hi, Option.map_some, HV.ren, hT _ _ hE]
    obtain ⟨h1, h2⟩ := of_decide_eq_true hv
    exact ⟨h1, h2, sload_sound h hr⟩
   ·cases h
  ·cases h
 ·-- extract
  unfold svExtract at h
  try simp only [evR_eq, hgetR_eq, hsetR_eq, sgetR_eq, putR_eq, aslR_eq, apartsR_eq] at h
  split at h
  ·rename_i vs hx
   simp only [aval, ev_ren, hx, Option.map_some, HV.ren, renL_get, h]
   exact hr
  ·cases h
 ·-- slice
  unfold svSlice at h
  try simp only [evR_eq, hgetR_eq, hsetR_eq, sgetR_eq, putR_eq, aslR_eq, apartsR_eq] at h
  split at h
  ·rename_i _ _ _ l hU hx
   split at h
   ·rename_i a b ha hb
    obtain ⟨hv, h⟩ := guardO_some h
    cases h
    simp only [aval, hT _ _ hU, ev_ren, hx, Option.map_some, HV.ren, asl_ren, ha, hb]
    obtain ⟨h1, h2, h3⟩ := of_decide_eq_true hv
    exact ⟨h1, h2, h3, hr⟩
   ·cases h
  ·rename_i e _ _ _ k' k n cs hU hE hx
   split at h
   ·rename_i a b ha hb
    obtain ⟨hv, h⟩ := guardO_some h
    cases h
    simp only [aval, hT _ _ hU, sElem_sound hT hE, ev_ren, hx, Option.map_some, HV.ren, asl_ren, ha, hb]
    obtain ⟨h1, h2, h3, h4⟩ := of_decide_eq_true hv
    refine ⟨h1, h2, h3, h4, ?_⟩
    rw [← renL_take, ← renL_drop]
    exact hr
   ·cases h
  ·rename_i e _ _ _ k' id ver k off n hU hE hx
   split at h
   ·rename_i a b ha hb
    obtain ⟨hv, h⟩ := guardO_some h
    obtain ⟨hl, h⟩ := guardO_some h
    cases h
    simp only [aval, hT _ _ hU, sElem_sound hT hE, ev_ren, hx, Option.map_some, HV.ren, asl_ren, ha, hb]
    obtain ⟨h1, h2, h3, h4, h5⟩ := of_decide_eq_true hv
    exact ⟨h1, h2, h3, h4, h5, aliveB_sound hl, hr⟩
   ·cases h
  ·cases h
 ·-- call
  unfold svCall at h
  try simp only [evR_eq, hgetR_eq, hsetR_eq, sgetR_eq, putR_eq, aslR_eq, apartsR_eq] at h
  split at h
  ·rename_i c t x hc ht hx
   split at h
   ·rename_i _ _ _ l hU hl
    cases h
    simp only [aval, hc, ht, hx, hT _ _ hU, ev_ren, hl, Option.map_some, HV.ren]; exact hr
   ·rename_i e _ _ _ k n cs hU hl
    cases h
    simp only [aval, hc, ht, hx, hT _ _ hU, ev_ren, hl, Option.map_some, HV.ren]; exact hr
   ·rename_i e _ _ _ id ver k off n hU hl
    obtain ⟨hv, h⟩ := guardO_some h
    cases h
    simp only [aval, hc, ht, hx, hT _ _ hU, ev_ren, hl, Option.map_some, HV.ren]; exact ⟨aliveB_sound hv, hr⟩
   ·rename_i e _ _ _ hU hl
    cases h
    simp only [aval, hc, ht, hx, hT _ _ hU, ev_ren, hl, Option.map_some, HV.ren]; exact hr
   ·rename_i e _ _ _ hU hl
    cases h
    simp only [aval, hc, ht, hx, hT _ _ hU, ev_ren, hl, Option.map_some, HV.ren]; exact hr
   ·rename_i e _ _ _ _ id ver hU hl
    split at h
    ·rename_i ver' es hg
     obtain ⟨hv, h⟩ := guardO_some h
     cases h
     simp only [Bool.and_eq_true] at hv
     have hve := Nat.eq_of_beq_eq_true hv.1
     subst hve
     simp only [aval, hc, ht, hx, hT _ _ hU, ev_ren, hl, Option.map_some, HV.ren, hget_s ρ hg, AObj.ren, renE_len]
     exact ⟨trivial, Nat.le_of_ble_eq_true hv.2, hr⟩
    ·cases h
   ·cases h
  ·rename_i c x y hc hx
   split at h
   ·rename_i k a k' b ha hb
    obtain ⟨hv, h⟩ := guardO_some h
    cases h
    simp only [aval, hc, hx, ev_ren, ha, hb, Option.map_some, HV.ren]
    exact ⟨.inl trivial, of_decide_eq_true hv, hr⟩
   ·cases h
  ·rename_i c x y hc hx
   split at h
   ·rename_i k a k' b ha hb
    obtain ⟨hv, h⟩ := guardO_some h
    cases h
    simp only [aval, hc, hx, ev_ren, ha, hb, Option.map_some, HV.ren]
    exact ⟨.inr trivial, of_decide_eq_true hv, hr⟩
   ·cases h
  ·rename_i c x y z hc hx
   split at h
   ·rename_i k a k' b k'' d ha hb hd
    obtain ⟨hv, h⟩ := guardO_some h
    cases h
    simp only [aval, hc, hx, ev_ren, ha, hb, hd, Option.map_some, HV.ren]
    obtain ⟨h1, h2⟩ := of_decide_eq_true hv
    exact ⟨.inl trivial, h1, h2, hr⟩
   ·cases h
  ·rename_i c x y z hc hx
   split at h
   ·rename_i k a k' b k'' d ha hb hd
    obtain ⟨hv, h⟩ := guardO_some h
    cases h
    simp only [aval, hc, hx, ev_ren, ha, hb, hd, Option.map_some, HV.ren]
    obtain ⟨h1, h2⟩ := of_decide_eq_true hv
    exact ⟨.inr trivial, h1, h2, hr⟩
   ·cases h
  ·cases h
 ·cases h
end
end Go.AW
namespace Go.AW
open Go
set_option linter.unusedSimpArgs false
def LoopKeep (H H' : Heap) : Prop := ∀ id v st pend f n snap ps a b, hget H id = some (v, .loop st pend f n snap ps a b) → ∀ x, hget H' id = some x → ∃ st' pend', x = (v, .loop st' pend' f n snap ps a b)
theorem LoopKeep.refl (H : Heap) : LoopKeep H H := fun _ _ _ _ _ _ _ _ _ _ h x hx => by rw [h] at hx; cases hx; exact ⟨_, _, rfl⟩
theorem LoopKeep.set {H : Heap} {id v : Nat} {o : AObj} (h : ∀ v st pend f n snap ps a b, hget H id ≠ some (v, .loop st pend f n snap ps a b)) : LoopKeep H (hset H id v o) := by
 intro j u st pend f n snap ps a b hj x hx
 rw [hget_hset] at hx
 split at hx
 ·rename_i e; subst e; exact absurd hj (h _ _ _ _ _ _ _ _ _)
 ·rw [hj] at hx; cases hx; exact ⟨_, _, rfl⟩
theorem LoopKeep.setL {H : Heap} {id v : Nat} {st st' : LoopState} {pend pend' : Option Code} {f n : Nat} {snap : List (Nat × HV)} {ps : Array Tmp} {a b : Code}
  (h : hget H id = some (v, .loop st pend f n snap ps a b)) : LoopKeep H (hset H id v (.loop st' pend' f n snap ps a b)) := by
 intro j u st2 pend2 f2 n2 snap2 ps2 a2 b2 hj x hx
 rw [hget_hset] at hx
 split at hx
 ·rename_i e; subst e; rw [h] at hj; cases hj; cases hx; exact ⟨_, _, rfl⟩
 ·rw [hj] at hx; cases hx; exact ⟨_, _, rfl⟩
theorem LoopKeep.trans {H H1 H2 : Heap} (h : LoopKeep H H1) (h' : LoopKeep H1 H2) (hd : ∀ id x, hget H id = some x → ∀ y, hget H2 id = some y → ∃ z, hget H1 id = some z) : LoopKeep H H2 := by
 intro j u st pend f n snap ps a b hj x hx
 obtain ⟨z, hz⟩ := hd j _ hj x hx
 obtain ⟨st1, p1, rfl⟩ := h _ _ _ _ _ _ _ _ _ _ hj z hz
 exact h' _ _ _ _ _ _ _ _ _ _ hz x hx
def Back (n : Nat) (H H' : Heap) : Prop := ∀ id, id < n → ∀ y, hget H' id = some y → ∃ z, hget H id = some z
theorem Back.refl (n : Nat) (H : Heap) : Back n H H := fun _ _ y h => ⟨y, h⟩
theorem Back.trans {n m : Nat} {H H1 H2 : Heap} (h : Back n H H1) (hn : n ≤ m) (h' : Back m H1 H2) : Back n H H2 := fun id hid y hy => by
 obtain ⟨z, hz⟩ := h' id (by omega) y hy
 exact h id hid z hz
theorem Back.set {n id v : Nat} {H : Heap} {o : AObj} (h : n ≤ id ∨ ∃ x, hget H id = some x) : Back n H (hset H id v o) := fun j hj y hy => by
 rw [hget_hset] at hy
 split at hy
 ·rename_i e; subst e; exact h.elim (fun h => by omega) id
 ·exact ⟨y, hy⟩
theorem sch_lt {n id : Nat} {H : Heap} {x : Nat × AObj} (h : scH n H = true) (hg : hget H id = some x) : id < n := (sch_get (o := x.2) (v := x.1) h hg).1.1
theorem sch_fresh {n : Nat} {H : Heap} (h : scH n H = true) : hget H n = none := by
 cases hg : hget H n with
 | none => rfl
 | some x => exact absurd (sch_lt h hg) (by omega)
structure Step (n n' : Nat) (H H' : Heap) : Prop where
 le : n ≤ n'
 loop : LoopKeep H H'
 back : Back n H H'
theorem Step.refl (n : Nat) (H : Heap) : Step n n H H := ⟨Nat.le_refl _, LoopKeep.refl H, Back.refl n H⟩
theorem Step.trans {n n1 n2 : Nat} {H H1 H2 : Heap} (hs : scH n H = true) (h : Step n n1 H H1) (h' : Step n1 n2 H1 H2) : Step n n2 H H2 :=
 ⟨Nat.le_trans h.le h'.le, h.loop.trans h'.loop fun id x hx y hy => h'.back id (Nat.lt_of_lt_of_le (sch_lt hs hx) h.le) y hy, h.back.trans h.le h'.back⟩
inductive Task where
 | code (top : Bool) (N : Nat) (c : Code) (s : AS) (n : Nat)
 | call (f : FuncId) (args : List HV) (H : Heap) (n : Nat)
inductive Out where
 | code (e : Exit) (s : AS) (n : Nat)
 | call (rv : HV) (H : Heap) (n : Nat)
def Sem (P : Program) : Task → Out → Prop
 | .code top N c s n, .code e s' n' => s.sc n = true → s'.sc n' = true ∧ Step n n' s.heap s'.heap ∧
   ∀ (ρ : Nat → Nat) (ro : Option Nat) (Q : Exit → AS → Prop), (top = true → ro = none) → (∀ ρ', Agree n ρ ρ' → Q e (s'.ren ρ')) → AW P ro N c Q (s.ren ρ)
 | .call f args H n, .call rv H' n' => scL n args = true → scH n H = true → rv.sc n' = true ∧ scH n' H' = true ∧ Step n n' H H' ∧
   ∀ (ρ : Nat → Nat) (K : HV → Heap → Prop), (∀ ρ', Agree n ρ ρ' → K (rv.ren ρ') (renH ρ' H')) → ACall P f (renL ρ args) (renH ρ H) K
 | _, _ => False
def Good (P : Program) (r : Task → Option Out) : Prop := ∀ t o, r t = some o → Sem P t o
def OpOk (P : Program) (N : Nat) (o : Oper) (s : AS) (n : Nat) (s' : AS) (n' : Nat) : Prop := s'.sc n' = true ∧ Step n n' s.heap s'.heap ∧
 ∀ (ρ : Nat → Nat) (ro : Option Nat) (K : AS → Prop), (∀ ρ', Agree n ρ ρ' → K (s'.ren ρ')) → AOp P ro N o K (s.ren ρ)
noncomputable def fin (s : AS) (n : Nat) (d : Option Tmp) (h : HV) : Option (AS × Nat) := guardO (h.sc n) (some (s.putR d h, n))
noncomputable def new (s : AS) (n : Nat) (d : Option Tmp) (id : Nat) (o : AObj) (h : HV) : Option (AS × Nat) := guardO (o.sc n) (some (({ s with heap := hsetR s.heap id n o } : AS).putR d h, n + 1))
section
variable {P : Program} {N n n' : Nat} {o : Oper} {s s' : AS}
theorem sc_heap_of (hs : s.sc n = true) : scH n s.heap = true := by
 simp only [AS.sc, Bool.and_eq_true] at hs; exact hs.2
theorem sc_slots_of (hs : s.sc n = true) : scS n s.slots = true := by
 simp only [AS.sc, Bool.and_eq_true] at hs; exact hs.1
theorem put_heap' (s : AS) (d : Option Tmp) (h : HV) : (s.put d h).heap = s.heap := by cases d <;> rfl
theorem fin_ok {h : HV} (hs : s.sc n = true) (he : fin s n o.dst h = some (s', n')) (hk : ∀ (ρ : Nat → Nat) (ro : Option Nat) (K : AS → Prop), K ((s.ren ρ).put o.dst (h.ren ρ)) → AOp P ro N o K (s.ren ρ)) : OpOk P N o s n s' n' := by
 unfold fin at he
 rw [putR_eq] at he
 obtain ⟨h1, h2⟩ := guardO_some he
 cases h2
 refine ⟨sc_put hs h1, by rw [put_heap']; exact Step.refl _ _, fun ρ ro K hK => hk ρ ro K ?_⟩
 rw [← ren_put]
 exact hK ρ (Agree.refl _ _)
theorem new_ok {id : Nat} {ob : AObj} {h : HV} (hs : s.sc n = true) (hid : id = n ∨ ∃ v k e cs, hget s.heap id = some (v, .arr k e cs)) (hh : h.sc (n + 1) = true) (he : new s n o.dst id ob h = some (s', n'))
  (hk : ∀ (ρ : Nat → Nat) (ro : Option Nat) (K : AS → Prop), (∀ ver, K ((⟨(s.ren ρ).slots, hset (s.ren ρ).heap id ver (ob.ren ρ)⟩ : AS).put o.dst (h.ren (upd ρ n ver)))) → AOp P ro N o K (s.ren ρ)) : OpOk P N o s n s' n' := by
 unfold new at he
 rw [putR_eq, hsetR_eq] at he
 obtain ⟨h1, h2⟩ := guardO_some he
 cases h2
 have hsh := sc_heap_of hs
 have hidn : id < n + 1 := by
  rcases hid with rfl | ⟨v, k, e, cs, hg⟩
  ·omega
  ·have := sch_lt hsh hg; omega
 refine ⟨sc_put (sc_heap (AS.sc_mono (Nat.le_succ n) s hs) hidn (by omega) (AObj.sc_mono (Nat.le_succ n) ob h1)) hh, ?_, fun ρ ro K hK => hk ρ ro K fun ver => ?_⟩
 ·rw [put_heap']
  refine ⟨by omega, LoopKeep.set ?_, Back.set ?_⟩
  ·rcases hid with rfl | ⟨v, k, e, cs, hg⟩
   ·rw [sch_fresh hsh]; intros; simp
   ·rw [hg]; intros; simp
  ·rcases hid with rfl | ⟨v, k, e, cs, hg⟩
   ·exact .inl (Nat.le_refl _)
   ·exact .inr ⟨_, hg⟩
 ·have := hK (upd ρ n ver) (Agree.upd n ver ρ)
  rw [ren_put] at this
  have e : (⟨s.slots, hset s.heap id n ob⟩ : AS).ren (upd ρ n ver) = ⟨(s.ren ρ).slots, hset (s.ren ρ).heap id ver (ob.ren ρ)⟩ := by
   simp only [AS.ren, renH_set, upd_at]
   rw [← renS_agree (Agree.upd n ver ρ) _ (sc_slots_of hs), ← renH_agree (Agree.upd n ver ρ) _ hsh, ← AObj.ren_agree (Agree.upd n ver ρ) _ h1]
  rw [e] at this
  exact this
end
theorem aparts_ren (ρ : Nat → Nat) (s : AS) : ∀ ps : List (Nat × Operand), aparts (s.ren ρ) ps = (aparts s ps).map (renS ρ)
 | [] => rfl
 | p :: ps => by
  have ih := aparts_ren ρ s ps
  unfold aparts at ih ⊢
  simp only [List.mapM_cons, Option.pure_def, Option.bind_eq_bind]
  rw [ih, ev_ren]
  cases s.ev p.2 with
  | none => rfl
  | some h =>
   simp only [Option.map_some, Option.bind_some]
   cases List.mapM (fun p => Option.map (fun h => (p.fst, h)) (s.ev p.snd)) ps with
   | none => rfl
   | some qs => rfl
theorem afill_ren (ρ : Nat → Nat) (place : Nat → Option (Nat × Nat)) : ∀ (qs : List (Nat × HV)) (cells : List HV), afill place (renS ρ qs) (renL ρ cells) = (afill place qs cells).map (renL ρ)
 | [], cells => rfl
 | (i, h) :: qs, cells => by
  simp only [renS, afill, cells_ren]
  cases place i with
  | none => rfl
  | some p =>
   obtain ⟨off, size⟩ := p
   cases h.cells? with
   | none => rfl
   | some cs =>
    simp only [Option.map_some, renL_len]
    split
    ·rw [← renL_splice, afill_ren ρ place qs]
    ·rfl
theorem consts_ren (ρ : Nat → Nat) : ∀ (vs : List Value) (hs : List HV), vs.mapM constHV = some hs → renL ρ hs = hs
 | [], hs, h => by simp at h; subst h; rfl
 | v :: vs, hs, h => by
  simp only [List.mapM_cons, Option.pure_def, Option.bind_eq_bind, Option.bind_eq_some_iff] at h
  obtain ⟨c, hc, ds, hd, he⟩ := h
  cases he
  have h1 := constHV_ren ρ v
  rw [hc] at h1
  simp only [Option.map_some, Option.some.injEq] at h1
  simp only [renL, h1, consts_ren ρ vs ds hd]
theorem zcells_ren (ρ : Nat → Nat) {z : Value} {zs : List HV} (h : zcells z = some zs) : renL ρ zs = zs := by
 have one : ∀ {v : Value}, (match constHV v with
   | some h => if h.one then some [h] else none
   | none => none) = some zs → renL ρ zs = zs := fun {v} h => by
  have h1 := constHV_ren ρ v
  split at h
  ·rename_i c hc
   rw [hc] at h1
   simp only [Option.map_some, Option.some.injEq] at h1
   split at h
   ·cases h; simp only [renL, h1]
   ·cases h
  ·cases h
 unfold zcells at h
 split at h
 ·split at h
  ·rename_i hs hm
   split at h
   ·cases h; exact consts_ren ρ _ _ hm
   ·cases h
  ·cases h
 ·cases h
 ·exact one h
theorem zrep_ren (ρ : Nat → Nat) {zs : List HV} (h : renL ρ zs = zs) (n : Nat) : renL ρ (zrep zs n) = zrep zs n := by
 induction n with
 | zero => rfl
 | succ n ih =>
  simp only [zrep, List.replicate_succ, List.flatten_cons, renL_append, h] at ih ⊢
  rw [ih]
noncomputable def sslice (T : TypeId → Option TyI) (s : AS) (t : TypeId) (n : Nat) (ps : List (Nat × Operand)) : Option (Nat × TypeId × List HV) :=
 match T t with
 | some ⟨.slice e, _, _, _⟩ => match T e with
  | some U => match zcells U.zero, apartsR s ps with
   | some zs, some qs => guardO (Nat.beq zs.length U.size && Nat.ble (n * U.size) 16777216) (match afill (fun i => some (i * U.size, U.size)) qs (zrep zs n) with
    | some cs => some (U.size, e, cs)
    | none => none)
   | _, _ => none
  | none => none
 | _ => none
def sPlaces (T : TypeId → Option TyI) : List Field → Option (List (Nat × Nat))
 | [] => some []
 | f :: fs => match T f.type, sPlaces T fs with
  | some U, some l => some ((f.offset, U.size) :: l)
  | _, _ => none
noncomputable def sbuild (T : TypeId → Option TyI) (s : AS) (t : TypeId) (ps : List (Nat × Operand)) : Option HV :=
 match T t with
 | some ⟨.struct fs, _, _, z⟩ => match sPlaces T fs.toList, zcells z, apartsR s ps with
  | some pl, some zs, some qs => match afill (fun i => pl[i]?) qs zs with
   | some cs => some (.agg cs)
   | none => none
  | _, _, _ => none
 | _ => none
noncomputable def ssrc (T : TypeId → Option TyI) (s : AS) (xt : TypeId) (k : Nat) (x : HV) : Option (Nat × List HV) :=
 match T xt, x with
 | some ⟨.slice _, _, _, _⟩, .sl k' m cs => guardO (Nat.beq k' k) (some (m, cs))
 | some ⟨.slice _, _, _, _⟩, .ar id ver k' off m => match hgetR s.heap id with
  | some (ver', .arr _ _ cs) => guardO (Nat.beq ver ver' && (Nat.beq k' k && Nat.ble (off + m * k) cs.length)) (some (m, (cs.drop off).take (m * k)))
  | _ => none
 | some ⟨.slice _, _, _, _⟩, .v (.slice none 0 0) => some (0, [])
 | some ⟨.string, _, _, _⟩, .str l => guardO (Nat.beq k 1) (some (l.length, l.map fun b => .int .u8 b.toNat))
 | _, _ => none
noncomputable def sbase (s : AS) (k : Nat) (e : TypeId) (x : HV) : Option (Nat × List HV) :=
 match x with
 | .v (.slice none 0 0) => some (0, [])
 | .ar id ver k' off n => match hgetR s.heap id with
  | some (ver', .arr _ e' cs) => guardO (Nat.beq ver ver' && (Nat.beq k' k && (Nat.beq e' e && (Nat.beq off 0 && Nat.ble (n * k) cs.length)))) (some (n, cs.take (n * k)))
  | _ => none
 | _ => none
section
variable {P : Program} {T : TypeId → Option TyI} {s : AS} {ρ : Nat → Nat}
theorem sslice_sound (hT : TabOk P T) {t : TypeId} {n k : Nat} {e : TypeId} {ps : List (Nat × Operand)} {cs : List HV} {R : Nat → TypeId → List HV → Prop} (h : sslice T s t n ps = some (k, e, cs)) (hr : R k e (renL ρ cs)) : aslice P (s.ren ρ) t n ps R := by
 unfold sslice at h
 simp only [evR_eq, hgetR_eq, hsetR_eq, sgetR_eq, putR_eq, aslR_eq, apartsR_eq] at h
 split at h
 ·rename_i e' _ _ _ ht
  split at h
  ·rename_i U hU
   split at h
   ·rename_i zs qs hz hq
    obtain ⟨hv, h⟩ := guardO_some h
    simp only [Bool.and_eq_true] at hv
    split at h
    ·rename_i cs' hc
     cases h
     have hf := afill_ren ρ (fun i => some (i * U.size, U.size)) qs (zrep zs n)
     rw [hc, zrep_ren ρ (zcells_ren ρ hz)] at hf
     simp only [aslice, hT _ _ ht, hT _ _ hU, hz, aparts_ren, hq, Option.map_some, hf]
     exact ⟨Nat.eq_of_beq_eq_true hv.1, Nat.le_of_ble_eq_true hv.2, hr⟩
    ·cases h
   ·cases h
  ·cases h
 ·cases h
theorem sPlaces_sound (hT : TabOk P T) : ∀ {fs : List Field} {l : List (Nat × Nat)}, sPlaces T fs = some l → placesOf P fs = some l
 | [], l, h => h
 | f :: fs, l, h => by
  simp only [sPlaces] at h
  split at h
  ·rename_i U l' hU hl
   cases h
   simp [placesOf, hT _ _ hU, sPlaces_sound hT hl]
  ·cases h
theorem sbuild_sound (hT : TabOk P T) {t : TypeId} {ps : List (Nat × Operand)} {r : HV} {R : HV → Prop} (h : sbuild T s t ps = some r) (hr : R (r.ren ρ)) : abuild P (s.ren ρ) t ps R := by
 unfold sbuild at h
 simp only [evR_eq, hgetR_eq, hsetR_eq, sgetR_eq, putR_eq, aslR_eq, apartsR_eq] at h
 split at h
 ·rename_i fs _ _ z ht
  split at h
  ·rename_i pl zs qs hpl hz hq
   split at h
   ·rename_i cs hc
    cases h
    have hf := afill_ren ρ (fun i => pl[i]?) qs zs
    rw [hc, zcells_ren ρ hz] at hf
    simp only [abuild, hT _ _ ht, sPlaces_sound hT hpl, hz, aparts_ren, hq, Option.map_some, hf]
    exact hr
   ·cases h
  ·cases h
 ·cases h
theorem bytes_ren (ρ : Nat → Nat) (l : List UInt8) : renL ρ (l.map fun b => HV.int .u8 b.toNat) = l.map fun b => HV.int .u8 b.toNat := by
 induction l with
 | nil => rfl
 | cons b l ih => simp only [List.map_cons, renL, HV.ren, ih]
theorem ssrc_sound (hT : TabOk P T) {xt : TypeId} {k m : Nat} {x : HV} {cs : List HV} (h : ssrc T s xt k x = some (m, cs)) : asrc P (s.ren ρ) xt k (x.ren ρ) fun m' cs' => m' = m ∧ cs' = renL ρ cs := by
 unfold ssrc at h
 simp only [evR_eq, hgetR_eq, hsetR_eq, sgetR_eq, putR_eq, aslR_eq, apartsR_eq] at h
 split at h
 ·rename_i e _ _ _ k' m' cs' ht
  obtain ⟨hv, h⟩ := guardO_some h
  cases h
  simp only [asrc, hT _ _ ht, HV.ren]
  exact ⟨Nat.eq_of_beq_eq_true hv, trivial, trivial⟩
 ·rename_i e _ _ _ id ver k' off m' ht
  split at h
  ·rename_i ver' k2 e2 cs' hg
   obtain ⟨hv, h⟩ := guardO_some h
   cases h
   simp only [Bool.and_eq_true] at hv
   have h1 := Nat.eq_of_beq_eq_true hv.1
   subst h1
   simp only [asrc, hT _ _ ht, HV.ren, hget_s ρ hg, AObj.ren]
   refine ⟨trivial, Nat.eq_of_beq_eq_true hv.2.1, by rw [renL_len]; exact Nat.le_of_ble_eq_true hv.2.2, trivial, ?_⟩
   rw [renL_take, renL_drop]
  ·cases h
 ·rename_i e _ _ _ ht
  cases h
  simp only [asrc, hT _ _ ht, HV.ren]
  exact ⟨trivial, rfl⟩
 ·rename_i _ _ _ l ht
  obtain ⟨hv, h⟩ := guardO_some h
  cases h
  simp only [asrc, hT _ _ ht, HV.ren]
  exact ⟨Nat.eq_of_beq_eq_true hv, trivial, (bytes_ren ρ l).symm⟩
 ·cases h
theorem sbase_sound {e : TypeId} {k m : Nat} {x : HV} {cs : List HV} (h : sbase s k e x = some (m, cs)) : abase (s.ren ρ) k e (x.ren ρ) fun m' cs' => m' = m ∧ cs' = renL ρ cs := by
 unfold sbase at h
 simp only [evR_eq, hgetR_eq, hsetR_eq, sgetR_eq, putR_eq, aslR_eq, apartsR_eq] at h
 split at h
 ·cases h
  simp only [abase, HV.ren]
  exact ⟨trivial, rfl⟩
 ·rename_i id ver k' off m'
  split at h
  ·rename_i ver' k2 e2 cs' hg
   obtain ⟨hv, h⟩ := guardO_some h
   cases h
   simp only [Bool.and_eq_true] at hv
   have h1 := Nat.eq_of_beq_eq_true hv.1
   subst h1
   simp only [abase, HV.ren, hget_s ρ hg, AObj.ren]
   refine ⟨trivial, Nat.eq_of_beq_eq_true hv.2.1, Nat.eq_of_beq_eq_true hv.2.2.1, Nat.eq_of_beq_eq_true hv.2.2.2.1, by rw [renL_len]; exact Nat.le_of_ble_eq_true hv.2.2.2.2, trivial, ?_⟩
   rw [renL_take]
  ·cases h
 ·cases h
end
end Go.AW
namespace Go.AW
open Go
set_option linter.unusedSimpArgs false
structure Tabs where
 ty : TypeId → Option TyI
 fn : FuncId → Option Func
 ext : FuncId → List HV → Option HV
 /-- functions that sort in place: texts (true), numbers (false) -/
 sort : FuncId → Option Bool
 /-- the slots that are read behind a region: by the function's number of slots, and the region's number -/
 keep : Nat → Nat → Option (List Nat)
 /-- known results of functions that change nothing, at arguments that name no owned object -/
 extP : FuncId → List HV → Option HV := fun _ _ => none
structure Tabs.Ok (P : Program) (T : Tabs) : Prop where
 ty : TabOk P T.ty
 fn : ∀ f x, T.fn f = some x → P.funcs[f]? = some x ∧ (x.name == "runtime.NumGoroutine") = false
 ext : ∀ f args r, T.ext f args = some r → Fresh P f args r
 sortS : ∀ f, T.sort f = some true → SortsS P f
 sortI : ∀ f, T.sort f = some false → SortsI P f
 draw : P.follows .mixedOrders = true
 extP : ∀ f args r, T.extP f args = some r → Pure P f args (· = r) := by intro f args r h; cases h
def noIterB (id : Nat) : Heap → Bool
 | [] => true
 | (_, _, .iter m _ _ _) :: H => (!Nat.beq m id) && noIterB id H
 | _ :: H => noIterB id H
def unseen (seen : List (List UInt8)) : List (List UInt8 × HV) → List (List UInt8 × HV)
 | [] => []
 | (k, v) :: es => if k ∈ seen then unseen seen es else (k, v) :: unseen seen es
noncomputable def opBox (o : Oper) (s : AS) (n : Nat) (e : TypeId) (x : Operand) : Option (AS × Nat) := match s.evR x with
  | some hv => match hv.cells? with
   | some cs => new s n o.dst n (.arr cs.length e cs) (.ptr n n 0)
   | none => none
  | none => none
noncomputable def opAlloc (T : Tabs) (o : Oper) (s : AS) (n : Nat) (e : TypeId) : Option (AS × Nat) := match T.ty e with
  | some U => match zcells U.zero with
   | some zs => new s n o.dst n (.arr zs.length e zs) (.ptr n n 0)
   | none => none
  | none => none
noncomputable def opStore (T : Tabs) (o : Oper) (s : AS) (n : Nat) (t : TypeId) (x y : Operand) : Option (AS × Nat) := match s.evR x, s.evR y, T.ty t with
  | some (.ptr id ver off), some hv, some U => match hv.cells?, hgetR s.heap id with
   | some cs, some (ver', .arr k e xs) => guardO (Nat.beq ver ver' && (Nat.beq U.size cs.length && Nat.ble (off + cs.length) xs.length))
     (guardO (scL n (splice xs off cs)) (some (({ s with heap := hsetR s.heap id ver (.arr k e (splice xs off cs)) } : AS).putR o.dst (.v undef), n)))
   | _, _ => none
  | _, _, _ => none
noncomputable def opBuildSlice (T : Tabs) (o : Oper) (s : AS) (n : Nat) (t : TypeId) (m : Nat) (ps : Array (Nat × Operand)) : Option (AS × Nat) := guardO (Nat.ble m 16777216) (match sslice T.ty s t m ps.toList with
  | some (k, e, cs) => new s n o.dst n (.arr k e cs) (.ar n n k 0 m)
  | none => none)
noncomputable def opMakeSlice (T : Tabs) (o : Oper) (s : AS) (n : Nat) (t : TypeId) (x y : Operand) : Option (AS × Nat) := match T.ty t, s.evR x, s.evR y with
  | some ⟨.slice e, _, _, _⟩, some (.int .i64 l), some (.int .i64 c) => match T.ty e with
   | some Te => match zcells Te.zero with
    | some zs => guardO (Nat.beq zs.length Te.size && decide (0 ≤ l ∧ l ≤ c ∧ c * Te.bytes ≤ 281474976710656)) (new s n o.dst n (.arr Te.size e (zrep zs l.toNat)) (.ar n n Te.size 0 l.toNat))
    | none => none
   | none => none
  | _, _, _ => none
noncomputable def opAppend (T : Tabs) (o : Oper) (s : AS) (n : Nat) (aa : Array Operand) (ts : Array TypeId) : Option (AS × Nat) := match aa.toList, ts.toList with
  | [x, y], [t, xt] => match T.ty t, s.evR x, s.evR y with
   | some ⟨.slice e, _, _, _⟩, some hx, some hy => match T.ty e with
    | some Te => match sbase s Te.size e hx, ssrc T.ty s xt Te.size hy with
     | some (m, cs), some (m', ds) => guardO ((zcells Te.zero).any (fun zs => zs.length == Te.size) && (Nat.ble ((m + m') * Te.bytes) 140737488355328 && Nat.ble (m + m') maxLen))
       (new s n o.dst (baseId hx n) (.arr Te.size e (cs ++ ds)) (.ar (baseId hx n) n Te.size 0 (m + m')))
     | _, _ => none
    | none => none
   | _, _, _ => none
  | _, _ => none
noncomputable def opClear (T : Tabs) (o : Oper) (s : AS) (n : Nat) (aa : Array Operand) (ts : Array TypeId) : Option (AS × Nat) := match aa.toList, ts.toList with
  | [x], [t] => match T.ty t, s.evR x with
   | some ⟨.slice e, _, _, _⟩, some (.ar id ver _ off n') => match T.ty e, hgetR s.heap id with
    | some Te, some (ver', .arr k' e' xs) => match zcells Te.zero with
     | some [z] => guardO (Nat.beq ver ver' && Nat.ble (off + n') xs.length) (guardO (scL n (xs.take off ++ List.replicate n' z ++ xs.drop (off + n')))
       (some (({ s with heap := hsetR s.heap id ver (.arr k' e' (xs.take off ++ List.replicate n' z ++ xs.drop (off + n'))) } : AS).putR o.dst (.tup []), n)))
     | _ => none
    | _, _ => none
   | _, _ => none
  | _, _ => none
noncomputable def opCopy (T : Tabs) (o : Oper) (s : AS) (n : Nat) (aa : Array Operand) (ts : Array TypeId) : Option (AS × Nat) := match aa.toList, ts.toList with
  | [x, y], [t, xt] => match T.ty t, s.evR x, s.evR y with
   | some ⟨.slice e, _, _, _⟩, some (.ar id ver _ off n'), some hy => match T.ty e, hgetR s.heap id with
    | some Te, some (ver', .arr k' e' xs) => match ssrc T.ty s xt Te.size hy with
     | some (m, ds) => guardO (Nat.beq ver ver' && (!isStr hy && Nat.ble (off + n' * Te.size) xs.length)) (guardO (scL n (xs.take off ++ ds.take (min m n' * Te.size) ++ xs.drop (off + min m n' * Te.size)))
       (some (({ s with heap := hsetR s.heap id ver (.arr k' e' (xs.take off ++ ds.take (min m n' * Te.size) ++ xs.drop (off + min m n' * Te.size))) } : AS).putR o.dst (.int .i64 ((min m n' : Nat) : Int)), n)))
     | none => none
    | _, _ => none
   | _, _, _ => none
  | _, _ => none
noncomputable def opCall (r : Task → Option Out) (o : Oper) (s : AS) (n : Nat) (f : Operand) (aa : Array Operand) : Option (AS × Nat) := match s.evR f, aa.toList.mapM s.evR with
  | some (.fn (.func g) fs cs), some hs => guardO (scL n (fs ++ hs ++ cs)) (match r (.call g (fs ++ hs ++ cs) s.heap n) with
   | some (.call rv H n') => some (({ s with heap := H } : AS).putR o.dst rv, n')
   | _ => none)
  | some (.yl id ver), some hs => match hgetR s.heap id with
   | some (ver', .loop .ready none f m snap ps assign body) => guardO (Nat.beq ver ver' && (Nat.beq ps.size hs.length && (ps.toList.all fun p => Nat.blt p m))) (guardO (scS n (setPs snap ps.toList hs))
     (match r (.code false m assign ⟨setPs snap ps.toList hs, s.heap⟩ n) with
     | some (.code .normal s1 n1) => match hgetR s1.heap id with
      | some (_, .loop .ready none _ _ _ _ _ _) => match r (.code false m body { s1 with heap := hsetR s1.heap id ver (.loop .busy none f m snap ps assign body) } n1) with
       | some (.code e s2 n2) => match hgetR s2.heap id with
        | some (_, .loop .busy none _ _ _ _ _ _) => match e with
         | .normal => some (({ s with heap := hsetR s2.heap id ver (.loop .ready none f m snap ps assign body) } : AS).putR o.dst (.bool true), n2)
         | .ret => some (({ s with heap := hsetR s2.heap id ver (.loop .done (some .ret) f m snap ps assign body) } : AS).putR o.dst (.bool false), n2)
         | .exit i => some (({ s with heap := hsetR s2.heap id ver (.loop .done (some (.exit i)) f m snap ps assign body) } : AS).putR o.dst (.bool false), n2)
         | _ => none
        | _ => none
       | _ => none
      | _ => none
     | _ => none))
   | _ => none
  | _, _ => none
noncomputable def opBuild (T : Tabs) (o : Oper) (s : AS) (n : Nat) (t : TypeId) (ps : Array (Nat × Operand)) : Option (AS × Nat) := match sbuild T.ty s t ps.toList with
  | some r => fin s n o.dst r
  | none => none
noncomputable def opMapUpdate (T : Tabs) (o : Oper) (s : AS) (n : Nat) (t : TypeId) (m x y : Operand) : Option (AS × Nat) := match T.ty t, s.evR m, s.evR x, s.evR y with
  | some ⟨.map kt _, _, _, _⟩, some (.mp id ver), some (.str k), some hv => match T.ty kt, hgetR s.heap id with
   | some ⟨.string, _, _, _⟩, some (ver', .map es) => guardO (Nat.beq ver ver' && noIterB id s.heap) (guardO (scE n (mput k hv es))
     (some (({ s with heap := hsetR s.heap id ver (.map (mput k hv es)) } : AS).putR o.dst (.v undef), n)))
   | _, _ => none
  | _, _, _, _ => none
noncomputable def opLookup (T : Tabs) (o : Oper) (s : AS) (n : Nat) (t : TypeId) (m x : Operand) : Option (AS × Nat) := match T.ty t, s.evR m, s.evR x with
  | some ⟨.map kt et, _, _, _⟩, some (.mp id ver), some (.str k) => match T.ty kt, T.ty et, hgetR s.heap id with
   | some ⟨.string, _, _, _⟩, some Te, some (ver', .map es) => match constHV Te.zero with
    | some z => guardO (Nat.beq ver ver') (fin s n o.dst ((alook k es).getD z))
    | none => none
   | _, _, _ => none
  | _, _, _ => none
noncomputable def opRange (T : Tabs) (o : Oper) (s : AS) (n : Nat) (t : TypeId) (m : Operand) : Option (AS × Nat) := match T.ty t, s.evR m with
  | some ⟨.map _ _, _, _, _⟩, some (.mp mid mver) => match hgetR s.heap mid with
   | some (mver', .map _) => guardO (Nat.beq mver mver') (new s n o.dst n (.iter mid mver [] false) (.it n n))
   | _ => none
  | _, _ => none
noncomputable def opNext (o : Oper) (s : AS) (n : Nat) (x : Operand) : Option (AS × Nat) := match s.evR x with
  | some (.it id ver) => match hgetR s.heap id with
   | some (ver', .iter mid mver seen _) => match hgetR s.heap mid with
    | some (mver', .map es) => guardO (Nat.beq ver ver' && Nat.beq mver mver') (match unseen seen es with
     | [] => fin s n o.dst (.tup [.bool false])
     | [(k, v)] => guardO (v.sc n) (some (({ s with heap := hsetR s.heap id ver (.iter mid mver (k :: seen) true) } : AS).putR o.dst (.tup [.bool true, .str k, v]), n))
     | _ => none)
    | _ => none
   | _ => none
  | _ => none
noncomputable def opEntry (o : Oper) (s : AS) (n : Nat) (x : Operand) : Option (AS × Nat) := match s.evR x with
  | some (.it id ver) => match hgetR s.heap id with
   | some (ver', .iter mid mver (k :: _) true) => match hgetR s.heap mid with
    | some (mver', .map es) => guardO (Nat.beq ver ver' && Nat.beq mver mver') (match alook k es with
     | some v => fin s n o.dst (.tup [.str k, v])
     | none => none)
    | _ => none
   | _ => none
  | _ => none
noncomputable def sop (r : Task → Option Out) (T : Tabs) (o : Oper) (s : AS) (n : Nat) : Option (AS × Nat) :=
 match o.op with
 | .box e x => opBox o s n e x
 | .alloc e => opAlloc T o s n e
 | .store t x y => opStore T o s n t x y
 | .buildSlice t m ps => opBuildSlice T o s n t m ps
 | .makeSlice t x y => opMakeSlice T o s n t x y
 | .call ⟨.builtin .append, aa, ts⟩ => opAppend T o s n aa ts
 | .call ⟨.builtin .clear, aa, ts⟩ => opClear T o s n aa ts
 | .call ⟨.builtin .copy, aa, ts⟩ => opCopy T o s n aa ts
 | .call ⟨.value f, aa, _⟩ => opCall r o s n f aa
 | .build t ps => opBuild T o s n t ps
 | .makeMap _ none => new s n o.dst n (.map []) (.mp n n)
 | .mapUpdate t m x y => opMapUpdate T o s n t m x y
 | .insert t m x y => opMapUpdate T o s n t m x y
 | .lookup t m x false => opLookup T o s n t m x
 | .range t m => opRange T o s n t m
 | .next x false => opNext o s n x
 | .entry x => opEntry o s n x
 | op => match sval T.ty op s with
  | some h => fin s n o.dst h
  | none => none
theorem alook_ren (ρ : Nat → Nat) (k : List UInt8) : ∀ es, alook k (renE ρ es) = (alook k es).map (HV.ren ρ)
 | [] => rfl
 | (q, h) :: es => by
  simp only [renE, alook]
  split
  ·rfl
  ·exact alook_ren ρ k es
theorem mput_ren (ρ : Nat → Nat) (k : List UInt8) (h : HV) : ∀ es, renE ρ (mput k h es) = mput k (h.ren ρ) (renE ρ es)
 | [] => rfl
 | (q, g) :: es => by
  simp only [renE, mput]
  split
  ·rfl
  ·simp only [renE, mput_ren ρ k h es]
theorem noIterB_sound {id : Nat} {ρ : Nat → Nat} : ∀ {H : Heap}, noIterB id H = true → noIter id (renH ρ H)
 | [], _ => trivial
 | (i, v, .iter m mv seen cur) :: H, h => by
  simp only [noIterB, Bool.and_eq_true] at h
  refine ⟨fun e => ?_, noIterB_sound h.2⟩
  subst e
  simp at h
 | (i, v, .arr _ _ _) :: H, h => noIterB_sound (H := H) h
 | (i, v, .map _) :: H, h => noIterB_sound (H := H) h
 | (i, v, .loop _ _ _ _ _ _ _ _) :: H, h => noIterB_sound (H := H) h
 | (i, v, .kmap _) :: H, h => noIterB_sound (H := H) h
theorem mem_renE {ρ : Nat → Nat} {k : List UInt8} {v : HV} : ∀ {es : List (List UInt8 × HV)}, (k, v) ∈ renE ρ es → ∃ u, (k, u) ∈ es ∧ v = u.ren ρ
 | [], h => by cases h
 | (q, g) :: es, h => by
  simp only [renE, List.mem_cons] at h
  rcases h with h | h
  ·cases h; exact ⟨g, List.mem_cons_self .., rfl⟩
  ·obtain ⟨u, h1, h2⟩ := mem_renE h
   exact ⟨u, List.mem_cons_of_mem _ h1, h2⟩
theorem mem_renE' {ρ : Nat → Nat} {k : List UInt8} {u : HV} : ∀ {es : List (List UInt8 × HV)}, (k, u) ∈ es → (k, u.ren ρ) ∈ renE ρ es
 | [], h => by cases h
 | (q, g) :: es, h => by
  simp only [renE, List.mem_cons] at h ⊢
  rcases h with h | h
  ·cases h; exact .inl rfl
  ·exact .inr (mem_renE' h)
theorem mem_unseen {seen : List (List UInt8)} {k : List UInt8} {v : HV} : ∀ {es : List (List UInt8 × HV)}, (k, v) ∈ unseen seen es ↔ (k, v) ∈ es ∧ k ∉ seen
 | [] => by simp [unseen]
 | (q, g) :: es => by
  simp only [unseen]
  split
  ·rename_i hq
   rw [mem_unseen (es := es)]
   simp only [List.mem_cons]
   constructor
   ·exact fun h => ⟨.inr h.1, h.2⟩
   ·rintro ⟨h | h, h2⟩
    ·cases h; exact absurd hq h2
    ·exact ⟨h, h2⟩
  ·rename_i hq
   simp only [List.mem_cons, mem_unseen (es := es)]
   constructor
   ·rintro (h | h)
    ·cases h; exact ⟨.inl rfl, hq⟩
    ·exact ⟨.inr h.1, h.2⟩
   ·rintro ⟨h | h, h2⟩
    ·exact .inl h
    ·exact .inr ⟨h, h2⟩
section
variable {P : Program} {T : Tabs} {N n n' : Nat} {o : Oper} {s s' : AS} {r : Task → Option Out}
theorem set_ok {id ver : Nat} {x ob : AObj} {h : HV} (hs : s.sc n = true) (hg : hget s.heap id = some (ver, x)) (hx : ∀ st pend f n snap ps a b, x ≠ .loop st pend f n snap ps a b) (ho : ob.sc n = true) (hh : h.sc n = true)
  (hk : ∀ (ρ : Nat → Nat) (ro : Option Nat) (K : AS → Prop), K ((⟨(s.ren ρ).slots, hset (s.ren ρ).heap id (ρ ver) (ob.ren ρ)⟩ : AS).put o.dst (h.ren ρ)) → AOp P ro N o K (s.ren ρ)) :
  OpOk P N o s n (({ s with heap := hset s.heap id ver ob } : AS).put o.dst h) n := by
 have hl := sch_get (sc_heap_of hs) hg
 refine ⟨sc_put (sc_heap hs hl.1.1 hl.1.2 ho) hh, ?_, fun ρ ro K hK => hk ρ ro K ?_⟩
 ·rw [put_heap']
  exact ⟨Nat.le_refl _, LoopKeep.set fun v st pend f n snap ps a b e => by rw [hg] at e; cases e; exact hx _ _ _ _ _ _ _ _ rfl, Back.set (.inr ⟨_, hg⟩)⟩
 ·have := hK ρ (Agree.refl _ _)
  rw [ren_put] at this
  simpa only [AS.ren, renH_set] using this
theorem evL_sc {xs : List Operand} {hs : List HV} (h : xs.mapM s.ev = some hs) (ρ : Nat → Nat) : xs.mapM (s.ren ρ).ev = some (renL ρ hs) := by rw [evL_ren, h]; rfl
theorem setPs_ren (ρ : Nat → Nat) : ∀ (ps : List Tmp) (snap : List (Nat × HV)) (hs : List HV), renS ρ (setPs snap ps hs) = setPs (renS ρ snap) ps (renL ρ hs)
 | [], snap, hs => by simp [setPs]
 | p :: ps, snap, [] => by simp [setPs, renL]
 | p :: ps, snap, h :: hs => by simp only [setPs, renL, setPs_ren ρ ps, renS_set]
theorem sval_ok (hT : T.Ok P) (hN : okd N o.dst = true) (hs : s.sc n = true) (h : (match sval T.ty o.op s with
  | some h => fin s n o.dst h
  | none => none) = some (s', n')) : OpOk P N o s n s' n' := by
 split at h
 ·rename_i hv hev
  exact fin_ok hs h fun ρ ro K hK => AOp.pure hN (sval_sound hT.ty hev hK)
 ·cases h
theorem yield_ok (hr : Good P r) (hN : okd N o.dst = true) (hs : s.sc n = true) {c : Call} {g : Operand} {id ver : Nat} {hs' : List HV} (hop : o.op = .call c) (hc : c.callee = .value g) (hg : s.ev g = some (.yl id ver)) (ha : c.args.toList.mapM s.ev = some hs')
    (h : (match hget s.heap id with
      | some (ver', .loop .ready none f m snap ps assign body) => guardO (Nat.beq ver ver' && (Nat.beq ps.size hs'.length && (ps.toList.all fun p => Nat.blt p m))) (guardO (scS n (setPs snap ps.toList hs'))
          (match r (.code false m assign ⟨setPs snap ps.toList hs', s.heap⟩ n) with
          | some (.code .normal s1 n1) => match hget s1.heap id with
            | some (_, .loop .ready none _ _ _ _ _ _) => match r (.code false m body { s1 with heap := hset s1.heap id ver (.loop .busy none f m snap ps assign body) } n1) with
              | some (.code e s2 n2) => match hget s2.heap id with
                | some (_, .loop .busy none _ _ _ _ _ _) => match e with
                  | .normal => some (({ s with heap := hset s2.heap id ver (.loop .ready none f m snap ps assign body) } : AS).put o.dst (.bool true), n2)
                  | .ret => some (({ s with heap := hset s2.heap id ver (.loop .done (some .ret) f m snap ps assign body) } : AS).put o.dst (.bool false), n2)
                  | .exit i => some (({ s with heap := hset s2.heap id ver (.loop .done (some (.exit i)) f m snap ps assign body) } : AS).put o.dst (.bool false), n2)
                  | _ => none
                | _ => none
              | _ => none
            | _ => none
          | _ => none))
      | _ => none) = some (s', n')) : OpOk P N o s n s' n' := by
  have hsh := sc_heap_of hs
  split at h
  · rename_i ver' f m snap ps assign body hgl
    replace h := guardO_some h
    obtain ⟨h1, h⟩ := h
    replace h := guardO_some h
    obtain ⟨h2, h⟩ := h
    simp only [Bool.and_eq_true, List.all_eq_true] at h1
    have hv := Nat.eq_of_beq_eq_true h1.1
    subst hv
    have hps := Nat.eq_of_beq_eq_true h1.2.1
    have hpm : ∀ p ∈ ps.toList, p < m := fun p hp => blt_lt (h1.2.2 p hp)
    have hlsc := sch_get hsh hgl
    split at h
    · rename_i s1 n1 hr1
      obtain ⟨hs1, st1, hw1⟩ := hr _ _ hr1 (by simp only [AS.sc, h2, hsh, Bool.and_self])
      split at h
      · rename_i v1 f1 m1 snap1 ps1 as1 bd1 hg1
        obtain ⟨_, _, he1⟩ := st1.loop _ _ _ _ _ _ _ _ _ _ hgl _ hg1
        cases he1
        have hlsc1 := sch_get (sc_heap_of hs1) hg1
        have hsb : ({ s1 with heap := hset s1.heap id ver (.loop .busy none f m snap ps assign body) } : AS).sc n1 = true := sc_heap hs1 hlsc1.1.1 hlsc1.1.2 hlsc1.2
        split at h
        · rename_i e s2 n2 hr2
          obtain ⟨hs2, st2, hw2⟩ := hr _ _ hr2 hsb
          have stb : Step n1 n1 s1.heap (hset s1.heap id ver (.loop .busy none f m snap ps assign body)) := ⟨Nat.le_refl _, LoopKeep.setL hg1, Back.set (.inr ⟨_, hg1⟩)⟩
          have st12 := (st1.trans hsh stb).trans hsh st2
          split at h
          · rename_i v2 f2 m2 snap2 ps2 as2 bd2 hg2
            obtain ⟨_, _, he2⟩ := st12.loop _ _ _ _ _ _ _ _ _ _ hgl _ hg2
            cases he2
            have hlsc2 := sch_get (sc_heap_of hs2) hg2
            -- what a round comes to
            have done : ∀ (st : LoopState) (pend : Option Code) (b : Bool), (∀ (ρ' : Nat → Nat) (K : HV → Heap → Prop) (e' : Exit), e' = e →
                  K (.bool b) (hset (s2.ren ρ').heap id (ρ' ver) (.loop st pend (ρ' f) m (renS ρ' snap) ps assign body)) → rndQ id (ρ' ver) (ρ' f) m (renS ρ' snap) ps assign body K e' (s2.ren ρ')) →
                OpOk P N o s n (({ s with heap := hset s2.heap id ver (.loop st pend f m snap ps assign body) } : AS).put o.dst (.bool b)) n2 := by
              intro st pend b hq
              have hsn : ({ s with heap := hset s2.heap id ver (.loop st pend f m snap ps assign body) } : AS).sc n2 = true := by
                have := scS_mono st12.le _ (sc_slots_of hs)
                have h3 := scH_set _ id ver (.loop st pend f m snap ps assign body) (sc_heap_of hs2) hlsc2.1.1 hlsc2.1.2 hlsc2.2
                simp only [AS.sc, this, h3, Bool.and_self]
              refine ⟨sc_put hsn rfl, ?_, fun ρ ro K hK => ?_⟩
              · rw [put_heap']
                exact st12.trans hsh ⟨Nat.le_refl _, LoopKeep.setL hg2, Back.set (.inr ⟨_, hg2⟩)⟩
              · have hg' : (s.ren ρ).ev g = some (.yl id (ρ ver)) := by rw [ev_ren, hg]; rfl
                refine AOp.yield hop hc hN hg' (evL_sc ha ρ) ?_
                refine ⟨ρ f, m, renS ρ snap, ps, assign, body, hget_s ρ hgl, by rw [renL_len]; exact hps, hpm, fun l => ?_⟩
                have e0 : (⟨setPs (renS ρ snap) ps.toList (renL ρ hs'), (s.ren ρ).heap⟩ : AS) = (⟨setPs snap ps.toList hs', s.heap⟩ : AS).ren ρ := by simp only [AS.ren, setPs_ren]
                rw [e0]
                refine hw1 ρ (some l) _ (fun h => by cases h) fun ρ1 ha1 => ⟨rfl, ?_, ?_⟩
                · have := hget_s ρ1 hg1
                  simp only [AObj.ren] at this
                  rw [this, ha1 ver hlsc.1.2]
                  have h4 := hlsc.2
                  simp only [AObj.sc, Bool.and_eq_true] at h4
                  rw [ha1 f (blt_lt h4.1), renS_agree ha1 _ h4.2]
                · have h4 := hlsc.2
                  simp only [AObj.sc, Bool.and_eq_true] at h4
                  have e1 : ({ s1.ren ρ1 with heap := hset (s1.ren ρ1).heap id (ρ ver) (.loop .busy none (ρ f) m (renS ρ snap) ps assign body) } : AS) = ({ s1 with heap := hset s1.heap id ver (.loop .busy none f m snap ps assign body) } : AS).ren ρ1 := by
                    simp only [AS.ren, renH_set, AObj.ren]
                    rw [ha1 ver hlsc.1.2, ha1 f (blt_lt h4.1), renS_agree ha1 _ h4.2]
                  rw [e1]
                  refine hw2 ρ1 (some l) _ (fun h => by cases h) fun ρ2 ha2 => ?_
                  have ha02 : Agree n ρ ρ2 := ha1.trans st1.le ha2
                  rw [ha02 ver hlsc.1.2, ha02 f (blt_lt h4.1), renS_agree ha02 _ h4.2]
                  refine hq ρ2 _ e rfl ?_
                  have := hK ρ2 ha02
                  rw [ren_put] at this
                  have e2 : ({ s with heap := hset s2.heap id ver (.loop st pend f m snap ps assign body) } : AS).ren ρ2 = { s.ren ρ with heap := hset (s2.ren ρ2).heap id (ρ2 ver) (.loop st pend (ρ2 f) m (renS ρ2 snap) ps assign body) } := by
                    simp only [AS.ren, renH_set, AObj.ren]
                    rw [renS_agree ha02 _ (sc_slots_of hs)]
                  rw [e2] at this
                  exact this
            have hgb : ∀ ρ' : Nat → Nat, hget (s2.ren ρ').heap id = some (ρ' ver, .loop .busy none (ρ' f) m (renS ρ' snap) ps assign body) := fun ρ' => hget_s ρ' hg2
            split at h
            · cases h
              exact done _ _ _ fun ρ' K e' he hK => by subst he; exact ⟨hgb ρ', hK⟩
            · cases h
              exact done _ _ _ fun ρ' K e' he hK => by subst he; exact ⟨hgb ρ', hK⟩
            · cases h
              exact done _ _ _ fun ρ' K e' he hK => by subst he; exact ⟨hgb ρ', hK⟩
            · cases h
          · cases h
        · cases h
      · cases h
    · cases h
  · cases h
theorem sop_ok (hT : T.Ok P) (hr : Good P r) (hN : okd N o.dst = true) (hs : s.sc n = true) (h : sop r T o s n = some (s', n')) : OpOk P N o s n s' n' := by
 have hsh := sc_heap_of hs
 have self : ∀ m, Nat.blt m (m + 1) = true := fun m => by simp [Nat.blt_eq]
 unfold sop at h
 split at h
 ·-- box
  rename_i e x hop
  unfold opBox at h
  try simp only [evR_eq, hgetR_eq, hsetR_eq, sgetR_eq, putR_eq, aslR_eq, apartsR_eq] at h
  split at h
  ·rename_i hv hx
   split at h
   ·rename_i cs hcs
    refine new_ok (ob := .arr cs.length e cs) (h := .ptr n n 0) hs (.inl rfl) (self n) h fun ρ ro K hK => ?_
    have h1 : (s.ren ρ).ev x = some (hv.ren ρ) := by rw [ev_ren, hx]; rfl
    have h2 : (hv.ren ρ).cells? = some (renL ρ cs) := by rw [cells_ren, hcs]; rfl
    refine AOp.boxM n hop hN h1 h2 fun ver => ?_
    have := hK ver
    simp only [HV.ren, upd_at, AObj.ren] at this
    rw [renL_len]
    exact this
   ·cases h
  ·cases h
 ·-- alloc
  rename_i e hop
  unfold opAlloc at h
  try simp only [evR_eq, hgetR_eq, hsetR_eq, sgetR_eq, putR_eq, aslR_eq, apartsR_eq] at h
  split at h
  ·rename_i U hU
   split at h
   ·rename_i zs hz
    refine new_ok (ob := .arr zs.length e zs) (h := .ptr n n 0) hs (.inl rfl) (self n) h fun ρ ro K hK => ?_
    refine AOp.alloc n hop hN (hT.ty _ _ hU) hz fun ver => ?_
    have := hK ver
    simp only [HV.ren, upd_at, AObj.ren, zcells_ren ρ hz] at this
    exact this
   ·cases h
  ·cases h
 ·-- store
  rename_i t x y hop
  unfold opStore at h
  try simp only [evR_eq, hgetR_eq, hsetR_eq, sgetR_eq, putR_eq, aslR_eq, apartsR_eq] at h
  split at h
  ·rename_i id ver off hv U hx hy hU
   split at h
   ·rename_i cs ver' k e xs hcs hg
    replace h := guardO_some h
    obtain ⟨h1, h⟩ := h
    replace h := guardO_some h
    obtain ⟨h2, h⟩ := h
    cases h
    simp only [Bool.and_eq_true] at h1
    have hv' := Nat.eq_of_beq_eq_true h1.1
    subst hv'
    refine set_ok (x := .arr k e xs) hs hg (by intros; simp) h2 rfl fun ρ ro K hK => ?_
    have e1 : (s.ren ρ).ev x = some (.ptr id (ρ ver) off) := by rw [ev_ren, hx]; rfl
    have e2 : (s.ren ρ).ev y = some (hv.ren ρ) := by rw [ev_ren, hy]; rfl
    have e3 : (hv.ren ρ).cells? = some (renL ρ cs) := by rw [cells_ren, hcs]; rfl
    refine AOp.store hop hN e1 e2 e3 (hget_s ρ hg) (hT.ty _ _ hU) (by rw [renL_len]; exact Nat.eq_of_beq_eq_true h1.2.1) (by rw [renL_len, renL_len]; exact Nat.le_of_ble_eq_true h1.2.2) ?_
    simp only [AObj.ren, renL_splice] at hK
    exact hK
   ·cases h
  ·cases h
 ·-- buildSlice
  rename_i t m ps hop
  unfold opBuildSlice at h
  try simp only [evR_eq, hgetR_eq, hsetR_eq, sgetR_eq, putR_eq, aslR_eq, apartsR_eq] at h
  replace h := guardO_some h
  obtain ⟨h1, h⟩ := h
  split at h
  ·rename_i k e cs hsl
   refine new_ok (ob := .arr k e cs) (h := .ar n n k 0 m) hs (.inl rfl) (self n) h fun ρ ro K hK => ?_
   refine AOp.buildSliceM n hop hN (Nat.le_of_ble_eq_true h1) (sslice_sound hT.ty hsl fun ver => ?_)
   have := hK ver
   simp only [HV.ren, upd_at, AObj.ren] at this
   exact this
  ·cases h
 ·-- makeSlice
  rename_i t x y hop
  unfold opMakeSlice at h
  try simp only [evR_eq, hgetR_eq, hsetR_eq, sgetR_eq, putR_eq, aslR_eq, apartsR_eq] at h
  split at h
  ·rename_i e sz by' z l c hU hx hy
   split at h
   ·rename_i Te hTe
    split at h
    ·rename_i zs hz
     replace h := guardO_some h
     obtain ⟨h1, h⟩ := h
     simp only [Bool.and_eq_true] at h1
     obtain ⟨h2, h3, h4⟩ := of_decide_eq_true h1.2
     refine new_ok (ob := .arr Te.size e (zrep zs l.toNat)) (h := .ar n n Te.size 0 l.toNat) hs (.inl rfl) (self n) h fun ρ ro K hK => ?_
     have e1 : (s.ren ρ).ev x = some (.int .i64 l) := by rw [ev_ren, hx]; rfl
     have e2 : (s.ren ρ).ev y = some (.int .i64 c) := by rw [ev_ren, hy]; rfl
     refine AOp.makeSlice (k1 := .i64) (k2 := .i64) n hop hN (hT.ty _ _ hU) rfl (hT.ty _ _ hTe) hz (Nat.eq_of_beq_eq_true h1.1) e1 e2 h2 h3 h4 fun ver => ?_
     have := hK ver
     simp only [HV.ren, upd_at, AObj.ren, zrep_ren ρ (zcells_ren ρ hz)] at this
     exact this
    ·cases h
   ·cases h
  ·cases h
 ·-- append
  rename_i aa ts hop
  unfold opAppend at h
  try simp only [evR_eq, hgetR_eq, hsetR_eq, sgetR_eq, putR_eq, aslR_eq, apartsR_eq] at h
  split at h
  ·rename_i x y t xt ha ht
   split at h
   ·rename_i e sz by' z hx hy hU hex hey
    split at h
    ·rename_i Te hTe
     split at h
     ·rename_i m cs m' ds hb hsr
      replace h := guardO_some h
      obtain ⟨h1, h⟩ := h
      simp only [Bool.and_eq_true] at h1
      have has : aa = #[x, y] := Array.toList_inj.1 (by simpa using ha)
      have hts : ts = #[t, xt] := Array.toList_inj.1 (by simpa using ht)
      subst has hts
      have hid : baseId hx n = n ∨ ∃ v k e' cs', hget s.heap (baseId hx n) = some (v, .arr k e' cs') := by
       unfold sbase at hb
       rw [hgetR_eq] at hb
       split at hb
       ·exact .inl rfl
       ·rename_i id ver k' off n2
        split at hb
        ·rename_i ver' k2 e2 cs2 hg
         exact .inr ⟨_, _, _, _, hg⟩
        ·cases hb
       ·cases hb
      refine new_ok (ob := .arr Te.size e (cs ++ ds)) (h := .ar (baseId hx n) n Te.size 0 (m + m')) hs hid (self n) h fun ρ ro K hK => ?_
      have e1 : (s.ren ρ).ev x = some (hx.ren ρ) := by rw [ev_ren, hex]; rfl
      have e2 : (s.ren ρ).ev y = some (hy.ren ρ) := by rw [ev_ren, hey]; rfl
      have e3 : baseId (hx.ren ρ) n = baseId hx n := by cases hx <;> rfl
      refine AOp.append n hop hN (hT.ty _ _ hU) rfl (hT.ty _ _ hTe) h1.1 e1 e2 (sbase_sound hb) (ssrc_sound hT.ty hsr) (Nat.le_of_ble_eq_true h1.2.1) (Nat.le_of_ble_eq_true h1.2.2) fun ver => ?_
      rw [e3]
      have := hK ver
      simp only [HV.ren, upd_at, AObj.ren, renL_append] at this
      exact this
     ·cases h
    ·cases h
   ·cases h
  ·cases h
 ·-- clear
  rename_i aa ts hop
  unfold opClear at h
  try simp only [evR_eq, hgetR_eq, hsetR_eq, sgetR_eq, putR_eq, aslR_eq, apartsR_eq] at h
  split at h
  ·rename_i x t ha ht
   split at h
   ·rename_i e sz by' z id ver k off m hU hx
    split at h
    ·rename_i Te ver' k' e' xs hTe hg
     split at h
     ·rename_i z' hz
      replace h := guardO_some h
      obtain ⟨h1, h⟩ := h
      replace h := guardO_some h
      obtain ⟨h2, h⟩ := h
      cases h
      simp only [Bool.and_eq_true] at h1
      have hv' := Nat.eq_of_beq_eq_true h1.1
      subst hv'
      have has : aa = #[x] := Array.toList_inj.1 (by simpa using ha)
      have hts : ts = #[t] := Array.toList_inj.1 (by simpa using ht)
      subst has hts
      refine set_ok (x := .arr k' e' xs) hs hg (by intros; simp) h2 rfl fun ρ ro K hK => ?_
      have e1 : (s.ren ρ).ev x = some (.ar id (ρ ver) k off m) := by rw [ev_ren, hx]; rfl
      refine AOp.clear hop hN (hT.ty _ _ hU) rfl (hT.ty _ _ hTe) hz e1 (hget_s ρ hg) (by rw [renL_len]; exact Nat.le_of_ble_eq_true h1.2) ?_
      have hzr : z'.ren ρ = z' := by
       have := zcells_ren ρ hz
       simp only [renL, List.cons.injEq, and_true] at this
       exact this
      have hrr : renL ρ (List.replicate m z') = List.replicate m z' := by rw [renL_map, List.map_replicate, hzr]
      simp only [AObj.ren, renL_append, renL_take, renL_drop, hrr] at hK
      exact hK
     ·cases h
    ·cases h
   ·cases h
  ·cases h
 ·-- copy
  rename_i aa ts hop
  unfold opCopy at h
  try simp only [evR_eq, hgetR_eq, hsetR_eq, sgetR_eq, putR_eq, aslR_eq, apartsR_eq] at h
  split at h
  ·rename_i x y t xt ha ht
   split at h
   ·rename_i e sz by' z id ver k off m' hy hU hex hey
    split at h
    ·rename_i Te ver' k' e' xs hTe hg
     split at h
     ·rename_i m ds hsr
      replace h := guardO_some h
      obtain ⟨h1, h⟩ := h
      replace h := guardO_some h
      obtain ⟨h2, h⟩ := h
      cases h
      simp only [Bool.and_eq_true] at h1
      have hv' := Nat.eq_of_beq_eq_true h1.1
      subst hv'
      have has : aa = #[x, y] := Array.toList_inj.1 (by simpa using ha)
      have hts : ts = #[t, xt] := Array.toList_inj.1 (by simpa using ht)
      subst has hts
      refine set_ok (x := .arr k' e' xs) hs hg (by intros; simp) h2 rfl fun ρ ro K hK => ?_
      have e1 : (s.ren ρ).ev x = some (.ar id (ρ ver) k off m') := by rw [ev_ren, hex]; rfl
      have e2 : (s.ren ρ).ev y = some (hy.ren ρ) := by rw [ev_ren, hey]; rfl
      refine AOp.copy hop hN (hT.ty _ _ hU) rfl (hT.ty _ _ hTe) e1 e2 (fun l e => ?_) (hget_s ρ hg) (ssrc_sound hT.ty hsr) (by rw [renL_len]; exact Nat.le_of_ble_eq_true h1.2.2) ?_
      ·have h3 := h1.2.1
       cases hy <;> simp [HV.ren, isStr] at e h3
      ·simp only [AObj.ren, renL_append, renL_take, renL_drop] at hK
       exact hK
     ·cases h
    ·cases h
   ·cases h
  ·cases h
 ·-- call
  rename_i f aa ts hop
  unfold opCall at h
  try simp only [evR_eq, hgetR_eq, hsetR_eq, sgetR_eq, putR_eq, aslR_eq, apartsR_eq] at h
  split at h
  ·rename_i g fs cs hs' hf ha
   replace h := guardO_some h
   obtain ⟨h1, h⟩ := h
   split at h
   ·rename_i rv H n1 hr1
    cases h
    obtain ⟨h2, h3, st, hc⟩ := hr _ _ hr1 h1 hsh
    have hsl := sc_slots_of hs
    refine ⟨sc_put (by simp only [AS.sc, scS_mono st.le _ hsl, h3, Bool.and_self]) h2, by rw [put_heap']; exact st, fun ρ ro K hK => ?_⟩
    have e1 : (s.ren ρ).ev f = some (.fn (.func g) (renL ρ fs) (renL ρ cs)) := by rw [ev_ren, hf]; rfl
    refine AOp.call hop rfl hN e1 (evL_sc ha ρ) ?_
    rw [← renL_append, ← renL_append]
    refine hc ρ _ fun ρ' hag => ?_
    have := hK ρ' hag
    rw [ren_put] at this
    have e2 : ({ s with heap := H } : AS).ren ρ' = { s.ren ρ with heap := renH ρ' H } := by
     simp only [AS.ren]
     rw [renS_agree hag _ hsl]
    rw [e2] at this
    exact this
   ·cases h
  ·rename_i id ver hs' hf ha
   exact yield_ok hr hN hs hop rfl hf ha h
  ·cases h
 ·-- build
  rename_i t ps hop
  unfold opBuild at h
  try simp only [evR_eq, hgetR_eq, hsetR_eq, sgetR_eq, putR_eq, aslR_eq, apartsR_eq] at h
  split at h
  ·rename_i rv hb
   exact fin_ok hs h fun ρ ro K hK => AOp.build hop hN (sbuild_sound hT.ty hb hK)
  ·cases h
 ·-- makeMap
  rename_i t hop
  refine new_ok (ob := .map []) (h := .mp n n) hs (.inl rfl) (self n) h fun ρ ro K hK => ?_
  refine AOp.makeMap n hop hN fun ver => ?_
  have := hK ver
  simp only [HV.ren, upd_at, AObj.ren, renE] at this
  exact this
 ·-- mapUpdate
  rename_i t m x y hop
  unfold opMapUpdate at h
  try simp only [evR_eq, hgetR_eq, hsetR_eq, sgetR_eq, putR_eq, aslR_eq, apartsR_eq] at h
  split at h
  ·rename_i kt et sz by' z id ver k hv hU hm hx hy
   split at h
   ·rename_i sz2 by2 z2 ver' es hTk hg
    replace h := guardO_some h
    obtain ⟨h1, h⟩ := h
    replace h := guardO_some h
    obtain ⟨h2, h⟩ := h
    cases h
    simp only [Bool.and_eq_true] at h1
    have hv' := Nat.eq_of_beq_eq_true h1.1
    subst hv'
    refine set_ok (x := .map es) hs hg (by intros; simp) h2 rfl fun ρ ro K hK => ?_
    have e1 : (s.ren ρ).ev m = some (.mp id (ρ ver)) := by rw [ev_ren, hm]; rfl
    have e2 : (s.ren ρ).ev x = some (.str k) := by rw [ev_ren, hx]; rfl
    have e3 : (s.ren ρ).ev y = some (hv.ren ρ) := by rw [ev_ren, hy]; rfl
    refine AOp.mapUpdate (.inl hop) hN (hT.ty _ _ hU) rfl (hT.ty _ _ hTk) rfl e1 e2 e3 (hget_s ρ hg) (noIterB_sound h1.2) ?_
    simp only [AObj.ren, mput_ren] at hK
    exact hK
   ·cases h
  ·cases h
 ·-- insert
  rename_i t m x y hop
  unfold opMapUpdate at h
  try simp only [evR_eq, hgetR_eq, hsetR_eq, sgetR_eq, putR_eq, aslR_eq, apartsR_eq] at h
  split at h
  ·rename_i kt et sz by' z id ver k hv hU hm hx hy
   split at h
   ·rename_i sz2 by2 z2 ver' es hTk hg
    replace h := guardO_some h
    obtain ⟨h1, h⟩ := h
    replace h := guardO_some h
    obtain ⟨h2, h⟩ := h
    cases h
    simp only [Bool.and_eq_true] at h1
    have hv' := Nat.eq_of_beq_eq_true h1.1
    subst hv'
    refine set_ok (x := .map es) hs hg (by intros; simp) h2 rfl fun ρ ro K hK => ?_
    have e1 : (s.ren ρ).ev m = some (.mp id (ρ ver)) := by rw [ev_ren, hm]; rfl
    have e2 : (s.ren ρ).ev x = some (.str k) := by rw [ev_ren, hx]; rfl
    have e3 : (s.ren ρ).ev y = some (hv.ren ρ) := by rw [ev_ren, hy]; rfl
    refine AOp.mapUpdate (.inr hop) hN (hT.ty _ _ hU) rfl (hT.ty _ _ hTk) rfl e1 e2 e3 (hget_s ρ hg) (noIterB_sound h1.2) ?_
    simp only [AObj.ren, mput_ren] at hK
    exact hK
   ·cases h
  ·cases h
 ·-- lookup
  rename_i t m x hop
  unfold opLookup at h
  try simp only [evR_eq, hgetR_eq, hsetR_eq, sgetR_eq, putR_eq, aslR_eq, apartsR_eq] at h
  split at h
  ·rename_i kt et sz by' z id ver k hU hm hx
   split at h
   ·rename_i sz2 by2 z2 Te ver' es hTk hTe hg
    split at h
    ·rename_i z3 hz
     replace h := guardO_some h
     obtain ⟨h1, h⟩ := h
     have hv' := Nat.eq_of_beq_eq_true h1
     subst hv'
     refine fin_ok hs h fun ρ ro K hK => ?_
     have e1 : (s.ren ρ).ev m = some (.mp id (ρ ver)) := by rw [ev_ren, hm]; rfl
     have e2 : (s.ren ρ).ev x = some (.str k) := by rw [ev_ren, hx]; rfl
     refine AOp.lookup hop hN (hT.ty _ _ hU) rfl (hT.ty _ _ hTk) rfl (hT.ty _ _ hTe) hz e1 e2 (hget_s ρ hg) ?_
     rw [alook_ren]
     have h5 := constHV_ren ρ Te.zero
     rw [hz] at h5
     simp only [Option.map_some, Option.some.injEq] at h5
     cases hl : alook k es with
     | none => rw [hl] at hK; simp only [Option.getD_none, h5, Option.map_none] at hK ⊢; exact hK
     | some q => rw [hl] at hK; exact hK
    ·cases h
   ·cases h
  ·cases h
 ·-- range
  rename_i t m hop
  unfold opRange at h
  try simp only [evR_eq, hgetR_eq, hsetR_eq, sgetR_eq, putR_eq, aslR_eq, apartsR_eq] at h
  split at h
  ·rename_i kt et sz by' z mid mver hU hm
   split at h
   ·rename_i mver' es hg
    replace h := guardO_some h
    obtain ⟨h1, h⟩ := h
    have hv' := Nat.eq_of_beq_eq_true h1
    subst hv'
    have hlt := sch_get hsh hg
    refine new_ok (ob := .iter mid mver [] false) (h := .it n n) hs (.inl rfl) (self n) h fun ρ ro K hK => ?_
    have e1 : (s.ren ρ).ev m = some (.mp mid (ρ mver)) := by rw [ev_ren, hm]; rfl
    refine AOp.range n hop hN (hT.ty _ _ hU) rfl e1 (hget_s ρ hg) (by have := hlt.1.1; omega) fun ver => ?_
    have := hK ver
    simp only [HV.ren, upd_at, AObj.ren] at this
    exact this
   ·cases h
  ·cases h
 ·-- next
  rename_i x hop
  unfold opNext at h
  try simp only [evR_eq, hgetR_eq, hsetR_eq, sgetR_eq, putR_eq, aslR_eq, apartsR_eq] at h
  split at h
  ·rename_i id ver hx
   split at h
   ·rename_i ver' mid mver seen cur hg
    split at h
    ·rename_i mver' es hgm
     replace h := guardO_some h
     obtain ⟨h1, h⟩ := h
     simp only [Bool.and_eq_true] at h1
     have hv' := Nat.eq_of_beq_eq_true h1.1
     subst hv'
     have hv' := Nat.eq_of_beq_eq_true h1.2
     subst hv'
     split at h
     ·rename_i hu
      refine fin_ok hs h fun ρ ro K hK => ?_
      have e1 : (s.ren ρ).ev x = some (.it id (ρ ver)) := by rw [ev_ren, hx]; rfl
      refine AOp.next hop hN e1 (hget_s ρ hg) (hget_s ρ hgm) (fun _ => hK) fun k v hkv hks => ?_
      obtain ⟨u, hu1, _⟩ := mem_renE hkv
      have := mem_unseen.2 ⟨hu1, hks⟩
      rw [hu] at this
      cases this
     ·rename_i k v hu
      replace h := guardO_some h
      obtain ⟨h2, h⟩ := h
      cases h
      have hlm := sch_get hsh hgm
      refine set_ok (x := .iter mid mver seen cur) hs hg (by intros; simp) (by simp only [AObj.sc]; simpa [Nat.blt_eq] using hlm.1.2) (by simp only [HV.sc, scL, h2, Bool.and_self]) fun ρ ro K hK => ?_
      have e1 : (s.ren ρ).ev x = some (.it id (ρ ver)) := by rw [ev_ren, hx]; rfl
      refine AOp.next hop hN e1 (hget_s ρ hg) (hget_s ρ hgm) (fun hall => ?_) fun k' v' hkv hks => ?_
      ·have hm : (k, v) ∈ unseen seen es := by rw [hu]; exact List.mem_cons_self ..
       obtain ⟨h3, h4⟩ := mem_unseen.1 hm
       exact absurd (hall _ (mem_renE' h3)) h4
      ·obtain ⟨u, hu1, rfl⟩ := mem_renE hkv
       have := mem_unseen.2 ⟨hu1, hks⟩
       rw [hu] at this
       simp only [List.mem_singleton] at this
       cases this
       exact hK
     ·cases h
    ·cases h
   ·cases h
  ·cases h
 ·-- entry
  rename_i x hop
  unfold opEntry at h
  try simp only [evR_eq, hgetR_eq, hsetR_eq, sgetR_eq, putR_eq, aslR_eq, apartsR_eq] at h
  split at h
  ·rename_i id ver hx
   split at h
   ·rename_i ver' mid mver k seen hg
    split at h
    ·rename_i mver' es hgm
     replace h := guardO_some h
     obtain ⟨h1, h⟩ := h
     simp only [Bool.and_eq_true] at h1
     have hv' := Nat.eq_of_beq_eq_true h1.1
     subst hv'
     have hv' := Nat.eq_of_beq_eq_true h1.2
     subst hv'
     split at h
     ·rename_i v hl
      refine fin_ok hs h fun ρ ro K hK => ?_
      have e1 : (s.ren ρ).ev x = some (.it id (ρ ver)) := by rw [ev_ren, hx]; rfl
      have e2 : alook k (renE ρ es) = some (v.ren ρ) := by rw [alook_ren, hl]; rfl
      exact AOp.entry hop hN e1 (hget_s ρ hg) (hget_s ρ hgm) e2 hK
     ·cases h
    ·cases h
   ·cases h
  ·cases h
 ·exact sval_ok hT hN hs h
end
end Go.AW
