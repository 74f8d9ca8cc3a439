import Derived.Test.YtccnafddjjamoaaWLeast2
import Derived.Test.YtccnafddjjamoaaWSort
import Derived.Shelf.SlicesE.Delete
import Derived.Shelf.SlicesE.Clone
namespace Go.Proofs
open Go

def Try.delS_ren : Go.Shelf.Ren := ⟨fun | 45 => 24 | n => n, fun | 22 => 30 | 23 => 9 | 3 => 3 | 4 => 4 | 0 => 0 | n => n, fun | n => n⟩
theorem Try.delS : Go.Proofs.SlLaysE.n45 Try.prog Try.delS_ren where
  mixed := by kernel_rfl
  f45 := ⟨"slices.Delete[[]string,string]", by decide, Try.func24.trans (congrArg some (by kernel_rfl))⟩
  t0 := Try.underlying0
  a0 := Try.isAgg0
  z0 := Try.sizeOf0
  v0 := Try.zeroValue0
  t3 := Try.underlying3
  a3 := Try.isAgg3
  z3 := Try.sizeOf3
  v3 := Try.zeroValue3
  t4 := Try.underlying4
  a4 := Try.isAgg4
  z4 := Try.sizeOf4
  v4 := Try.zeroValue4
  t22 := Try.underlying30
  a22 := Try.isAgg30
  z22 := Try.sizeOf30
  v22 := Try.zeroValue30
  a23 := Try.isAgg9
  z23 := Try.sizeOf9
def Try.cloneS_ren : Go.Shelf.Ren := ⟨fun | 41 => 25 | n => n, fun | 22 => 30 | 23 => 9 | 4 => 4 | n => n, fun | n => n⟩
theorem Try.cloneS : Go.Proofs.SlLaysE0.n41 Try.prog Try.cloneS_ren where
  mixed := by kernel_rfl
  f41 := ⟨"slices.Clone[[]string,string]", by decide, Try.func25.trans (congrArg some (by kernel_rfl))⟩
  t4 := Try.underlying4
  a4 := Try.isAgg4
  z4 := Try.sizeOf4
  v4 := Try.zeroValue4
  t22 := Try.underlying30
  a22 := Try.isAgg30
  z22 := Try.sizeOf30
  v22 := Try.zeroValue30
end Go.Proofs

namespace Go.AW
open Go Go.Proofs Go.Sort Go.Lib

/-- a row of cells is written anew -/
theorem put_world {α : Type} [Inhabited α] {enc : α → Value} {f : α → HV} (hf1 : ∀ x, (f x).one = true) {w : World} {μ : Mu} {H : Heap} {id ver b k : Nat} {e : TypeId} {l d : List α} (hs : SR w μ H) (hg : hget H id = some (ver, .arr k e (l.map f)))
    (hl : μ.loc id = some (ver, some b)) (hrep : ∀ x ∈ d, Rep w μ (f x) (enc x)) (hor : OR w μ (.arr k e (l.map f)) (some b)) (hv : ∀ vs, RepL w μ (l.map f) vs → vs = l.map enc) (hlen : d.length = l.length) (n : Nat) :
    SR (putRow enc (Sort.ahead w n) b 0 d.toArray) μ (hset H id ver (.arr k e (d.map f))) ∧ Evo w μ (putRow enc (Sort.ahead w n) b 0 d.toArray) μ := by
  obtain ⟨h0, cur, vs, rest, hrow, hcl, hrl⟩ := hor
  have hvs := hv vs hrl
  subst hvs
  have hcsz : cur.size = l.length + rest.length := by rw [← Array.length_toList, hcl]; simp
  obtain ⟨lo, hi, hbk, hfr⟩ := hrow
  have hbk' : (putRow enc (Sort.ahead w n) b 0 d.toArray).heap[b]? = some (.cells (putCells enc 0 d.toArray cur) e (lo, hi)) := by
    show (w.heap.modify b _)[b]? = _
    rw [Array.getElem?_modify, if_pos rfl, hbk]
    rfl
  have hcur' : (putCells enc 0 d.toArray cur).toList = d.map enc ++ rest := by
    apply List.ext_getElem?
    intro i
    rw [Array.getElem?_toList]
    simp only [putCells, Array.getElem?_mapIdx]
    have hc : cur[i]? = (l.map enc ++ rest)[i]? := by rw [← hcl, Array.getElem?_toList]
    rw [hc]
    rcases Nat.lt_or_ge i d.length with hi | hi
    · rw [List.getElem?_append_left (by simp; omega), List.getElem?_append_left (by simpa using hi), List.getElem?_map, List.getElem?_map, List.getElem?_eq_getElem (by omega : i < l.length), List.getElem?_eq_getElem hi]
      simp only [Option.map_some]
      rw [if_pos ⟨Nat.zero_le _, by simpa using hi⟩]
      simp [hi]
    · rw [List.getElem?_append_right (by simp; omega), List.getElem?_append_right (by simpa using hi)]
      simp only [List.length_map, hlen]
      cases rest[i - l.length]? with
      | none => rfl
      | some x =>
        simp only [Option.map_some]
        rw [if_neg (by simp; omega)]
  have hsz1 : (putRow enc (Sort.ahead w n) b 0 d.toArray).heap.size = w.heap.size := by rw [size_putRow]; rfl
  have hrow1 : Row (putRow enc (Sort.ahead w n) b 0 d.toArray) b (putCells enc 0 d.toArray cur) e := ⟨lo, hi, hbk', by simpa [putCells] using hfr⟩
  have hold : ∀ b', b' ≠ b → (putRow enc (Sort.ahead w n) b 0 d.toArray).heap[b']? = w.heap[b']? := fun b' hne => by
    show (w.heap.modify b _)[b']? = _
    rw [Array.getElem?_modify, if_neg (fun e => hne e.symm)]
  exact hs.updArr (cs' := d.map f) (w' := putRow enc (Sort.ahead w n) b 0 d.toArray) hg hl ⟨rfl, rfl, rfl⟩ hsz1 hold ⟨lo, hi, hbk, hfr⟩ hrow1 (by simp [putCells]) fun E => by
    refine ⟨fun c hc => ?_, _, d.map enc, rest, hrow1, hcur', repL_map.2 fun x hx => Rep.evo E hs.ok _ _ (hrep x hx)⟩
    obtain ⟨x, _, rfl⟩ := List.mem_map.1 hc
    exact hf1 x

/-- slices.Delete of texts, in place -/
theorem w24 {H : Heap} {id ver i j : Nat} {e : TypeId} {l : List (List UInt8)} {K : HV → Heap → Prop} (hg : hget H id = some (ver, .arr 1 e (l.map .str))) (hij : i ≤ j) (hj : j ≤ l.length) (hl0 : l ≠ [])
    (hK : K (.ar id ver 1 0 (l.length - (j - i))) (hset H id ver (.arr 1 e ((l.take i ++ l.drop j ++ List.replicate (j - i) []).map .str)))) : ACall Try.prog 24 [.ar id ver 1 0 l.length, num i, num j] H K := by
  refine ⟨enters' Try.func24 rfl rfl, fun μ w vs hs hr => ?_⟩
  obtain ⟨x, xs, rfl, hr, y, ys, rfl, ⟨rfl, _⟩, z, zs, rfl, ⟨rfl, _⟩, hn⟩ := hr
  cases hn
  obtain ⟨lo, hl, hor⟩ := hs.has _ _ _ hg
  rcases hr with ⟨lo', hl', h⟩ | ⟨hd, _⟩
  · rw [hl] at hl'
    cases hl'
    rcases h with ⟨rfl, rfl, h0, _⟩ | ⟨b, cap, cur, e', rfl, rfl, hcap, hcm, hrow, hsz⟩
    · exact absurd (List.eq_nil_of_length_eq_zero h0) hl0
    · have hor' := hor
      obtain ⟨h0, cur', vs', rest, hrow', hcl, hrl⟩ := hor
      obtain ⟨hvs, hreps⟩ := repL_strs hrl
      subst hvs
      obtain ⟨_, i0, hi0, hz1, _⟩ := ty_spec ty9
      refine (AnyE.slices_Delete Try.delS encStr (fun _ => rfl) ([] : List UInt8) (fun w => Try.zeroValue9 w) i0 hi0 hz1 b 0 cap i j l.toArray w (holds_row hrow' hcl) (by simpa using hcap) hcm hij (by simpa using hj)).mono ?_
      · rintro e2 w' ⟨rfl, n, rfl⟩
        have hlen : (l.take i ++ l.drop j ++ List.replicate (j - i) ([] : List UInt8)).length = l.length := by simp; omega
        obtain ⟨h1, h2⟩ := put_world (f := HV.str) (fun _ => rfl) hs hg hl (d := l.take i ++ l.drop j ++ List.replicate (j - i) []) (fun x hx => by
          rcases List.mem_append.1 hx with hx | hx
          · rcases List.mem_append.1 hx with hx | hx
            · exact hreps x (List.mem_of_mem_take hx)
            · exact hreps x (List.mem_of_mem_drop hx)
          · rw [List.eq_of_mem_replicate hx]; exact ⟨rfl, Nat.zero_le _⟩) hor' (fun vs hv => (repL_strs hv).1) hlen n
        refine ⟨_, .ar id ver 1 0 (l.length - (j - i)), _, μ, rfl, hK, h1, .inl ⟨some b, hl, .inr ⟨b, cap, putCells encStr 0 (l.take i ++ l.drop j ++ List.replicate (j - i) []).toArray cur, e', rfl, by simp, by omega, hcm, ?_, ?_⟩⟩, h2⟩
        · obtain ⟨lo, hi, hbk, hfr⟩ := hrow
          refine ⟨lo, hi, ?_, by simpa [putCells] using hfr⟩
          show (w.heap.modify b _)[b]? = _
          rw [Array.getElem?_modify, if_pos rfl, hbk]
          rfl
        · simp only [putCells, Array.size_mapIdx]; exact hsz
  · exact absurd hl (hd.2 lo)

/-- slices.Clone of texts -/
theorem w25 {H : Heap} {l : List (List UInt8)} {K : HV → Heap → Prop} (id : Nat) (hl0 : l ≠ []) (hbig : l.length ≤ 1099511627776)
    (hK : ∀ ver, K (.ar id ver 1 0 l.length) (hset H id ver (.arr 1 9 (l.map .str)))) : ACall Try.prog 25 [strs l] H K := by
  refine ⟨enters' Try.func25 rfl rfl, fun μ w vs hs hr => ?_⟩
  obtain ⟨x, xs, rfl, hr, hn⟩ := hr
  cases hn
  obtain ⟨_, _, hm, ⟨h0, _⟩ | ⟨b, off, cap, vs, rfl, hcap, hno, hsg, hrl⟩⟩ := hr
  · exact absurd (List.eq_nil_of_length_eq_zero h0) hl0
  · obtain ⟨hvs, hreps⟩ := repL_strs hrl
    subst hvs
    obtain ⟨_, i0, hi0, hz1, hz2, hz0⟩ := ty_spec ty9
    refine (AnyE.slices_Clone Try.cloneS i0 _ 1 16 hi0 hz0 hz1 hz2 rfl (by decide) (fun w => Try.sizeOf9 w) b off l.length cap (l.map encStr) w (by simp) hm (by omega) (fun j u hj => hsg.cell hj) (fun u hu => by
      obtain ⟨x, _, rfl⟩ := List.mem_map.1 hu; rfl)).mono ?_
    rintro e w' ⟨v', rfl, ⟨_, ⟨rfl, _⟩ | ⟨g, cap', cur, rfl, hg1, hg2, hc1, hc2, hc3, hc4⟩⟩, hnn, hbel⟩
    · exact absurd rfl hnn
    · have hsame : Same w w' := ⟨hbel.os, hbel.tape, hbel.output⟩
      have hold : ∀ k, k < w.heap.size → w'.heap[k]? = w.heap[k]? := hbel.block
      have hE := Evo.repl (w' := w') hs id (some g) hsame hbel.size (fun b hb _ => hold b hb) (fun b hb => by cases hb; exact .inl hg1)
      have hrowg : Row w' g cur 9 := ⟨0, 0, hg2, .inl (Nat.le_refl _)⟩
      have hsr := hs.repl (w' := w') id (some g) (.arr 1 9 (l.map .str)) hsame hbel.size (fun b hb _ => hold b hb) (fun b hb => by cases hb; exact .inl hg1)
        ⟨fun c hc => by obtain ⟨x, _, rfl⟩ := List.mem_map.1 hc; rfl, cur, l.map encStr, cur.toList.drop (l.length * 1), hrowg, by rw [← hc4, List.take_append_drop], repL_map.2 fun x hx => Rep.evo hE hs.ok _ _ (hreps x hx)⟩
      refine ⟨_, .ar id μ.nx 1 0 l.length, _, μ.set id (some g), rfl, hK μ.nx, hsr, .inl ⟨some g, by simp [Mu.set], .inr ⟨g, cap', cur, 9, rfl, rfl, hc1, hc2, hrowg, by omega⟩⟩, hE⟩
end Go.AW
