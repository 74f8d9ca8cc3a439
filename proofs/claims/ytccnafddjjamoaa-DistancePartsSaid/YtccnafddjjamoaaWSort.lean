import Derived.Test.YtccnafddjjamoaaWSortK
import Derived.Test.YtccnafddjjamoaaAwQ
namespace Go.AW
open Go Go.Proofs Go.Sort

theorem repL_map {α : Type} {w : World} {μ : Mu} {f : α → HV} {g : α → Value} : ∀ {l : List α}, RepL w μ (l.map f) (l.map g) ↔ ∀ x ∈ l, Rep w μ (f x) (g x)
  | [] => by simp [RepL]
  | a :: l => by
    simp only [List.map_cons, RepL, List.mem_cons, forall_eq_or_imp]
    constructor
    · rintro ⟨x, xs, e, h1, h2⟩
      cases e
      exact ⟨h1, repL_map.1 h2⟩
    · exact fun ⟨h1, h2⟩ => ⟨_, _, rfl, h1, repL_map.2 h2⟩

theorem sorted_world {α : Type} [Inhabited α] {enc : α → Value} {f : α → HV} (hf1 : ∀ x, (f x).one = true) {w : World} {μ : Mu} {H : Heap} {id ver b k : Nat} {e : TypeId} {l d : List α} (hs : SR w μ H) (hg : hget H id = some (ver, .arr k e (l.map f)))
    (hl : μ.loc id = some (ver, some b)) (hrep : ∀ x ∈ l, Rep w μ (f x) (enc x)) (hor : OR w μ (.arr k e (l.map f)) (some b)) (hv : ∀ vs, RepL w μ (l.map f) vs → vs = l.map enc) (hp : d.Perm l) (n : Nat) (os : Array Obj) :
    SR (grow (putRow enc (Sort.ahead w n) b 0 d.toArray) os) μ (hset H id ver (.arr k e (d.map f))) ∧ Evo w μ (grow (putRow enc (Sort.ahead w n) b 0 d.toArray) os) μ := by
  obtain ⟨h0, cur, vs, rest, hrow, hcl, hrl⟩ := hor
  have hvs := hv vs hrl
  subst hvs
  have hlen : d.length = l.length := hp.length_eq
  have hcsz : cur.size = l.length + rest.length := by rw [← Array.length_toList, hcl]; simp
  -- the world with the row put
  have hb := hrow.lt
  obtain ⟨lo, hi, hbk, hfr⟩ := hrow
  have hbk' : (putRow enc (Sort.ahead w n) b 0 d.toArray).heap[b]? = some (.cells (putCells enc 0 d.toArray cur) e (lo, hi)) := by
    show (w.heap.modify b _)[b]? = _
    rw [Array.getElem?_modify, if_pos rfl, hbk]
    rfl
  have hcur' : (putCells enc 0 d.toArray cur).toList = d.map enc ++ rest := by
    apply List.ext_getElem?
    intro i
    rw [Array.getElem?_toList]
    simp only [putCells, Array.getElem?_mapIdx]
    have hc : cur[i]? = (l.map enc ++ rest)[i]? := by rw [← hcl, Array.getElem?_toList]
    rw [hc]
    rcases Nat.lt_or_ge i d.length with hi | hi
    · rw [List.getElem?_append_left (by simp; omega), List.getElem?_append_left (by simpa using hi), List.getElem?_map, List.getElem?_map, List.getElem?_eq_getElem (by omega : i < l.length), List.getElem?_eq_getElem hi]
      simp only [Option.map_some]
      rw [if_pos ⟨Nat.zero_le _, by simpa using hi⟩]
      simp [hi]
    · rw [List.getElem?_append_right (by simp; omega), List.getElem?_append_right (by simpa using hi)]
      simp only [List.length_map, hlen]
      cases rest[i - l.length]? with
      | none => rfl
      | some x =>
        simp only [Option.map_some]
        rw [if_neg (by simp; omega)]
  have hsz1 : (putRow enc (Sort.ahead w n) b 0 d.toArray).heap.size = w.heap.size := by rw [size_putRow]; rfl
  have hrow1 : Row (putRow enc (Sort.ahead w n) b 0 d.toArray) b (putCells enc 0 d.toArray cur) e := ⟨lo, hi, hbk', by simpa [putCells] using hfr⟩
  have hold : ∀ b', b' ≠ b → (putRow enc (Sort.ahead w n) b 0 d.toArray).heap[b']? = w.heap[b']? := fun b' hne => by
    show (w.heap.modify b _)[b']? = _
    rw [Array.getElem?_modify, if_neg (fun e => hne e.symm)]
  obtain ⟨h1, h2⟩ := hs.updArr (cs' := d.map f) (w' := putRow enc (Sort.ahead w n) b 0 d.toArray) hg hl ⟨rfl, rfl, rfl⟩ hsz1 hold ⟨lo, hi, hbk, hfr⟩ hrow1 (by simp [putCells]) fun E => by
    refine ⟨fun c hc => ?_, _, d.map enc, rest, hrow1, hcur', repL_map.2 fun x hx => Rep.evo E hs.ok _ _ (hrep x (hp.mem_iff.1 hx))⟩
    obtain ⟨x, _, rfl⟩ := List.mem_map.1 hc
    exact hf1 x
  have g : Grow (putRow enc (Sort.ahead w n) b 0 d.toArray) (grow (putRow enc (Sort.ahead w n) b 0 d.toArray) os) :=
    ⟨⟨rfl, rfl, rfl⟩, by rw [size_grow]; omega, fun b' hb' => by
      show (_ ++ os)[b']? = _
      rw [Array.getElem?_append_left hb']⟩
  exact ⟨h1.grow g, h2.trans (Evo.grow h1 g)⟩

theorem holds_row {α : Type} [Inhabited α] {enc : α → Value} {w : World} {b : Nat} {cur : Array Value} {e : TypeId} {l : List α} {rest : List Value} (hrow : Row w b cur e) (hcl : cur.toList = l.map enc ++ rest) : Holds enc w b 0 l.toArray := by
  intro j hj
  have hj' : j < l.length := by simpa using hj
  have hc : cur[j]? = some (enc l[j]) := by
    rw [← Array.getElem?_toList, hcl, List.getElem?_append_left (by simpa using hj'), List.getElem?_map, List.getElem?_eq_getElem hj']
    rfl
  refine ⟨?_, ?_⟩
  · rw [Nat.zero_add, hrow.cell, hc]
    simp [hj']
  · rw [Nat.zero_add]
    exact hrow.free (Array.getElem?_eq_some_iff.1 hc).1

theorem repL_strs {w : World} {μ : Mu} : ∀ {l : List (List UInt8)} {vs : List Value}, RepL w μ (l.map .str) vs → vs = l.map encStr ∧ ∀ x ∈ l, Rep w μ (.str x) (encStr x)
  | [], vs, h => by simp only [List.map_nil, RepL] at h; subst h; exact ⟨rfl, by simp⟩
  | a :: l, vs, ⟨x, xs, e, h1, h2⟩ => by
    obtain ⟨h3, h4⟩ := repL_strs h2
    obtain ⟨rfl, hl⟩ := h1
    subst e
    rw [h3]
    exact ⟨rfl, by simpa using ⟨⟨rfl, hl⟩, h4⟩⟩

theorem repL_ints {w : World} {μ : Mu} : ∀ {l : List Int} {vs : List Value}, RepL w μ (l.map (.int .i64)) vs → vs = l.map (Value.int .i64) ∧ ∀ x ∈ l, Rep w μ (.int .i64 x) (Value.int .i64 x)
  | [], vs, h => by simp only [List.map_nil, RepL] at h; subst h; exact ⟨rfl, by simp⟩
  | a :: l, vs, ⟨x, xs, e, h1, h2⟩ => by
    obtain ⟨h3, h4⟩ := repL_ints h2
    obtain ⟨rfl, hl⟩ := h1
    subst e
    rw [h3]
    exact ⟨rfl, by simpa using ⟨⟨rfl, hl⟩, h4⟩⟩

/-- slices.Sort of texts, in place -/
theorem w45 {H : Heap} {id ver : Nat} {e : TypeId} {l : List (List UInt8)} {K : HV → Heap → Prop} (hg : hget H id = some (ver, .arr 1 e (l.map .str))) (hlen : l.length < 4611686018427387904)
    (hK : K (.tup []) (hset H id ver (.arr 1 e ((sortS l).map .str)))) : ACall Try.prog 45 [.ar id ver 1 0 l.length] H K := by
  refine ⟨enters' Try.func45 rfl rfl, fun μ w vs hs hr => ?_⟩
  obtain ⟨x, xs, rfl, hr, hn⟩ := hr
  cases hn
  obtain ⟨lo, hl, hor⟩ := hs.has _ _ _ hg
  rcases hr with ⟨lo', hl', h⟩ | ⟨hd, _⟩
  · rw [hl] at hl'
    cases hl'
    rcases h with ⟨rfl, rfl, h0, _⟩ | ⟨b, cap, cur, e', rfl, rfl, hcap, _, hrow, hsz⟩
    · have h0' : l = [] := List.eq_nil_of_length_eq_zero h0
      subst h0'
      refine (AnyM.slices_Sort_string_none Try.sortS none 0 w).mono ?_
      rintro e' w' ⟨rfl, rfl⟩
      have hset_same : SR w' μ (hset H id ver (.arr 1 e ((sortS []).map .str))) := by
        refine ⟨hs.ok, fun j v o ho => ?_, fun j x hx => ?_, hs.inj, hs.held⟩
        · rw [hget_hset] at ho
          split at ho
          · rename_i ej; subst ej; cases ho; exact ⟨none, hl, by show (sortS []).map HV.str = []; simp [sortS]⟩
          · exact hs.has _ _ _ ho
        · rw [hget_hset]
          split
          · exact ⟨_, rfl⟩
          · exact hs.only _ _ hx
      exact ⟨_, .tup [], _, μ, rfl, hK, hset_same, ⟨[], rfl, rfl⟩, Evo.refl _ _⟩
    · have hor' := hor
      obtain ⟨h0, cur', vs', rest, hrow', hcl, hrl⟩ := hor
      obtain ⟨hvs, hreps⟩ := repL_strs hrl
      subst hvs
      refine (AnyM.slices_Sort_string Try.sortS b 0 cap l w (holds_row hrow' hcl) hrow'.lt hlen).mono ?_
      rintro e2 w' ⟨rfl, n, os, rfl⟩
      obtain ⟨h1, h2⟩ := sorted_world (f := HV.str) (fun _ => rfl) hs hg hl hreps hor' (fun vs hv => (repL_strs hv).1) (List.mergeSort_perm l _) n os
      exact ⟨_, .tup [], _, μ, rfl, hK, h1, ⟨[], rfl, rfl⟩, h2⟩
  · exact absurd hl (hd.2 lo)

/-- .. of no text at all -/
theorem w45n {H : Heap} {K : HV → Heap → Prop} (hK : K (.tup []) H) : ACall Try.prog 45 [.v (.slice none 0 0)] H K := by
  refine ⟨enters' Try.func45 rfl rfl, fun μ w vs hs hr => ?_⟩
  obtain ⟨x, xs, rfl, hr, hn⟩ := hr
  cases hn
  cases hr
  refine (AnyM.slices_Sort_string_none Try.sortS none 0 w).mono ?_
  rintro e' w' ⟨rfl, rfl⟩
  exact ⟨_, .tup [], _, μ, rfl, hK, hs, ⟨[], rfl, rfl⟩, Evo.refl _ _⟩

theorem sorts45 : SortsS Try.prog 45 := ⟨fun _ _ _ _ _ _ hg hl hK => w45 hg hl hK, fun _ _ hK => w45n hK⟩

/-- slices.Sort of numbers, in place -/
theorem w179 {H : Heap} {id ver : Nat} {e : TypeId} {l : List Int} {K : HV → Heap → Prop} (hg : hget H id = some (ver, .arr 1 e (l.map (.int .i64)))) (hlen : l.length < 4611686018427387904)
    (hK : K (.tup []) (hset H id ver (.arr 1 e ((sortI l).map (.int .i64))))) : ACall Try.prog 179 [.ar id ver 1 0 l.length] H K := by
  refine ⟨enters' Try.func179 rfl rfl, fun μ w vs hs hr => ?_⟩
  obtain ⟨x, xs, rfl, hr, hn⟩ := hr
  cases hn
  obtain ⟨lo, hl, hor⟩ := hs.has _ _ _ hg
  rcases hr with ⟨lo', hl', h⟩ | ⟨hd, _⟩
  · rw [hl] at hl'
    cases hl'
    rcases h with ⟨rfl, rfl, h0, _⟩ | ⟨b, cap, cur, e', rfl, rfl, hcap, _, hrow, hsz⟩
    · have h0' : l = [] := List.eq_nil_of_length_eq_zero h0
      subst h0'
      refine (AnyM.slices_Sort_int_none Try.sortI none 0 w).mono ?_
      rintro e' w' ⟨rfl, rfl⟩
      refine ⟨_, .tup [], _, μ, rfl, hK, ?_, ⟨[], rfl, rfl⟩, Evo.refl _ _⟩
      have : (sortI []).map (HV.int .i64) = [] := by simp [sortI]
      rw [this]
      exact hs.same hg
    · have hor' := hor
      obtain ⟨h0, cur', vs', rest, hrow', hcl, hrl⟩ := hor
      obtain ⟨hvs, hreps⟩ := repL_ints hrl
      subst hvs
      refine (AnyM.slices_Sort_int Try.sortI b 0 cap l w (holds_row hrow' hcl) hrow'.lt hlen).mono ?_
      rintro e2 w' ⟨rfl, n, os, rfl⟩
      obtain ⟨h1, h2⟩ := sorted_world (f := HV.int .i64) (fun _ => rfl) hs hg hl hreps hor' (fun vs hv => (repL_ints hv).1) (List.mergeSort_perm l _) n os
      exact ⟨_, .tup [], _, μ, rfl, hK, h1, ⟨[], rfl, rfl⟩, h2⟩
  · exact absurd hl (hd.2 lo)

theorem sorts179 : SortsI Try.prog 179 := by
  refine ⟨fun _ _ _ _ _ _ hg hl hK => w179 hg hl hK, fun H K hK => ⟨enters' Try.func179 rfl rfl, fun μ w vs hs hr => ?_⟩⟩
  obtain ⟨x, xs, rfl, hr, hn⟩ := hr
  cases hn
  cases hr
  refine (AnyM.slices_Sort_int_none Try.sortI none 0 w).mono ?_
  rintro e' w' ⟨rfl, rfl⟩
  exact ⟨_, .tup [], _, μ, rfl, hK, hs, ⟨[], rfl, rfl⟩, Evo.refl _ _⟩
end Go.AW
