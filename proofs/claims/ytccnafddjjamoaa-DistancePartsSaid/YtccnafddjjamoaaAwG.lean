/- Slices that the running code makes: literals, make, append. -/
import Derived.Test.YtccnafddjjamoaaAwF
namespace Go.AW
open Go

def afill (place : Nat → Option (Nat × Nat)) : List (Nat × HV) → List HV → Option (List HV)
  | [], cells => some cells
  | (i, h) :: rest, cells => match place i, h.cells? with
    | some (off, size), some cs => if cs.length = size ∧ off + cs.length ≤ cells.length then afill place rest (splice cells off cs) else none
    | _, _ => none

theorem foldl_set (off : Nat) : ∀ (vs : List Value) (i : Nat) (cells : Array Value), off + i + vs.length ≤ cells.size →
    ((vs.zipIdx i).foldl (fun (cs : Array Value) p => cs.setIfInBounds (off + p.2) p.1) cells).toList = cells.toList.take (off + i) ++ vs ++ cells.toList.drop (off + i + vs.length)
  | [], i, cells, _ => by simp
  | v :: vs, i, cells, h => by
    simp only [List.length_cons] at h
    rw [List.zipIdx_cons, List.foldl_cons, foldl_set off vs (i + 1) _ (by simp; omega), Array.toList_setIfInBounds]
    have hl : cells.toList.length = cells.size := by simp
    have hs : cells.toList.set (off + i) v = (cells.toList.take (off + i) ++ [v]) ++ cells.toList.drop (off + i + 1) := by
      rw [List.set_eq_take_append_cons_drop, if_pos (by omega)]
      simp
    have ht : (cells.toList.take (off + i) ++ [v]).length = off + (i + 1) := by simp; omega
    have h1 : (cells.toList.set (off + i) v).take (off + (i + 1)) = cells.toList.take (off + i) ++ [v] := by
      rw [hs, ← ht]; exact List.take_left
    have h2 : (cells.toList.set (off + i) v).drop (off + (i + 1) + vs.length) = cells.toList.drop (off + i + (vs.length + 1)) := by
      rw [hs, ← List.drop_drop, ← ht, List.drop_left, List.drop_drop]
      congr 1
      omega
    rw [List.length_cons, h1, h2]
    simp

theorem fill_rep {w : World} {μ : Mu} (place : Nat → Option (Nat × Nat)) : ∀ {ps : List (Nat × HV)} {us : List (Nat × Value)} {cs0 cs : List HV} {cells : Array Value},
    ps.length = us.length → (∀ i : Nat, ∀ p u, ps[i]? = some p → us[i]? = some u → p.1 = u.1 ∧ Rep w μ p.2 u.2) → ones cs0 → RepL w μ cs0 cells.toList → afill place ps cs0 = some cs →
      ∃ cells', Instr.fill place cells us = some cells' ∧ ones cs ∧ RepL w μ cs cells'.toList
  | [], [], cs0, cs, cells, _, _, h1, h2, h => by
    simp only [afill, Option.some.injEq] at h
    subst h
    exact ⟨cells, rfl, h1, h2⟩
  | (i, hv) :: ps, [], _, _, _, hl, _, _, _, _ => by simp at hl
  | [], _ :: _, _, _, _, hl, _, _, _, _ => by simp at hl
  | (i, hv) :: ps, (j, v) :: us, cs0, cs, cells, hl, hp, h1, h2, h => by
    obtain ⟨e, hr⟩ := hp 0 _ _ rfl rfl
    simp only at e hr
    subst e
    simp only [afill] at h
    split at h
    · rename_i off size ds hpl hds
      split at h
      · rename_i hc
        obtain ⟨hsz, hfit⟩ := hc
        have hdr := cells?_rep hds hr
        have hdl := hdr.length
        have hcl := h2.length
        rw [Array.length_toList] at hdl hcl
        have hfold := foldl_set off v.cells.toList 0 cells (by rw [Array.length_toList]; omega)
        have hrep : RepL w μ (splice cs0 off ds) ((v.cells.zipIdx.foldl (fun cs (c, j) => cs.setIfInBounds (off + j) c) cells)).toList := by
          rw [splice_eq hfit]
          have e1 : (v.cells.zipIdx.foldl (fun cs (c, j) => cs.setIfInBounds (off + j) c) cells) = ((v.cells.toList.zipIdx 0).foldl (fun (cs : Array Value) p => cs.setIfInBounds (off + p.2) p.1) cells) := by
            rw [← Array.foldl_toList, Array.toList_zipIdx]
          have hdl' : v.cells.toList.length = ds.length := hdr.length
          rw [e1, hfold, Nat.add_zero, hdl']
          exact ((h2.take off).append hdr).append (h2.drop _)
        obtain ⟨cells', h3, h4, h5⟩ := fill_rep place (by simpa using hl) (fun k p u hk hu => hp (k + 1) p u (by simpa using hk) (by simpa using hu))
          (by rw [splice_eq hfit]; exact ((h1.take _).append (cells?_ones hds hr)).append (h1.drop _)) hrep h
        refine ⟨cells', ?_, h4, h5⟩
        simp only [Instr.fill, hpl]
        rw [if_neg (by simp only [Bool.or_eq_true, bne_iff_ne, decide_eq_true_eq, not_or, Classical.not_not]; omega)]
        exact h3
      · cases h
    · cases h

def zrep (zs : List HV) (n : Nat) : List HV := (List.replicate n zs).flatten

theorem zrep_len (zs : List HV) (n : Nat) : (zrep zs n).length = n * zs.length := by simp [zrep]

theorem ones_zrep {zs : List HV} (h : ones zs) (n : Nat) : ones (zrep zs n) := by
  intro c hc
  simp only [zrep, List.mem_flatten, List.mem_replicate] at hc
  obtain ⟨l, ⟨_, rfl⟩, hc⟩ := hc
  exact h c hc

theorem range_mod (z : List Value) (n : Nat) : (List.range (n * z.length)).map (fun i => z[i % z.length]!) = (List.replicate n z).flatten := by
  induction n with
  | zero => simp
  | succ n ih =>
    rw [Nat.succ_mul, List.range_add, List.map_append, ih, List.replicate_succ', List.flatten_append]
    simp only [List.flatten_cons, List.flatten_nil, List.append_nil, List.map_map]
    congr 1
    apply List.ext_getElem
    · simp
    · intro i h1 h2
      simp only [List.length_map, List.length_range] at h1
      simp only [List.getElem_map, List.getElem_range, Function.comp]
      have hm : (n * z.length + i) % z.length = i := by rw [Nat.mul_comm, Nat.mul_add_mod]; exact Nat.mod_eq_of_lt h1
      rw [hm]
      simp [h1]

theorem bang_toList (a : Array Value) (i : Nat) : a.toList[i]! = a[i]! := by
  rw [List.getElem!_eq_getElem?_getD, Array.getElem!_eq_getD, Array.getD_eq_getD_getElem?, Array.getElem?_toList]

theorem range_mod' (a : Array Value) (n : Nat) : ((Array.range (n * a.size)).map fun i => a[i % a.size]!).toList = (List.replicate n a.toList).flatten := by
  rw [← range_mod]
  simp only [Array.toList_map, Array.toList_range, Array.length_toList, bang_toList]

theorem RepL.rep {w : World} {μ : Mu} {zs : List HV} {z : List Value} (h : RepL w μ zs z) : ∀ n, RepL w μ (zrep zs n) (List.replicate n z).flatten
  | 0 => by simp [zrep, RepL]
  | n + 1 => by
    simp only [zrep, List.replicate_succ, List.flatten_cons]
    exact h.append (RepL.rep h n)

def aparts (s : AS) (ps : List (Nat × Operand)) : Option (List (Nat × HV)) := ps.mapM fun p => (s.ev p.2).map fun h => (p.1, h)

section
variable {P : Program} {ro : Option Nat} {N B : Nat} {s : AS} {μ μ' : Mu} {a : Act} {w w' : World}

theorem aparts_spec (hs : SRel ro N B μ s a w) : ∀ {ps : List (Nat × Operand)} {qs : List (Nat × HV)}, aparts s ps = some qs →
    qs.length = (ps.map fun p => (p.1, a.eval p.2)).length ∧ ∀ (i : Nat) (p : Nat × HV) (u : Nat × Value), qs[i]? = some p → (ps.map fun p => (p.1, a.eval p.2))[i]? = some u → p.1 = u.1 ∧ Rep w μ p.2 u.2
  | [], qs, h => by
    simp [aparts] at h
    subst h
    exact ⟨rfl, fun i p u h => by simp at h⟩
  | p :: ps, qs, h => by
    simp only [aparts, List.mapM_cons, Option.pure_def, Option.bind_eq_bind, Option.bind_eq_some_iff, Option.map_eq_some_iff] at h
    obtain ⟨q, ⟨hv, hev, rfl⟩, rest, hrest, he⟩ := h
    cases he
    obtain ⟨h1, h2⟩ := aparts_spec hs hrest
    refine ⟨by simpa using h1, fun i p' u hp hu => ?_⟩
    cases i with
    | zero =>
      simp at hp hu
      subst hp hu
      exact ⟨rfl, hs.ev hev⟩
    | succ i =>
      simp only [List.getElem?_cons_succ, List.map_cons] at hp hu
      exact h2 i p' u hp hu

/-- the cells of a slice literal -/
def aslice (P : Program) (s : AS) (t : TypeId) (n : Nat) (ps : List (Nat × Operand)) (R : Nat → TypeId → List HV → Prop) : Prop :=
  match ty P t with
  | some ⟨.slice e, _, _, _⟩ => match ty P e with
    | some T => match zcells T.zero, aparts s ps with
      | some zs, some qs => zs.length = T.size ∧ n * T.size ≤ 16777216 ∧ match afill (fun i => some (i * T.size, T.size)) qs (zrep zs n) with
        | some cs => R T.size e cs
        | none => False
      | _, _ => False
    | none => False
  | _ => False

theorem aslice_run (hs : SRel ro N B μ s a w) {t : TypeId} {n : Nat} {ps : Array (Nat × Operand)} {R : Nat → TypeId → List HV → Prop} (h : aslice P s t n ps.toList R) :
    ∃ k e cs cells, R k e cs ∧ ones cs ∧ RepL w μ cs cells.toList ∧ cs.length = n * k ∧ n ≤ 16777216 * (n * k) + 1 * n ∧
      (Instr.buildSlice t n (ps.map fun (i, x) => (i, a.eval x))).run P w = .ok (.slice (some ⟨w.heap.size, 0, none⟩) n n) (w.alloc (.cells cells e)) := by
  unfold aslice at h
  split at h
  · rename_i e sz by' z hT
    split at h
    · rename_i T hTe
      split at h
      · rename_i zs qs hz hq
        obtain ⟨hzl, hsz, h⟩ := h
        split at h
        · rename_i cs hfill
          have hzr := zcells_rep (w := w) (μ := μ) hz
          have hzone := zcells_ones hz
          have hzlen : T.zero.cells.size = T.size := by rw [← Array.length_toList, hzr.length, hzl]
          have hstart : RepL w μ (zrep zs n) ((Array.range (n * T.size)).map fun i => T.zero.cells[i % T.zero.cells.size]!).toList := by
            have e1 : ((Array.range (n * T.size)).map fun i => T.zero.cells[i % T.zero.cells.size]!).toList = (List.replicate n T.zero.cells.toList).flatten := by
              rw [← hzlen]
              exact range_mod' _ n
            rw [e1]
            exact hzr.rep n
          obtain ⟨hl, hp⟩ := aparts_spec hs hq
          obtain ⟨cells, hf, hone, hrep⟩ := fill_rep (fun i => some (i * T.size, T.size)) hl hp (ones_zrep hzone n) hstart hfill
          refine ⟨T.size, e, cs, cells, h, hone, hrep, ?_, by omega, ?_⟩
          · have : ∀ (ps : List (Nat × HV)) (c0 c1 : List HV), afill (fun i => some (i * T.size, T.size)) ps c0 = some c1 → c1.length = c0.length := by
              intro ps
              induction ps with
              | nil => intro c0 c1 h; simp [afill] at h; rw [h]
              | cons p ps ih =>
                intro c0 c1 h
                obtain ⟨i, hv⟩ := p
                simp only [afill] at h
                split at h
                · split at h
                  · rename_i hc
                    rw [ih _ _ h, splice_eq hc.2]
                    simp only [List.length_append, List.length_take, List.length_drop]
                    omega
                  · cases h
                · cases h
            rw [this _ _ _ hfill, zrep_len, hzl]
          · have hu := ty_under hT
            have hnot : ¬ n * T.size > 2 ^ 24 := by omega
            have hps : (ps.map fun (i, x) => (i, a.eval x)).toList = ps.toList.map fun p => (p.1, a.eval p.2) := by rw [Array.toList_map]
            by_cases h0 : n * T.size = 0
            · have hz0 : ∀ f : Nat → Value, (Array.range (n * T.size)).map f = #[] := fun f => by rw [h0]; simp
              rw [hz0] at hf
              simp only [Instr.buildSlice, Sem.run_bind, hu, Result.andThen_ok, ty_sizeOf hTe, hnot, if_false, hz0, hps]
              simp only [h0, if_true, Sem.run_bind, Sem.run_pure, Result.andThen_ok, hf]
              simp [newRow, World.alloc_eq]
            · simp only [Instr.buildSlice, Sem.run_bind, hu, Result.andThen_ok, ty_sizeOf hTe, hnot, if_false, hps]
              simp only [h0, if_false, Sem.run_bind, ty_zero hTe, Sem.run_pure, Result.andThen_ok, hf]
              simp [newRow, World.alloc_eq]
        · exact h.elim
      · exact h.elim
    · exact h.elim
  · exact h.elim

theorem AOp.buildSlice {o : Oper} {K : AS → Prop} {t : TypeId} {n : Nat} {ps : Array (Nat × Operand)} (hop : o.op = .buildSlice t n ps) (hN : okd N o.dst = true) (hn : n ≤ 16777216)
    (h : aslice P s t n ps.toList fun k _ cs => K (s.put o.dst (.sl k n cs))) : AOp P ro N o K s := by
  refine AOp.value (fun c e => by rw [hop] at e; cases e) hN fun B μ a w hs => ?_
  obtain ⟨k, e, cs, cells, hK, hone, hrep, hlen, _, hrun⟩ := aslice_run hs h
  have g := Grow.alloc w (.cells cells e)
  have hE := Evo.grow hs.sr g
  refine ⟨_, .sl k n cs, μ, _, s.heap, by simp only [execOp, hop, Sem.run_bind, hrun, Result.andThen_ok, Sem.run_pure], hs.sr.grow g, hE, ⟨hone, hlen, by simp only [maxLen]; omega, .inr ⟨w.heap.size, 0, n, cells.toList, rfl, Nat.le_refl _, ?_, ?_, RepL.evo hE hs.sr.ok _ _ hrep⟩⟩, hK⟩
  · rintro (⟨id, ver, hl⟩ | hh)
    · have := hs.sr.blk hl
      omega
    · have := (hs.sr.held _ hh).1
      omega
  · exact ⟨cells, e, (0, 0), [], [], by show (w.heap.push _)[w.heap.size]? = _; simp, by simp, rfl⟩

theorem AOp.buildSliceM {o : Oper} {K : AS → Prop} {t : TypeId} {n : Nat} {ps : Array (Nat × Operand)} (id : Nat) (hop : o.op = .buildSlice t n ps) (hN : okd N o.dst = true) (hn : n ≤ 16777216)
    (h : aslice P s t n ps.toList fun k e cs => ∀ ver, K (({ s with heap := hset s.heap id ver (.arr k e cs) } : AS).put o.dst (.ar id ver k 0 n))) : AOp P ro N o K s := by
  refine AOp.value (fun c e => by rw [hop] at e; cases e) hN fun B μ a w hs => ?_
  obtain ⟨k, e, cs, cells, hK, hone, hrep, hlen, _, hrun⟩ := aslice_run hs h
  obtain ⟨hsr, hE⟩ := hs.sr.alloc id k e (rest := []) hone hrep
  rw [List.append_nil] at hsr hE
  have hcl := hrep.length
  rw [Array.length_toList] at hcl
  refine ⟨_, .ar id μ.nx k 0 n, _, _, _, by simp only [execOp, hop, Sem.run_bind, hrun, Result.andThen_ok, Sem.run_pure], hsr, hE, .inl ⟨some w.heap.size, by simp [Mu.set], .inr ⟨w.heap.size, n, cells, e, rfl, rfl, Nat.le_refl _, by simp only [maxLen]; omega, Row.alloc w cells e, by omega⟩⟩, hK μ.nx⟩

theorem run_makeSlice {t e : TypeId} {T Te : TyI} (hT : ty P t = some T) (hd : T.desc = .slice e) (hTe : ty P e = some Te) {l c : Int} (h0 : 0 ≤ l) (h1 : l ≤ c) (h2 : c * Te.bytes ≤ 281474976710656) (hc : c ≤ 9223372036854775807) (w : World) :
    ∃ cells, (Instr.makeSlice t (.int .i64 l) (.int .i64 c)).run P w = .ok (.slice (some ⟨w.heap.size, 0, none⟩) l.toNat c.toNat) (w.alloc (.cells cells e)) ∧
      (Te.zero.cells.size = Te.size → cells.toList = (List.replicate c.toNat Te.zero.cells.toList).flatten) := by
  have hu := ty_under hT
  rw [hd] at hu
  obtain ⟨i, hi, hi1, hi2, hi3⟩ := ty_info hTe w
  have hwl : IntKind.i64.wrap l = l := IntWalk.i64_in l (by omega)
  have hwc : IntKind.i64.wrap c = c := IntWalk.i64_in c (by omega)
  have hc0 : 0 ≤ c := by omega
  have hbl : (Te.bytes : Int) * l ≤ Te.bytes * c := Int.mul_le_mul_of_nonneg_left h1 (by omega)
  have hbc : (Te.bytes : Int) * c ≤ 281474976710656 := by rw [Int.mul_comm]; exact h2
  refine ⟨(Array.range (c.toNat * Te.size)).map fun j => (if c.toNat * Te.size = 0 then (#[] : Array Value) else Te.zero.cells)[j % (if c.toNat * Te.size = 0 then (#[] : Array Value) else Te.zero.cells).size]!, ?_, fun hz => ?_⟩
  · have hno : ¬ ((c < 0 ∨ (281474976710656 : Int) < Te.bytes * c) ∨ l < 0 ∨ c < l) := by omega
    have hno' : ((c < 0 || decide (↑Te.bytes * c > 2 ^ 48)) || decide (l < 0) || decide (l > c)) = false := by
      simp only [Bool.or_eq_false_iff, decide_eq_false_iff_not]; omega
    simp only [Instr.makeSlice, Sem.run_bind, hu, Result.andThen_ok, asInt, asIntOf, Sem.run_pure, hi, hi2, hwl, hwc]
    rw [hno']
    simp only [Bool.false_eq_true, if_false, Sem.run_bind, run_askRoom, Result.andThen_ok, ty_sizeOf hTe]
    by_cases hz0 : c.toNat * Te.size = 0
    · simp only [hz0, if_true, Sem.run_bind, Sem.run_pure, Result.andThen_ok]
      simp [newRow, World.alloc_eq]
    · simp only [hz0, if_false, Sem.run_bind, ty_zero hTe, Sem.run_pure, Result.andThen_ok]
      simp [newRow, World.alloc_eq]
  · by_cases hz0 : c.toNat * Te.size = 0
    · rcases Nat.mul_eq_zero.1 hz0 with h | h
      · simp [h]
      · have : Te.zero.cells.toList = [] := List.eq_nil_of_length_eq_zero (by rw [Array.length_toList, hz, h])
        simp [this, h]
    · simp only [hz0, if_false]
      rw [← hz]
      exact range_mod' _ _
end
end Go.AW
