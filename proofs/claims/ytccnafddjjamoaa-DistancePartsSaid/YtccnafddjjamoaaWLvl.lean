import Derived.Test.YtccnafddjjamoaaWBase
namespace Go.AW
open Go Go.Proofs

/-- the letters of the words -/
def letters : List UInt8 := [48, 49, 50, 51, 52, 53, 54, 55, 56, 57, 97, 98, 99, 100, 101, 102]

abbrev WS := List UInt8 × List Int

/-- a word goes on with letters -/
def ext1 (stp : List Int → UInt8 → List Int) (cs : List UInt8) (x : WS) : List WS := cs.filterMap fun c => if stp x.2 c = [] then none else some (x.1 ++ [c], stp x.2 c)

/-- the words of a length, each with its ends -/
def lvl (stp : List Int → UInt8 → List Int) (cs : List UInt8) (set : List Int) : Nat → List WS
  | 0 => if set = [] then [] else [([], set)]
  | i + 1 => (lvl stp cs set i).flatMap (ext1 stp cs)

def ent (x : WS) : List UInt8 × HV := (x.1, ints x.2)

section
variable {stp : List Int → UInt8 → List Int} {cs : List UInt8} {set : List Int}

theorem mem_ext1 {x y : WS} : y ∈ ext1 stp cs x ↔ ∃ c ∈ cs, stp x.2 c ≠ [] ∧ y = (x.1 ++ [c], stp x.2 c) := by
  simp only [ext1, List.mem_filterMap]
  constructor
  · rintro ⟨c, hc, h⟩
    split at h
    · cases h
    · rename_i hn; cases h; exact ⟨c, hc, hn, rfl⟩
  · rintro ⟨c, hc, hn, rfl⟩
    exact ⟨c, hc, by rw [if_neg hn]⟩

theorem ext1_keys (x : WS) (h : cs.Nodup) : ((ext1 stp cs x).map (·.1)).Nodup := by
  induction cs with
  | nil => simp [ext1]
  | cons c cs ih =>
    have hc := List.nodup_cons.1 h
    have ih' := ih hc.2
    simp only [ext1, List.filterMap_cons] at ih' ⊢
    split
    · exact ih'
    · rename_i y hy
      split at hy
      · cases hy
      · cases hy
        simp only [List.map_cons, List.nodup_cons]
        refine ⟨fun hm => ?_, ih'⟩
        obtain ⟨z, hz, he⟩ := List.mem_map.1 hm
        obtain ⟨d, hd, _, rfl⟩ := mem_ext1.1 hz
        have := List.append_cancel_left he
        cases this
        exact hc.1 hd

theorem flat_keys (h : cs.Nodup) : ∀ {l : List WS}, (l.map (·.1)).Nodup → ((l.flatMap (ext1 stp cs)).map (·.1)).Nodup
  | [], _ => by simp
  | x :: l, hl => by
    simp only [List.map_cons, List.nodup_cons] at hl
    simp only [List.flatMap_cons, List.map_append]
    refine List.nodup_append.2 ⟨ext1_keys x h, flat_keys h hl.2, ?_⟩
    intro a ha b hb e
    subst e
    obtain ⟨y, hy, rfl⟩ := List.mem_map.1 ha
    obtain ⟨c, _, _, rfl⟩ := mem_ext1.1 hy
    obtain ⟨z, hz, he⟩ := List.mem_map.1 hb
    obtain ⟨x', hx', hz'⟩ := List.mem_flatMap.1 hz
    obtain ⟨d, _, _, rfl⟩ := mem_ext1.1 hz'
    have h1 : x'.1 = x.1 := by
      have := congrArg List.dropLast he
      simpa using this
    exact hl.1 (h1 ▸ List.mem_map.2 ⟨x', hx', rfl⟩)

theorem lvl_keys (h : cs.Nodup) : ∀ i, ((lvl stp cs set i).map (·.1)).Nodup
  | 0 => by simp only [lvl]; split <;> simp
  | i + 1 => flat_keys h (lvl_keys h i)

theorem lvl_len : ∀ (i : Nat) (x : WS), x ∈ lvl stp cs set i → x.1.length = i
  | 0, x, h => by
    simp only [lvl] at h
    split at h
    · cases h
    · simp at h; subst h; rfl
  | i + 1, x, h => by
    obtain ⟨y, hy, hx⟩ := List.mem_flatMap.1 h
    obtain ⟨c, _, _, rfl⟩ := mem_ext1.1 hx
    have := lvl_len i y hy
    simp [this]

theorem lvl_all {A : List Int → Prop} (h0 : A set) (hs : ∀ a c, A a → c ∈ cs → A (stp a c)) : ∀ (i : Nat) (x : WS), x ∈ lvl stp cs set i → A x.2
  | 0, x, h => by
    simp only [lvl] at h
    split at h
    · cases h
    · simp at h; subst h; exact h0
  | i + 1, x, h => by
    obtain ⟨y, hy, hx⟩ := List.mem_flatMap.1 h
    obtain ⟨c, hc, _, rfl⟩ := mem_ext1.1 hx
    exact hs _ _ (lvl_all h0 hs i y hy) hc

theorem lvl_nil {i : Nat} (h : lvl stp cs set i = []) : ∀ {j : Nat}, i ≤ j → lvl stp cs set j = []
  | 0, hj => by
    have : i = 0 := by omega
    subst this; exact h
  | j + 1, hj => by
    rcases Nat.lt_or_ge i (j + 1) with h' | h'
    · simp only [lvl, lvl_nil h (j := j) (by omega), List.flatMap_nil]
    · have : i = j + 1 := by omega
      subst this; exact h

theorem perm_flat {l l' : List WS} (h : l.Perm l') : (l.flatMap (ext1 stp cs)).Perm (l'.flatMap (ext1 stp cs)) := h.flatMap_right _

theorem perm_keys {l : List WS} {es : List (List UInt8 × HV)} (h : es.Perm (l.map ent)) (hl : (l.map (·.1)).Nodup) : (es.map (·.1)).Nodup := by
  have h1 := h.map (·.1)
  rw [List.map_map] at h1
  exact h1.nodup_iff.2 (by simpa [Function.comp_def, ent] using hl)

/-- the next entry -/
theorem next_pick {vis rest l : List WS} {es : List (List UInt8 × HV)} {k : List UInt8} {v : HV} (hp : (vis ++ rest).Perm l) (he : es.Perm (l.map ent)) (hm : (k, v) ∈ es) (hk : k ∉ vis.map (·.1)) :
    ∃ x l1 l2, rest = l1 ++ x :: l2 ∧ (k, v) = ent x ∧ ((x :: vis) ++ (l1 ++ l2)).Perm l := by
  have h1 : (k, v) ∈ (vis ++ rest).map ent := ((hp.map ent).symm.mem_iff).1 (he.mem_iff.1 hm)
  obtain ⟨x, hx, hxe⟩ := List.mem_map.1 h1
  have hxr : x ∈ rest := by
    rcases List.mem_append.1 hx with h | h
    · exfalso
      refine hk (List.mem_map.2 ⟨x, h, ?_⟩)
      have := congrArg Prod.fst hxe
      exact this
    · exact h
  obtain ⟨l1, l2, rfl⟩ := List.append_of_mem hxr
  refine ⟨x, l1, l2, rfl, hxe.symm, List.Perm.trans ?_ hp⟩
  have e1 : (x :: vis) ++ (l1 ++ l2) = x :: ((vis ++ l1) ++ l2) := by simp
  have e2 : vis ++ (l1 ++ x :: l2) = (vis ++ l1) ++ x :: l2 := by simp
  rw [e1, e2]
  exact List.perm_middle.symm

theorem rest_nil {vis rest l : List WS} {es : List (List UInt8 × HV)} (hl : (l.map (·.1)).Nodup) (hp : (vis ++ rest).Perm l) (he : es.Perm (l.map ent)) (hall : ∀ p ∈ es, p.1 ∈ vis.map (·.1)) : rest = [] := by
  cases rest with
  | nil => rfl
  | cons x rest =>
    exfalso
    have hx : ent x ∈ es := he.mem_iff.2 (List.mem_map.2 ⟨x, hp.mem_iff.1 (by simp), rfl⟩)
    have hk := hall _ hx
    have hn : ((vis ++ x :: rest).map (·.1)).Nodup := (hp.map (·.1)).nodup_iff.2 hl
    simp only [List.map_append, List.map_cons] at hn
    exact (List.nodup_append.1 hn).2.2 _ hk _ (List.mem_cons_self ..) rfl

theorem ext1_take (x : WS) {j : Nat} (hj : j < cs.length) : ext1 stp (cs.take (j + 1)) x = ext1 stp (cs.take j) x ++ (if stp x.2 cs[j] = [] then [] else [(x.1 ++ [cs[j]], stp x.2 cs[j])]) := by
  rw [List.take_add_one, List.getElem?_eq_getElem hj]
  simp only [ext1, Option.toList_some, List.filterMap_append]
  congr 1
  simp only [List.filterMap_cons, List.filterMap_nil]
  split <;> simp_all

theorem key_new {vis : List WS} {x : WS} (hcs : cs.Nodup) (hx : x.1 ∉ vis.map (·.1)) {j : Nat} (hj : j < cs.length) {es : List (List UInt8 × HV)} (he : es.Perm ((vis.flatMap (ext1 stp cs) ++ ext1 stp (cs.take j) x).map ent)) :
    alook (x.1 ++ [cs[j]]) es = none := by
  rw [alook_none]
  intro hm
  have h1 := (he.map (·.1)).mem_iff.1 hm
  rw [List.map_map, List.map_append, List.mem_append] at h1
  rcases h1 with h | h
  · obtain ⟨y, hy, hye⟩ := List.mem_map.1 h
    obtain ⟨z, hz, hzy⟩ := List.mem_flatMap.1 hy
    obtain ⟨d, _, _, rfl⟩ := mem_ext1.1 hzy
    have h2 : z.1 = x.1 := by
      have := congrArg List.dropLast hye
      simpa [ent] using this
    exact hx (h2 ▸ List.mem_map.2 ⟨z, hz, rfl⟩)
  · obtain ⟨y, hy, hye⟩ := List.mem_map.1 h
    obtain ⟨d, hd, _, rfl⟩ := mem_ext1.1 hy
    have h2 : d = cs[j] := by
      have h3 : x.1 ++ [d] = x.1 ++ [cs[j]] := hye
      have := List.append_cancel_left h3
      simpa using this
    rw [h2] at hd
    obtain ⟨k, hk, hke⟩ := List.mem_take_iff_getElem.1 hd
    have := (List.getElem_inj (h₀ := by omega) (h₁ := hj) hcs).1 hke
    omega
end

theorem utf_letters : ∀ c ∈ letters, (Utf8.encode (c.toNat : Int)).data.toList = [c] := by decide
theorem letters_nodup : letters.Nodup := by decide

theorem fact_num {n : Int} (h : fact (.int .i64 n)) : -9223372036854775808 ≤ n ∧ n ≤ 9223372036854775807 := by
  simpa [fact, Lit.wf, IntKind.min, IntKind.max, IntKind.signed, IntKind.bits] using h
theorem dec_lt {a b : Nat} (h : decide ((a : Int) < (b : Int)) = true) : a < b := by simpa using h
theorem dec_ge {a b : Nat} (h : decide ((a : Int) < (b : Int)) = false) : b ≤ a := by
  have : ¬ a < b := by simpa using h
  omega

/-- both branches come to states of one family, then the rest -/
theorem AW.cjoin2 {P : Program} {ro : Option Nat} {N : Nat} {s : AS} {Q : Exit → AS → Prop} {c : Operand} {x y z : Code} {t : Bool} {α : Type} (St : α → AS) (I : α → Prop) (hc : s.ev c = some (.bool t))
    (h1 : t = true → AW P ro N x (thenQ (fun s' => ∃ a, I a ∧ s'.le (St a)) Q) s) (h2 : t = false → AW P ro N y (thenQ (fun s' => ∃ a, I a ∧ s'.le (St a)) Q) s)
    (h3 : ∀ a, I a → AW P ro N z Q (St a)) : AW P ro N (.cond c x y) (thenQ (AW P ro N z Q) Q) s := by
  refine (AW.cond hc h1 h2).mono ?_
  rintro e s' h
  cases e with
  | normal => obtain ⟨a, ha, hl⟩ := h; exact AW.weaken (h3 a ha) hl
  | exit id => exact h
  | goto l => exact h
  | ret => exact h
  | panic ch => exact h
  | outgrown => exact h
theorem fo24_0 : fieldOf Try.prog 24 0 = some (0, { desc := TypeDesc.int .i64, size := 1, bytes := 8, zero := Value.int .i64 0 }) := by kernel_rfl
theorem fo24_1 : fieldOf Try.prog 24 1 = some (1, { desc := TypeDesc.int .i64, size := 1, bytes := 8, zero := Value.int .i64 0 }) := by kernel_rfl
theorem fo24_2 : fieldOf Try.prog 24 2 = some (2, { desc := TypeDesc.slice 66, size := 1, bytes := 24, zero := Value.slice none 0 0 }) := by kernel_rfl
theorem fo66_0 : fieldOf Try.prog 66 0 = some (0, { desc := TypeDesc.int .i64, size := 1, bytes := 8, zero := Value.int .i64 0 }) := by kernel_rfl
theorem fo66_1 : fieldOf Try.prog 66 1 = some (1, { desc := TypeDesc.int .i64, size := 1, bytes := 8, zero := Value.int .i64 0 }) := by kernel_rfl
theorem fo66_2 : fieldOf Try.prog 66 2 = some (2, { desc := TypeDesc.int .i64, size := 1, bytes := 8, zero := Value.int .i64 0 }) := by kernel_rfl
attribute [go_sem high] fo24_0 fo24_1 fo24_2 fo66_0 fo66_1 fo66_2
end Go.AW
