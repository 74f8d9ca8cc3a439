import Derived.Test.YtlddcjolelmpmaaGreatBs5
set_option linter.unusedSimpArgs false
set_option linter.unusedVariables false
namespace Go.AW
open Go
def lab (c : UInt8) : Int := Lib.indexByte letters c
theorem qgJ : ∀ {l : List UInt8} {c : UInt8}, Lib.indexByte l c < 0 ↔ c ∉ l
 | [], c => by simp [Lib.indexByte]
 | b :: l, c => by
  have h := @qgJ l c
  have hg := Lib.indexByte_ge l c
  simp only [Lib.indexByte, List.mem_cons, not_or]
  by_cases e : b = c
  ·subst e; simp
  have e1 : (b == c) = false := by simpa using e
  simp only [e1, Bool.false_eq_true, if_false]
  by_cases e2 : Lib.indexByte l c = -1
  ·have := h.1 (by omega)
   simp only [e2, beq_self_eq_true, if_true]
   exact ⟨fun _ => ⟨fun e' => e e'.symm, this⟩, fun _ => by decide⟩
  have e3 : (Lib.indexByte l c == -1) = false := by simpa using e2
  simp only [e3, Bool.false_eq_true, if_false]
  exact ⟨fun h' => by omega, fun h' => by have := h.2 h'.2; omega⟩
theorem qm9 (L : Int) : qcc L = some (decide (1 ≤ L ∧ L ≤ 16)) := by
 unfold qcc
 simp only [jp]
 by_cases h1 : 1 ≤ L
 ·rw [if_pos h1]; simp [h1]
 rw [if_neg h1]; simp [h1]
theorem qsc (L : Int) (w : List UInt8) : ∃ e, qcu L w = some e ∧ (e = 0 ↔ (1 ≤ L ∧ L ≤ 16) ∧ w.length ≤ 65536 ∧ ∀ c ∈ w, c ∈ letters.take L.toNat) := by
  unfold qcu
  rw [qm9]
  simp only [Option.bind_some]
  by_cases h1 : 1 ≤ L ∧ L ≤ 16
  case neg =>
    rw [if_pos (by rw [decide_eq_false h1]; rfl)]
    exact ⟨12, rfl, by simp [h1]⟩
  rw [if_neg (by rw [decide_eq_true h1]; decide)]
  by_cases h2 : 65536 < (w.length : Int)
  · rw [if_pos h2]
    exact ⟨4, rfl, by simp; omega⟩
  rw [if_neg h2]
  have hx : ∀ c : UInt8, qaT ((([48, 49, 50, 51, 52, 53, 54, 55, 56, 57, 97, 98, 99, 100, 101, 102] : List UInt8).take L.toNat).drop (0 : Int).toNat) (c.toNat : Int) = some (Lib.indexByte (letters.take L.toNat) c) := fun c => by
    unfold qaT
    rw [qi7]
    rfl
  have hl := qgz (body := fun a3 => if a3 < ((w).length : Int) then
            if 0 ≤ (0 : Int) ∧ (0 : Int) ≤ L ∧ L ≤ (([48, 49, 50, 51, 52, 53, 54, 55, 56, 57, 97, 98, 99, 100, 101, 102] : List UInt8).length : Int) then
              (idx w a3).bind fun x8 =>
              (qaT ((([48, 49, 50, 51, 52, 53, 54, 55, 56, 57, 97, 98, 99, 100, 101, 102] : List UInt8).take (L).toNat).drop (0 : Int).toNat) (x8.toNat : Int)).bind fun x10 =>
              if x10 < 0 then
                some (Stp.exit (Ou.ret 13))
              else
                some (Stp.next (IntKind.wrap .i64 (a3 + 1)))
            else none
          else
            some (Stp.exit (Ou.go ()))) (fun i => (i : Int)) w.length (fun i => decide (Lib.indexByte (letters.take L.toNat) (w.getD i 0) < 0)) (Ou.ret (13 : Int)) (Ou.go ()) (fun i hi => by
      have e1 : w.getD i 0 = w[i] := by simp [List.getD, hi]
      rw [if_pos (qcd hi), if_pos ⟨by decide, by omega, by show L ≤ (16 : Int); omega⟩, ix hi]
      simp only [Option.bind_some, hx, nx (by omega : w.length ≤ _) hi, e1, decide_eq_true_eq]) (by rw [if_neg (qaP _)]) (s0 := (0 : Int)) rfl
  rw [hl]
  by_cases hw : ∀ c ∈ w, c ∈ letters.take L.toNat
  · rw [if_neg]
    · exact ⟨0, rfl, by simp only [true_iff]; exact ⟨h1, by omega, hw⟩⟩
    intro ha
    obtain ⟨i, hi, hp⟩ := List.any_eq_true.1 ha
    have hi := List.mem_range.1 hi
    have e1 : w.getD i 0 = w[i] := by simp [List.getD, hi]
    rw [e1] at hp
    exact qgJ.1 (of_decide_eq_true hp) (hw _ (List.getElem_mem hi))
  rw [if_pos]
  · exact ⟨13, rfl, by simp only [show ¬ (13 : Int) = 0 by decide, false_iff]; exact fun h => hw h.2.2⟩
  apply Classical.byContradiction
  intro hno
  refine hw fun c hc => ?_
  obtain ⟨i, hi, rfl⟩ := List.getElem_of_mem hc
  apply Classical.byContradiction
  intro hn
  refine hno (List.any_eq_true.2 ⟨i, List.mem_range.2 hi, ?_⟩)
  have e1 : w.getD i 0 = w[i] := by simp [List.getD, hi]
  rw [e1]
  exact decide_eq_true (qgJ.2 hn)
theorem qnQ (g : Gr) : ∃ e, qa1 g = some e ∧ (e = 0 ↔ VG g ∧ g.1 ≤ 16) := by
 obtain ⟨e, he, hz⟩ := qgU g
 unfold qa1
 rw [qep, he]
 simp only [Option.bind_some]
 by_cases h0 : e = 0
 ·rw [if_neg (by omega)]
  by_cases h1 : 16 < g.1
  ·rw [if_pos h1]; exact ⟨12, rfl, by simp; intro _; omega⟩
  rw [if_neg h1]; exact ⟨0, rfl, by simp only [true_iff]; exact ⟨hz.1 h0, by omega⟩⟩
 rw [if_pos h0]
 exact ⟨1, rfl, by simp; intro hv; exact absurd (hz.2 hv) h0⟩
def WOk (g : Gr) (w : List UInt8) : Prop := w.length ≤ 65536 ∧ ∀ c ∈ w, c ∈ lets g
theorem qjs (g : Gr) (w : List UInt8) : ∃ e, qbg g w = some e ∧ (e = 0 ↔ VG g ∧ g.1 ≤ 16 ∧ WOk g w) := by
 obtain ⟨e, he, hz⟩ := qnQ g
 obtain ⟨f, hf, hy⟩ := qsc g.1 w
 unfold qbg
 rw [he]
 simp only [Option.bind_some, hf]
 by_cases h0 : e = 0
 ·rw [if_neg (by omega)]
  obtain ⟨hv, h16⟩ := hz.1 h0
  exact ⟨f, rfl, hy.trans ⟨fun h => ⟨hv, h16, h.2⟩, fun h => ⟨⟨hv.l1, h16⟩, h.2.2⟩⟩⟩
 rw [if_pos h0]
 exact ⟨e, rfl, ⟨fun h => absurd h h0, fun h => absurd (hz.2 ⟨h.1, h.2.1⟩) h0⟩⟩
section
variable {g : Gr}
theorem qrJ {c : UInt8} (h : c ∈ lets g) : ∃ (i : Nat) (hi : i < letters.length), (i : Int) < g.1 ∧ letters[i] = c ∧ lab c = i := by
 obtain ⟨i, hi, hg, rfl⟩ := qks h
 exact ⟨i, hi, hg, rfl, qfT hi⟩
theorem qmH (hv : VG g) {a : List Int} (ha : qeb g a) {c : UInt8} (hc : c ∈ lets g) : qbb g a (c.toNat : Int) = some (qeN g a (lab c)) := by
 obtain ⟨i, hi, hg, rfl, e⟩ := qrJ hc
 rw [e]
 exact qkv hv ha hi hg
def qd8 (g : Gr) (a : List Int) (w : List UInt8) : List Int := w.foldl (fun a c => qeN g a (lab c)) a
theorem qnT (a : List Int) (c : UInt8) (w : List UInt8) : qd8 g a (c :: w) = qd8 g (qeN g a (lab c)) w := rfl
theorem qfJ (a : List Int) (u v : List UInt8) : qd8 g a (u ++ v) = qd8 g (qd8 g a u) v := List.foldl_append ..
theorem qkY (c : Int) : qeN g [] c = [] := by simp [qeN]
theorem qlC : ∀ w : List UInt8, qd8 g [] w = []
 | [] => rfl
 | c :: w => by rw [qnT, qkY, qlC w]
theorem qnl {a : List Int} (ha : qeb g a) : ∀ w, qeb g (qd8 g a w) := fun w => by
 induction w generalizing a with
 | nil => exact ha
 | cons c w ih => exact ih (qh0 g a _)
theorem qrY (hv : VG g) {a : List Int} (ha : qeb g a) {w : List UInt8} (hw : WOk g w) : qcy g a w = some (qd8 g a w) := by
 obtain ⟨hl, hc⟩ := hw
 unfold qcy
 have hx : ∃ x, loopW (S := (List Int) × Int) (X := (List Int)) (fun a1 =>
   jp (fun (a5 : Bool) =>
    if a5 = true then
     (idx w a1.2).bind fun x8 =>
     (qbb g a1.1 (x8.toNat : Int)).bind fun x10 =>
     some (Stp.next (x10, IntKind.wrap .i64 (a1.2 + 1)))
    else
     some (Stp.exit a1.1))
    fun k7 =>
    if a1.2 < ((w).length : Int) then
     k7 (decide (0 < ((a1.1).length : Int)))
    else
     k7 false) (a, 0) = some x ∧ x = qd8 g a w := by
  refine qme w.length (fun i s => s = (qd8 g a (w.take i), (i : Int))) ?_ ?_ 0 _ (Nat.zero_le _) rfl
  ·rintro i s hi rfl
   simp only [jp]
   rw [if_pos (qcd hi)]
   by_cases h0 : qd8 g a (w.take i) = []
   ·rw [if_neg (by rw [h0]; simp)]
    refine .inr ⟨_, rfl, ?_⟩
    rw [h0]
    conv => rhs; rw [← List.take_append_drop i w, qfJ, h0, qlC]
   have hpos := List.length_pos_iff.2 h0
   rw [if_pos (decide_eq_true (by omega)), ix hi]
   simp only [Option.bind_some]
   rw [qmH hv (qnl ha _) (hc _ (List.getElem_mem hi))]
   refine .inl ⟨_, rfl, ?_⟩
   rw [nx (by omega : w.length ≤ _) hi, List.take_add_one, List.getElem?_eq_getElem hi, qfJ]
   rfl
  rintro s rfl
  simp only [jp]
  rw [if_neg (qaP _), if_neg (by simp)]
  exact ⟨_, rfl, by rw [List.take_length]⟩
 obtain ⟨x, hx, rfl⟩ := hx
 rw [hx]
 rfl
theorem qhp (hv : VG g) (h16 : g.1 ≤ 16) {w : List UInt8} (hw : WOk g w) : qbc g w = some (decide (qd8 g (upto g.2.1) w ≠ []), 0) := by
 obtain ⟨e, he, hz⟩ := qjs g w
 have h0 := hz.2 ⟨hv, h16, hw⟩
 subst h0
 unfold qbc
 rw [he]
 simp only [Option.bind_some, ne_eq, not_true_eq_false, if_false, qkZ hv, qrY hv (qir g) hw]
 congr 2
 by_cases h : qd8 g (upto g.2.1) w = []
 ·simp [h]
 have := List.length_pos_iff.2 h
 simp [h, this]
end
theorem qpP (g : Gr) : ∃ b, qdl g = some b ∧ (b = false → (g.2.1 ≤ 8 ∨ 64 < g.2.1) ∧ (g.2.2.length ≤ 30 ∨ 1024 < g.2.2.length) ∧ g.2.2.length ≤ 1027) := by
 unfold qdl
 simp only [jp]
 by_cases h1 : 8 < g.2.1
 ·rw [if_pos h1]
  by_cases h2 : g.2.1 ≤ 64
  ·rw [if_pos h2]; exact ⟨true, rfl, by simp⟩
  rw [if_neg h2]
  by_cases h3 : 30 < (g.2.2.length : Int)
  ·rw [if_pos h3]
   by_cases h4 : (g.2.2.length : Int) ≤ 1024
   ·rw [if_pos h4]; exact ⟨true, rfl, by simp⟩
   rw [if_neg h4]; exact ⟨_, rfl, by simp; omega⟩
  rw [if_neg h3]; exact ⟨_, rfl, by simp; omega⟩
 rw [if_neg h1]
 by_cases h3 : 30 < (g.2.2.length : Int)
 ·rw [if_pos h3]
  by_cases h4 : (g.2.2.length : Int) ≤ 1024
  ·rw [if_pos h4]; exact ⟨true, rfl, by simp⟩
  rw [if_neg h4]; exact ⟨_, rfl, by simp; omega⟩
 rw [if_neg h3]; exact ⟨_, rfl, by simp; omega⟩
theorem qrb {a b : List Int} (hm : a.length ≤ 9223372036854775807) : qaZ a b = some (decide (a = b)) := by
 unfold qaZ
 by_cases hl : a.length = b.length
 ·rw [if_neg (by omega)]
  refine lpL (qgz (fun i => (i : Int)) a.length (fun i => decide (a.getD i 0 ≠ b.getD i 0)) (Ou.ret false) (Ou.go ()) (fun i hi => ?_) (by rw [if_neg (qaP _)]) rfl) ?_
  ·have hi' : i < b.length := by omega
   have e1 : a.getD i 0 = a[i] := by simp [List.getD, hi]
   have e2 : b.getD i 0 = b[i] := by simp [List.getD, hi']
   rw [if_pos (qcd hi), ix hi, ix hi']
   simp only [Option.bind_some, nx hm hi, e1, e2, decide_eq_true_eq]
  by_cases he : a = b
  ·subst he
   rw [if_neg]
   ·simp [lpO]
   simp
  rw [if_pos]
  ·simp [lpO, he]
  refine List.any_eq_true.2 ?_
  apply Classical.byContradiction
  intro hno
  refine he (List.ext_getElem hl fun i h1 h2 => ?_)
  apply Classical.byContradiction
  intro hne
  refine hno ⟨i, List.mem_range.2 h1, decide_eq_true ?_⟩
  rwa [show a.getD i 0 = a[i] by simp [List.getD, h1], show b.getD i 0 = b[i] by simp [List.getD, h2]]
 rw [if_pos (by omega)]
 have : ¬ a = b := fun e => hl (by rw [e])
 simp [this]
theorem WOk.sub {g : Gr} {w u : List UInt8} (h : WOk g w) (hl : u.length ≤ w.length) (hs : ∀ c ∈ u, c ∈ w) : WOk g u := ⟨Nat.le_trans hl h.1, fun c hc => h.2 c (hs c hc)⟩
section
variable {g : Gr}
def canB (g : Gr) : List UInt8 → List Bool
 | [] => List.replicate g.2.1.toNat true
 | c :: w => (upto g.2.1).map fun s => g.2.2.any fun x => decide (x.1 = s ∧ x.2.1 = lab c) && (canB g w).getD x.2.2.toNat false
def okE (g : Gr) (w : List UInt8) (c : UInt8) (prev : Option Int) (x : Ed) : Bool := decide (x.2.1 = lab c) && (canB g w).getD x.2.2.toNat false && (match prev with
 | none => true
 | some s => decide (x.1 = s))
def pick (g : Gr) (w : List UInt8) (c : UInt8) (prev : Option Int) : Nat := g.2.2.findIdx (okE g w c prev)
end
section
variable {g : Gr}
end
section
variable {g : Gr}
theorem qqn {S X : Type} {body : S → Option (Stp S X)} (x0 : X) (n : Nat) (I : Nat → S → Prop)
  (step : ∀ i s, i < n → I i s → (∃ s', body s = some (.next s') ∧ I (i + 1) s') ∨ ∃ x, body s = some (.exit x) ∧ x = x0) (fin : ∀ s, I n s → ∃ x, body s = some (.exit x) ∧ x = x0) {s0 : S} (h : I 0 s0) : loopW body s0 = some x0 := by
 obtain ⟨x, hx, rfl⟩ := qme n I step fin 0 s0 (Nat.zero_le _) h
 exact hx
end
def allW (cs : List UInt8) : Nat → List (List UInt8)
 | 0 => [[]]
 | n + 1 => (allW cs n).flatMap fun w => cs.map fun c => w ++ [c]
theorem qe4 {cs : List UInt8} : ∀ {n : Nat} {w : List UInt8}, w ∈ allW cs n ↔ w.length = n ∧ ∀ c ∈ w, c ∈ cs
 | 0, w => by
  simp only [allW, List.mem_singleton]
  constructor
  ·rintro rfl; simp
  rintro ⟨h, _⟩; exact List.eq_nil_of_length_eq_zero h
 | n + 1, w => by
  simp only [allW, List.mem_flatMap, List.mem_map]
  constructor
  ·rintro ⟨u, hu, c, hc, rfl⟩
   obtain ⟨h1, h2⟩ := qe4.1 hu
   refine ⟨by simp [h1], fun d hd => ?_⟩
   rcases List.mem_append.1 hd with h | h
   ·exact h2 d h
   simp at h; subst h; exact hc
  rintro ⟨h1, h2⟩
  rcases List.eq_nil_or_concat w with rfl | ⟨v, c, rfl⟩
  ·simp at h1
  rw [List.concat_eq_append] at h1 h2 ⊢
  exact ⟨v, qe4.2 ⟨by simpa using h1, fun d hd => h2 d (List.mem_append_left _ hd)⟩, c, h2 c (by simp), rfl⟩
theorem qib (cs : List UInt8) : ∀ n, (allW cs n).length = cs.length ^ n
 | 0 => rfl
 | n + 1 => by
  have h : ∀ l : List (List UInt8), (l.flatMap fun w => cs.map fun c => w ++ [c]).length = l.length * cs.length := by
   intro l
   induction l with
   | nil => simp
   | cons x l ih => rw [List.flatMap_cons, List.length_append, ih, List.length_map, List.length_cons, Nat.succ_mul]; omega
  simp only [allW]
  rw [h, qib cs n, Nat.pow_succ]
theorem qnu {cs : List UInt8} (hcs : cs.Pairwise (· < ·)) : ∀ n, (allW cs n).Pairwise (· < ·)
 | 0 => by simp [allW]
 | n + 1 => by
  simp only [allW]
  rw [List.pairwise_flatMap]
  refine ⟨fun x hx => ?_, (qnu hcs n).imp_of_mem fun {x y} hx hy hxy a ha b hb => ?_⟩
  ·rw [List.pairwise_map]
   exact hcs.imp fun hcd => qpH _ (List.cons_lt_cons_iff.2 (.inl hcd))
  obtain ⟨c, _, rfl⟩ := List.mem_map.1 ha
  obtain ⟨d, _, rfl⟩ := List.mem_map.1 hb
  exact qo6 _ _ (by rw [(qe4.1 hx).1, (qe4.1 hy).1]) hxy
section
variable {g : Gr}
def accB (g : Gr) (w : List UInt8) : Bool := decide (qd8 g (upto g.2.1) w ≠ [])
end
section
variable {β : Type}
end
section
variable {g : Gr}
end
theorem qlg {f h : List Int → UInt8 → List Int} {cs : List UInt8} {A : List Int → Prop} {set : List Int} (hs : A set) (hA : ∀ a c, A a → c ∈ cs → A (f a c)) (he : ∀ a c, A a → c ∈ cs → f a c = h a c) : ∀ n, lvl f cs set n = lvl h cs set n
 | 0 => rfl
 | n + 1 => by
  simp only [lvl]
  rw [← qlg hs hA he n]
  have hall : ∀ x ∈ lvl f cs set n, A x.2 := qku hs hA n
  have hcs : ∀ (cs' : List UInt8), (∀ c ∈ cs', c ∈ cs) → ∀ x ∈ lvl f cs set n, ext1 f cs' x = ext1 h cs' x := by
   intro cs' hsub x hx
   unfold ext1
   induction cs' with
   | nil => rfl
   | cons c cs' ih =>
    rw [List.filterMap_cons, List.filterMap_cons, he x.2 c (hall x hx) (hsub c (List.mem_cons_self ..)), ih fun d hd => hsub d (List.mem_cons_of_mem _ hd)]
  have : ∀ l : List WS, (∀ x ∈ l, ext1 f cs x = ext1 h cs x) → l.flatMap (ext1 f cs) = l.flatMap (ext1 h cs) := by
   intro l hl
   induction l with
   | nil => rfl
   | cons x l ih => rw [List.flatMap_cons, List.flatMap_cons, hl x (List.mem_cons_self ..), ih fun y hy => hl y (List.mem_cons_of_mem _ hy)]
  exact this _ (hcs cs fun _ h => h)
section
variable {g : Gr}
def stpL (g : Gr) (a : List Int) (c : UInt8) : List Int := qeN g a (lab c)
theorem qs6 (hv : VG g) {set : List Int} (hs : qeb g set) (n : Nat) : LV g set n = lvl (stpL g) (lets g) set n := by
 refine qlg (A := qeb g) hs (fun a c ha hc => qom hv ha hc) (fun a c ha hc => ?_) n
 unfold stpM
 rw [qmH hv ha hc]
 rfl
theorem qq0 (hv : VG g) {set : List Int} (hs : qeb g set) : ∀ (n : Nat) (x : WS), x ∈ LV g set n ↔ x.1.length = n ∧ (∀ c ∈ x.1, c ∈ lets g) ∧ x.2 = qd8 g set x.1 ∧ x.2 ≠ [] := by
 intro n
 rw [qs6 hv hs]
 induction n with
 | zero =>
  rintro ⟨u, a⟩
  simp only [lvl]
  constructor
  ·intro h
   split at h
   ·cases h
   rename_i hne
   simp only [List.mem_singleton, Prod.mk.injEq] at h
   obtain ⟨rfl, rfl⟩ := h
   exact ⟨rfl, by simp, rfl, hne⟩
  rintro ⟨hl, _, he, hne⟩
  have hu : u = [] := List.eq_nil_of_length_eq_zero hl
  subst hu
  have : a = set := he
  subst this
  rw [if_neg hne]
  simp
 | succ n ih =>
  rintro ⟨u, a⟩
  simp only [lvl, List.mem_flatMap, qdH]
  constructor
  ·rintro ⟨y, hy, c, hc, hne, he⟩
   cases he
   obtain ⟨h1, h2, h3, h4⟩ := (ih y).1 hy
   refine ⟨by simp [h1], fun d hd => ?_, ?_, hne⟩
   ·rcases List.mem_append.1 hd with hd | hd
    ·exact h2 d hd
    simp at hd; subst hd; exact hc
   show qeN g y.2 (lab c) = _
   rw [qfJ, ← h3]
   rfl
  rintro ⟨hl, hc, he, hne⟩
  rcases List.eq_nil_or_concat u with rfl | ⟨v, c, rfl⟩
  ·simp at hl
  rw [List.concat_eq_append] at he hl hc ⊢
  rw [qfJ] at he
  have he' : a = qeN g (qd8 g set v) (lab c) := he
  have hne2 : qd8 g set v ≠ [] := fun h0 => hne (by rw [he', h0, qkY])
  exact ⟨(v, qd8 g set v), (ih _).2 ⟨by simpa using hl, fun d hd => hc d (List.mem_append_left _ hd), rfl, hne2⟩, c, hc c (by simp), by show qeN g _ _ ≠ []; rw [← he']; exact hne, by rw [he']; rfl⟩
end
theorem qm6 : ∀ {u v : List UInt8}, u < v → ¬ v < u
 | [], [], h, _ => by cases h
 | [], _ :: _, _, h => by cases h
 | _ :: _, [], h, _ => by cases h
 | a :: u, b :: v, h, h' => by
  rcases List.cons_lt_cons_iff.1 h with h1 | ⟨h1, h2⟩
  ·rcases List.cons_lt_cons_iff.1 h' with h3 | ⟨h3, h4⟩
   ·exact absurd (UInt8.lt_trans h1 h3) (qmD a)
   subst h3; exact qmD _ h1
  subst h1
  rcases List.cons_lt_cons_iff.1 h' with h3 | ⟨h3, h4⟩
  ·exact qmD _ h3
  exact qm6 h2 h4
theorem qpG {l m : List (List UInt8)} (hl : l.Pairwise (· < ·)) (hm : m.Pairwise (· < ·)) (h : ∀ x, x ∈ l ↔ x ∈ m) : l = m := by
 have nl : l.Nodup := hl.imp fun h e => by subst e; exact qo5 _ h
 have nm : m.Nodup := hm.imp fun h e => by subst e; exact qo5 _ h
 have hp : l.Perm m := (List.perm_ext_iff_of_nodup nl nm).2 h
 exact hp.eq_of_pairwise (fun a b _ _ h1 h2 => absurd h2 (qm6 h1)) hl hm
section
variable {g : Gr}
theorem qqp (g : Gr) : (lets g).Pairwise (· < ·) := letters_asc.sublist (List.take_sublist _ _)
theorem qhq (hv : VG g) (n : Nat) : (LV g (upto g.2.1) n).map Prod.fst = (allW (lets g) n).filter (accB g) := by
 refine qpG (qra g _ n) ((qnu (qqp g) n).filter _) fun w => ?_
 simp only [List.mem_map, List.mem_filter, qe4, accB, decide_eq_true_eq]
 constructor
 ·rintro ⟨x, hx, rfl⟩
  obtain ⟨h1, h2, h3, h4⟩ := (qq0 hv (qir g) n x).1 hx
  exact ⟨⟨h1, h2⟩, by rw [← h3]; exact h4⟩
 rintro ⟨⟨h1, h2⟩, h3⟩
 exact ⟨(w, qd8 g (upto g.2.1) w), (qq0 hv (qir g) n _).2 ⟨h1, h2, rfl, h3⟩, rfl⟩
theorem qs4 (hv : VG g) (h16 : g.1 ≤ 16) (n : Nat) : (LV g (upto g.2.1) n).length ≤ g.1.toNat ^ n := by
 have h := qhq hv n
 have h2 := congrArg List.length h
 rw [List.length_map] at h2
 rw [h2]
 refine Nat.le_trans (List.length_filter_le _ _) ?_
 rw [qib, qqo hv h16]
 exact Nat.le_refl _
end
theorem qqH {g : Gr} (hv : VG g) (h16 : g.1 ≤ 16) {n : Nat} (hn : n ≤ 4096) (hb : ∀ j, 1 ≤ j → j ≤ n → g.1.toNat ^ j ≤ 4096) : qbe g (n : Int) = some ((allW (lets g) n).filter (accB g), 0) := by
 obtain ⟨r, hr, _, h2, h3⟩ := qjV g n
 have h0 := h3 hv h16 (by omega) (by omega) (qjc.2 fun j j1 j2 => Nat.le_trans (qs4 hv h16 j) (hb j j1 (by simpa using j2)))
 obtain ⟨_, hw⟩ := h2 h0
 obtain ⟨r1, r2⟩ := r
 dsimp only at h0 hw
 rw [hr, h0, hw]
 unfold qn9
 rw [Int.toNat_natCast, qhq hv]
section
variable {g : Gr}
end
theorem qsh {a b : UInt8} : ((a.toNat : Int) = (b.toNat : Int)) ↔ a = b := by
 constructor
 ·intro h
  exact UInt8.toNat_inj.1 (by omega)
 rintro rfl; rfl
theorem qm8 {c : UInt8} (h : c ∉ letters) : lab c = -1 := by
 have h1 : lab c < 0 := qgJ.2 h
 have h2 := Lib.indexByte_ge letters c
 show Lib.indexByte letters c = -1
 have h1 : Lib.indexByte letters c < 0 := h1
 omega
theorem qnn (c : UInt8) : qcH (c.toNat : Int) = some (lab c) := by
 unfold qcH
 refine lpL (qqn (if c ∈ letters then .ret (lab c) else .go ()) 16 (fun i s => s = (i : Int) ∧ ∀ j (_ : j < i) (h : j < letters.length), letters[j] ≠ c) ?_ ?_ ⟨rfl, fun j hj => by omega⟩) ?_
 ·rintro i s hi ⟨rfl, hne⟩
  have hil : i < letters.length := hi
  have hx : idx ([48, 49, 50, 51, 52, 53, 54, 55, 56, 57, 97, 98, 99, 100, 101, 102] : List UInt8) (i : Int) = some letters[i] := ix (l := letters) hil
  rw [if_pos (by omega), hx]
  simp only [Option.bind_some, qsh]
  by_cases e : letters[i] = c
  ·rw [if_pos e]
   refine .inr ⟨_, rfl, ?_⟩
   rw [if_pos (by rw [← e]; exact List.getElem_mem hil)]
   congr 1
   rw [← e]
   exact (qfT hil).symm
  rw [if_neg e]
  refine .inl ⟨_, rfl, nx (by omega : (16 : Nat) ≤ _) hi, fun j hj h => ?_⟩
  by_cases hji : j = i
  ·subst hji; exact e
  exact hne j (by omega) h
 ·rintro s ⟨rfl, hne⟩
  rw [if_neg (by omega)]
  refine ⟨_, rfl, ?_⟩
  rw [if_neg]
  intro hm
  obtain ⟨j, hj, e⟩ := List.getElem_of_mem hm
  exact hne j hj hj e
 by_cases h : c ∈ letters
 ·rw [if_pos h]; rfl
 rw [if_neg h, qm8 h]; rfl
theorem qqq {L : Int} (h1 : 1 ≤ L) (h16 : L ≤ 16) (c : UInt8) : (c ∉ letters.take L.toNat) ↔ lab c < 0 ∨ L ≤ lab c := by
 by_cases h : c ∈ letters
 ·obtain ⟨i, hi, rfl⟩ := List.getElem_of_mem h
  have e : lab letters[i] = (i : Int) := qfT hi
  rw [e]
  constructor
  ·intro hn
   right
   apply Classical.byContradiction
   intro hlt
   exact hn (List.mem_take_iff_getElem.2 ⟨i, by omega, rfl⟩)
  rintro (h0 | h0) hm
  ·omega
  obtain ⟨j, hj, e2⟩ := List.mem_take_iff_getElem.1 hm
  have := (List.getElem_inj (h₀ := by omega) (h₁ := hi) letters_nodup).1 e2
  omega
 rw [qm8 h]
 exact ⟨fun _ => .inl (by omega), fun _ hm => h (List.mem_of_mem_take hm)⟩
theorem qsr (L : Int) (w : List UInt8) : qdm L w = qcu L w := by
 unfold qdm qcu
 rw [qm9]
 simp only [jp, Option.bind_some]
 by_cases h1 : 1 ≤ L ∧ L ≤ 16
 case neg =>
  rw [if_pos (show (!decide (1 ≤ L ∧ L ≤ 16)) = true by rw [decide_eq_false h1]; rfl)]
  by_cases h0 : L < 1
  ·rw [if_pos h0]; rfl
  rw [if_neg h0, if_pos (decide_eq_true (by omega))]
 rw [if_neg (show ¬ (!decide (1 ≤ L ∧ L ≤ 16)) = true by rw [decide_eq_true h1]; decide), if_neg (by omega : ¬ L < 1), if_neg (show ¬ decide (16 < L) = true by simp; omega)]
 by_cases h2 : 65536 < (w.length : Int)
 ·rw [if_pos h2, if_pos h2]
 rw [if_neg h2, if_neg h2]
 congr 2
 funext a
 by_cases ha : a < (w.length : Int)
 case neg => rw [if_neg ha, if_neg ha]
 have hc0 : 0 ≤ (0 : Int) ∧ (0 : Int) ≤ L ∧ L ≤ (([48, 49, 50, 51, 52, 53, 54, 55, 56, 57, 97, 98, 99, 100, 101, 102] : List UInt8).length : Int) := ⟨by decide, by omega, by show L ≤ (16 : Int); omega⟩
 rw [if_pos ha, if_pos ha, if_pos hc0]
 cases hx : idx w a with
 | none => rfl
 | some c =>
  simp only [Option.bind_some, qnn]
  have hs : qaT ((([48, 49, 50, 51, 52, 53, 54, 55, 56, 57, 97, 98, 99, 100, 101, 102] : List UInt8).take L.toNat).drop (0 : Int).toNat) (c.toNat : Int) = some (Lib.indexByte (letters.take L.toNat) c) := by
   unfold qaT
   rw [qi7]
   rfl
  rw [hs]
  simp only [Option.bind_some]
  have hiff := (qgJ (l := letters.take L.toNat) (c := c)).trans (qqq h1.1 h1.2 c)
  by_cases h3 : lab c < 0
  ·rw [if_pos h3, if_pos (hiff.2 (.inl h3))]; rfl
  rw [if_neg h3]
  by_cases h4 : L ≤ lab c
  ·rw [if_pos (decide_eq_true h4), if_pos (hiff.2 (.inr h4))]
  rw [if_neg (by simp; omega), if_neg (fun h => by rcases hiff.1 h with h | h <;> omega)]
theorem qpy (g : Gr) : qbQ g = qa1 g := by
 unfold qa1 qbQ
 rw [qep]
theorem qgN (g : Gr) (w : List UInt8) : qb1 g w = qbg g w := by
 unfold qb1 qbg
 rw [qpy]
 congr 1
 funext x
 rw [qsr]
section
variable {g : Gr}
theorem qnG (hv : VG g) {a : List Int} (ha : qeb g a) {w : List UInt8} (hl : w.length ≤ 1000000) : qdP g a w = some (qd8 g a w) := by
 unfold qdP
 refine qfN (qch (fun i => (qd8 g a (w.take i), (i : Int))) w.length (qd8 g a w) (fun i hi => ?_) ?_ rfl) rfl
 ·dsimp only
  rw [if_pos (qcd hi), ix hi]
  simp only [Option.bind_some, qnn]
  have hle := qiB hv (qnl ha (w.take i))
  rw [qjA hv (by omega)]
  simp only [Option.bind_some, nx (by omega : w.length ≤ _) hi]
  rw [List.take_add_one, List.getElem?_eq_getElem hi, qfJ]
  rfl
 dsimp only
 rw [if_neg (qaP _), List.take_length]
theorem qlO (g : Gr) (w : List UInt8) : ∃ r, qbc g w = some r ∧ qb2 g w = some r := by
 obtain ⟨e, he, hz⟩ := qjs g w
 by_cases h0 : e = 0
 ·obtain ⟨hv, h16, hw⟩ := hz.1 h0
  subst h0
  refine ⟨_, qhp hv h16 hw, ?_⟩
  unfold qb2
  rw [qgN, he]
  have hl := hw.1
  simp only [Option.bind_some, ne_eq, not_true_eq_false, if_false, qrc hv, qnG hv (qir g) (by omega : w.length ≤ 1000000)]
  congr 2
  by_cases h : qd8 g (upto g.2.1) w = []
  ·simp [h]
  have := List.length_pos_iff.2 h
  simp [h, this]
 refine ⟨(false, e), ?_, ?_⟩
 ·unfold qbc
  rw [he]
  simp only [Option.bind_some]
  rw [if_pos h0]
 unfold qb2
 rw [qgN, he]
 simp only [Option.bind_some]
 rw [if_pos h0]
end
section
variable {g : Gr}
end
section
variable {g : Gr}
end
section
variable {g : Gr}
end
abbrev Jn := qap
def fstN {X : Type} (p : Nat → Bool) (xr : Nat → X) (xf : X) : Nat → Nat → X
 | 0, _ => xf
 | d + 1, i => if p i = true then xr i else fstN p xr xf d (i + 1)
theorem qm7 {S X : Type} {body : S → Option (Stp S X)} (st : Nat → S) (n : Nat) (p : Nat → Bool) (xr : Nat → X) (xf : X) (h : ∀ i, i < n → body (st i) = if p i = true then some (.exit (xr i)) else some (.next (st (i + 1)))) (hf : body (st n) = some (.exit xf)) {s0 : S} (hs0 : s0 = st 0) :
  loopW body s0 = some (fstN p xr xf n 0) := by
 subst hs0
 have : ∀ d i, i + d = n → loopW body (st i) = some (fstN p xr xf d i) := by
  intro d
  induction d with
  | zero =>
   intro i hi
   have e : i = n := by omega
   subst e
   rw [qeT hf]
   rfl
  | succ d ih =>
   intro i hi
   have hb := h i (by omega)
   unfold fstN
   by_cases hp : p i = true
   ·rw [if_pos hp] at hb ⊢
    rw [qeT hb]
   rw [if_neg hp] at hb ⊢
   rw [qhc hb]
   exact ih (i + 1) (by omega)
 exact this n 0 (by omega)
theorem qhg {X : Type} (p : Nat → Bool) (xr : Nat → X) (xf : X) : ∀ d i, (∃ j, i ≤ j ∧ j < i + d ∧ p j = true ∧ (∀ k, i ≤ k → k < j → p k = false) ∧ fstN p xr xf d i = xr j) ∨ ((∀ j, i ≤ j → j < i + d → p j = false) ∧ fstN p xr xf d i = xf)
 | 0, i => .inr ⟨fun j h1 h2 => by omega, rfl⟩
 | d + 1, i => by
  unfold fstN
  by_cases hp : p i = true
  ·rw [if_pos hp]
   exact .inl ⟨i, by omega, by omega, hp, fun k h1 h2 => by omega, rfl⟩
  rw [if_neg hp]
  have hp' : p i = false := by simpa using hp
  rcases qhg p xr xf d (i + 1) with ⟨j, h1, h2, h3, h4, h5⟩ | ⟨h1, h2⟩
  ·refine .inl ⟨j, by omega, by omega, h3, fun k hk1 hk2 => ?_, h5⟩
   by_cases hk : k = i
   ·subst hk; exact hp'
   exact h4 k (by omega) hk2
  refine .inr ⟨fun j hj1 hj2 => ?_, h2⟩
  by_cases hj : j = i
  ·subst hj; exact hp'
  exact h1 j (by omega) (by omega)
theorem qqu {α X : Type} (l : List α) (P : α → Bool) {p : Nat → Bool} (hp : ∀ i (h : i < l.length), p i = P l[i]) (xr xf : X) : fstN p (fun _ => xr) xf l.length 0 = if l.any P = true then xr else xf := by
 rcases qhg p (fun _ => xr) xf l.length 0 with ⟨j, h1, h2, h3, h4, h5⟩ | ⟨h1, h2⟩
 ·rw [h5, if_pos]
  rw [List.any_eq_true]
  exact ⟨l[j], List.getElem_mem (by omega), by rw [← hp j (by omega)]; exact h3⟩
 rw [h2, if_neg]
 rw [List.any_eq_true]
 rintro ⟨x, hx, hP⟩
 obtain ⟨j, hj, rfl⟩ := List.getElem_of_mem hx
 rw [← hp j hj, h1 j (by omega) (by omega)] at hP
 cases hP
theorem qlh {α S X : Type} {body : S → Option (Stp S X)} (st : Nat → S) (l : List α) (P : α → Bool) (xr xf : X) (h : ∀ i (hi : i < l.length), body (st i) = if P l[i] = true then some (.exit xr) else some (.next (st (i + 1)))) (hf : body (st l.length) = some (.exit xf)) {s0 : S} (hs0 : s0 = st 0) :
  loopW body s0 = some (if l.any P = true then xr else xf) := by
 rw [← qqu l P (p := fun i => if h : i < l.length then P l[i] else false) (fun i hi => by rw [dif_pos hi]) xr xf]
 exact qm7 st l.length _ _ xf (fun i hi => by rw [h i hi, dif_pos hi]) hf hs0
theorem qpm {α X : Type} (l : List α) (P : α → Bool) {p : Nat → Bool} (hp : ∀ i (h : i < l.length), p i = P l[i]) (xr : Nat → X) (xf : X) : fstN p xr xf l.length 0 = if l.any P = true then xr (l.findIdx P) else xf := by
 rcases qhg p xr xf l.length 0 with ⟨j, h1, h2, h3, h4, h5⟩ | ⟨h1, h2⟩
 ·have hj : j < l.length := by omega
  have hf : l.findIdx P = j := by
   rw [List.findIdx_eq hj]
   exact ⟨by rw [← hp j hj]; exact h3, fun k hk => by rw [← hp k (by omega)]; exact h4 k (by omega) hk⟩
  rw [h5, if_pos, hf]
  rw [List.any_eq_true]
  exact ⟨l[j], List.getElem_mem hj, by rw [← hp j hj]; exact h3⟩
 rw [h2, if_neg]
 rw [List.any_eq_true]
 rintro ⟨x, hx, hP⟩
 obtain ⟨j, hj, rfl⟩ := List.getElem_of_mem hx
 rw [← hp j hj, h1 j (by omega) (by omega)] at hP
 cases hP
theorem qnP {α S X : Type} {body : S → Option (Stp S X)} (st : Nat → S) (l : List α) (P : α → Bool) (xr : Nat → X) (xf : X) (h : ∀ i (hi : i < l.length), body (st i) = if P l[i] = true then some (.exit (xr i)) else some (.next (st (i + 1)))) (hf : body (st l.length) = some (.exit xf)) {s0 : S} (hs0 : s0 = st 0) :
  loopW body s0 = some (if l.any P = true then xr (l.findIdx P) else xf) := by
 rw [← qpm l P (p := fun i => if h : i < l.length then P l[i] else false) (fun i hi => by rw [dif_pos hi]) xr xf]
 exact qm7 st l.length _ _ xf (fun i hi => by rw [h i hi, dif_pos hi]) hf hs0
theorem lpE {V R Y : Type} {o : Option (Ou V R)} {x : Ou V R} {M : V → Option Y} {Rt : R → Option Y} {r : Option Y} (h : o = some x) (hr : lpO (some x) M Rt = r) : lpO o M Rt = r := by rw [h]; exact hr
def qni {α : Type} (l : List α) (P : α → Bool) : Int := if l.any P = true then (l.findIdx P : Nat) else -1
theorem qpo {α : Type} {l : List α} {P : α → Bool} : 0 ≤ qni l P ↔ l.any P = true := by
 unfold qni
 split <;> simp_all
theorem qn5 {l : List (List UInt8)} {p : List UInt8 → Option Bool} (P : List UInt8 → Bool) (hm : l.length ≤ 9223372036854775807) (hp : ∀ x ∈ l, p x = some (P x)) : qaQ l p = some (qni l P) := by
 unfold qaQ
 refine lpE (qnP (fun i => (i : Int)) l P (fun i => Ou.ret (i : Int)) (Ou.go ()) (fun i hi => ?_) (by rw [if_neg (qaP _)]) rfl) ?_
 ·rw [if_pos (qcd hi), ix hi]
  simp only [Option.bind_some, hp _ (List.getElem_mem hi), nx hm hi]
 unfold qni
 split <;> rfl
theorem qgT {l : List (List UInt8)} {p : List UInt8 → Option Bool} (P : List UInt8 → Bool) (hm : l.length ≤ 9223372036854775807) (hp : ∀ x ∈ l, p x = some (P x)) : qaA l p = some (l.any P) := by
 unfold qaA
 rw [qn5 P hm hp]
 simp only [Option.bind_some, qpo, Bool.decide_eq_true]
def qf1 (l : List (List UInt8)) : Nat := (l.headD []).length
def bitB (c : UInt8) : Bool := c == 48 || c == 49
theorem hdl (l : List (List UInt8)) : (l.headD []).length = qf1 l := rfl
def Sm (l : List (List UInt8)) : Prop := l.length ≤ 9223372036854775807 ∧ ∀ w ∈ l, w.length ≤ 4611686018427387904
theorem nodup_iff {α : Type} {l : List α} : l.Nodup ↔ ∀ i (h : i < l.length), l[i] ∉ l.take i := by
 rw [List.nodup_iff_pairwise_ne, List.pairwise_iff_getElem]
 constructor
 ·intro h i hi hm
  obtain ⟨j, hj, e⟩ := List.getElem_of_mem hm
  rw [List.length_take] at hj
  rw [List.getElem_take] at e
  exact h j i (by omega) hi (by omega) e
 intro h i j hi hj hij e
 refine h j hj ?_
 rw [← e]
 have hq : i < (l.take j).length := by rw [List.length_take]; omega
 have := List.getElem_mem hq
 rwa [List.getElem_take] at this
def SmJ (j : Jn) : Prop := Sm j.1 ∧ Sm j.2
def inW (g : Gr) (w : List UInt8) : Bool := decide (qd8 g (upto g.2.1) w ≠ [])
def bitW (w : List UInt8) : Prop := ∀ c ∈ w, bitB c = true
theorem qia {u v : List UInt8} : bitW (u ++ v) ↔ bitW u ∧ bitW v := by
 constructor
 ·exact fun h => ⟨fun c hc => h c (List.mem_append.2 (.inl hc)), fun c hc => h c (List.mem_append.2 (.inr hc))⟩
 intro h c hc
 rcases List.mem_append.1 hc with hc | hc
 ·exact h.1 c hc
 exact h.2 c hc
theorem qqC {g : Gr} (h2 : g.1 = 2) {c : UInt8} (h : bitB c = true) : c ∈ lets g := by
 have e : lets g = [48, 49] := by simp only [lets, h2]; decide
 rw [e]
 simpa [bitB] using h
theorem qpN {g : Gr} (h2 : g.1 = 2) {w : List UInt8} (hb : bitW w) (hl : w.length ≤ 65536) : WOk g w := ⟨hl, fun c hc => qqC h2 (hb c hc)⟩
section
variable {g : Gr}
theorem qjU (hv : VG g) (h2 : g.1 = 2) {w : List UInt8} (hb : bitW w) (hl : w.length ≤ 65536) : qb6 g w = some (inW g w) := by
 unfold qb6
 rw [qhp hv (by omega) (qpN h2 hb hl)]
 rfl
theorem qkl (hv : VG g) (h2 : g.1 = 2) {w : List UInt8} (hb : bitW w) (hl : w.length ≤ 65536) : qcv g w = some (inW g w) := by
 unfold qcv
 obtain ⟨r, h1, h2'⟩ := qlO g w
 rw [qhp hv (by omega) (qpN h2 hb hl)] at h1
 cases h1
 rw [h2']
 rfl
structure FormOk (j : Jn) : Prop where
 ne1 : j.1 ≠ []
 ne2 : j.2 ≠ []
 l1 : j.1.length ≤ 256
 l2 : j.2.length ≤ 256
 n : ∀ w ∈ j.1, w.length = qf1 j.1
 r : ∀ w ∈ j.2, w.length = qf1 j.2
 n1 : 1 ≤ qf1 j.1
 n16 : qf1 j.1 ≤ 16
 r16 : qf1 j.2 ≤ 16
 b1 : ∀ w ∈ j.1, bitW w
 b2 : ∀ w ∈ j.2, bitW w
 d1 : j.1.Nodup
 d2 : j.2.Nodup
theorem FormOk.sm {j : Jn} (h : FormOk j) : SmJ j := by
 have := h.l1; have := h.l2; have := h.n16; have := h.r16
 exact ⟨⟨by omega, fun w hw => by rw [h.n w hw]; omega⟩, ⟨by omega, fun w hw => by rw [h.r w hw]; omega⟩⟩
def qbW (g : Gr) (ms : List (List UInt8)) (a b : List UInt8) : Bool := ms.any fun m => inW g (a ++ m ++ b)
theorem qpe (hv : VG g) (h2 : g.1 = 2) {a m b : List UInt8} (ha : bitW a) (hm : bitW m) (hb : bitW b) (la : a.length ≤ 16) (lm : m.length ≤ 16) (lb : b.length ≤ 16) : qb4 m g a b = some (inW g (a ++ m ++ b)) := by
 unfold qb4
 rw [if_pos (by simp only [maxLen]; omega), if_pos (by simp only [maxLen, List.length_append]; omega), qjU hv h2 (qia.2 ⟨qia.2 ⟨ha, hm⟩, hb⟩) (by simp only [List.length_append]; omega)]
 rfl
structure VJ (j : Jn) (g : Gr) : Prop where
 hv : VG g
 h2 : g.1 = 2
 f : FormOk j
 w : ∀ x ∈ j.1, inW g x = true
 p : ∀ a ∈ j.1, ∀ b ∈ j.1, qbW g j.2 a b = true
structure qtN (j : Jn) : Prop where
 sm : SmJ j
 w : j.1.length ≤ 6 ∨ 256 < j.1.length
 m : j.2.length ≤ 8 ∨ 256 < j.2.length
 lw : ∀ w ∈ j.1, w.length ≤ 8 ∨ 16 < w.length
 lm : ∀ w ∈ j.2, w.length ≤ 8 ∨ 16 < w.length
structure VS (j : Jn) (g : Gr) : Prop extends VJ j g where
 w6 : j.1.length ≤ 6
 m8 : j.2.length ≤ 8
 n8 : qf1 j.1 ≤ 8
 r8 : qf1 j.2 ≤ 8
 g8 : g.2.1 ≤ 8
 e30 : g.2.2.length ≤ 30
theorem qpl {l : List (List UInt8)} (h : l ≠ []) : l.headD [] ∈ l := by
 cases l with
 | nil => exact absurd rfl h
 | cons a l => exact List.mem_cons_self ..
theorem FormOk.small {j : Jn} (h : FormOk j) (hs : qtN j) : j.1.length ≤ 6 ∧ j.2.length ≤ 8 ∧ qf1 j.1 ≤ 8 ∧ qf1 j.2 ≤ 8 := by
 have := h.l1; have := h.l2; have := h.n16; have := h.r16
 have h1 := hs.w
 have h2 := hs.m
 have h3 := hs.lw _ (qpl h.ne1)
 have h4 := hs.lm _ (qpl h.ne2)
 rw [hdl] at h3 h4
 omega
end
open Go.Proofs
theorem qsL : VG gEa where
 l1 := by decide
 l2 := by decide
 s0 := by decide
 s1 := by decide
 el := by decide
 ed := by decide
 ord := fun i h => match i, h with
  | 0, _ => by show cmp3 ((0, 0, 0) : Int × Int × Int) (0, 1, 1) < 0; decide
  | 1, _ => by show cmp3 ((0, 1, 1) : Int × Int × Int) (1, 0, 0) < 0; decide
  | n + 2, h => absurd h (by show ¬ n + 2 + 1 < 3; omega)
abbrev jV (j : qap) : HV := HV.agg [slE eStr j.1, slE eStr j.2]
abbrev gV (g : qaa) : HV := HV.agg [HV.int .i64 g.1, HV.int .i64 g.2.1, slE eFromLabelTo g.2.2]
def wds : Nat → List (List UInt8)
 | 0 => [[]]
 | n + 1 => (wds n).flatMap fun w => [48 :: w, 49 :: w]
def cntW : List (List UInt8 × UInt8) := ([48, 48, 48], 49) :: ([49, 48, 48], 49) :: [[48, 48], [48, 49], [49, 48], [48], [49]].flatMap fun w => [(w, 48), (w, 49)]
def accW : List (List UInt8) := [2, 5].flatMap wds
def cntF (x : List UInt8 × UInt8) : FuncId × List HV × HV := (112, [HV.str x.1, HV.str [x.2]], HV.int .i64 (Lib.countByte x.1 x.2 : Nat))
def accF (w : List UInt8) : FuncId × List HV × HV := (72, [gV gEa, HV.str w], HV.bool (inW gEa w))
def ixW : List (List UInt8 × UInt8) := [letters, [48, 49]].flatMap fun l => [(l, 48), (l, 49)]
def ixF (x : List UInt8 × UInt8) : FuncId × List HV × HV := (109, [HV.str x.1, HV.int .u8 (x.2.toNat : Int)], HV.int .i64 (Lib.indexByte x.1 x.2))
def qem : List (FuncId × List HV × HV) := ixW.map ixF ++ (cntW.map cntF ++ accW.map accF)
theorem qr7 : ∀ w ∈ accW, (w.all bitB && decide (w.length ≤ 65536)) = true := by decide +kernel
theorem qlA : ∀ e ∈ qem, Pure Tryz.prog e.1 e.2.1 (· = e.2.2) := by
 intro e he
 simp only [qem, List.mem_append, List.mem_map] at he
 rcases he with ⟨x, hx, rfl⟩ | ⟨x, hx, rfl⟩ | ⟨w, hw, rfl⟩
 ·exact qc1 (by unfold qaT; simp)
 ·exact qid rfl
 have h := qr7 w hw
 rw [Bool.and_eq_true, decide_eq_true_eq, List.all_eq_true] at h
 exact qeK (qjU qsL rfl h.1 h.2)
theorem qrO : qeW (qga Tryz.prog [] qem) 2000 52 [jV jEa, gV gEa, slE eInt [0, 0]] (HV.int .i64 0) = true := by kernel_rfl
theorem qrf : qeW (qga Tryz.prog [] qem) 2000 55 [HV.str [48, 48]] (HV.int .i64 (-2)) = true ∧ qeW (qga Tryz.prog [] qem) 2000 55 [HV.str [48, 48, 48]] (HV.int .i64 (-3)) = true ∧ qeW (qga Tryz.prog [] qem) 2000 55 [HV.str [49, 48, 48]] (HV.int .i64 (-1)) = true := ⟨by kernel_rfl, by kernel_rfl, by kernel_rfl⟩
theorem qtr : qeW (qga Tryz.prog [] qem) 2000 56 [gV gEa, slE eInt [0, 1], HV.str [48, 48]] (slE eInt [0]) = true ∧ qeW (qga Tryz.prog [] qem) 2000 56 [gV gEa, slE eInt [0], HV.str [48, 48, 48]] (slE eInt [0]) = true ∧ qeW (qga Tryz.prog [] qem) 2000 56 [gV gEa, slE eInt [0], HV.str [49, 48, 48]] (slE eInt [0]) = true := ⟨by kernel_rfl, by kernel_rfl, by kernel_rfl⟩
theorem qeZ : (qga Tryz.prog [] qem).Ok Tryz.prog := qmF (fun e he => by cases he) qlA
theorem qdr {p0 : List UInt8} {r : Int} (h : qbf p0 = some r) : Pure Tryz.prog 55 [HV.str p0] (· = HV.int .i64 r) := by
 unfold qbf at h
 obtain ⟨k1, k2, k3⟩ := qrf
 split at h
 ·rename_i hc; subst hc; cases h; exact Pure.of_comes qeZ k1
 split at h
 ·rename_i hc; subst hc; cases h; exact Pure.of_comes qeZ k2
 split at h
 ·rename_i hc; subst hc; cases h; exact Pure.of_comes qeZ k3
 cases h
theorem qeh {p0 : qaa} {p1 : List Int} {p2 : List UInt8} {r : List Int} (h : qbF p0 p1 p2 = some r) : Pure Tryz.prog 56 [gV p0, slE eInt p1, HV.str p2] (· = slE eInt r) := by
 unfold qbF at h
 obtain ⟨k1, k2, k3⟩ := qtr
 split at h
 ·rename_i hc
  cases h
  rcases hc with ⟨rfl, ⟨rfl, rfl⟩ | ⟨rfl, rfl | rfl⟩⟩
  ·exact Pure.of_comes qeZ k1
  ·exact Pure.of_comes qeZ k2
  exact Pure.of_comes qeZ k3
 cases h
theorem qg0 {p0 : qap} {p1 : qaa} {p2 : List Int} {r : Int} (h : qb5 p0 p1 p2 = some r) : Pure Tryz.prog 52 [jV p0, gV p1, slE eInt p2] (· = HV.int .i64 r) := by
 unfold qb5 at h
 split at h
 ·rename_i hc
  obtain ⟨rfl, rfl, rfl⟩ := hc
  cases h
  exact Pure.of_comes qeZ qrO
 cases h
set_option maxHeartbeats 1600000
set_option maxRecDepth 100000
theorem qg1 {p0 : qap} {p1 : qaa} {p2 : List (Int)} {r : (List UInt8) × Int} (h : qbz p0 p1 p2 = some r) : Pure Tryz.prog 15 [jA p0, gA p1, slE eInt p2] (· = HV.tup [.str r.1, hI r.2]) := by
 unfold qbz at h
 refine zaj Tryz.func15 rfl rfl (lb rfl) fun hf => ?_
 unfold Tryz.f15
 dsimp only [qaH, Nat.reduceAdd]
 refine zaa rfl fun K hK => b_op rfl (qa5 rfl rfl rfl ?_)
 refine b_op rfl (qa5 rfl rfl rfl ?_)
 refine mv rfl rfl (mv rfl rfl ?_)
 let P1 : ASf := fun t H => ⟨(2, slE eInt p2) :: (3, jF p0) :: (4, gF p1) :: t, H⟩
 refine bf hK (P1 [] []) ?_
 refine zad ?_
 refine zaa rfl fun K hK => bv rfl (qab ty24 rfl (qav rfl (lb rfl) rfl)) (bv rfl (qab ty27 rfl (qav rfl (lb rfl) rfl)) (mv rfl rfl ?_))
 obtain ⟨x1, h2, h⟩ := bS h
 refine b_op rfl (qaB rfl rfl rfl rfl (zai (qg0 h2)) ?_)
 refine mv rfl rfl ?_
 refine bf hK (P1 [(8, hI x1)] []) ?_
 refine zaa rfl fun K hK => mv rfl rfl (bv rfl (qae rfl rfl qcL) ?_)
 refine bf hK (P1 [(8, hI x1), (25, .bool (decide (x1 ≠ 0)))] []) ?_
 refine zae rfl (fun hc => ?_) (fun hc => ?_)
 ·obtain ⟨hc, h⟩ := cT hc h
  refine zaa rfl fun K hK => mv rfl rfl (mv rfl rfl (mv rfl rfl ?_))
  refine bf hK ⟨[(6, .str nS), (7, hI x1)], []⟩ ?_
  obtain rfl := oi h
  exact AW.ret (qad (.inr rfl) (resT rfl (resT rfl rfl)) rfl ⟨trivial, trivial, trivial⟩)
 obtain ⟨hc, h⟩ := cF hc h
 refine zac ?_
 refine zad ?_
 refine zaa rfl fun K hK => mv rfl rfl (bv rfl (qaI rfl rfl ty31 rfl) (bv rfl (qae rfl rfl qd1) ?_))
 refine bf hK (P1 [(29, .bool (decide (((p2).length : Int) = 0)))] []) ?_
 refine zae rfl (fun hc => ?_) (fun hc => ?_)
 ·obtain ⟨hc, h⟩ := cT hc h
  refine zaa rfl fun K hK => mv rfl rfl (mv rfl rfl ?_)
  refine bf hK ⟨[(6, .str nS), (7, hI 0)], []⟩ ?_
  obtain rfl := oi h
  exact AW.ret (qad (.inr rfl) (resT rfl (resT rfl rfl)) rfl ⟨trivial, trivial, trivial⟩)
 obtain ⟨hc, h⟩ := cF hc h
 refine zac ?_
 refine AW.dgs 12 follows rfl rfl fun K hK => ?_
 refine sv rfl (qac qdS rfl) ?_
 refine sv rfl (qab ty22 rfl (qan rfl rfl)) ?_
 obtain ⟨x3, h4, h⟩ := bS h
 refine sv rfl (qaJ ty22 es22 rfl rfl (qaw h4)) ?_
 refine sv rfl (qab ty9 rfl (qaL eStr h4 (o := 0) rfl rfl)) ?_
 refine sv rfl (qgo rfl rfl ty9 rfl) ?_
 refine sv rfl (qac qhD rfl) ?_
 refine sv rfl (qab ty22 rfl (qan rfl rfl)) ?_
 obtain ⟨x5, h6, h⟩ := bS h
 refine sv rfl (qaJ ty22 es22 rfl rfl (qaw h6)) ?_
 refine sv rfl (qab ty9 rfl (qaL eStr h6 (o := 0) rfl rfl)) ?_
 refine sv rfl (qgo rfl rfl ty9 rfl) ?_
 iterate 2 refine sm rfl rfl ?_
 refine qbU ?_
 refine bf hK (P1 [(9, hI ((x3).length : Int)), (10, hI ((x5).length : Int))] []) ?_
 refine zad ?_
 refine zaa rfl fun K hK => mv rfl rfl (bv rfl (qaI rfl rfl ty31 rfl) (mv rfl rfl (bv rfl (qae rfl rfl qa6) (mv rfl rfl (mv rfl rfl ?_)))))
 refine bv rfl (qae rfl rfl qa6) ?_
 obtain ⟨h7, h⟩ := ifN h
 refine bv rfl (qae rfl rfl (qsY h7)) (bv rfl (qae rfl rfl qbh) ?_)
 refine bf hK (P1 [(48, .bool (decide ((IntKind.wrap .i64 (Int.tdiv (IntKind.wrap .i64 (65536 + ((x5).length : Int))) (IntKind.wrap .i64 (((x3).length : Int) + ((x5).length : Int))))) < ((p2).length : Int))))] []) ?_
 refine zae rfl (fun hc => ?_) (fun hc => ?_)
 ·obtain ⟨hc, h⟩ := cT hc h
  refine zaa rfl fun K hK => mv rfl rfl (mv rfl rfl ?_)
  refine bf hK ⟨[(6, .str nS), (7, hI 4)], []⟩ ?_
  obtain rfl := oi h
  exact AW.ret (qad (.inr rfl) (resT rfl (resT rfl rfl)) rfl ⟨trivial, trivial, trivial⟩)
 obtain ⟨hc, h⟩ := cF hc h
 refine zac ?_
 refine zaa rfl fun K hK => bv rfl (qac qcp rfl) (bv rfl (qab ty3 rfl (qan rfl rfl)) ?_)
 obtain ⟨h9, h⟩ := ifN h
 refine b_op rfl (qfC (fid := 15) eInt (0 : Int) 15051 rfl rfl ty31 rfl rfl ty3 rfl rfl h9 (fun v8 => ?_))
 refine b_op rfl (qba (fid := 15) (zs := [.v (.slice none 0 0)]) 15011 rfl rfl ty31 rfl (fun v10 => ?_))
 refine b_op rfl (qaD (cs := [.ar 15051 v8 eInt.k 0 ((List.replicate (p1.2.1).toNat (0 : Int)).length)]) (zs := [.ar 15051 v8 eInt.k 0 ((List.replicate (p1.2.1).toNat (0 : Int)).length)]) rfl rfl rfl ty31 rfl rfl rfl rfl rfl ?_)
 let O1 : Nat × Nat × AObj := (15051, v8, .arr eInt.k 3 (eInt.E (List.replicate (p1.2.1).toNat (0 : Int))))
 let O2 : Nat × Nat × AObj := (15011, v10, .arr 1 31 [.ar 15051 v8 eInt.k 0 ((List.replicate (p1.2.1).toNat (0 : Int)).length)])
 refine bf hK (P1 [(11, .ptr 15011 v10 0)] [O1, O2]) ?_
 refine zad ?_
 refine zaa rfl fun K hK => bv rfl (qar ty31 rfl rfl (qan rfl rfl)) (bv rfl (qhv rfl rfl ty31 rfl rfl) (mv rfl rfl ?_))
 let E3 : Nat × HV := (53, hI (((List.replicate (p1.2.1).toNat (0 : Int)).length : Nat) : Int))
 refine bf hK (P1 [(11, .ptr 15011 v10 0), E3, (54, hI 0)] [O1, O2]) ?_
 refine AW.lpX h (by first | exact qaG | exact qbp) (S := Int × (List Int)) (V := Unit) (fun a v => (P1 [(11, .ptr 15011 v10 0), E3, (54, hI a.1)] [(15011, v10, .arr 1 31 [.ar 15051 v8 eInt.k 0 ((a.2).length)]), (15051, v8, .arr eInt.k 3 (eInt.E a.2))])) ?_ (X := (List Int)) (W := Unit) (fun a v => (P1 [(11, .ptr 15011 v10 0)] [(15011, v10, .arr 1 31 [.ar 15051 v8 eInt.k 0 ((a).length)]), (15051, v8, .arr eInt.k 3 (eInt.E a))])) (fun a17 w18 h => ?_) (fun a11 w12 st13 h => ?_)
 ·exact to_L ⟨(), rfl⟩
 ·refine zaa rfl fun K hK => b_op rfl (qba (fid := 15) (zs := [.v (.pointer none), .v (.slice none 0 0)]) 15013 rfl rfl ty80 rfl (fun v19 => ?_))
  refine b_to (qg5 15513 15013 v19 2 1 1 5 80 rfl rfl (by decide) fun v20 => ?_)
  let O4 : Nat × Nat × AObj := (15011, v10, .arr 1 31 [.ar 15051 v8 eInt.k 0 ((a17).length)])
  let O5 : Nat × Nat × AObj := (15051, v8, .arr eInt.k 3 (eInt.E a17))
  let O6 : Nat × Nat × AObj := (15013, v19, bldO 15013 v19 15513 v20 false nS)
  refine bf hK (P1 [(11, .ptr 15011 v10 0), (13, .ptr 15013 v19 0)] [O4, O5, O6, (15513, v20, bytO nS)]) ?_
  refine zaa rfl fun K hK => b_op rfl (qba (fid := 15) (zs := [hI 0]) 15014 rfl rfl ty3 rfl (fun v21 => ?_))
  refine b_op rfl (qaD (cs := [hI 0]) (zs := [hI 0]) rfl rfl rfl ty3 rfl rfl rfl rfl rfl ?_)
  refine bf hK (P1 [(11, .ptr 15011 v10 0), (13, .ptr 15013 v19 0), (14, .ptr 15014 v21 0)] [O4, O5, O6, (15513, v20, bytO nS), (15014, v21, .arr 1 3 [hI 0])]) ?_
  refine zaa rfl fun K hK => bv rfl (qgp rfl rfl) (mv rfl rfl ?_)
  let E7 : Nat × HV := (15, .fn (.func 53) [] [.ptr 15013 v19 0, .ptr 15014 v21 0, gF p1, .ptr 15011 v10 0])
  refine bf hK (P1 [(11, .ptr 15011 v10 0), (13, .ptr 15013 v19 0), (14, .ptr 15014 v21 0), E7] [O4, O5, O6, (15513, v20, bytO nS), (15014, v21, .arr 1 3 [hI 0])]) ?_
  refine AW.dgs 8 follows rfl rfl fun K hK => ?_
  refine sm rfl rfl ?_
  refine sv rfl (qac qdS rfl) ?_
  refine sv rfl (qab ty22 rfl (qan rfl rfl)) ?_
  refine sm rfl rfl ?_
  obtain ⟨x22, h23, h⟩ := bS h
  refine sv rfl (qaJ ty31 es31 rfl rfl (qaw h23)) ?_
  refine sv rfl (qab ty3 rfl (qaL eInt h23 (o := 0) rfl rfl)) ?_
  obtain ⟨x24, h25, h⟩ := bS h
  refine sv rfl (qaJ ty22 es22 rfl rfl (qaw h25)) ?_
  refine sv rfl (qab ty9 rfl (qaL eStr h25 (o := 0) rfl rfl)) ?_
  refine qbU ?_
  refine b_op rfl (qkn h (S := (List Int) × Int) (V := Nat) (fun a v => (P1 [(11, .ptr 15011 v10 0), (13, .ptr 15013 v19 0), (14, .ptr 15014 v21 0), E7, (71, .tup [])] [(15011, v10, .arr 1 31 [slE eInt a.1]), (15013, v19, bldO 15013 v19 15513 v true (nS ++ x24)), (15513, v, bytO (nS ++ x24)), (15014, v21, .arr 1 3 [hI a.2])])) rfl rfl rfl rfl (fun a26 w27 h => ?_) (fun k28 h => ?_) )
  ·refine bf hK (P1 [(11, .ptr 15011 v10 0), (13, .ptr 15013 v19 0), (14, .ptr 15014 v21 0), E7] [(15011, v10, .arr 1 31 [slE eInt a26.1]), (15013, v19, bldO 15013 v19 15513 w27 true (nS ++ x24)), (15513, w27, bytO (nS ++ x24)), (15014, v21, .arr 1 3 [hI a26.2])]) ?_
   refine zad ?_
   refine zaa rfl fun K hK => mv rfl rfl ?_
   obtain ⟨h29, h⟩ := ifN h
   refine bv rfl (qmC eInt ty31 es31 rfl rfl rfl h29) (bv rfl (qaI rfl rfl ty31 rfl) (mv rfl rfl ?_))
   let E8 : Nat × HV := (73, slE eInt ((p2.take (((p2).length : Int)).toNat).drop (1 : Int).toNat))
   let E9 : Nat × HV := (74, hI (((p2.take (((p2).length : Int)).toNat).drop (1 : Int).toNat).length : Int))
   let P2 : ASf := fun t H => ⟨(3, jF p0) :: (4, gF p1) :: (11, .ptr 15011 v10 0) :: (13, .ptr 15013 v19 0) :: (14, .ptr 15014 v21 0) :: E7 :: t, H⟩
   refine bf hK (P2 [E8, E9, (75, hI 0)] [(15011, v10, .arr 1 31 [slE eInt a26.1]), (15013, v19, bldO 15013 v19 15513 w27 true (nS ++ x24)), (15513, w27, bytO (nS ++ x24)), (15014, v21, .arr 1 3 [hI a26.2])]) ?_
   refine AW.lpR h (by first | exact qaG | exact qbp) (S := Int × (List Int) × (List UInt8) × Int) (V := Nat) (fun a v => (P2 [E8, E9, (75, hI a.1)] [(15011, v10, .arr 1 31 [slE eInt a.2.1]), (15013, v19, bldO 15013 v19 15513 v true a.2.2.1), (15513, v, bytO a.2.2.1), (15014, v21, .arr 1 3 [hI a.2.2.2])])) ?_ (X := (List UInt8)) (W := Nat) (fun a v => ⟨[(13, .ptr 15013 v19 0)], [(15013, v19, bldO 15013 v19 15513 v true a), (15513, v, bytO a)]⟩) (fun a81 w82 h => ?_) (fun a30 w31 st32 h hr33=> ?_)
   ·exact to_L ⟨w27, rfl⟩
   ·refine zaa rfl fun K hK => b_op rfl (qfD rfl rfl rfl rfl (qqA (id := 15013) (ver := v19) (aid := 15513) (aver := w82) (u := true) (l := a81) rfl rfl fun v83 => ?_) )
    refine mv rfl rfl (mv rfl rfl ?_)
    refine bf hK ⟨[(6, .str a81), (7, hI 0)], []⟩ ?_
    obtain rfl := oi h
    exact AW.ret (qad (.inr rfl) (resT rfl (resT rfl rfl)) rfl ⟨trivial, trivial, trivial⟩)
   refine zaa rfl fun K hK => bv rfl (qae rfl rfl qaV) ?_
   let O10 : Nat × Nat × AObj := (15011, v10, .arr 1 31 [slE eInt a30.2.1])
   let O11 : Nat × Nat × AObj := (15013, v19, bldO 15013 v19 15513 w31 true a30.2.2.1)
   let O12 : Nat × Nat × AObj := (15513, w31, bytO a30.2.2.1)
   let O13 : Nat × Nat × AObj := (15014, v21, .arr 1 3 [hI a30.2.2.2])
   refine bf hK (P2 [E8, E9, (75, hI a30.1), (76, .bool (decide (a30.1 < (((p2.take (((p2).length : Int)).toNat).drop (1 : Int).toNat).length : Int))))] [O10, O11, O12, O13]) ?_
   refine zam rfl (fun hc => ?_) (fun hc => ?_)
   ·obtain ⟨hc, h⟩ := cT hc h
    refine zac ?_
    refine zad (zaf ?_)
    refine zaa rfl fun K hK => ?_
    obtain ⟨x34, h35, h⟩ := bS h
    refine bv rfl (qaJ ty31 es31 rfl rfl (qaw h35)) (bv rfl (qab ty3 rfl (qaL eInt h35 (o := 0) rfl rfl)) ?_)
    refine b_op rfl (qba (fid := 15) (zs := [hI 0]) 15017 rfl rfl ty3 rfl (fun v36 => ?_))
    refine b_op rfl (qaD (cs := [hI x34]) (zs := [hI x34]) rfl rfl rfl ty3 rfl rfl rfl rfl rfl ?_)
    let O14 : Nat × Nat × AObj := (15017, v36, .arr 1 3 [hI x34])
    refine bf hK (P2 [(17, .ptr 15017 v36 0), E8, E9, (75, hI a30.1)] [O10, O11, O12, O13, O14]) ?_
    refine zaa rfl fun K hK => bv rfl (qac qhD rfl) (bv rfl (qab ty22 rfl (qan rfl rfl)) (bv rfl (qgp rfl rfl) ?_))
    refine b_op rfl (qkn h (S := (List UInt8) × Bool) (V := Unit) (fun a v => (P2 [(17, .ptr 15017 v36 0), E8, E9, (75, hI a30.1), (83, .tup [.str a.1, .bool a.2])] [O10, O11, O12, O13, O14])) rfl rfl rfl rfl (fun a37 w38 h => ?_) (fun k39 h => ?_) )
    ·refine mv rfl rfl (bv rfl (qaq rfl rfl) (bv rfl (qaq rfl rfl) (mv rfl rfl (mv rfl rfl ?_))))
     refine bf hK (P2 [(17, .ptr 15017 v36 0), (18, .str a37.1), (19, .bool a37.2), E8, E9, (75, hI a30.1)] [O10, O11, O12, O13, O14]) ?_
     refine zad ?_
     refine zaa rfl fun K hK => mv rfl rfl (bv rfl (qfu rfl) ?_)
     refine bf hK (P2 [(17, .ptr 15017 v36 0), (18, .str a37.1), E8, E9, (75, hI a30.1), (87, .bool (!a37.2))] [O10, O11, O12, O13, O14]) ?_
     refine zae rfl (fun hc => ?_) (fun hc => ?_)
     ·have h := ifT hc h
      refine zaa rfl fun K hK => mv rfl rfl (mv rfl rfl ?_)
      refine bf hK ⟨[(6, .str nS), (7, hI 13)], []⟩ ?_
      have h := hr33 _ h
      obtain rfl := oi h
      exact AW.ret (qad (.inr rfl) (resT rfl (resT rfl rfl)) rfl ⟨trivial, trivial, trivial⟩)
     have h := ifF (bF' hc) h
     refine zac ?_
     refine zab rfl fun K hK => mv rfl rfl (mv rfl rfl (bv rfl (qac qdS rfl) (bv rfl (qab ty22 rfl (qan rfl rfl)) (bv rfl (qar ty3 rfl rfl (qan rfl rfl)) ?_))))
     obtain ⟨x40, h41, h⟩ := bS h
     refine bv rfl (qaJ ty22 es22 rfl rfl (qaw h41)) (bv rfl (qab ty9 rfl (qaL eStr h41 (o := 0) rfl rfl)) ?_)
     obtain ⟨h42, h⟩ := ifN h
     refine bv rfl (qae rfl rfl (qf2 h42)) ?_
     refine b_op rfl (qkn h (S := (List Int) × Int) (V := Nat) (fun a v => (P2 [E8, E9, (75, hI a30.1), (96, .tup [])] [(15011, v10, .arr 1 31 [slE eInt a.1]), (15013, v19, bldO 15013 v19 15513 v true (a30.2.2.1 ++ (a37.1 ++ x40))), (15513, v, bytO (a30.2.2.1 ++ (a37.1 ++ x40))), (15014, v21, .arr 1 3 [hI a.2])])) rfl rfl rfl rfl (fun a43 w44 h => ?_) (fun k45 h => ?_) )
     ·refine bf hK (P2 [E8, E9, (75, hI a30.1)] [(15011, v10, .arr 1 31 [slE eInt a43.1]), (15013, v19, bldO 15013 v19 15513 w44 true (a30.2.2.1 ++ (a37.1 ++ x40))), (15513, w44, bytO (a30.2.2.1 ++ (a37.1 ++ x40))), (15014, v21, .arr 1 3 [hI a43.2])]) ?_
      refine zab rfl fun K hK => bv rfl (qae rfl rfl qa6) (mv rfl rfl ?_)
      refine qah (hK _ ?_)
      exact to_L ⟨(IntKind.wrap .i64 (a30.1 + 1), a43.1, a30.2.2.1 ++ (a37.1 ++ x40), a43.2), w44, h, rfl⟩
     refine ACall.of_body Tryz.func53 rfl rfl (lb rfl) ?_
     unfold Tryz.f53
     dsimp only [qaH, Nat.reduceAdd]
     refine AW.fin ?_
     refine zaa rfl fun K hK => mv rfl rfl ?_
     obtain ⟨h47, h⟩ := ifN h
     refine b_op rfl (qfD rfl rfl rfl rfl (qgP (id := 15013) (ver := v19) (aid := 15513) (aver := w31) (u := true) (l := a30.2.2.1) (m := (a37.1 ++ x40)) (by decide) rfl rfl h47 fun v46 => ?_) )
     let O15 : Nat × Nat × AObj := (15013, v19, bldO 15013 v19 15513 v46 true (a30.2.2.1 ++ (a37.1 ++ x40)))
     let P3 : ASf := fun t H => ⟨(0, .str (a37.1 ++ x40)) :: t, O10 :: O15 :: (15513, v46, bytO (a30.2.2.1 ++ (a37.1 ++ x40))) :: H⟩
     refine bf hK (P3 [(2, .ptr 15014 v21 0), (3, gF p1), (4, .ptr 15011 v10 0)] [O13, O14]) ?_
     refine AW.dgs 4 follows rfl rfl fun K hK => ?_
     refine sv rfl (qar ty3 rfl rfl (qan rfl rfl)) ?_
     refine sm rfl rfl ?_
     obtain ⟨x48, h49, h⟩ := bS h
     refine s_op rfl rfl (qaR rfl rfl rfl rfl (zai (qdr h49)) ?_)
     refine sv rfl (qae rfl rfl qa6) ?_
     refine qbU ?_
     refine b_op rfl (qaD (cs := [hI (IntKind.wrap .i64 (a30.2.2.2 + x48))]) (zs := [hI (IntKind.wrap .i64 (a30.2.2.2 + x48))]) rfl rfl rfl ty3 rfl rfl rfl rfl rfl ?_)
     refine bf hK (P3 [(3, gF p1), (4, .ptr 15011 v10 0)] [(15014, v21, .arr 1 3 [hI (IntKind.wrap .i64 (a30.2.2.2 + x48))]), O14]) ?_
     refine zab rfl fun K hK => bv rfl (qab ty27 rfl (qav rfl (lb rfl) rfl)) (bv rfl (qar ty31 rfl rfl (qan rfl rfl)) (mv rfl rfl ?_))
     obtain ⟨x50, h51, h⟩ := bS h
     refine b_op rfl (qaB rfl rfl rfl rfl (zai (qeh h51)) ?_)
     refine b_op rfl (qaD (cs := [slE eInt x50]) (zs := [slE eInt x50]) rfl rfl rfl ty31 rfl rfl rfl rfl rfl ?_)
     refine qah (hK _ ?_)
     refine qod ?_
     refine qmT (hs := []) (q := HV.tup []) (.inl rfl) rfl rfl ?_
     exact to_L ⟨(x50, IntKind.wrap .i64 (a30.2.2.2 + x48)), v46, h, rfl⟩
    refine ACall.of_body Tryz.func57 rfl rfl (lb rfl) ?_
    unfold Tryz.f57
    dsimp only [qaH, Nat.reduceAdd]
    refine AW.fin ?_
    refine zaa rfl fun K hK => mv rfl rfl (mv rfl rfl ?_)
    let E16 : Nat × HV := (1, .fn (.func 58) [] [.ptr 15014 v21 0, jF p0, .ptr 15017 v36 0, gF p1, .ptr 15011 v10 0])
    let P4 : ASf := fun t H => ⟨t, O10 :: O11 :: O12 :: O13 :: O14 :: H⟩
    refine bf hK (P4 [(0, slE eStr p0.2), E16] []) ?_
    refine zaa rfl fun K hK => mv rfl rfl ?_
    refine bf hK (P4 [(0, slE eStr p0.2), E16, (6, .str nS)] []) ?_
    refine zaa rfl fun K hK => mv rfl rfl (mv rfl rfl ?_)
    refine bf hK (P4 [(0, slE eStr p0.2), E16, (6, .str nS), (7, hI 0), (8, .bool false)] []) ?_
    refine zad ?_
    refine zaa rfl fun K hK => mv rfl rfl (bv rfl (qaI rfl rfl ty22 rfl) (mv rfl rfl ?_))
    let E17 : Nat × HV := (14, hI ((p0.2).length : Int))
    refine bf hK (P4 [E16, (6, .str nS), (7, hI 0), (8, .bool false), (13, slE eStr p0.2), E17, (15, hI 0)] []) ?_
    refine AW.lpX h (by first | exact qaG | exact qbp) (S := (List UInt8) × Int × Bool × Int) (V := Unit) (fun a v => (P4 [E16, (6, .str a.1), (7, hI a.2.1), (8, .bool a.2.2.1), (13, slE eStr p0.2), E17, (15, hI a.2.2.2)] [])) ?_ (X := (List UInt8) × Bool) (W := Unit) (fun a v => (P4 [(6, .str a.1), (8, .bool a.2)] [])) (fun a79 w80 h => ?_) (fun a52 w53 st54 h => ?_)
    ·exact to_L ⟨(), rfl⟩
    ·refine zaa rfl fun K hK => mv rfl rfl (mv rfl rfl (mv rfl rfl (mv rfl rfl ?_)))
     refine bf hK (P4 [(4, .str a79.1), (5, .bool a79.2)] []) ?_
     refine AW.ret ?_
     refine qmT (hs := [.str a79.1, .bool a79.2]) (q := HV.tup [.str a79.1, .bool a79.2]) (.inr rfl) (resT rfl (resT rfl rfl)) rfl ?_
     exact to_L ⟨(a79.1, a79.2), (), h, rfl⟩
    refine zaa rfl fun K hK => bv rfl (qae rfl rfl qaV) ?_
    refine bf hK (P4 [E16, (6, .str a52.1), (7, hI a52.2.1), (8, .bool a52.2.2.1), (13, slE eStr p0.2), E17, (15, hI a52.2.2.2), (16, .bool (decide (a52.2.2.2 < ((p0.2).length : Int))))] []) ?_
    refine zam rfl (fun hc => ?_) (fun hc => ?_)
    ·obtain ⟨hc, h⟩ := cT hc h
     refine zac ?_
     refine zag h (S := (List UInt8) × Int × Bool) (V := Unit) (fun a v => (P4 [E16, (6, .str a.1), (7, hI a.2.1), (8, .bool a.2.2), (13, slE eStr p0.2), E17, (15, hI a52.2.2.2)] [])) (fun a56 w57 h => ?_) (fun k58 h => ?_)
     ·refine zab rfl fun K hK => bv rfl (qae rfl rfl qa6) (mv rfl rfl ?_)
      refine qah (hK _ ?_)
      exact to_L ⟨(a56.1, a56.2.1, a56.2.2, IntKind.wrap .i64 (a52.2.2.2 + 1)), (), h, rfl⟩
     refine zaf ?_
     refine zaa rfl fun K hK => ?_
     obtain ⟨x59, h60, h⟩ := bS h
     refine bv rfl (qaJ ty22 es22 rfl rfl (qaw h60)) (bv rfl (qab ty9 rfl (qaL eStr h60 (o := 0) rfl rfl)) (mv rfl rfl ?_))
     refine bf hK (P4 [E16, (6, .str a52.1), (7, hI a52.2.1), (8, .bool a52.2.2.1), (10, .str x59), (13, slE eStr p0.2), E17, (15, hI a52.2.2.2)] []) ?_
     refine zaa rfl fun K hK => mv rfl rfl (mv rfl rfl ?_)
     refine b_op rfl (qkn h (S := Int × Bool) (V := Unit) (fun a v => (P4 [E16, (6, .str a52.1), (7, hI a52.2.1), (8, .bool a52.2.2.1), (10, .str x59), (13, slE eStr p0.2), E17, (15, hI a52.2.2.2), (22, .tup [hI a.1, .bool a.2])] [])) rfl rfl rfl rfl (fun a61 w62 h => ?_) (fun k63 h => ?_) )
     ·refine mv rfl rfl (bv rfl (qaq rfl rfl) (bv rfl (qaq rfl rfl) (mv rfl rfl (mv rfl rfl ?_))))
      refine bf hK (P4 [E16, (6, .str a52.1), (7, hI a52.2.1), (8, .bool a52.2.2.1), (10, .str x59), (11, hI a61.1), (12, .bool a61.2), (13, slE eStr p0.2), E17, (15, hI a52.2.2.2)] []) ?_
      refine zag h (S := Bool) (V := Unit) (fun a v => (P4 [E16, (6, .str a52.1), (7, hI a52.2.1), (8, .bool a52.2.2.1), (10, .str x59), (11, hI a61.1), (13, slE eStr p0.2), E17, (15, hI a52.2.2.2), (34, .bool a)] [])) (fun a64 w65 h => ?_) (fun k66 h => ?_)
      ·refine zae rfl (fun hc => ?_) (fun hc => ?_)
       ·have h := ifT hc h
        refine zab rfl fun K hK => mv rfl rfl (mv rfl rfl (mv rfl rfl (mv rfl rfl (mv rfl rfl ?_))))
        refine qah (hK _ ?_)
        exact to_L ⟨(x59, a61.1, true), (), h, rfl⟩
       have h := ifF (bF' hc) h
       refine zac ?_
       exact to_L ⟨(a52.1, a52.2.1, a52.2.2.1), (), h, rfl⟩
      refine zab rfl fun K hK => mv rfl rfl (mv rfl rfl ?_)
      by_cases hg68 : a61.2 = true
      ·have h := ifT hg68 h
       refine b_T rfl rfl rfl rfl hg68 (qaf rfl (qas rfl rfl).2 ?_)
       refine b_T rfl rfl rfl rfl rfl (qaf rfl (qfu rfl) ?_)
       refine b_T rfl rfl rfl rfl rfl (qaf rfl (qas rfl rfl).2 ?_)
       by_cases hg67 : (!a52.2.2.1) = true
       ·have h := ifT hg67 h
        refine b_F rfl rfl rfl rfl rfl hg67 ?_
        iterate 2 refine b_F rfl rfl rfl rfl rfl rfl ?_
        refine b_T rfl rfl rfl rfl rfl (qaf rfl (qaj rfl rfl rfl) ?_)
        refine bv rfl (qaj rfl rfl rfl) ?_
        refine qah (hK _ ?_)
        exact to_L ⟨true, (), h, rfl⟩
       have h := ifF hg67 h
       refine b_T rfl rfl rfl rfl (bF hg67) (qaf rfl (qas rfl rfl).2 ?_)
       refine b_T rfl rfl rfl rfl rfl (qaf rfl (qas rfl rfl).2 ?_)
       refine b_T rfl rfl rfl rfl rfl (qaf rfl (qae rfl rfl qaV) ?_)
       refine b_T rfl rfl rfl rfl rfl (qaf rfl (qak rfl rfl rfl) ?_)
       refine bv rfl (qaj rfl rfl rfl) ?_
       refine qah (hK _ ?_)
       exact to_L ⟨decide (a61.1 < a52.2.1), (), h, rfl⟩
      have h := ifF hg68 h
      refine b_F rfl rfl rfl rfl rfl (bF hg68) ?_
      iterate 2 refine b_F rfl rfl rfl rfl rfl rfl ?_
      refine b_U rfl rfl rfl rfl rfl ?_
      refine b_U rfl rfl rfl rfl rfl ?_
      refine b_U rfl rfl rfl rfl rfl ?_
      refine b_F rfl rfl rfl rfl rfl rfl ?_
      refine bv rfl (qak rfl rfl rfl) ?_
      refine qah (hK _ ?_)
      exact to_L ⟨false, (), h, rfl⟩
     refine ACall.of_body Tryz.func58 rfl rfl (lb rfl) ?_
     unfold Tryz.f58
     dsimp only [qaH, Nat.reduceAdd]
     refine AW.fin ?_
     refine zaa rfl fun K hK => mv rfl rfl (mv rfl rfl ?_)
     refine bf hK (P4 [(0, .str x59), (1, .ptr 15014 v21 0), (2, jF p0), (3, .ptr 15017 v36 0), (4, gF p1), (5, .ptr 15011 v10 0)] []) ?_
     refine AW.dgs 11 follows rfl rfl fun K hK => ?_
     refine sv rfl (qar ty3 rfl rfl (qan rfl rfl)) ?_
     refine sm rfl rfl ?_
     refine sv rfl (qac qdS rfl) ?_
     refine sv rfl (qab ty22 rfl (qan rfl rfl)) ?_
     refine sv rfl (qar ty3 rfl rfl (qan rfl rfl)) ?_
     obtain ⟨x69, h70, h⟩ := bS h
     refine sv rfl (qaJ ty22 es22 rfl rfl (qaw h70)) ?_
     refine sv rfl (qab ty9 rfl (qaL eStr h70 (o := 0) rfl rfl)) ?_
     obtain ⟨h71, h⟩ := ifN h
     refine sv rfl (qae rfl rfl (qf2 h71)) ?_
     obtain ⟨x72, h73, h⟩ := bS h
     refine s_op rfl rfl (qaR rfl rfl rfl rfl (zai (qdr h73)) ?_)
     refine sv rfl (qae rfl rfl qa6) ?_
     refine sm rfl rfl ?_
     refine qbU ?_
     refine bf hK (P4 [(0, .str x59), (2, jF p0), (3, .ptr 15017 v36 0), (4, gF p1), (5, .ptr 15011 v10 0), (9, hI (IntKind.wrap .i64 (a30.2.2.2 + x72)))] []) ?_
     refine AW.dgs 18 follows rfl rfl fun K hK => ?_
     iterate 2 refine sm rfl rfl ?_
     refine sv rfl (qs8 rfl) ?_
     refine sv rfl (qsg rfl rfl rfl) ?_
     refine sv rfl (qab ty27 rfl (qav rfl (lb rfl) rfl)) ?_
     refine sv rfl (qar ty31 rfl rfl (qan rfl rfl)) ?_
     refine sm rfl rfl ?_
     refine sv rfl (qac qdS rfl) ?_
     refine sv rfl (qab ty22 rfl (qan rfl rfl)) ?_
     refine sv rfl (qar ty3 rfl rfl (qan rfl rfl)) ?_
     obtain ⟨x74, h75, h⟩ := bS h
     refine sv rfl (qaJ ty22 es22 rfl rfl (qaw h75)) ?_
     refine sv rfl (qab ty9 rfl (qaL eStr h75 (o := 0) rfl rfl)) ?_
     obtain ⟨h76, h⟩ := ifN h
     refine sv rfl (qae rfl rfl (qf2 h76)) ?_
     obtain ⟨x77, h78, h⟩ := bS h
     refine s_op rfl rfl (qaR rfl rfl rfl rfl (zai (qeh h78)) ?_)
     refine sv rfl (qaI rfl rfl ty31 rfl) ?_
     refine sv rfl (qae rfl rfl qbh) ?_
     iterate 2 refine sm rfl rfl ?_
     refine qbU ?_
     refine bf hK (P4 [(7, hI (max (IntKind.wrap .i64 (a30.2.2.2 + x72)) (IntKind.wrap .i64 (0 - (IntKind.wrap .i64 (a30.2.2.2 + x72)))))), (8, .bool (decide (0 < ((x77).length : Int))))] []) ?_
     refine AW.ret ?_
     refine qmT (hs := [hI (max (IntKind.wrap .i64 (a30.2.2.2 + x72)) (IntKind.wrap .i64 (0 - (IntKind.wrap .i64 (a30.2.2.2 + x72))))), .bool (decide (0 < ((x77).length : Int)))]) (q := HV.tup [hI (max (IntKind.wrap .i64 (a30.2.2.2 + x72)) (IntKind.wrap .i64 (0 - (IntKind.wrap .i64 (a30.2.2.2 + x72))))), .bool (decide (0 < ((x77).length : Int)))]) (.inr rfl) (resT rfl (resT rfl rfl)) rfl ?_
     exact to_L ⟨(max (IntKind.wrap .i64 (a30.2.2.2 + x72)) (IntKind.wrap .i64 (0 - (IntKind.wrap .i64 (a30.2.2.2 + x72)))), decide (0 < ((x77).length : Int))), (), h, rfl⟩
    obtain ⟨hc, h⟩ := cF hc h
    refine AW.exit ?_
    exact to_L ⟨(a52.1, a52.2.2.1), (), h, rfl⟩
   obtain ⟨hc, h⟩ := cF hc h
   refine AW.exit ?_
   exact to_L ⟨a30.2.2.1, w31, h, rfl⟩
  refine ACall.of_body Tryz.func53 rfl rfl (lb rfl) ?_
  unfold Tryz.f53
  dsimp only [qaH, Nat.reduceAdd]
  refine AW.fin ?_
  refine zaa rfl fun K hK => mv rfl rfl ?_
  obtain ⟨h85, h⟩ := ifN h
  refine b_op rfl (qfD rfl rfl rfl rfl (qgP (id := 15013) (ver := v19) (aid := 15513) (aver := v20) (u := false) (l := nS) (m := x24) (by decide) rfl rfl h85 fun v84 => ?_) )
  let O18 : Nat × Nat × AObj := (15013, v19, bldO 15013 v19 15513 v84 true (nS ++ x24))
  refine bf hK ⟨[(0, .str x24), (2, .ptr 15014 v21 0), (3, gF p1), (4, .ptr 15011 v10 0)], [O4, O5, O18, (15513, v84, bytO (nS ++ x24)), (15014, v21, .arr 1 3 [hI 0])]⟩ ?_
  refine AW.dgs 4 follows rfl rfl fun K hK => ?_
  refine sv rfl (qar ty3 rfl rfl (qan rfl rfl)) ?_
  refine sm rfl rfl ?_
  obtain ⟨x86, h87, h⟩ := bS h
  refine s_op rfl rfl (qaR rfl rfl rfl rfl (zai (qdr h87)) ?_)
  refine sv rfl (qae rfl rfl qa6) ?_
  refine qbU ?_
  refine b_op rfl (qaD (cs := [hI (IntKind.wrap .i64 (0 + x86))]) (zs := [hI (IntKind.wrap .i64 (0 + x86))]) rfl rfl rfl ty3 rfl rfl rfl rfl rfl ?_)
  refine bf hK ⟨[(0, .str x24), (3, gF p1), (4, .ptr 15011 v10 0)], [O4, O5, O18, (15513, v84, bytO (nS ++ x24)), (15014, v21, .arr 1 3 [hI (IntKind.wrap .i64 (0 + x86))])]⟩ ?_
  refine AW.to (qlT 2 [(15051, v8, .arr eInt.k 3 (eInt.E a17))] ⟨[(0, .str x24), (3, gF p1), (4, .ptr 15011 v10 0)], [(15011, v10, .arr 1 31 [slE eInt a17]), O18, (15513, v84, bytO (nS ++ x24)), (15014, v21, .arr 1 3 [hI (IntKind.wrap .i64 (0 + x86))])]⟩ ⟨⟨_, rfl, rfl⟩, ⟨_, rfl, rfl⟩, ⟨_, rfl, rfl⟩, trivial⟩ ⟨.inr ⟨_, _, _, rfl, congrArg (AObj.arr 1 31) (congrArg (fun z : HV => [z]) (qbw eInt (D := [(15051, v8, .arr eInt.k 3 (eInt.E a17))]) (l := a17) rfl fun _ _ => rfl).symm)⟩, .inl rfl, .inl rfl, .inl rfl, trivial⟩ ⟨rfl, trivial⟩ ⟨rfl, trivial⟩ ?_)
  refine zab rfl fun K hK => bv rfl (qab ty27 rfl (qav rfl (lb rfl) rfl)) (bv rfl (qar ty31 rfl rfl (qan rfl rfl)) (mv rfl rfl ?_))
  obtain ⟨x88, h89, h⟩ := bS h
  refine b_op rfl (qaB rfl rfl rfl rfl (zai (qeh h89)) ?_)
  refine b_op rfl (qaD (cs := [slE eInt x88]) (zs := [slE eInt x88]) rfl rfl rfl ty31 rfl rfl rfl rfl rfl ?_)
  refine qah (hK _ ?_)
  refine qod ?_
  refine qmT (hs := []) (q := HV.tup []) (.inl rfl) rfl rfl ?_
  exact to_L ⟨(x88, IntKind.wrap .i64 (0 + x86)), v84, h, rfl⟩
 refine zaa rfl fun K hK => bv rfl (qae rfl rfl qaV) ?_
 let O19 : Nat × Nat × AObj := (15011, v10, .arr 1 31 [.ar 15051 v8 eInt.k 0 ((a11.2).length)])
 refine bf hK (P1 [(11, .ptr 15011 v10 0), E3, (54, hI a11.1), (55, .bool (decide (a11.1 < (((List.replicate (p1.2.1).toNat (0 : Int)).length : Nat) : Int))))] [O19, (15051, v8, .arr eInt.k 3 (eInt.E a11.2))]) ?_
 refine zam rfl (fun hc => ?_) (fun hc => ?_)
 ·obtain ⟨hc, h⟩ := cT hc h
  refine zac ?_
  refine zad (zaf ?_)
  refine zaa rfl fun K hK => mv rfl rfl (mv rfl rfl ?_)
  refine bf hK (P1 [(11, .ptr 15011 v10 0), (12, hI a11.1), E3, (54, hI a11.1)] [O19, (15051, v8, .arr eInt.k 3 (eInt.E a11.2))]) ?_
  refine zab rfl fun K hK => bv rfl (qar ty31 rfl rfl (qan rfl rfl)) (mv rfl rfl (mv rfl rfl ?_))
  obtain ⟨x15, h16, h⟩ := bS h
  refine bv rfl (qd2 ty31 es31 rfl rfl (qaw h16) rfl) ?_
  refine b_op rfl (qe3 eInt (l := a11.2) (j := a11.1) (v := a11.1) rfl rfl rfl ty3 rfl rfl rfl (qaw h16) ?_)
  refine qnY hK (s' := (P1 [(11, .ptr 15011 v10 0), E3, (54, hI a11.1)] [(15011, v10, .arr 1 31 [.ar 15051 v8 eInt.k 0 (((a11.2).set (a11.1).toNat a11.1).length)]), (15051, v8, .arr eInt.k 3 (eInt.E ((a11.2).set (a11.1).toNat a11.1)))])) (zak ⟨rfl, rfl, rfl, rfl, rfl, rfl, trivial⟩ ⟨hle rfl (by first | rfl | simp only [List.length_set, qcP, qbN]), rfl, trivial⟩) ?_
  refine zab rfl fun K hK => bv rfl (qae rfl rfl qa6) (mv rfl rfl ?_)
  refine qah (hK _ ?_)
  exact to_L ⟨(IntKind.wrap .i64 (a11.1 + 1), (a11.2).set (a11.1).toNat a11.1), (), h, rfl⟩
 obtain ⟨hc, h⟩ := cF hc h
 refine AW.exit ?_
 exact to_L ⟨a11.2, (), h, rfl⟩
theorem qhZ : (qga Tryz.prog qi3 (qem ++ qi2)).Ok Tryz.prog := qmF qpr fun e he => (List.mem_append.1 he).elim (qlA e) (qpq e)
abbrev r13 : qgh × Int := (((false, [1]), (false, [3])), 0)
abbrev hvR2 (r : qgh × Int) : HV := HV.tup [HV.agg [HV.bool r.1.1.1, HV.str r.1.1.2, HV.bool r.1.2.1, HV.str r.1.2.2], HV.int .i64 r.2]
theorem qss : qeW (qga Tryz.prog qi3 (qem ++ qi2)) 2000 20 [HV.int .i64 1, HV.int .i64 3] (hvR2 r13) = true := by kernel_rfl
theorem qtv : qeW (qga Tryz.prog qi3 (qem ++ qi2)) 2000 19 [jV jEa] (hvR2 r13) = true := by kernel_rfl
theorem qrE : qeW (qga Tryz.prog qi3 (qem ++ qi2)) 2000 24 [jV jEa, gV gEa, HV.int .i64 0, HV.int .i64 0] (HV.tup [slE eInt [0, 1], HV.int .i64 0]) = true := by kernel_rfl
theorem qrD : qeW (qga Tryz.prog qi3 (qem ++ qi2)) 2000 24 [jV jEa, gV gEa, HV.int .i64 1, HV.int .i64 2] (HV.tup [slE eInt [0], HV.int .i64 0]) = true := by kernel_rfl
theorem qgY {p0 p1 : Int} {r : qgh × Int} (h : qb3 p0 p1 = some r) : Pure Tryz.prog 20 [HV.int .i64 p0, HV.int .i64 p1] (· = hvR2 r) := by
 unfold qb3 at h
 split at h
 ·rename_i hc
  obtain ⟨rfl, rfl⟩ := hc
  cases h
  exact Pure.of_comes qhZ qss
 cases h
theorem qil {p0 : qap} {r : qgh × Int} (h : qb7 p0 = some r) : Pure Tryz.prog 19 [jV p0] (· = hvR2 r) := by
 unfold qb7 at h
 split at h
 ·rename_i hc
  subst hc
  cases h
  exact Pure.of_comes qhZ qtv
 cases h
theorem qeL {p0 : qap} {p1 : qaa} {p2 : Int} {p3 : Int} {r : (List (Int)) × Int} (h : qaX p0 p1 p2 p3 = some r) : Pure Tryz.prog 24 [jV p0, gV p1, HV.int .i64 p2, HV.int .i64 p3] (· = HV.tup [slE eInt r.1, HV.int .i64 r.2]) := by
 unfold qaX at h
 split at h
 ·rename_i hc
  obtain ⟨rfl, rfl, rfl, rfl⟩ := hc
  cases h
  exact Pure.of_comes qhZ qrE
 split at h
 ·rename_i hc
  obtain ⟨rfl, rfl, rfl, rfl⟩ := hc
  cases h
  exact Pure.of_comes qhZ qrD
 cases h
theorem qdc {p0 : List (Int)} {p1 : List (Int)} {r : Bool} (h : qaZ p0 p1 = some r) : Pure Tryz.prog 37 [slE eInt p0, slE eInt p1] (· = HV.bool r) := by
 unfold qaZ at h
 refine zaj Tryz.func37 rfl rfl (lb rfl) fun hf => ?_
 unfold Tryz.f37
 dsimp only [qaH, Nat.reduceAdd]
 refine zaa rfl fun K hK => mv rfl rfl ?_
 let P1 : ASf := fun t H => ⟨(0, slE eInt p0) :: (1, slE eInt p1) :: t, H⟩
 refine bf hK (P1 [] []) ?_
 refine zad ?_
 refine zaa rfl fun K hK => mv rfl rfl (bv rfl (qaI rfl rfl ty31 rfl) (mv rfl rfl (bv rfl (qaI rfl rfl ty31 rfl) (bv rfl (qae rfl rfl qcL) ?_))))
 refine bf hK (P1 [(10, .bool (decide (((p0).length : Int) ≠ ((p1).length : Int))))] []) ?_
 refine zae rfl (fun hc => ?_) (fun hc => ?_)
 ·obtain ⟨hc, h⟩ := cT hc h
  refine zaa rfl fun K hK => mv rfl rfl ?_
  refine bf hK ⟨[(4, .bool false)], []⟩ ?_
  obtain rfl := oi h
  exact AW.ret (qad (.inr rfl) (resT rfl rfl) rfl trivial)
 obtain ⟨hc, h⟩ := cF hc h
 refine zac ?_
 refine zad ?_
 refine zaa rfl fun K hK => mv rfl rfl (bv rfl (qaI rfl rfl ty31 rfl) (mv rfl rfl ?_))
 let E1 : Nat × HV := (12, hI ((p0).length : Int))
 refine bf hK (P1 [E1, (13, hI 0)] []) ?_
 refine AW.lpR h (by first | exact qaG | exact qbp) (S := Int) (V := Unit) (fun a v => (P1 [E1, (13, hI a)] [])) ?_ (X := Unit) (W := Unit) (fun a v => ⟨[], []⟩) (fun a9 w10 h => ?_) (fun a1 w2 st3 h hr4=> ?_)
 ·exact to_L ⟨(), rfl⟩
 ·refine zaa rfl fun K hK => mv rfl rfl ?_
  refine bf hK ⟨[(4, .bool true)], []⟩ ?_
  obtain rfl := oi h
  exact AW.ret (qad (.inr rfl) (resT rfl rfl) rfl trivial)
 refine zaa rfl fun K hK => bv rfl (qae rfl rfl qaV) ?_
 refine bf hK (P1 [E1, (13, hI a1), (14, .bool (decide (a1 < ((p0).length : Int))))] []) ?_
 refine zam rfl (fun hc => ?_) (fun hc => ?_)
 ·obtain ⟨hc, h⟩ := cT hc h
  refine zac ?_
  refine zad (zaf ?_)
  refine zaa rfl fun K hK => mv rfl rfl (mv rfl rfl ?_)
  refine bf hK (P1 [(5, hI a1), E1, (13, hI a1)] []) ?_
  refine AW.dgs 9 follows rfl rfl fun K hK => ?_
  iterate 2 refine sm rfl rfl ?_
  obtain ⟨x5, h6, h⟩ := bS h
  refine sv rfl (qaJ ty31 es31 rfl rfl (qaw h6)) ?_
  refine sv rfl (qab ty3 rfl (qaL eInt h6 (o := 0) rfl rfl)) ?_
  iterate 2 refine sm rfl rfl ?_
  obtain ⟨x7, h8, h⟩ := bS h
  refine sv rfl (qaJ ty31 es31 rfl rfl (qaw h8)) ?_
  refine sv rfl (qab ty3 rfl (qaL eInt h8 (o := 0) rfl rfl)) ?_
  refine sv rfl (qae rfl rfl qcL) ?_
  refine qbU ?_
  refine bf hK (P1 [E1, (13, hI a1), (24, .bool (decide (x5 ≠ x7)))] []) ?_
  refine zae rfl (fun hc => ?_) (fun hc => ?_)
  ·obtain ⟨hc, h⟩ := cT hc h
   refine zaa rfl fun K hK => mv rfl rfl ?_
   refine bf hK ⟨[(4, .bool false)], []⟩ ?_
   have h := hr4 _ h
   obtain rfl := oi h
   exact AW.ret (qad (.inr rfl) (resT rfl rfl) rfl trivial)
  obtain ⟨hc, h⟩ := cF hc h
  refine zac ?_
  refine zab rfl fun K hK => bv rfl (qae rfl rfl qa6) (mv rfl rfl ?_)
  refine qah (hK _ ?_)
  exact to_L ⟨IntKind.wrap .i64 (a1 + 1), (), h, rfl⟩
 obtain ⟨hc, h⟩ := cF hc h
 refine AW.exit ?_
 exact to_L ⟨(), (), h, rfl⟩
theorem qeC  {r : qaa} (h : qcl  = some r) : Pure Tryz.prog 51 [] (· = gA r) := by
 unfold qcl at h
 refine zaj Tryz.func51 rfl rfl (lb rfl) fun hf => ?_
 unfold Tryz.f51
 dsimp only [qaH, Nat.reduceAdd]
 refine zaa rfl fun K hK => b_op rfl (qba (fid := 51) (zs := [hI 0, hI 0, .v (.slice none 0 0)]) 51000 rfl rfl ty27 rfl (fun v1 => ?_))
 refine bf hK ⟨[(0, .ptr 51000 v1 0)], [(51000, v1, .arr 3 27 [hI 0, hI 0, .v (.slice none 0 0)])]⟩ ?_
 refine zaa rfl fun K hK => b_op rfl (qbC (cs := [hI 0, hI 0, hI 0]) rfl (qea qcN rfl rfl rfl rfl) ?_)
 refine b_op rfl (qbC (cs := [hI 0, hI 1, hI 1]) rfl (qea qcN rfl rfl rfl rfl) ?_)
 refine b_op rfl (qbC (cs := [hI 1, hI 0, hI 0]) rfl (qea qcN rfl rfl rfl rfl) ?_)
 refine b_op rfl (qdX rfl rfl (qbV (cs := [hI 0, hI 0, hI 0, hI 0, hI 1, hI 1, hI 1, hI 0, hI 0]) ty25 qcN rfl rfl rfl rfl rfl) ?_)
 refine b_op rfl (qbC (cs := [hI 2, hI 2, slE eFromLabelTo [(0, 0, 0), (0, 1, 1), (1, 0, 0)]]) rfl (qea ty27 rfl rfl rfl rfl) ?_)
 refine b_op rfl (qaD (cs := [hI 2, hI 2, slE eFromLabelTo [(0, 0, 0), (0, 1, 1), (1, 0, 0)]]) (zs := [hI 2, hI 2, slE eFromLabelTo [(0, 0, 0), (0, 1, 1), (1, 0, 0)]]) rfl rfl rfl ty27 rfl rfl rfl rfl rfl ?_)
 refine bf hK ⟨[(0, .ptr 51000 v1 0)], [(51000, v1, .arr 3 27 [hI 2, hI 2, slE eFromLabelTo [(0, 0, 0), (0, 1, 1), (1, 0, 0)]])]⟩ ?_
 obtain rfl := oi h
 exact AW.ret (qad (.inr rfl) (resP ty27 rfl rfl (qav rfl (lb rfl) rfl) rfl) rfl ⟨trivial, trivial, (qai fun _ _ => ⟨trivial, trivial, trivial, trivial⟩), trivial⟩)
theorem qje  {r : Bool} (h : qdI  = some r) : Pure Tryz.prog 13 [] (· = HV.bool r) := by
 unfold qdI at h
 refine zaj Tryz.func13 rfl rfl (lb rfl) fun hf => ?_
 unfold Tryz.f13
 dsimp only [qaH, Nat.reduceAdd]
 refine zaa rfl fun K hK => mv rfl rfl ?_
 refine bf hK ⟨[], []⟩ ?_
 refine zaa rfl fun K hK => b_op rfl (qdX rfl rfl (qbV (cs := [.str [48, 48], .str [48, 49], .str [49, 48]]) ty22 ty9 rfl rfl rfl rfl rfl) ?_)
 refine b_op rfl (qdX rfl rfl (qbV (cs := [.str [48], .str [49]]) ty22 ty9 rfl rfl rfl rfl rfl) ?_)
 refine b_op rfl (qbC (cs := [slE eStr [[48, 48], [48, 49], [49, 48]], slE eStr [[48], [49]]]) rfl (qea ty24 rfl rfl rfl rfl) ?_)
 refine b_op rfl (qba (fid := 13) (zs := [.v (.slice none 0 0), .v (.slice none 0 0)]) 13001 rfl rfl ty24 rfl (fun v1 => ?_))
 refine b_op rfl (qaD (cs := [slE eStr [[48, 48], [48, 49], [49, 48]], slE eStr [[48], [49]]]) (zs := [slE eStr [[48, 48], [48, 49], [49, 48]], slE eStr [[48], [49]]]) rfl rfl rfl ty24 rfl rfl rfl rfl rfl ?_)
 let O2 : Nat × Nat × AObj := (13001, v1, .arr 2 24 [slE eStr [[48, 48], [48, 49], [49, 48]], slE eStr [[48], [49]]])
 let P2 : ASf := fun t H => ⟨(1, .ptr 13001 v1 0) :: t, O2 :: H⟩
 refine bf hK (P2 [] []) ?_
 refine AW.dgs 8 follows rfl rfl fun K hK => ?_
 refine sv rfl (qar ty24 rfl rfl (qav rfl (lb rfl) rfl)) ?_
 obtain ⟨x2, h3, h⟩ := bS h
 refine s_op rfl rfl (qaR rfl rfl rfl rfl (zai (qeC h3)) ?_)
 obtain ⟨x4, h5, h⟩ := bS h
 refine s_op rfl rfl (qaR rfl rfl rfl rfl (zai (qeL h5)) ?_)
 refine sm rfl rfl ?_
 refine sv rfl (qaq rfl rfl) ?_
 refine sv rfl (qaq rfl rfl) ?_
 iterate 2 refine sm rfl rfl ?_
 refine qbU ?_
 refine bf hK (P2 [(2, slE eInt x4.1), (3, hI x4.2)] []) ?_
 refine AW.dgs 8 follows rfl rfl fun K hK => ?_
 refine sv rfl (qar ty24 rfl rfl (qav rfl (lb rfl) rfl)) ?_
 obtain ⟨x6, h7, h⟩ := bS h
 refine s_op rfl rfl (qaR rfl rfl rfl rfl (zai (qeC h7)) ?_)
 obtain ⟨x8, h9, h⟩ := bS h
 refine s_op rfl rfl (qaR rfl rfl rfl rfl (zai (qeL h9)) ?_)
 refine sm rfl rfl ?_
 refine sv rfl (qaq rfl rfl) ?_
 refine sv rfl (qaq rfl rfl) ?_
 iterate 2 refine sm rfl rfl ?_
 refine qbU ?_
 refine bf hK (P2 [(2, slE eInt x4.1), (3, hI x4.2), (4, slE eInt x8.1), (5, hI x8.2)] []) ?_
 refine AW.dgs 9 follows rfl rfl fun K hK => ?_
 refine sv rfl (qar ty24 rfl rfl (qav rfl (lb rfl) rfl)) ?_
 obtain ⟨x10, h11, h⟩ := bS h
 refine s_op rfl rfl (qaR rfl rfl rfl rfl (zai (qeC h11)) ?_)
 refine s_op rfl rfl (qg9 rfl rfl (qbV (cs := [hI 0, hI 0]) ty31 ty3 rfl rfl rfl rfl rfl) ?_)
 obtain ⟨x12, h13, h⟩ := bS h
 refine s_op rfl rfl (qaR rfl rfl rfl rfl (zai (qg1 h13)) ?_)
 refine sm rfl rfl ?_
 refine sv rfl (qaq rfl rfl) ?_
 refine sv rfl (qaq rfl rfl) ?_
 iterate 2 refine sm rfl rfl ?_
 refine qbU ?_
 refine bf hK (P2 [(2, slE eInt x4.1), (3, hI x4.2), (4, slE eInt x8.1), (5, hI x8.2), (6, .str x12.1), (7, hI x12.2)] []) ?_
 refine zaa rfl fun K hK => bv rfl (qar ty24 rfl rfl (qav rfl (lb rfl) rfl)) ?_
 obtain ⟨x14, h15, h⟩ := bS h
 refine b_op rfl (qaB rfl rfl rfl rfl (zai (qil h15)) ?_)
 refine mv rfl rfl (bv rfl (qaq rfl rfl) (bv rfl (qaq rfl rfl) ?_))
 refine b_op rfl (qba (fid := 13) (zs := zND) 13008 rfl rfl ty44 rfl (fun v16 => ?_))
 refine b_op rfl (qaD (cs := (qhj x14.1)) (zs := (qhj x14.1)) rfl rfl rfl ty44 rfl rfl rfl rfl rfl ?_)
 refine mv rfl rfl ?_
 let P3 : ASf := fun t H => ⟨(2, slE eInt x4.1) :: (3, hI x4.2) :: (4, slE eInt x8.1) :: (5, hI x8.2) :: (6, .str x12.1) :: (7, hI x12.2) :: (8, .ptr 13008 v16 0) :: (9, hI x14.2) :: t, (13008, v16, .arr 4 44 (qhj x14.1)) :: H⟩
 refine bf hK (P3 [] []) ?_
 refine zaa rfl fun K hK => ?_
 obtain ⟨x17, h18, h⟩ := bS h
 refine b_op rfl (qaB rfl rfl rfl rfl (zai (qgY h18)) ?_)
 refine mv rfl rfl (bv rfl (qaq rfl rfl) (bv rfl (qaq rfl rfl) ?_))
 refine b_op rfl (qba (fid := 13) (zs := zND) 13010 rfl rfl ty44 rfl (fun v19 => ?_))
 refine b_op rfl (qaD (cs := (qhj x17.1)) (zs := (qhj x17.1)) rfl rfl rfl ty44 rfl rfl rfl rfl rfl ?_)
 refine mv rfl rfl ?_
 refine bf hK (P3 [(10, .ptr 13010 v19 0)] [(13010, v19, .arr 4 44 (qhj x17.1))]) ?_
 refine zag h (S := Bool) (V := Unit) (fun a v => ⟨[(0, .bool a)], []⟩) (fun a20 w21 h => ?_) (fun k22 h => ?_)
 ·obtain rfl := oi h
  exact AW.ret (qad (.inr rfl) (resT rfl rfl) rfl trivial)
 refine zab rfl fun K hK => mv rfl rfl (mv rfl rfl (mv rfl rfl (mv rfl rfl (bv rfl (qsf rfl rfl rfl rfl rfl) (bv rfl (qae rfl rfl qd1) ?_)))))
 refine mv rfl rfl ?_
 by_cases hg30 : (max (max (max x4.2 x8.2) x12.2) x14.2) = 0
 ·have h := ifT hg30 h
  refine b_T rfl rfl rfl rfl (decide_eq_true hg30) (qaf rfl (qas rfl rfl).2 ?_)
  refine b_T rfl rfl rfl rfl rfl (qdX rfl rfl (qbV (cs := [hI 0, hI 1]) ty31 ty3 rfl rfl rfl rfl rfl) ?_)
  obtain ⟨x23, h24, h⟩ := bS h
  refine b_T rfl rfl rfl rfl rfl (qaB rfl rfl rfl rfl (zai (qdc h24)) ?_)
  refine bv rfl (qaj rfl rfl rfl) (mv rfl rfl ?_)
  by_cases hg29 : x23 = true
  ·have h := ifT hg29 h
   refine b_T rfl rfl rfl rfl hg29 (qaf rfl (qas rfl rfl).2 ?_)
   refine b_T rfl rfl rfl rfl rfl (qdX rfl rfl (qbV (cs := [hI 0]) ty31 ty3 rfl rfl rfl rfl rfl) ?_)
   obtain ⟨x25, h26, h⟩ := bS h
   refine b_T rfl rfl rfl rfl rfl (qaB rfl rfl rfl rfl (zai (qdc h26)) ?_)
   refine bv rfl (qaj rfl rfl rfl) (mv rfl rfl ?_)
   by_cases hg28 : x25 = true
   ·have h := ifT hg28 h
    refine b_T rfl rfl rfl rfl hg28 (qaf rfl (qas rfl rfl).2 ?_)
    refine b_T rfl rfl rfl rfl rfl (qaf rfl (qae rfl rfl qsX) ?_)
    refine bv rfl (qaj rfl rfl rfl) (mv rfl rfl ?_)
    by_cases hg27 : x12.1 = [48, 48, 49, 48, 48]
    ·have h := ifT hg27 h
     refine b_T rfl rfl rfl rfl (decide_eq_true hg27) (qaf rfl (qar ty44 rfl rfl (qav rfl (lb rfl) rfl)) ?_)
     refine b_T rfl rfl rfl rfl rfl (qaf rfl (qar ty44 rfl rfl (qav rfl (lb rfl) rfl)) ?_)
     refine b_T rfl rfl rfl rfl rfl (qaf rfl (qae rfl rfl (qs0 (hk44 _ _ _ _) (hk44 _ _ _ _) hc44 (hq44 x14.1 x17.1))) ?_)
     refine bv rfl (qaj rfl rfl rfl) (mv rfl rfl ?_)
     refine qah (hK _ ?_)
     exact to_L ⟨decide (x14.1 = x17.1), (), h, rfl⟩
    have h := ifF hg27 h
    refine b_F rfl rfl rfl rfl rfl (decide_eq_false hg27) ?_
    iterate 2 refine b_F rfl rfl rfl rfl rfl rfl ?_
    refine bv rfl (qak rfl rfl rfl) (mv rfl rfl ?_)
    refine qah (hK _ ?_)
    exact to_L ⟨false, (), h, rfl⟩
   have h := ifF hg28 h
   refine b_F rfl rfl rfl rfl rfl (bF hg28) ?_
   refine b_F rfl rfl rfl rfl rfl rfl ?_
   refine bv rfl (qak rfl rfl rfl) (mv rfl rfl ?_)
   iterate 3 refine b_F rfl rfl rfl rfl rfl rfl ?_
   refine bv rfl (qak rfl rfl rfl) (mv rfl rfl ?_)
   refine qah (hK _ ?_)
   exact to_L ⟨false, (), h, rfl⟩
  have h := ifF hg29 h
  refine b_F rfl rfl rfl rfl rfl (bF hg29) ?_
  iterate 2 refine b_F rfl rfl rfl rfl rfl rfl ?_
  refine bv rfl (qak rfl rfl rfl) (mv rfl rfl ?_)
  iterate 2 refine b_F rfl rfl rfl rfl rfl rfl ?_
  refine bv rfl (qak rfl rfl rfl) (mv rfl rfl ?_)
  iterate 3 refine b_F rfl rfl rfl rfl rfl rfl ?_
  refine bv rfl (qak rfl rfl rfl) (mv rfl rfl ?_)
  refine qah (hK _ ?_)
  exact to_L ⟨false, (), h, rfl⟩
 have h := ifF hg30 h
 refine b_F rfl rfl rfl rfl rfl (decide_eq_false hg30) ?_
 iterate 2 refine b_F rfl rfl rfl rfl rfl rfl ?_
 refine bv rfl (qak rfl rfl rfl) (mv rfl rfl ?_)
 iterate 3 refine b_F rfl rfl rfl rfl rfl rfl ?_
 refine bv rfl (qak rfl rfl rfl) (mv rfl rfl ?_)
 iterate 2 refine b_F rfl rfl rfl rfl rfl rfl ?_
 refine bv rfl (qak rfl rfl rfl) (mv rfl rfl ?_)
 iterate 3 refine b_F rfl rfl rfl rfl rfl rfl ?_
 refine bv rfl (qak rfl rfl rfl) (mv rfl rfl ?_)
 refine qah (hK _ ?_)
 exact to_L ⟨false, (), h, rfl⟩
theorem qsU : qdF jEa gEa [0, 0] = some ([48, 48, 49, 48, 48], 0) := by decide +kernel
theorem qpC : qdI = some true := by
 have m1 : qaX jEa gEa 0 0 = some ([0, 1], 0) := by unfold qaX; decide +kernel
 have m2 : qaX jEa gEa 1 2 = some ([0], 0) := by unfold qaX; decide +kernel
 have m3 : qb7 jEa = some (((false, [1]), (false, [3])), 0) := by unfold qb7; decide +kernel
 have m4 : qb3 1 3 = some (((false, [1]), (false, [3])), 0) := by unfold qb3; decide +kernel
 unfold qdI qcl
 simp only [Option.bind_some]
 rw [show qaX ([[48, 48], [48, 49], [49, 48]], [[48], [49]]) (2, 2, [(0, 0, 0), (0, 1, 1), (1, 0, 0)]) 0 0 = _ from m1, show qaX ([[48, 48], [48, 49], [49, 48]], [[48], [49]]) (2, 2, [(0, 0, 0), (0, 1, 1), (1, 0, 0)]) 1 2 = _ from m2, show qbz ([[48, 48], [48, 49], [49, 48]], [[48], [49]]) (2, 2, [(0, 0, 0), (0, 1, 1), (1, 0, 0)]) [0, 0] = _ from le_merging_EncodeE.ap _ qsU, show qb7 ([[48, 48], [48, 49], [49, 48]], [[48], [49]]) = _ from m3, m4]
 simp only [Option.bind_some, qrb (show ([0, 1] : List Int).length ≤ 9223372036854775807 by decide), qrb (show ([0] : List Int).length ≤ 9223372036854775807 by decide)]
 decide +kernel
theorem qgl {r : Bool} (h : m_law31_awake = some r) : Pure Tryz.prog 13 [] (· = HV.bool r) := by
 cases h
 exact qje qpC
theorem qj2 {p0 : qaa} {r : Bool} (h : qdl p0 = some r) : Pure Tryz.prog 45 [gA p0] (· = HV.bool r) := by
 unfold qdl at h
 refine zaj Tryz.func45 rfl rfl (lb rfl) fun hf => ?_
 unfold Tryz.f45
 dsimp only [qaH, Nat.reduceAdd]
 refine zaa rfl fun K hK => b_op rfl (qa5 rfl rfl rfl ?_)
 refine mv rfl rfl ?_
 refine bf hK ⟨[(1, gF p0)], []⟩ ?_
 refine zag h (S := Bool) (V := Unit) (fun a v => ⟨[(2, .bool a)], []⟩) (fun a1 w2 h => ?_) (fun k3 h => ?_)
 ·obtain rfl := oi h
  exact AW.ret (qad (.inr rfl) (resT rfl rfl) rfl trivial)
 refine zab rfl fun K hK => bv rfl (qac qcp rfl) (bv rfl (qab ty3 rfl (qan rfl rfl)) (bv rfl (qae rfl rfl qbh) (mv rfl rfl ?_)))
 by_cases hg9 : 8 < p0.2.1
 ·have h := ifT hg9 h
  refine b_T rfl rfl rfl rfl (decide_eq_true hg9) (qaf rfl (qac qcp rfl) ?_)
  refine b_T rfl rfl rfl rfl rfl (qaf rfl (qab ty3 rfl (qan rfl rfl)) ?_)
  refine b_T rfl rfl rfl rfl rfl (qaf rfl (qae rfl rfl qhW) ?_)
  refine bv rfl (qaj rfl rfl rfl) (mv rfl rfl ?_)
  by_cases hg6 : p0.2.1 ≤ 64
  ·have h := ifT hg6 h
   refine b_F rfl rfl rfl rfl rfl (decide_eq_true hg6) ?_
   iterate 4 refine b_F rfl rfl rfl rfl rfl rfl ?_
   refine b_U rfl rfl rfl rfl rfl ?_
   refine b_U rfl rfl rfl rfl rfl ?_
   refine b_U rfl rfl rfl rfl rfl ?_
   refine b_U rfl rfl rfl rfl rfl ?_
   refine b_F rfl rfl rfl rfl rfl rfl ?_
   refine bv rfl (qaj rfl rfl rfl) (mv rfl rfl ?_)
   iterate 4 refine b_F rfl rfl rfl rfl rfl rfl ?_
   refine bv rfl (qaj rfl rfl rfl) (mv rfl rfl ?_)
   refine qah (hK _ ?_)
   exact to_L ⟨true, (), h, rfl⟩
  have h := ifF hg6 h
  refine b_T rfl rfl rfl rfl (decide_eq_false hg6) (qaf rfl (qac qbi rfl) ?_)
  refine b_T rfl rfl rfl rfl rfl (qaf rfl (qab ty25 rfl (qan rfl rfl)) ?_)
  refine b_T rfl rfl rfl rfl rfl (qaf rfl (qaI rfl rfl ty25 rfl) ?_)
  refine b_T rfl rfl rfl rfl rfl (qaf rfl (qae rfl rfl qbh) ?_)
  refine b_T rfl rfl rfl rfl rfl (qaf rfl (qas rfl rfl).2 ?_)
  by_cases hg5 : 30 < ((p0.2.2).length : Int)
  ·have h := ifT hg5 h
   refine b_T rfl rfl rfl rfl (decide_eq_true hg5) (qaf rfl (qac qbi rfl) ?_)
   refine b_T rfl rfl rfl rfl rfl (qaf rfl (qab ty25 rfl (qan rfl rfl)) ?_)
   refine b_T rfl rfl rfl rfl rfl (qaf rfl (qaI rfl rfl ty25 rfl) ?_)
   refine b_T rfl rfl rfl rfl rfl (qaf rfl (qae rfl rfl qhW) ?_)
   refine b_T rfl rfl rfl rfl rfl (qaf rfl (qaj rfl rfl rfl) ?_)
   refine bv rfl (qak rfl rfl rfl) (mv rfl rfl ?_)
   by_cases hg4 : ((p0.2.2).length : Int) ≤ 1024
   ·have h := ifT hg4 h
    refine b_F rfl rfl rfl rfl rfl (decide_eq_true hg4) ?_
    iterate 3 refine b_F rfl rfl rfl rfl rfl rfl ?_
    refine bv rfl (qaj rfl rfl rfl) (mv rfl rfl ?_)
    refine qah (hK _ ?_)
    exact to_L ⟨true, (), h, rfl⟩
   have h := ifF hg4 h
   refine b_T rfl rfl rfl rfl (decide_eq_false hg4) (qaf rfl (qac qbi rfl) ?_)
   refine b_T rfl rfl rfl rfl rfl (qaf rfl (qab ty25 rfl (qan rfl rfl)) ?_)
   refine b_T rfl rfl rfl rfl rfl (qaf rfl (qaI rfl rfl ty25 rfl) ?_)
   refine b_T rfl rfl rfl rfl rfl (qaf rfl (qae rfl rfl qbh) ?_)
   refine bv rfl (qak rfl rfl rfl) (mv rfl rfl ?_)
   refine qah (hK _ ?_)
   exact to_L ⟨decide (1027 < ((p0.2.2).length : Int)), (), h, rfl⟩
  have h := ifF hg5 h
  refine b_F rfl rfl rfl rfl rfl (decide_eq_false hg5) ?_
  iterate 3 refine b_F rfl rfl rfl rfl rfl rfl ?_
  refine b_T rfl rfl rfl rfl rfl (qaf rfl (qak rfl rfl rfl) ?_)
  refine bv rfl (qak rfl rfl rfl) (mv rfl rfl ?_)
  refine b_T rfl rfl rfl rfl rfl (qaf rfl (qac qbi rfl) ?_)
  refine b_T rfl rfl rfl rfl rfl (qaf rfl (qab ty25 rfl (qan rfl rfl)) ?_)
  refine b_T rfl rfl rfl rfl rfl (qaf rfl (qaI rfl rfl ty25 rfl) ?_)
  refine b_T rfl rfl rfl rfl rfl (qaf rfl (qae rfl rfl qbh) ?_)
  refine bv rfl (qak rfl rfl rfl) (mv rfl rfl ?_)
  refine qah (hK _ ?_)
  exact to_L ⟨decide (1027 < ((p0.2.2).length : Int)), (), h, rfl⟩
 have h := ifF hg9 h
 refine b_F rfl rfl rfl rfl rfl (decide_eq_false hg9) ?_
 iterate 2 refine b_F rfl rfl rfl rfl rfl rfl ?_
 refine bv rfl (qak rfl rfl rfl) (mv rfl rfl ?_)
 refine b_T rfl rfl rfl rfl rfl (qaf rfl (qac qbi rfl) ?_)
 refine b_T rfl rfl rfl rfl rfl (qaf rfl (qab ty25 rfl (qan rfl rfl)) ?_)
 refine b_T rfl rfl rfl rfl rfl (qaf rfl (qaI rfl rfl ty25 rfl) ?_)
 refine b_T rfl rfl rfl rfl rfl (qaf rfl (qae rfl rfl qbh) ?_)
 refine b_T rfl rfl rfl rfl rfl (qaf rfl (qas rfl rfl).2 ?_)
 by_cases hg8 : 30 < ((p0.2.2).length : Int)
 ·have h := ifT hg8 h
  refine b_T rfl rfl rfl rfl (decide_eq_true hg8) (qaf rfl (qac qbi rfl) ?_)
  refine b_T rfl rfl rfl rfl rfl (qaf rfl (qab ty25 rfl (qan rfl rfl)) ?_)
  refine b_T rfl rfl rfl rfl rfl (qaf rfl (qaI rfl rfl ty25 rfl) ?_)
  refine b_T rfl rfl rfl rfl rfl (qaf rfl (qae rfl rfl qhW) ?_)
  refine b_T rfl rfl rfl rfl rfl (qaf rfl (qaj rfl rfl rfl) ?_)
  refine bv rfl (qak rfl rfl rfl) (mv rfl rfl ?_)
  by_cases hg7 : ((p0.2.2).length : Int) ≤ 1024
  ·have h := ifT hg7 h
   refine b_F rfl rfl rfl rfl rfl (decide_eq_true hg7) ?_
   iterate 3 refine b_F rfl rfl rfl rfl rfl rfl ?_
   refine bv rfl (qaj rfl rfl rfl) (mv rfl rfl ?_)
   refine qah (hK _ ?_)
   exact to_L ⟨true, (), h, rfl⟩
  have h := ifF hg7 h
  refine b_T rfl rfl rfl rfl (decide_eq_false hg7) (qaf rfl (qac qbi rfl) ?_)
  refine b_T rfl rfl rfl rfl rfl (qaf rfl (qab ty25 rfl (qan rfl rfl)) ?_)
  refine b_T rfl rfl rfl rfl rfl (qaf rfl (qaI rfl rfl ty25 rfl) ?_)
  refine b_T rfl rfl rfl rfl rfl (qaf rfl (qae rfl rfl qbh) ?_)
  refine bv rfl (qak rfl rfl rfl) (mv rfl rfl ?_)
  refine qah (hK _ ?_)
  exact to_L ⟨decide (1027 < ((p0.2.2).length : Int)), (), h, rfl⟩
 have h := ifF hg8 h
 refine b_F rfl rfl rfl rfl rfl (decide_eq_false hg8) ?_
 iterate 3 refine b_F rfl rfl rfl rfl rfl rfl ?_
 refine b_T rfl rfl rfl rfl rfl (qaf rfl (qak rfl rfl rfl) ?_)
 refine bv rfl (qak rfl rfl rfl) (mv rfl rfl ?_)
 refine b_T rfl rfl rfl rfl rfl (qaf rfl (qac qbi rfl) ?_)
 refine b_T rfl rfl rfl rfl rfl (qaf rfl (qab ty25 rfl (qan rfl rfl)) ?_)
 refine b_T rfl rfl rfl rfl rfl (qaf rfl (qaI rfl rfl ty25 rfl) ?_)
 refine b_T rfl rfl rfl rfl rfl (qaf rfl (qae rfl rfl qbh) ?_)
 refine bv rfl (qak rfl rfl rfl) (mv rfl rfl ?_)
 refine qah (hK _ ?_)
 exact to_L ⟨decide (1027 < ((p0.2.2).length : Int)), (), h, rfl⟩
theorem qhN {p0 : List (Int)} {r : Bool} (h : qbs p0 = some r) : Pure Tryz.prog 183 [slE eInt p0] (· = HV.bool r) := by
 unfold qbs at h
 refine zaj Tryz.func183 rfl rfl (lb rfl) fun hf => ?_
 unfold Tryz.f183
 dsimp only [qaH, Nat.reduceAdd]
 refine zaa rfl fun K hK => mv rfl rfl ?_
 refine bf hK ⟨[], []⟩ ?_
 refine zaa rfl fun K hK => mv rfl rfl ?_
 refine bf hK ⟨[(2, .bool true)], []⟩ ?_
 obtain rfl := oi h
 exact AW.ret (qad (.inr rfl) (resT rfl rfl) rfl trivial)
theorem qfk (p0 : qaa) : Pure Tryz.prog 212 [gA p0] (· = HV.fn (.func 233) [] [gF p0]) := by
 refine zaj Tryz.func212 rfl rfl (lb rfl) fun hf => ?_
 unfold Tryz.f212
 dsimp only [qaH, Nat.reduceAdd]
 refine zaa rfl fun K hK => b_op rfl (qa5 rfl rfl rfl ?_)
 refine mv rfl rfl ?_
 refine bf hK ⟨[(1, gF p0)], []⟩ ?_
 refine zaa rfl fun K hK => bv rfl (qgp rfl rfl) (mv rfl rfl ?_)
 refine bf hK ⟨[(2, .fn (.func 233) [] [gF p0])], []⟩ ?_
 refine AW.ret ?_
 exact qad (.inr rfl) (resT rfl rfl) rfl ⟨trivial, ⟨⟨trivial, trivial, (qai fun _ _ => ⟨trivial, trivial, trivial, trivial⟩), trivial⟩, trivial⟩⟩
theorem qhM {p0 : qaa} {r : (List (List (Int))) × Int} (h : qc0 p0 = some r) : Pure Tryz.prog 182 [gA p0, .fn (.func 183) [] []] (· = HV.tup [slE (eSl eInt) r.1, hI r.2]) := by
 unfold qc0 at h
 refine zaj Tryz.func182 rfl rfl (lb rfl) fun hf => ?_
 unfold Tryz.f182
 dsimp only [qaH, Nat.reduceAdd]
 refine zaa rfl fun K hK => b_op rfl (qa5 rfl rfl rfl ?_)
 refine b_op rfl (qa5 rfl rfl rfl ?_)
 refine mv rfl rfl (mv rfl rfl ?_)
 let E1 : Nat × HV := (3, .fptr [.fn (.func 183) [] []] 0)
 refine bf hK ⟨[(2, gF p0), E1], []⟩ ?_
 refine zad ?_
 refine zaa rfl fun K hK => bv rfl (qab ty27 rfl (qav rfl (lb rfl) rfl)) ?_
 obtain ⟨x1, h2, h⟩ := bS h
 refine b_op rfl (qaB rfl rfl rfl rfl (zai (qdd h2)) ?_)
 refine bv rfl (qae rfl rfl qcL) ?_
 refine bf hK ⟨[(2, gF p0), E1, (10, .bool (decide (x1 ≠ 0)))], []⟩ ?_
 refine zae rfl (fun hc => ?_) (fun hc => ?_)
 ·obtain ⟨hc, h⟩ := cT hc h
  refine zaa rfl fun K hK => mv rfl rfl (mv rfl rfl ?_)
  refine bf hK ⟨[(4, .v (.slice none 0 0)), (5, hI 1)], []⟩ ?_
  refine AW.to (qct ⟨[(4, slE (eSl eInt) ([] : List (List (Int)))), (5, hI 1)], []⟩ ⟨⟨_, rfl, .nil _⟩, ⟨_, rfl, .refl _⟩, trivial⟩ trivial ?_)
  obtain rfl := oi h
  exact AW.ret (qad (.inr rfl) (resT rfl (resT rfl rfl)) rfl ⟨(qai fun _ _ => ⟨(qai fun _ _ => ⟨trivial, trivial⟩), trivial⟩), trivial, trivial⟩)
 obtain ⟨hc, h⟩ := cF hc h
 refine zac ?_
 refine zaa rfl fun K hK => b_op rfl (qba (fid := 182) (zs := [.v (.slice none 0 0)]) 182006 rfl rfl qcK rfl (fun v3 => ?_))
 refine bf hK ⟨[(2, gF p0), E1, (6, .ptr 182006 v3 0)], [(182006, v3, .arr 1 151 [.v (.slice none 0 0)])]⟩ ?_
 refine zad ?_
 refine zaa rfl fun K hK => bv rfl (qab ty27 rfl (qav rfl (lb rfl) rfl)) ?_
 refine b_op rfl (qaB rfl rfl rfl rfl (zai (qfk p0)) ?_)
 refine bf hK ⟨[E1, (6, .ptr 182006 v3 0), (12, .fn (.func 233) [] [gF p0])], [(182006, v3, .arr 1 151 [.v (.slice none 0 0)])]⟩ ?_
 refine zaf ?_
 refine AW.to (qg5 182020 182006 v3 1 0 (eSl eInt).k 31 151 rfl rfl (by decide) fun v4 => ?_)
 refine AW.to (qa9 (s' := ⟨[E1, (6, .ptr 182006 v3 0), (12, .fn (.func 233) [] [gF p0])], [(182006, v3, .arr 1 151 [.ar 182020 v4 (eSl eInt).k 0 ((([] : List (List (Int)))).length)]), (182020, v4, .arr (eSl eInt).k 31 ((eSl eInt).E ([] : List (List (Int)))))]⟩) (zak ⟨rfl, rfl, rfl, trivial⟩ ⟨hle rfl (by first | rfl | simp only [List.length_set, qcP, qbN]), rfl, trivial⟩) ?_)
 obtain ⟨L5, h6, h⟩ := bS h
 refine AW.rangeY (c := .ret) 182900 (fun x => [slE eInt x]) h (by first | exact qaG | exact qbp) rfl (qe8 h6) (S := (List (List (Int)))) (V := Nat) (fun a v => [(182006, v3, .arr 1 151 [.ar 182020 v (eSl eInt).k 0 ((a).length)]), (182020, v, .arr (eSl eInt).k 31 ((eSl eInt).E a))]) v4 (X := Unit) (W := Unit) (fun _ _ => []) (fun _ _ => rfl) (fun _ _ => rfl) rfl (fun _ => rfl) (fun a17 w18 h => ?_) (fun a19 w20 h => ?_) (fun Lo l12 v10 a7 x9 w8 st11 h => ?_)
 ·refine zaa rfl fun K hK => bv rfl (qar qcK rfl rfl (qan rfl rfl)) (mv rfl rfl (mv rfl rfl ?_))
  refine bf hK ⟨[(4, .ar 182020 w18 (eSl eInt).k 0 ((a17).length)), (5, hI 0)], [(182020, w18, .arr (eSl eInt).k 31 ((eSl eInt).E a17))]⟩ ?_
  refine AW.to (qdN 2 [(182020, w18, .arr (eSl eInt).k 31 ((eSl eInt).E a17))] ⟨[(4, slE (eSl eInt) a17), (5, hI 0)], []⟩ ⟨⟨_, rfl, qbw (eSl eInt) (l := a17) rfl fun _ _ => rfl⟩, ⟨_, rfl, rfl⟩, trivial⟩ trivial ⟨rfl, trivial⟩ ⟨rfl, trivial⟩ ?_)
  obtain rfl := oi h
  exact AW.ret (qad (.inr rfl) (resT rfl (resT rfl rfl)) rfl ⟨(qai fun _ _ => ⟨(qai fun _ _ => ⟨trivial, trivial⟩), trivial⟩), trivial, trivial⟩)
 ·cases h
 refine zab rfl fun K hK => mv rfl rfl ?_
 refine qah (hK _ ?_)
 refine ⟨rfl, rfl, ?_⟩
 refine zaf ?_
 refine zaa rfl fun K hK => bv rfl (qab ty55 rfl (qan rfl rfl)) (mv rfl rfl ?_)
 obtain ⟨x13, h14, h⟩ := bS h
 refine b_op rfl (qaB rfl rfl rfl rfl (zai (qhN h14)) ?_)
 refine bf hK ⟨[E1, (6, .ptr 182006 v3 0), (7, slE eInt x9), (13, slE eInt x9), (16, .bool x13)], [(182900, v10, Lo .busy none), (182006, v3, .arr 1 151 [.ar 182020 w8 (eSl eInt).k 0 ((a7).length)]), (182020, w8, .arr (eSl eInt).k 31 ((eSl eInt).E a7))]⟩ ?_
 refine zae rfl (fun hc => ?_) (fun hc => ?_)
 ·have h := ifT hc h
  refine zab rfl fun K hK => bv rfl (qar qcK rfl rfl (qan rfl rfl)) (mv rfl rfl ?_)
  refine b_op rfl (qdX rfl rfl (qbV (cs := [slE eInt x9]) qcK ty31 rfl rfl rfl rfl rfl) ?_)
  obtain ⟨h16, h⟩ := ifN h
  refine b_op rfl (qdh (eSl eInt) (l := a7) (m := [x9]) rfl rfl qcK qcK ty31 rfl rfl rfl rfl rfl h16 (fun v15 => ?_))
  refine b_op rfl (qaD (cs := [.ar 182020 v15 (eSl eInt).k 0 ((a7 ++ [x9]).length)]) (zs := [.ar 182020 v15 (eSl eInt).k 0 ((a7 ++ [x9]).length)]) rfl rfl rfl qcK rfl rfl rfl rfl rfl ?_)
  refine qah (hK _ ?_)
  exact ⟨a7 ++ [x9], v15, h, (zak trivial ⟨rfl, rfl, rfl, trivial⟩)⟩
 have h := ifF (bF' hc) h
 refine zac ?_
 exact ⟨a7, w8, h, (zak trivial ⟨rfl, rfl, rfl, trivial⟩)⟩
theorem qjf {p0 : qaa} {r : (List (List (Int))) × Int} (h : qcT p0 = some r) : Pure Tryz.prog 141 [gA p0] (· = HV.tup [slE (eSl eInt) r.1, hI r.2]) := by
 unfold qcT at h
 refine zaj Tryz.func141 rfl rfl (lb rfl) fun hf => ?_
 unfold Tryz.f141
 dsimp only [qaH, Nat.reduceAdd]
 refine zaa rfl fun K hK => b_op rfl (qa5 rfl rfl rfl ?_)
 refine mv rfl rfl (mv rfl rfl ?_)
 refine bf hK ⟨[(1, gF p0)], []⟩ ?_
 refine zaa rfl fun K hK => bv rfl (qab ty27 rfl (qav rfl (lb rfl) rfl)) ?_
 obtain ⟨x1, h2, h⟩ := bS h
 refine b_op rfl (qaB rfl rfl rfl rfl (zai (qhM h2)) ?_)
 refine bv rfl (qaq rfl rfl) (bv rfl (qaq rfl rfl) (mv rfl rfl (mv rfl rfl ?_)))
 refine bf hK ⟨[(2, slE (eSl eInt) x1.1), (3, hI x1.2)], []⟩ ?_
 obtain rfl := oi h
 exact AW.ret (qad (.inr rfl) (resT rfl (resT rfl rfl)) rfl ⟨(qai fun _ _ => ⟨(qai fun _ _ => ⟨trivial, trivial⟩), trivial⟩), trivial, trivial⟩)
theorem qeY {p0 : qaa} {r : Bool × Int} (h : qbd p0 = some r) : Pure Tryz.prog 95 [gA p0] (· = HV.tup [.bool r.1, hI r.2]) := by
 unfold qbd at h
 refine zaj Tryz.func95 rfl rfl (lb rfl) fun hf => ?_
 unfold Tryz.f95
 dsimp only [qaH, Nat.reduceAdd]
 refine zaa rfl fun K hK => b_op rfl (qa5 rfl rfl rfl ?_)
 refine mv rfl rfl (mv rfl rfl ?_)
 refine bf hK ⟨[(1, gF p0)], []⟩ ?_
 refine zaa rfl fun K hK => bv rfl (qab ty27 rfl (qav rfl (lb rfl) rfl)) ?_
 obtain ⟨x1, h2, h⟩ := bS h
 refine b_op rfl (qaB rfl rfl rfl rfl (zai (qjf h2)) ?_)
 refine mv rfl rfl (bv rfl (qaq rfl rfl) (bv rfl (qaq rfl rfl) (mv rfl rfl (mv rfl rfl ?_))))
 refine bf hK ⟨[(1, gF p0), (4, slE (eSl eInt) x1.1), (5, hI x1.2)], []⟩ ?_
 refine zag h (S := Bool) (V := Unit) (fun a v => ⟨[(2, .bool a), (3, hI x1.2)], []⟩) (fun a3 w4 h => ?_) (fun k5 h => ?_)
 ·obtain rfl := oi h
  exact AW.ret (qad (.inr rfl) (resT rfl (resT rfl rfl)) rfl ⟨trivial, trivial, trivial⟩)
 refine zab rfl fun K hK => mv rfl rfl (bv rfl (qae rfl rfl qd1) (mv rfl rfl ?_))
 by_cases hg7 : x1.2 = 0
 ·have h := ifT hg7 h
  refine b_T rfl rfl rfl rfl (decide_eq_true hg7) (qaf rfl (qas rfl rfl).2 ?_)
  refine b_T rfl rfl rfl rfl rfl (qaf rfl (qaI rfl rfl qcK rfl) ?_)
  refine b_T rfl rfl rfl rfl rfl (qaf rfl (qae rfl rfl qd1) ?_)
  refine bv rfl (qaj rfl rfl rfl) (mv rfl rfl ?_)
  by_cases hg6 : ((x1.1).length : Int) = 1
  ·have h := ifT hg6 h
   refine b_T rfl rfl rfl rfl (decide_eq_true hg6) (qaf rfl (qac qbi rfl) ?_)
   refine b_T rfl rfl rfl rfl rfl (qaf rfl (qab ty25 rfl (qan rfl rfl)) ?_)
   refine b_T rfl rfl rfl rfl rfl (qaf rfl (qaI rfl rfl ty25 rfl) ?_)
   refine b_T rfl rfl rfl rfl rfl (qaf rfl (qae rfl rfl qbh) ?_)
   refine bv rfl (qaj rfl rfl rfl) (mv rfl rfl (mv rfl rfl (mv rfl rfl ?_)))
   refine qah (hK _ ?_)
   exact to_L ⟨decide (0 < ((p0.2.2).length : Int)), (), h, rfl⟩
  have h := ifF hg6 h
  refine b_F rfl rfl rfl rfl rfl (decide_eq_false hg6) ?_
  iterate 3 refine b_F rfl rfl rfl rfl rfl rfl ?_
  refine bv rfl (qak rfl rfl rfl) (mv rfl rfl (mv rfl rfl (mv rfl rfl ?_)))
  refine qah (hK _ ?_)
  exact to_L ⟨false, (), h, rfl⟩
 have h := ifF hg7 h
 refine b_F rfl rfl rfl rfl rfl (decide_eq_false hg7) ?_
 iterate 2 refine b_F rfl rfl rfl rfl rfl rfl ?_
 refine bv rfl (qak rfl rfl rfl) (mv rfl rfl ?_)
 iterate 4 refine b_F rfl rfl rfl rfl rfl rfl ?_
 refine bv rfl (qak rfl rfl rfl) (mv rfl rfl (mv rfl rfl (mv rfl rfl ?_)))
 refine qah (hK _ ?_)
 exact to_L ⟨false, (), h, rfl⟩
theorem qhJ {p0 : qaa} {p1 : Int} {r : (List (List UInt8)) × Int} (h : qbe p0 p1 = some r) : Pure Tryz.prog 96 [gA p0, hI p1] (· = HV.tup [slE eStr r.1, hI r.2]) := by
 unfold qbe at h
 refine zaj Tryz.func96 rfl rfl (lb rfl) fun hf => ?_
 unfold Tryz.f96
 dsimp only [qaH, Nat.reduceAdd]
 refine zaa rfl fun K hK => b_op rfl (qa5 rfl rfl rfl ?_)
 refine mv rfl rfl (mv rfl rfl ?_)
 refine bf hK ⟨[(1, hI p1), (2, gF p0)], []⟩ ?_
 refine zad ?_
 refine zaa rfl fun K hK => bv rfl (qab ty27 rfl (qav rfl (lb rfl) rfl)) (mv rfl rfl ?_)
 obtain ⟨x1, h2, h⟩ := bS h
 refine b_op rfl (qaB rfl rfl rfl rfl (zai (qgm h2)) ?_)
 refine mv rfl rfl ?_
 refine bf hK ⟨[(1, hI p1), (2, gF p0), (6, hI x1)], []⟩ ?_
 refine zaa rfl fun K hK => mv rfl rfl (bv rfl (qae rfl rfl qcL) ?_)
 refine bf hK ⟨[(1, hI p1), (2, gF p0), (6, hI x1), (13, .bool (decide (x1 ≠ 0)))], []⟩ ?_
 refine zae rfl (fun hc => ?_) (fun hc => ?_)
 ·obtain ⟨hc, h⟩ := cT hc h
  refine zaa rfl fun K hK => mv rfl rfl (mv rfl rfl (mv rfl rfl ?_))
  refine bf hK ⟨[(4, .v (.slice none 0 0)), (5, hI x1)], []⟩ ?_
  refine AW.to (qct ⟨[(4, slE eStr ([] : List (List UInt8))), (5, hI x1)], []⟩ ⟨⟨_, rfl, .nil _⟩, ⟨_, rfl, .refl _⟩, trivial⟩ trivial ?_)
  obtain rfl := oi h
  exact AW.ret (qad (.inr rfl) (resT rfl (resT rfl rfl)) rfl ⟨(qai fun _ _ => ⟨trivial, trivial⟩), trivial, trivial⟩)
 obtain ⟨hc, h⟩ := cF hc h
 refine zac ?_
 refine AW.dys follows fun K hK => ?_
 refine y_st 4 rfl rfl ?_
 refine sv rfl (qab ty27 rfl (qav rfl (lb rfl) rfl)) ?_
 refine sv rfl (qab ty27 rfl (qav rfl (lb rfl) rfl)) ?_
 obtain ⟨x3, h4, h⟩ := bS h
 refine s_op rfl rfl (qaR rfl rfl rfl rfl (zai (qeM h4)) ?_)
 refine sm rfl rfl ?_
 refine qbU ?_
 obtain ⟨x5, h6, h⟩ := bS h
 by_cases hg7 : x5.2 = true
 ·have h := ifT hg7 h
  refine y_op rfl rfl rfl rfl (qfD rfl rfl rfl rfl (qr4 h6 hg7 fun i8 v9 es10 hes11 => ?_) )
  refine qah ?_
  refine y_st 10 rfl rfl ?_
  refine sm rfl rfl ?_
  refine sv rfl (qaq rfl rfl) ?_
  refine sv rfl (qaq rfl rfl) ?_
  iterate 2 refine sm rfl rfl ?_
  refine qbU ?_
  refine qsb rfl (hK _ (AW.to (qa9 (s' := ⟨[(7, .mp i8 v9), (8, .bool true)], [(i8, v9, .map es10)]⟩) (zak ⟨rfl, rfl, trivial⟩ ⟨qcB, trivial⟩) ?_)))
  refine zad ?_
  refine zaa rfl fun K hK => mv rfl rfl (bv rfl (qfu rfl) ?_)
  refine qnY hK (s' := ⟨[(7, .mp i8 v9), (24, .bool false)], [(i8, v9, .map es10)]⟩) (zak ⟨rfl, rfl, trivial⟩ ⟨qcB, trivial⟩) ?_
  refine zae rfl (fun hc => by cases hc) (fun _ => ?_)
  refine zac ?_
  refine zaa rfl fun K hK => mv rfl rfl ?_
  refine b_op rfl (ql8 [(i8, v9, .map es10)] rfl rfl rfl rfl (fun K hK => w82 hK) ?_)
  refine b_op rfl (ql8 (q := slE eStr (sortS ((x5.1).map Prod.fst))) [] rfl rfl rfl rfl (fun K hK => qlI hes11 hK) ?_)
  refine mv rfl rfl (mv rfl rfl ?_)
  refine bf hK ⟨[(4, slE eStr (sortS ((x5.1).map Prod.fst))), (5, hI 0)], []⟩ ?_
  obtain rfl := oi h
  exact AW.ret (qad (.inr rfl) (resT rfl (resT rfl rfl)) rfl ⟨(qai fun _ _ => ⟨trivial, trivial⟩), trivial, trivial⟩)
 have h := ifF hg7 h
 refine y_op rfl rfl rfl rfl (qfD rfl rfl rfl rfl (qr5 h6 hg7 ?_) )
 refine qah ?_
 refine y_st 10 rfl rfl ?_
 refine sm rfl rfl ?_
 refine sv rfl (qaq rfl rfl) ?_
 refine sv rfl (qaq rfl rfl) ?_
 iterate 2 refine sm rfl rfl ?_
 refine qbU ?_
 refine qsb rfl (hK _ (AW.to (qa9 (s' := ⟨[(7, .v (.map none)), (8, .bool false)], []⟩) (le_q rfl rfl) ?_)))
 refine zad ?_
 refine zaa rfl fun K hK => mv rfl rfl (bv rfl (qfu rfl) ?_)
 refine bf hK ⟨[(7, .v (.map none)), (24, .bool true)], []⟩ ?_
 refine zae rfl (fun _ => ?_) (fun hc => by cases hc)
 refine zaa rfl fun K hK => mv rfl rfl (mv rfl rfl ?_)
 refine bf hK ⟨[(4, .v (.slice none 0 0)), (5, hI 4)], []⟩ ?_
 refine AW.to (qct ⟨[(4, slE eStr ([] : List (List UInt8))), (5, hI 4)], []⟩ ⟨⟨_, rfl, .nil _⟩, ⟨_, rfl, .refl _⟩, trivial⟩ trivial ?_)
 obtain rfl := oi h
 exact AW.ret (qad (.inr rfl) (resT rfl (resT rfl rfl)) rfl ⟨(qai fun _ _ => ⟨trivial, trivial⟩), trivial, trivial⟩)
theorem qnz {p0 : Int} {p1 : Int} {r : (List (List UInt8)) × Int} (h : qee p0 p1 = some r) : Pure Tryz.prog 97 [hI p0, hI p1] (· = HV.tup [slE eStr r.1, hI r.2]) := by
 unfold qee at h
 refine zaj Tryz.func97 rfl rfl (lb rfl) fun hf => ?_
 unfold Tryz.f97
 dsimp only [qaH, Nat.reduceAdd]
 refine zaa rfl fun K hK => mv rfl rfl (mv rfl rfl ?_)
 let P1 : ASf := fun t H => ⟨(0, hI p0) :: t, H⟩
 refine bf hK (P1 [(1, hI p1)] []) ?_
 refine zad (zaf ?_)
 refine zaa rfl fun K hK => mv rfl rfl ?_
 obtain ⟨x1, h2, h⟩ := bS h
 refine b_op rfl (qaB rfl rfl rfl rfl (zai (qhr h2)) ?_)
 refine bv rfl (qfu rfl) (mv rfl rfl ?_)
 refine bf hK (P1 [(1, hI p1), (11, .bool (!x1))] []) ?_
 refine zae rfl (fun hc => ?_) (fun hc => ?_)
 ·have h := ifT hc h
  refine zaa rfl fun K hK => mv rfl rfl (mv rfl rfl ?_)
  refine bf hK ⟨[(4, .v (.slice none 0 0)), (5, hI 12)], []⟩ ?_
  refine AW.to (qct ⟨[(4, slE eStr ([] : List (List UInt8))), (5, hI 12)], []⟩ ⟨⟨_, rfl, .nil _⟩, ⟨_, rfl, .refl _⟩, trivial⟩ trivial ?_)
  obtain rfl := oi h
  exact AW.ret (qad (.inr rfl) (resT rfl (resT rfl rfl)) rfl ⟨(qai fun _ _ => ⟨trivial, trivial⟩), trivial, trivial⟩)
 have h := ifF (bF' hc) h
 refine zaa rfl fun K hK => mv rfl rfl (bv rfl (qae rfl rfl qaV) (mv rfl rfl ?_))
 refine bf hK (P1 [(1, hI p1), (15, .bool (decide (p1 < 0)))] []) ?_
 refine zae rfl (fun hc => ?_) (fun hc => ?_)
 ·obtain ⟨hc, h⟩ := cT hc h
  refine zaa rfl fun K hK => mv rfl rfl (mv rfl rfl ?_)
  refine bf hK ⟨[(4, .v (.slice none 0 0)), (5, hI 2)], []⟩ ?_
  refine AW.to (qct ⟨[(4, slE eStr ([] : List (List UInt8))), (5, hI 2)], []⟩ ⟨⟨_, rfl, .nil _⟩, ⟨_, rfl, .refl _⟩, trivial⟩ trivial ?_)
  obtain rfl := oi h
  exact AW.ret (qad (.inr rfl) (resT rfl (resT rfl rfl)) rfl ⟨(qai fun _ _ => ⟨trivial, trivial⟩), trivial, trivial⟩)
 obtain ⟨hc, h⟩ := cF hc h
 refine zaa rfl fun K hK => mv rfl rfl (bv rfl (qae rfl rfl qbh) (mv rfl rfl ?_))
 refine bf hK (P1 [(1, hI p1), (18, .bool (decide (65536 < p1)))] []) ?_
 refine zae rfl (fun hc => ?_) (fun hc => ?_)
 ·obtain ⟨hc, h⟩ := cT hc h
  refine zaa rfl fun K hK => mv rfl rfl (mv rfl rfl ?_)
  refine bf hK ⟨[(4, .v (.slice none 0 0)), (5, hI 4)], []⟩ ?_
  refine AW.to (qct ⟨[(4, slE eStr ([] : List (List UInt8))), (5, hI 4)], []⟩ ⟨⟨_, rfl, .nil _⟩, ⟨_, rfl, .refl _⟩, trivial⟩ trivial ?_)
  obtain rfl := oi h
  exact AW.ret (qad (.inr rfl) (resT rfl (resT rfl rfl)) rfl ⟨(qai fun _ _ => ⟨trivial, trivial⟩), trivial, trivial⟩)
 obtain ⟨hc, h⟩ := cF hc h
 refine zac ?_
 refine zad ?_
 refine zaa rfl fun K hK => mv rfl rfl (bv rfl (qae rfl rfl qd1) ?_)
 refine bf hK (P1 [(1, hI p1), (22, .bool (decide (p0 = 1)))] []) ?_
 refine zae rfl (fun hc => ?_) (fun hc => ?_)
 ·obtain ⟨hc, h⟩ := cT hc h
  refine zaa rfl fun K hK => mv rfl rfl ?_
  obtain ⟨x3, h4, h⟩ := bS h
  refine b_op rfl (qaB rfl rfl rfl rfl (zai (qhI h4)) ?_)
  refine b_op rfl (qdX rfl rfl (qbV (cs := [.str x3]) ty22 ty9 rfl rfl rfl rfl rfl) ?_)
  refine mv rfl rfl (mv rfl rfl ?_)
  refine bf hK ⟨[(4, slE eStr [x3]), (5, hI 0)], []⟩ ?_
  obtain rfl := oi h
  exact AW.ret (qad (.inr rfl) (resT rfl (resT rfl rfl)) rfl ⟨(qai fun _ _ => ⟨trivial, trivial⟩), trivial, trivial⟩)
 obtain ⟨hc, h⟩ := cF hc h
 refine zac ?_
 refine zaa rfl fun K hK => b_op rfl (qdX rfl rfl (qbV (cs := [.str nS]) ty22 ty9 rfl rfl rfl rfl rfl) ?_)
 refine mv rfl rfl ?_
 refine bf hK (P1 [(1, hI p1), (6, slE eStr [nS])] []) ?_
 refine zad ?_
 refine zaa rfl fun K hK => mv rfl rfl (mv rfl rfl ?_)
 refine bf hK (P1 [(6, slE eStr [nS]), (27, hI p1), (28, hI 0)] []) ?_
 refine AW.lpR h (by first | exact qaG | exact qbp) (S := (List (List UInt8)) × Int) (V := Unit) (fun a v => (P1 [(6, slE eStr a.1), (27, hI p1), (28, hI a.2)] [])) ?_ (X := (List (List UInt8))) (W := Unit) (fun a v => ⟨[(6, slE eStr a)], []⟩) (fun a29 w30 h => ?_) (fun a5 w6 st7 h hr8=> ?_)
 ·exact to_L ⟨(), rfl⟩
 ·refine zaa rfl fun K hK => mv rfl rfl (mv rfl rfl (mv rfl rfl ?_))
  refine bf hK ⟨[(4, slE eStr a29), (5, hI 0)], []⟩ ?_
  obtain rfl := oi h
  exact AW.ret (qad (.inr rfl) (resT rfl (resT rfl rfl)) rfl ⟨(qai fun _ _ => ⟨trivial, trivial⟩), trivial, trivial⟩)
 refine zaa rfl fun K hK => bv rfl (qae rfl rfl qaV) ?_
 refine bf hK (P1 [(6, slE eStr a5.1), (27, hI p1), (28, hI a5.2), (29, .bool (decide (a5.2 < p1)))] []) ?_
 refine zam rfl (fun hc => ?_) (fun hc => ?_)
 ·obtain ⟨hc, h⟩ := cT hc h
  refine zac ?_
  refine zad (zaf ?_)
  refine zad ?_
  refine zaa rfl fun K hK => mv rfl rfl (bv rfl (qaI rfl rfl ty22 rfl) (mv rfl rfl (bv rfl (qae rfl rfl qpB) (bv rfl (qae rfl rfl qbh) ?_))))
  refine bf hK (P1 [(6, slE eStr a5.1), (27, hI p1), (28, hI a5.2), (34, .bool (decide (4096 < (IntKind.wrap .i64 (((a5.1).length : Int) * p0)))))] []) ?_
  refine zae rfl (fun hc => ?_) (fun hc => ?_)
  ·obtain ⟨hc, h⟩ := cT hc h
   refine zaa rfl fun K hK => mv rfl rfl (mv rfl rfl ?_)
   refine bf hK ⟨[(4, .v (.slice none 0 0)), (5, hI 4)], []⟩ ?_
   have h := hr8 _ h
   refine AW.to (qct ⟨[(4, slE eStr ([] : List (List UInt8))), (5, hI 4)], []⟩ ⟨⟨_, rfl, .nil _⟩, ⟨_, rfl, .refl _⟩, trivial⟩ trivial ?_)
   obtain rfl := oi h
   exact AW.ret (qad (.inr rfl) (resT rfl (resT rfl rfl)) rfl ⟨(qai fun _ _ => ⟨trivial, trivial⟩), trivial, trivial⟩)
  obtain ⟨hc, h⟩ := cF hc h
  refine zac ?_
  refine zaa rfl fun K hK => mv rfl rfl (bv rfl (qaI rfl rfl ty22 rfl) (mv rfl rfl (bv rfl (qae rfl rfl qpB) ?_)))
  obtain ⟨h10, h⟩ := ifN h
  refine b_op rfl (qfC (fid := 97) eStr (nS : List UInt8) 97039 rfl rfl ty22 rfl rfl ty9 rfl rfl h10 (fun v9 => ?_))
  refine mv rfl rfl ?_
  let E2 : Nat × HV := (7, .ar 97039 v9 eStr.k 0 ((List.replicate (0 : Int).toNat (nS : List UInt8)).length))
  let O3 : Nat × Nat × AObj := (97039, v9, .arr eStr.k 9 (eStr.E (List.replicate (0 : Int).toNat (nS : List UInt8))))
  refine bf hK (P1 [(6, slE eStr a5.1), E2, (27, hI p1), (28, hI a5.2)] [O3]) ?_
  refine zad ?_
  refine zaa rfl fun K hK => mv rfl rfl (bv rfl (qaI rfl rfl ty22 rfl) (mv rfl rfl ?_))
  let E4 : Nat × HV := (41, hI ((a5.1).length : Int))
  refine bf hK (P1 [E2, (27, hI p1), (28, hI a5.2), (40, slE eStr a5.1), E4, (42, hI 0)] [O3]) ?_
  refine AW.lpX h (by first | exact qaG | exact qbp) (S := Int × (List (List UInt8))) (V := Nat) (fun a v => (P1 [(7, .ar 97039 v eStr.k 0 ((a.2).length)), (27, hI p1), (28, hI a5.2), (40, slE eStr a5.1), E4, (42, hI a.1)] [(97039, v, .arr eStr.k 9 (eStr.E a.2))])) ?_ (X := (List (List UInt8))) (W := Nat) (fun a v => (P1 [(7, .ar 97039 v eStr.k 0 ((a).length)), (27, hI p1), (28, hI a5.2)] [(97039, v, .arr eStr.k 9 (eStr.E a))])) (fun a27 w28 h => ?_) (fun a11 w12 st13 h => ?_)
  ·exact to_L ⟨v9, rfl⟩
  ·refine zab rfl fun K hK => mv rfl rfl (mv rfl rfl ?_)
   refine bf hK (P1 [(6, .ar 97039 w28 eStr.k 0 ((a27).length)), (27, hI p1), (28, hI a5.2)] [(97039, w28, .arr eStr.k 9 (eStr.E a27))]) ?_
   refine zab rfl fun K hK => bv rfl (qae rfl rfl qa6) (mv rfl rfl ?_)
   refine qah (hK _ ?_)
   refine qfv (qdN 2 [(97039, w28, .arr eStr.k 9 (eStr.E a27))] (P1 [(6, slE eStr a27), (27, hI p1), (28, hI (IntKind.wrap .i64 (a5.2 + 1)))] []) ⟨⟨_, rfl, rfl⟩, ⟨_, rfl, qbw eStr (l := a27) rfl fun _ _ => rfl⟩, ⟨_, rfl, rfl⟩, ⟨_, rfl, rfl⟩, trivial⟩ trivial ⟨rfl, trivial⟩ ⟨rfl, trivial⟩ ?_)
   exact to_L ⟨(a27, IntKind.wrap .i64 (a5.2 + 1)), (), h, rfl⟩
  refine zaa rfl fun K hK => bv rfl (qae rfl rfl qaV) ?_
  let E5 : Nat × HV := (7, .ar 97039 w12 eStr.k 0 ((a11.2).length))
  let O6 : Nat × Nat × AObj := (97039, w12, .arr eStr.k 9 (eStr.E a11.2))
  refine bf hK (P1 [E5, (27, hI p1), (28, hI a5.2), (40, slE eStr a5.1), E4, (42, hI a11.1), (43, .bool (decide (a11.1 < ((a5.1).length : Int))))] [O6]) ?_
  refine zam rfl (fun hc => ?_) (fun hc => ?_)
  ·obtain ⟨hc, h⟩ := cT hc h
   refine zac ?_
   refine zad (zaf ?_)
   refine zaa rfl fun K hK => ?_
   obtain ⟨x15, h16, h⟩ := bS h
   refine bv rfl (qaJ ty22 es22 rfl rfl (qaw h16)) (bv rfl (qab ty9 rfl (qaL eStr h16 (o := 0) rfl rfl)) (mv rfl rfl ?_))
   refine bf hK (P1 [E5, (9, .str x15), (27, hI p1), (28, hI a5.2), (40, slE eStr a5.1), E4, (42, hI a11.1)] [O6]) ?_
   refine zaa rfl fun K hK => mv rfl rfl (mv rfl rfl ?_)
   refine bf hK (P1 [E5, (9, .str x15), (27, hI p1), (28, hI a5.2), (40, slE eStr a5.1), E4, (42, hI a11.1), (46, hI p0), (47, hI 0)] [O6]) ?_
   refine AW.lpX h (by first | exact qaG | exact qbp) (S := Int × (List (List UInt8))) (V := Nat) (fun a v => (P1 [(7, .ar 97039 v eStr.k 0 ((a.2).length)), (9, .str x15), (27, hI p1), (28, hI a5.2), (40, slE eStr a5.1), E4, (42, hI a11.1), (46, hI p0), (47, hI a.1)] [(97039, v, .arr eStr.k 9 (eStr.E a.2))])) ?_ (X := (List (List UInt8))) (W := Nat) (fun a v => (P1 [(7, .ar 97039 v eStr.k 0 ((a).length)), (27, hI p1), (28, hI a5.2), (40, slE eStr a5.1), E4, (42, hI a11.1)] [(97039, v, .arr eStr.k 9 (eStr.E a))])) (fun a25 w26 h => ?_) (fun a17 w18 st19 h => ?_)
   ·exact to_L ⟨w12, rfl⟩
   ·refine zab rfl fun K hK => bv rfl (qae rfl rfl qa6) (mv rfl rfl ?_)
    refine qah (hK _ ?_)
    exact to_L ⟨(IntKind.wrap .i64 (a11.1 + 1), a25), w26, h, rfl⟩
   refine zaa rfl fun K hK => bv rfl (qae rfl rfl qaV) ?_
   refine bf hK (P1 [(7, .ar 97039 w18 eStr.k 0 ((a17.2).length)), (9, .str x15), (27, hI p1), (28, hI a5.2), (40, slE eStr a5.1), E4, (42, hI a11.1), (46, hI p0), (47, hI a17.1), (48, .bool (decide (a17.1 < p0)))] [(97039, w18, .arr eStr.k 9 (eStr.E a17.2))]) ?_
   refine zam rfl (fun hc => ?_) (fun hc => ?_)
   ·obtain ⟨hc, h⟩ := cT hc h
    refine zac ?_
    refine zad (zaf ?_)
    refine zaa rfl fun K hK => mv rfl rfl (mv rfl rfl ?_)
    refine bf hK (P1 [(7, .ar 97039 w18 eStr.k 0 ((a17.2).length)), (9, .str x15), (10, hI a17.1), (27, hI p1), (28, hI a5.2), (40, slE eStr a5.1), E4, (42, hI a11.1), (46, hI p0), (47, hI a17.1)] [(97039, w18, .arr eStr.k 9 (eStr.E a17.2))]) ?_
    refine zab rfl fun K hK => mv rfl rfl (mv rfl rfl (mv rfl rfl (mv rfl rfl (bv rfl (qae rfl rfl qa6) ?_))))
    obtain ⟨h21, h⟩ := ifN h
    refine bv rfl (qhX ty9 rfl rfl rfl h21) ?_
    obtain ⟨h22, h⟩ := ifN h
    refine bv rfl (qae rfl rfl (qf2 h22)) ?_
    refine b_op rfl (qdX rfl rfl (qbV (cs := [.str (x15 ++ ((([48, 49, 50, 51, 52, 53, 54, 55, 56, 57, 97, 98, 99, 100, 101, 102] : List UInt8).take (IntKind.wrap .i64 (a17.1 + 1)).toNat).drop (a17.1).toNat))]) ty22 ty9 rfl rfl rfl rfl rfl) ?_)
    obtain ⟨h24, h⟩ := ifN h
    refine b_op rfl (qdh eStr (l := a17.2) (m := [x15 ++ ((([48, 49, 50, 51, 52, 53, 54, 55, 56, 57, 97, 98, 99, 100, 101, 102] : List UInt8).take (IntKind.wrap .i64 (a17.1 + 1)).toNat).drop (a17.1).toNat)]) rfl rfl ty22 ty22 ty9 rfl rfl rfl rfl rfl h24 (fun v23 => ?_))
    refine mv rfl rfl ?_
    refine bf hK (P1 [(7, .ar 97039 v23 eStr.k 0 ((a17.2 ++ [x15 ++ ((([48, 49, 50, 51, 52, 53, 54, 55, 56, 57, 97, 98, 99, 100, 101, 102] : List UInt8).take (IntKind.wrap .i64 (a17.1 + 1)).toNat).drop (a17.1).toNat)]).length)), (9, .str x15), (27, hI p1), (28, hI a5.2), (40, slE eStr a5.1), E4, (42, hI a11.1), (46, hI p0), (47, hI a17.1)] [(97039, v23, .arr eStr.k 9 (eStr.E (a17.2 ++ [x15 ++ ((([48, 49, 50, 51, 52, 53, 54, 55, 56, 57, 97, 98, 99, 100, 101, 102] : List UInt8).take (IntKind.wrap .i64 (a17.1 + 1)).toNat).drop (a17.1).toNat)])))]) ?_
    refine zab rfl fun K hK => bv rfl (qae rfl rfl qa6) (mv rfl rfl ?_)
    refine qah (hK _ ?_)
    exact to_L ⟨(IntKind.wrap .i64 (a17.1 + 1), a17.2 ++ [x15 ++ ((([48, 49, 50, 51, 52, 53, 54, 55, 56, 57, 97, 98, 99, 100, 101, 102] : List UInt8).take (IntKind.wrap .i64 (a17.1 + 1)).toNat).drop (a17.1).toNat)]), v23, h, rfl⟩
   obtain ⟨hc, h⟩ := cF hc h
   refine AW.exit ?_
   exact to_L ⟨a17.2, w18, h, rfl⟩
  obtain ⟨hc, h⟩ := cF hc h
  refine AW.exit ?_
  exact to_L ⟨a11.2, w12, h, rfl⟩
 obtain ⟨hc, h⟩ := cF hc h
 refine AW.exit ?_
 exact to_L ⟨a5.1, (), h, rfl⟩
theorem qik (p0 : qaa) (p1 : List (List UInt8)) (p2 : List (List UInt8)) : Pure Tryz.prog 98 [gA p0, slE eStr p1, slE eStr p2] (· = HV.fn (.func 147) [] [.fptr [slE eStr p1] 0, gF p0, .fptr [slE eStr p2] 0]) := by
 refine zaj Tryz.func98 rfl rfl (lb rfl) fun hf => ?_
 unfold Tryz.f98
 dsimp only [qaH, Nat.reduceAdd]
 refine zaa rfl fun K hK => b_op rfl (qa5 rfl rfl rfl ?_)
 refine b_op rfl (qa5 rfl rfl rfl ?_)
 refine b_op rfl (qa5 rfl rfl rfl ?_)
 refine mv rfl rfl ?_
 refine bf hK ⟨[(3, gF p0), (4, .fptr [slE eStr p1] 0), (5, .fptr [slE eStr p2] 0)], []⟩ ?_
 refine zaa rfl fun K hK => bv rfl (qgp rfl rfl) (mv rfl rfl ?_)
 refine bf hK ⟨[(6, .fn (.func 147) [] [.fptr [slE eStr p1] 0, gF p0, .fptr [slE eStr p2] 0])], []⟩ ?_
 refine AW.ret ?_
 exact qad (.inr rfl) (resT rfl rfl) rfl ⟨trivial, ⟨⟨(qai fun _ _ => ⟨trivial, trivial⟩), trivial⟩, ⟨trivial, trivial, (qai fun _ _ => ⟨trivial, trivial, trivial, trivial⟩), trivial⟩, ⟨(qai fun _ _ => ⟨trivial, trivial⟩), trivial⟩, trivial⟩⟩
theorem qim {p0 : qaa} {p1 : Int} {p2 : Int} {p3 : Int} {r : qap × Int} (h : qb8 p0 p1 p2 p3 = some r) : Pure Tryz.prog 46 [gA p0, hI p1, hI p2, hI p3] (· = HV.tup [.agg [slE eStr r.1.1, slE eStr r.1.2], hI r.2]) := by
 unfold qb8 at h
 refine zaj Tryz.func46 rfl rfl (lb rfl) fun hf => ?_
 unfold Tryz.f46
 dsimp only [qaH, Nat.reduceAdd]
 refine zaa rfl fun K hK => b_op rfl (qa5 rfl rfl rfl ?_)
 refine b_op rfl (qa5 rfl rfl rfl ?_)
 refine b_op rfl (qba (fid := 46) (zs := [.v (.slice none 0 0), .v (.slice none 0 0)]) 46008 rfl rfl ty24 rfl (fun v1 => ?_))
 refine b_op rfl (qba (fid := 46) (zs := [hI 0]) 46009 rfl rfl ty33 rfl (fun v2 => ?_))
 let O1 : Nat × Nat × AObj := (46008, v1, .arr 2 24 [.v (.slice none 0 0), .v (.slice none 0 0)])
 let O2 : Nat × Nat × AObj := (46009, v2, .arr 1 33 [hI 0])
 let P1 : ASf := fun t H => ⟨(1, hI p1) :: (2, hI p2) :: (4, gF p0) :: (7, .fptr [hI p3] 0) :: (8, .ptr 46008 v1 0) :: (9, .ptr 46009 v2 0) :: t, O1 :: O2 :: H⟩
 refine bf hK (P1 [] []) ?_
 refine zad ?_
 refine zaa rfl fun K hK => bv rfl (qab ty27 rfl (qav rfl (lb rfl) rfl)) ?_
 obtain ⟨x3, h4, h⟩ := bS h
 refine b_op rfl (qaB rfl rfl rfl rfl (zai (qdd h4)) ?_)
 refine bv rfl (qae rfl rfl qcL) ?_
 refine bf hK (P1 [(20, .bool (decide (x3 ≠ 0)))] []) ?_
 refine zae rfl (fun hc => ?_) (fun hc => ?_)
 ·obtain ⟨hc, h⟩ := cT hc h
  refine zaa rfl fun K hK => b_op rfl (qbC (cs := [.v (.slice none 0 0), .v (.slice none 0 0)]) rfl (qea ty24 rfl rfl rfl rfl) ?_)
  refine b_op rfl (qaD (cs := [.v (.slice none 0 0), .v (.slice none 0 0)]) (zs := [.v (.slice none 0 0), .v (.slice none 0 0)]) rfl rfl rfl ty24 rfl rfl rfl rfl rfl ?_)
  refine b_op rfl (qaD (cs := [hI 1]) (zs := [hI 1]) rfl rfl rfl ty33 rfl rfl rfl rfl rfl ?_)
  refine bf hK ⟨[(8, .ptr 46008 v1 0), (9, .ptr 46009 v2 0)], [O1, (46009, v2, .arr 1 33 [hI 1])]⟩ ?_
  refine AW.to (qcE 46008 v1 (ds := [slE eStr ([] : List (List UInt8)), slE eStr ([] : List (List UInt8))]) rfl (.cons (.nil _) <| .cons (.nil _) <| .nil) ?_)
  obtain rfl := oi h
  exact AW.ret (qad (.inr rfl) (resP ty24 rfl rfl (qav rfl (lb rfl) rfl) (resP ty33 rfl rfl (qan rfl rfl) rfl)) rfl ⟨⟨(qai fun _ _ => ⟨trivial, trivial⟩), (qai fun _ _ => ⟨trivial, trivial⟩), trivial⟩, trivial, trivial⟩)
 obtain ⟨hc, h⟩ := cF hc h
 refine zac ?_
 refine zad ?_
 refine zaa rfl fun K hK => bv rfl (qac qez rfl) (bv rfl (qab ty3 rfl (qan rfl rfl)) (bv rfl (qae rfl rfl qcL) ?_))
 refine bf hK (P1 [(24, .bool (decide (p0.1 ≠ 2)))] []) ?_
 refine zae rfl (fun hc => ?_) (fun hc => ?_)
 ·obtain ⟨hc, h⟩ := cT hc h
  refine zaa rfl fun K hK => b_op rfl (qbC (cs := [.v (.slice none 0 0), .v (.slice none 0 0)]) rfl (qea ty24 rfl rfl rfl rfl) ?_)
  refine b_op rfl (qaD (cs := [.v (.slice none 0 0), .v (.slice none 0 0)]) (zs := [.v (.slice none 0 0), .v (.slice none 0 0)]) rfl rfl rfl ty24 rfl rfl rfl rfl rfl ?_)
  refine b_op rfl (qaD (cs := [hI 12]) (zs := [hI 12]) rfl rfl rfl ty33 rfl rfl rfl rfl rfl ?_)
  refine bf hK ⟨[(8, .ptr 46008 v1 0), (9, .ptr 46009 v2 0)], [O1, (46009, v2, .arr 1 33 [hI 12])]⟩ ?_
  refine AW.to (qcE 46008 v1 (ds := [slE eStr ([] : List (List UInt8)), slE eStr ([] : List (List UInt8))]) rfl (.cons (.nil _) <| .cons (.nil _) <| .nil) ?_)
  obtain rfl := oi h
  exact AW.ret (qad (.inr rfl) (resP ty24 rfl rfl (qav rfl (lb rfl) rfl) (resP ty33 rfl rfl (qan rfl rfl) rfl)) rfl ⟨⟨(qai fun _ _ => ⟨trivial, trivial⟩), (qai fun _ _ => ⟨trivial, trivial⟩), trivial⟩, trivial, trivial⟩)
 obtain ⟨hc, h⟩ := cF hc h
 refine zac ?_
 refine zaa rfl fun K hK => bv rfl (qab ty27 rfl (qav rfl (lb rfl) rfl)) ?_
 obtain ⟨x5, h6, h⟩ := bS h
 refine b_op rfl (qaB rfl rfl rfl rfl (zai (qfr h6)) ?_)
 refine mv rfl rfl (bv rfl (qaq rfl rfl) (bv rfl (qaq rfl rfl) (mv rfl rfl (mv rfl rfl ?_))))
 refine bf hK (P1 [(10, .bool x5.1), (11, hI x5.2)] []) ?_
 refine zaa rfl fun K hK => bv rfl (qab ty27 rfl (qav rfl (lb rfl) rfl)) ?_
 obtain ⟨x7, h8, h⟩ := bS h
 refine b_op rfl (qaB rfl rfl rfl rfl (zai (qeY h8)) ?_)
 refine mv rfl rfl (bv rfl (qaq rfl rfl) (bv rfl (qaq rfl rfl) (mv rfl rfl (mv rfl rfl ?_))))
 refine bf hK (P1 [(10, .bool x5.1), (11, hI x5.2), (12, .bool x7.1), (13, hI x7.2)] []) ?_
 refine zad ?_
 refine zag h (S := Bool) (V := Unit) (fun a v => (P1 [(49, .bool a)] [])) (fun a9 w10 h => ?_) (fun k11 h => ?_)
 ·refine zae rfl (fun hc => ?_) (fun hc => ?_)
  ·have h := ifT hc h
   refine zaa rfl fun K hK => b_op rfl (qbC (cs := [.v (.slice none 0 0), .v (.slice none 0 0)]) rfl (qea ty24 rfl rfl rfl rfl) ?_)
   refine b_op rfl (qaD (cs := [.v (.slice none 0 0), .v (.slice none 0 0)]) (zs := [.v (.slice none 0 0), .v (.slice none 0 0)]) rfl rfl rfl ty24 rfl rfl rfl rfl rfl ?_)
   refine b_op rfl (qaD (cs := [hI 8]) (zs := [hI 8]) rfl rfl rfl ty33 rfl rfl rfl rfl rfl ?_)
   refine bf hK ⟨[(8, .ptr 46008 v1 0), (9, .ptr 46009 v2 0)], [O1, (46009, v2, .arr 1 33 [hI 8])]⟩ ?_
   refine AW.to (qcE 46008 v1 (ds := [slE eStr ([] : List (List UInt8)), slE eStr ([] : List (List UInt8))]) rfl (.cons (.nil _) <| .cons (.nil _) <| .nil) ?_)
   obtain rfl := oi h
   exact AW.ret (qad (.inr rfl) (resP ty24 rfl rfl (qav rfl (lb rfl) rfl) (resP ty33 rfl rfl (qan rfl rfl) rfl)) rfl ⟨⟨(qai fun _ _ => ⟨trivial, trivial⟩), (qai fun _ _ => ⟨trivial, trivial⟩), trivial⟩, trivial, trivial⟩)
  have h := ifF (bF' hc) h
  refine zac ?_
  refine zad ?_
  refine zag h (S := Bool) (V := Unit) (fun a v => (P1 [(72, .bool a)] [])) (fun a12 w13 h => ?_) (fun k14 h => ?_)
  ·refine zae rfl (fun hc => ?_) (fun hc => ?_)
   ·have h := ifT hc h
    refine zaa rfl fun K hK => b_op rfl (qbC (cs := [.v (.slice none 0 0), .v (.slice none 0 0)]) rfl (qea ty24 rfl rfl rfl rfl) ?_)
    refine b_op rfl (qaD (cs := [.v (.slice none 0 0), .v (.slice none 0 0)]) (zs := [.v (.slice none 0 0), .v (.slice none 0 0)]) rfl rfl rfl ty24 rfl rfl rfl rfl rfl ?_)
    refine b_op rfl (qaD (cs := [hI 2]) (zs := [hI 2]) rfl rfl rfl ty33 rfl rfl rfl rfl rfl ?_)
    refine bf hK ⟨[(8, .ptr 46008 v1 0), (9, .ptr 46009 v2 0)], [O1, (46009, v2, .arr 1 33 [hI 2])]⟩ ?_
    refine AW.to (qcE 46008 v1 (ds := [slE eStr ([] : List (List UInt8)), slE eStr ([] : List (List UInt8))]) rfl (.cons (.nil _) <| .cons (.nil _) <| .nil) ?_)
    obtain rfl := oi h
    exact AW.ret (qad (.inr rfl) (resP ty24 rfl rfl (qav rfl (lb rfl) rfl) (resP ty33 rfl rfl (qan rfl rfl) rfl)) rfl ⟨⟨(qai fun _ _ => ⟨trivial, trivial⟩), (qai fun _ _ => ⟨trivial, trivial⟩), trivial⟩, trivial, trivial⟩)
   have h := ifF (bF' hc) h
   refine zac ?_
   refine zaa rfl fun K hK => bv rfl (qab ty27 rfl (qav rfl (lb rfl) rfl)) (mv rfl rfl ?_)
   obtain ⟨x15, h16, h⟩ := bS h
   refine b_op rfl (qaB rfl rfl rfl rfl (zai (qhJ h16)) ?_)
   refine mv rfl rfl (bv rfl (qaq rfl rfl) (bv rfl (qaq rfl rfl) (mv rfl rfl (mv rfl rfl ?_))))
   let P2 : ASf := fun t H => ⟨(2, hI p2) :: (4, gF p0) :: (7, .fptr [hI p3] 0) :: (8, .ptr 46008 v1 0) :: (9, .ptr 46009 v2 0) :: (11, hI x15.2) :: (14, slE eStr x15.1) :: t, O1 :: O2 :: H⟩
   refine bf hK (P2 [] []) ?_
   refine zad ?_
   refine zaa rfl fun K hK => mv rfl rfl (bv rfl (qae rfl rfl qcL) ?_)
   refine bf hK (P2 [(81, .bool (decide (x15.2 ≠ 0)))] []) ?_
   refine zae rfl (fun hc => ?_) (fun hc => ?_)
   ·obtain ⟨hc, h⟩ := cT hc h
    refine zaa rfl fun K hK => b_op rfl (qbC (cs := [.v (.slice none 0 0), .v (.slice none 0 0)]) rfl (qea ty24 rfl rfl rfl rfl) ?_)
    refine mv rfl rfl ?_
    refine b_op rfl (qaD (cs := [.v (.slice none 0 0), .v (.slice none 0 0)]) (zs := [.v (.slice none 0 0), .v (.slice none 0 0)]) rfl rfl rfl ty24 rfl rfl rfl rfl rfl ?_)
    refine b_op rfl (qaD (cs := [hI x15.2]) (zs := [hI x15.2]) rfl rfl rfl ty33 rfl rfl rfl rfl rfl ?_)
    refine bf hK ⟨[(8, .ptr 46008 v1 0), (9, .ptr 46009 v2 0)], [O1, (46009, v2, .arr 1 33 [hI x15.2])]⟩ ?_
    refine AW.to (qcE 46008 v1 (ds := [slE eStr ([] : List (List UInt8)), slE eStr ([] : List (List UInt8))]) rfl (.cons (.nil _) <| .cons (.nil _) <| .nil) ?_)
    obtain rfl := oi h
    exact AW.ret (qad (.inr rfl) (resP ty24 rfl rfl (qav rfl (lb rfl) rfl) (resP ty33 rfl rfl (qan rfl rfl) rfl)) rfl ⟨⟨(qai fun _ _ => ⟨trivial, trivial⟩), (qai fun _ _ => ⟨trivial, trivial⟩), trivial⟩, trivial, trivial⟩)
   obtain ⟨hc, h⟩ := cF hc h
   refine zac ?_
   refine zaa rfl fun K hK => mv rfl rfl ?_
   obtain ⟨x17, h18, h⟩ := bS h
   refine b_op rfl (qaB rfl rfl rfl rfl (zai (qnz h18)) ?_)
   refine mv rfl rfl (bv rfl (qaq rfl rfl) (bv rfl (qaq rfl rfl) (mv rfl rfl (mv rfl rfl ?_))))
   let P3 : ASf := fun t H => ⟨(4, gF p0) :: (7, .fptr [hI p3] 0) :: (8, .ptr 46008 v1 0) :: (9, .ptr 46009 v2 0) :: t, O1 :: O2 :: H⟩
   refine bf hK (P3 [(11, hI x17.2), (14, slE eStr x15.1), (15, slE eStr x17.1)] []) ?_
   refine zad ?_
   refine zaa rfl fun K hK => mv rfl rfl (bv rfl (qae rfl rfl qcL) ?_)
   refine bf hK (P3 [(11, hI x17.2), (14, slE eStr x15.1), (15, slE eStr x17.1), (90, .bool (decide (x17.2 ≠ 0)))] []) ?_
   refine zae rfl (fun hc => ?_) (fun hc => ?_)
   ·obtain ⟨hc, h⟩ := cT hc h
    refine zaa rfl fun K hK => b_op rfl (qbC (cs := [.v (.slice none 0 0), .v (.slice none 0 0)]) rfl (qea ty24 rfl rfl rfl rfl) ?_)
    refine mv rfl rfl ?_
    refine b_op rfl (qaD (cs := [.v (.slice none 0 0), .v (.slice none 0 0)]) (zs := [.v (.slice none 0 0), .v (.slice none 0 0)]) rfl rfl rfl ty24 rfl rfl rfl rfl rfl ?_)
    refine b_op rfl (qaD (cs := [hI x17.2]) (zs := [hI x17.2]) rfl rfl rfl ty33 rfl rfl rfl rfl rfl ?_)
    refine bf hK ⟨[(8, .ptr 46008 v1 0), (9, .ptr 46009 v2 0)], [O1, (46009, v2, .arr 1 33 [hI x17.2])]⟩ ?_
    refine AW.to (qcE 46008 v1 (ds := [slE eStr ([] : List (List UInt8)), slE eStr ([] : List (List UInt8))]) rfl (.cons (.nil _) <| .cons (.nil _) <| .nil) ?_)
    obtain rfl := oi h
    exact AW.ret (qad (.inr rfl) (resP ty24 rfl rfl (qav rfl (lb rfl) rfl) (resP ty33 rfl rfl (qan rfl rfl) rfl)) rfl ⟨⟨(qai fun _ _ => ⟨trivial, trivial⟩), (qai fun _ _ => ⟨trivial, trivial⟩), trivial⟩, trivial, trivial⟩)
   obtain ⟨hc, h⟩ := cF hc h
   refine zac ?_
   refine zaa rfl fun K hK => mv rfl rfl ?_
   refine b_op rfl (qbC (cs := [.v (.slice none 0 0), slE eStr x17.1]) rfl (qea ty24 rfl rfl rfl rfl) ?_)
   refine b_op rfl (qba (fid := 46) (zs := [.v (.slice none 0 0), .v (.slice none 0 0)]) 46016 rfl rfl ty24 rfl (fun v19 => ?_))
   refine b_op rfl (qaD (cs := [.v (.slice none 0 0), slE eStr x17.1]) (zs := [.v (.slice none 0 0), slE eStr x17.1]) rfl rfl rfl ty24 rfl rfl rfl rfl rfl ?_)
   let O3 : Nat × Nat × AObj := (46016, v19, .arr 2 24 [.v (.slice none 0 0), slE eStr x17.1])
   refine bf hK (P3 [(14, slE eStr x15.1), (15, slE eStr x17.1), (16, .ptr 46016 v19 0)] [O3]) ?_
   refine zad ?_
   refine zaa rfl fun K hK => bv rfl (qab ty27 rfl (qav rfl (lb rfl) rfl)) (mv rfl rfl (mv rfl rfl ?_))
   refine b_op rfl (qaB rfl rfl rfl rfl (zai (qik p0 x15.1 x17.1)) ?_)
   let E4 : Nat × HV := (98, .fn (.func 147) [] [.fptr [slE eStr x15.1] 0, gF p0, .fptr [slE eStr x17.1] 0])
   let P4 : ASf := fun t H => ⟨(7, .fptr [hI p3] 0) :: (8, .ptr 46008 v1 0) :: (9, .ptr 46009 v2 0) :: (16, .ptr 46016 v19 0) :: t, H⟩
   refine bf hK (P4 [E4] [O1, O2, O3]) ?_
   refine zaf ?_
   refine AW.to (qg5 46104 46016 v19 2 0 eStr.k 9 24 rfl rfl (by decide) fun v20 => ?_)
   refine AW.to (qa9 (s' := (P4 [E4] [O1, O2, (46016, v19, .arr 2 24 [.ar 46104 v20 eStr.k 0 ((([] : List (List UInt8))).length), slE eStr x17.1]), (46104, v20, .arr eStr.k 9 (eStr.E ([] : List (List UInt8))))])) (zak ⟨rfl, rfl, rfl, rfl, rfl, trivial⟩ ⟨rfl, rfl, hle rfl (by first | rfl | simp only [List.length_set, qcP, qbN]), rfl, trivial⟩) ?_)
   obtain ⟨L21, h22, h⟩ := bS h
   refine AW.rangeY (c := .ret) 46900 (fun x => [.str x]) h (by first | exact qaG | exact qbp) rfl (qhS h22) (S := (List (List UInt8))) (V := Nat) (fun a v => [(46008, v1, .arr 2 24 [.v (.slice none 0 0), .v (.slice none 0 0)]), (46009, v2, .arr 1 33 [hI 0]), (46016, v19, .arr 2 24 [.ar 46104 v eStr.k 0 ((a).length), slE eStr x17.1]), (46104, v, .arr eStr.k 9 (eStr.E a))]) v20 (X := (List (List UInt8))) (W := Nat) (fun a v => [(46008, v1, .arr 2 24 [.ar 46104 v eStr.k 0 ((a).length), slE eStr x17.1]), (46009, v2, .arr 1 33 [hI 0]), (46104, v, .arr eStr.k 9 (eStr.E a))]) (fun _ _ => rfl) (fun _ _ => rfl) rfl (fun _ => rfl) (fun a31 w32 h => ?_) (fun a33 w34 h => ?_) (fun Lo l28 v26 a23 x25 w24 st27 h => ?_)
   ·refine zaa rfl fun K hK => b_op rfl (qbC (cs := [.v (.slice none 0 0), .v (.slice none 0 0)]) rfl (qea ty24 rfl rfl rfl rfl) ?_)
    refine b_op rfl (qaD (cs := [.v (.slice none 0 0), .v (.slice none 0 0)]) (zs := [.v (.slice none 0 0), .v (.slice none 0 0)]) rfl rfl rfl ty24 rfl rfl rfl rfl rfl ?_)
    refine b_op rfl (qaD (cs := [hI 15]) (zs := [hI 15]) rfl rfl rfl ty33 rfl rfl rfl rfl rfl ?_)
    refine bf hK ⟨[(8, .ptr 46008 v1 0), (9, .ptr 46009 v2 0)], [O1, (46009, v2, .arr 1 33 [hI 15])]⟩ ?_
    refine AW.to (qcE 46008 v1 (ds := [slE eStr ([] : List (List UInt8)), slE eStr ([] : List (List UInt8))]) rfl (.cons (.nil _) <| .cons (.nil _) <| .nil) ?_)
    obtain rfl := oi h
    exact AW.ret (qad (.inr rfl) (resP ty24 rfl rfl (qav rfl (lb rfl) rfl) (resP ty33 rfl rfl (qan rfl rfl) rfl)) rfl ⟨⟨(qai fun _ _ => ⟨trivial, trivial⟩), (qai fun _ _ => ⟨trivial, trivial⟩), trivial⟩, trivial, trivial⟩)
   ·refine AW.to (qlT 2 [(46104, w34, .arr eStr.k 9 (eStr.E a33))] ⟨[(8, .ptr 46008 v1 0), (9, .ptr 46009 v2 0)], [(46008, v1, .arr 2 24 [slE eStr a33, slE eStr x17.1]), O2]⟩ ⟨⟨_, rfl, rfl⟩, ⟨_, rfl, rfl⟩, trivial⟩ ⟨.inr ⟨_, _, _, rfl, congrArg (AObj.arr 2 24) (congrArg (fun z : HV => [z, slE eStr x17.1]) (qbw eStr (D := [(46104, w34, .arr eStr.k 9 (eStr.E a33))]) (l := a33) rfl fun _ _ => rfl).symm)⟩, .inl rfl, trivial⟩ ⟨rfl, trivial⟩ ⟨rfl, trivial⟩ ?_)
    obtain rfl := oi h
    exact AW.ret (qad (.inr rfl) (resP ty24 rfl rfl (qav rfl (lb rfl) rfl) (resP ty33 rfl rfl (qan rfl rfl) rfl)) rfl ⟨⟨(qai fun _ _ => ⟨trivial, trivial⟩), (qai fun _ _ => ⟨trivial, trivial⟩), trivial⟩, trivial, trivial⟩)
   refine zab rfl fun K hK => mv rfl rfl ?_
   refine qah (hK _ ?_)
   refine ⟨rfl, rfl, ?_⟩
   refine zaf ?_
   refine zaa rfl fun K hK => bv rfl (qao qdS rfl rfl) (bv rfl (qar ty22 rfl rfl (qan rfl rfl)) (mv rfl rfl ?_))
   refine b_op rfl (qdX rfl rfl (qbV (cs := [.str x25]) ty22 ty9 rfl rfl rfl rfl rfl) ?_)
   obtain ⟨h30, h⟩ := ifN h
   refine b_op rfl (qdh eStr (l := a23) (m := [x25]) rfl rfl ty22 ty22 ty9 rfl rfl rfl rfl rfl h30 (fun v29 => ?_))
   refine bv rfl (qao qdS rfl rfl) ?_
   refine b_op rfl (qaD (cs := [.ar 46104 v29 eStr.k 0 ((a23 ++ [x25]).length)]) (zs := [.ar 46104 v29 eStr.k 0 ((a23 ++ [x25]).length), slE eStr x17.1]) rfl rfl rfl ty22 rfl rfl rfl rfl rfl ?_)
   let O5 : Nat × Nat × AObj := (46016, v19, .arr 2 24 [.ar 46104 v29 eStr.k 0 ((a23 ++ [x25]).length), slE eStr x17.1])
   let O6 : Nat × Nat × AObj := (46104, v29, .arr eStr.k 9 (eStr.E (a23 ++ [x25])))
   refine bf hK (P4 [(99, .str x25)] [(46900, v26, Lo .busy none), O1, O2, O5, O6]) ?_
   refine zaa rfl fun K hK => bv rfl (qao qdS rfl rfl) (bv rfl (qar ty22 rfl rfl (qan rfl rfl)) (bv rfl (qhv rfl rfl ty22 rfl rfl) (bv rfl (qab ty3 rfl (qan rfl rfl)) (bv rfl (qae rfl rfl qd1) ?_))))
   refine bf hK (P4 [(99, .str x25), (110, .bool (decide ((((a23 ++ [x25]).length : Nat) : Int) = p3)))] [(46900, v26, Lo .busy none), O1, O2, O5, O6]) ?_
   refine zae rfl (fun hc => ?_) (fun hc => ?_)
   ·obtain ⟨hc, h⟩ := cT hc h
    refine zaa rfl fun K hK => bv rfl (qar ty24 rfl rfl (qav rfl (lb rfl) rfl)) ?_
    refine b_op rfl (qaD (cs := [.ar 46104 v29 eStr.k 0 ((a23 ++ [x25]).length), slE eStr x17.1]) (zs := [.ar 46104 v29 eStr.k 0 ((a23 ++ [x25]).length), slE eStr x17.1]) rfl rfl rfl ty24 rfl rfl rfl rfl rfl ?_)
    refine b_op rfl (qaD (cs := [hI 0]) (zs := [hI 0]) rfl rfl rfl ty33 rfl rfl rfl rfl rfl ?_)
    refine bf hK ⟨[(8, .ptr 46008 v1 0), (9, .ptr 46009 v2 0)], [(46900, v26, Lo .busy none), (46008, v1, .arr 2 24 [.ar 46104 v29 eStr.k 0 ((a23 ++ [x25]).length), slE eStr x17.1]), O2, O6]⟩ ?_
    refine AW.ret ?_
    exact ⟨rfl, a23 ++ [x25], v29, h, (zak trivial ⟨rfl, rfl, rfl, rfl, trivial⟩)⟩
   obtain ⟨hc, h⟩ := cF hc h
   refine zac ?_
   exact ⟨a23 ++ [x25], v29, h, (zak trivial ⟨rfl, rfl, rfl, rfl, rfl, trivial⟩)⟩
  refine zab rfl fun K hK => mv rfl rfl (bv rfl (qae rfl rfl qaV) (mv rfl rfl ?_))
  by_cases hg39 : p1 < 1
  ·have h := ifT hg39 h
   refine b_F rfl rfl rfl rfl rfl (decide_eq_true hg39) ?_
   refine b_F rfl rfl rfl rfl rfl rfl ?_
   refine bv rfl (qaj rfl rfl rfl) (mv rfl rfl ?_)
   iterate 2 refine b_F rfl rfl rfl rfl rfl rfl ?_
   refine bv rfl (qaj rfl rfl rfl) (mv rfl rfl ?_)
   iterate 2 refine b_F rfl rfl rfl rfl rfl rfl ?_
   refine bv rfl (qaj rfl rfl rfl) (mv rfl rfl ?_)
   iterate 2 refine b_F rfl rfl rfl rfl rfl rfl ?_
   refine bv rfl (qaj rfl rfl rfl) (mv rfl rfl ?_)
   iterate 2 refine b_F rfl rfl rfl rfl rfl rfl ?_
   refine bv rfl (qaj rfl rfl rfl) ?_
   refine qah (hK _ ?_)
   exact to_L ⟨true, (), h, rfl⟩
  have h := ifF hg39 h
  refine b_T rfl rfl rfl rfl (decide_eq_false hg39) (qaf rfl (qas rfl rfl).2 ?_)
  refine b_T rfl rfl rfl rfl rfl (qaf rfl (qae rfl rfl qbh) ?_)
  refine bv rfl (qak rfl rfl rfl) (mv rfl rfl ?_)
  by_cases hg38 : 16 < p1
  ·have h := ifT hg38 h
   refine b_F rfl rfl rfl rfl rfl (decide_eq_true hg38) ?_
   refine b_F rfl rfl rfl rfl rfl rfl ?_
   refine bv rfl (qaj rfl rfl rfl) (mv rfl rfl ?_)
   iterate 2 refine b_F rfl rfl rfl rfl rfl rfl ?_
   refine bv rfl (qaj rfl rfl rfl) (mv rfl rfl ?_)
   iterate 2 refine b_F rfl rfl rfl rfl rfl rfl ?_
   refine bv rfl (qaj rfl rfl rfl) (mv rfl rfl ?_)
   iterate 2 refine b_F rfl rfl rfl rfl rfl rfl ?_
   refine bv rfl (qaj rfl rfl rfl) ?_
   refine qah (hK _ ?_)
   exact to_L ⟨true, (), h, rfl⟩
  have h := ifF hg38 h
  refine b_T rfl rfl rfl rfl (decide_eq_false hg38) (qaf rfl (qas rfl rfl).2 ?_)
  refine b_T rfl rfl rfl rfl rfl (qaf rfl (qae rfl rfl qaV) ?_)
  refine bv rfl (qak rfl rfl rfl) (mv rfl rfl ?_)
  by_cases hg37 : p2 < 0
  ·have h := ifT hg37 h
   refine b_F rfl rfl rfl rfl rfl (decide_eq_true hg37) ?_
   refine b_F rfl rfl rfl rfl rfl rfl ?_
   refine bv rfl (qaj rfl rfl rfl) (mv rfl rfl ?_)
   iterate 2 refine b_F rfl rfl rfl rfl rfl rfl ?_
   refine bv rfl (qaj rfl rfl rfl) (mv rfl rfl ?_)
   iterate 2 refine b_F rfl rfl rfl rfl rfl rfl ?_
   refine bv rfl (qaj rfl rfl rfl) ?_
   refine qah (hK _ ?_)
   exact to_L ⟨true, (), h, rfl⟩
  have h := ifF hg37 h
  refine b_T rfl rfl rfl rfl (decide_eq_false hg37) (qaf rfl (qas rfl rfl).2 ?_)
  refine b_T rfl rfl rfl rfl rfl (qaf rfl (qae rfl rfl qbh) ?_)
  refine bv rfl (qak rfl rfl rfl) (mv rfl rfl ?_)
  by_cases hg36 : 8 < p2
  ·have h := ifT hg36 h
   refine b_F rfl rfl rfl rfl rfl (decide_eq_true hg36) ?_
   refine b_F rfl rfl rfl rfl rfl rfl ?_
   refine bv rfl (qaj rfl rfl rfl) (mv rfl rfl ?_)
   iterate 2 refine b_F rfl rfl rfl rfl rfl rfl ?_
   refine bv rfl (qaj rfl rfl rfl) ?_
   refine qah (hK _ ?_)
   exact to_L ⟨true, (), h, rfl⟩
  have h := ifF hg36 h
  refine b_T rfl rfl rfl rfl (decide_eq_false hg36) (qaf rfl (qab ty3 rfl (qan rfl rfl)) ?_)
  refine b_T rfl rfl rfl rfl rfl (qaf rfl (qae rfl rfl qaV) ?_)
  refine bv rfl (qak rfl rfl rfl) (mv rfl rfl ?_)
  by_cases hg35 : p3 < 1
  ·have h := ifT hg35 h
   refine b_F rfl rfl rfl rfl rfl (decide_eq_true hg35) ?_
   refine b_F rfl rfl rfl rfl rfl rfl ?_
   refine bv rfl (qaj rfl rfl rfl) ?_
   refine qah (hK _ ?_)
   exact to_L ⟨true, (), h, rfl⟩
  have h := ifF hg35 h
  refine b_T rfl rfl rfl rfl (decide_eq_false hg35) (qaf rfl (qab ty3 rfl (qan rfl rfl)) ?_)
  refine b_T rfl rfl rfl rfl rfl (qaf rfl (qae rfl rfl qbh) ?_)
  refine bv rfl (qak rfl rfl rfl) ?_
  refine qah (hK _ ?_)
  exact to_L ⟨decide (256 < p3), (), h, rfl⟩
 refine zab rfl fun K hK => mv rfl rfl (bv rfl (qae rfl rfl qcL) (mv rfl rfl ?_))
 by_cases hg42 : x5.2 ≠ 0
 ·have h := ifT hg42 h
  refine b_F rfl rfl rfl rfl rfl (decide_eq_true hg42) ?_
  refine b_F rfl rfl rfl rfl rfl rfl ?_
  refine bv rfl (qaj rfl rfl rfl) (mv rfl rfl ?_)
  iterate 2 refine b_F rfl rfl rfl rfl rfl rfl ?_
  refine bv rfl (qaj rfl rfl rfl) (mv rfl rfl ?_)
  iterate 2 refine b_F rfl rfl rfl rfl rfl rfl ?_
  refine bv rfl (qaj rfl rfl rfl) ?_
  refine qah (hK _ ?_)
  exact to_L ⟨true, (), h, rfl⟩
 have h := ifF hg42 h
 refine b_T rfl rfl rfl rfl (decide_eq_false hg42) (qaf rfl (qas rfl rfl).2 ?_)
 refine b_T rfl rfl rfl rfl rfl (qaf rfl (qae rfl rfl qcL) ?_)
 refine bv rfl (qak rfl rfl rfl) (mv rfl rfl ?_)
 by_cases hg41 : x7.2 ≠ 0
 ·have h := ifT hg41 h
  refine b_F rfl rfl rfl rfl rfl (decide_eq_true hg41) ?_
  refine b_F rfl rfl rfl rfl rfl rfl ?_
  refine bv rfl (qaj rfl rfl rfl) (mv rfl rfl ?_)
  iterate 2 refine b_F rfl rfl rfl rfl rfl rfl ?_
  refine bv rfl (qaj rfl rfl rfl) ?_
  refine qah (hK _ ?_)
  exact to_L ⟨true, (), h, rfl⟩
 have h := ifF hg41 h
 refine b_T rfl rfl rfl rfl (decide_eq_false hg41) (qaf rfl (qas rfl rfl).2 ?_)
 refine b_T rfl rfl rfl rfl rfl (qaf rfl (qfu rfl) ?_)
 refine bv rfl (qak rfl rfl rfl) (mv rfl rfl ?_)
 by_cases hg40 : (!x5.1) = true
 ·have h := ifT hg40 h
  refine b_F rfl rfl rfl rfl rfl hg40 ?_
  refine b_F rfl rfl rfl rfl rfl rfl ?_
  refine bv rfl (qaj rfl rfl rfl) ?_
  refine qah (hK _ ?_)
  exact to_L ⟨true, (), h, rfl⟩
 have h := ifF hg40 h
 refine b_T rfl rfl rfl rfl (bF hg40) (qaf rfl (qas rfl rfl).2 ?_)
 refine b_T rfl rfl rfl rfl rfl (qaf rfl (qfu rfl) ?_)
 refine bv rfl (qak rfl rfl rfl) ?_
 refine qah (hK _ ?_)
 exact to_L ⟨!x7.1, (), h, rfl⟩
theorem qij {p0 : qam} {p1 : qam} {r : Int} (h : qcx p0 p1 = some r) : Pure Tryz.prog 137 [.agg [hI p0.1, hI p0.2.1, hI p0.2.2], .agg [hI p1.1, hI p1.2.1, hI p1.2.2]] (· = hI r) := by
 unfold qcx at h
 refine zaj Tryz.func137 rfl rfl (lb rfl) fun hf => ?_
 unfold Tryz.f137
 dsimp only [qaH, Nat.reduceAdd]
 refine zaa rfl fun K hK => b_op rfl (qa5 rfl rfl rfl ?_)
 refine b_op rfl (qa5 rfl rfl rfl ?_)
 refine mv rfl rfl ?_
 refine bf hK ⟨[(2, .fptr [hI p0.1, hI p0.2.1, hI p0.2.2] 0), (3, .fptr [hI p1.1, hI p1.2.1, hI p1.2.2] 0)], []⟩ ?_
 refine AW.dgs 16 follows rfl rfl fun K hK => ?_
 refine sv rfl (qac qcC rfl) ?_
 refine sv rfl (qab ty3 rfl (qan rfl rfl)) ?_
 refine sv rfl (qac qdC rfl) ?_
 refine sv rfl (qab ty3 rfl (qan rfl rfl)) ?_
 refine sv rfl (qac qdZ rfl) ?_
 refine sv rfl (qab ty3 rfl (qan rfl rfl)) ?_
 refine s_op rfl rfl (qg9 rfl rfl (qbV (cs := [hI p0.1, hI p0.2.1, hI p0.2.2]) ty31 ty3 rfl rfl rfl rfl rfl) ?_)
 refine sv rfl (qac qcC rfl) ?_
 refine sv rfl (qab ty3 rfl (qan rfl rfl)) ?_
 refine sv rfl (qac qdC rfl) ?_
 refine sv rfl (qab ty3 rfl (qan rfl rfl)) ?_
 refine sv rfl (qac qdZ rfl) ?_
 refine sv rfl (qab ty3 rfl (qan rfl rfl)) ?_
 refine s_op rfl rfl (qg9 rfl rfl (qbV (cs := [hI p1.1, hI p1.2.1, hI p1.2.2]) ty31 ty3 rfl rfl rfl rfl rfl) ?_)
 iterate 2 refine sm rfl rfl ?_
 refine qbU ?_
 let E7 : Nat × HV := (5, slE eInt [p0.1, p0.2.1, p0.2.2])
 let E8 : Nat × HV := (6, slE eInt [p1.1, p1.2.1, p1.2.2])
 refine bf hK ⟨[E7, E8], []⟩ ?_
 refine zad ?_
 refine zaa rfl fun K hK => mv rfl rfl ?_
 refine bf hK ⟨[E7, E8, (7, hI 0)], []⟩ ?_
 refine AW.lpR h (by first | exact qaG | exact qbp) (S := Int) (V := Unit) (fun a v => ⟨[E7, E8, (7, hI a)], []⟩) ?_ (X := Unit) (W := Unit) (fun a v => ⟨[], []⟩) (fun a13 w14 h => ?_) (fun a1 w2 st3 h hr4=> ?_)
 ·exact to_L ⟨(), rfl⟩
 ·refine zaa rfl fun K hK => mv rfl rfl ?_
  refine bf hK ⟨[(4, hI 0)], []⟩ ?_
  obtain rfl := oi h
  exact AW.ret (qad (.inr rfl) (resT rfl rfl) rfl trivial)
 refine zad ?_
 refine zaa rfl fun K hK => mv rfl rfl (bv rfl (qae rfl rfl qaV) ?_)
 refine bf hK ⟨[E7, E8, (7, hI a1), (23, .bool (decide (a1 < 3)))], []⟩ ?_
 refine zae rfl (fun hc => ?_) (fun hc => ?_)
 ·obtain ⟨hc, h⟩ := cT hc h
  refine zac ?_
  refine zad (zaf ?_)
  refine zad ?_
  refine AW.dgs 9 follows rfl rfl fun K hK => ?_
  iterate 2 refine sm rfl rfl ?_
  obtain ⟨x5, h6, h⟩ := bS h
  refine sv rfl (qaJ ty31 es31 rfl rfl (qaw h6)) ?_
  refine sv rfl (qab ty3 rfl (qaL eInt h6 (o := 0) rfl rfl)) ?_
  iterate 2 refine sm rfl rfl ?_
  obtain ⟨x7, h8, h⟩ := bS h
  refine sv rfl (qaJ ty31 es31 rfl rfl (qaw h8)) ?_
  refine sv rfl (qab ty3 rfl (qaL eInt h8 (o := 0) rfl rfl)) ?_
  refine sv rfl (qae rfl rfl qaV) ?_
  refine qbU ?_
  refine bf hK ⟨[E7, E8, (7, hI a1), (34, .bool (decide (x5 < x7)))], []⟩ ?_
  refine zae rfl (fun hc => ?_) (fun hc => ?_)
  ·obtain ⟨hc, h⟩ := cT hc h
   refine zaa rfl fun K hK => mv rfl rfl ?_
   refine bf hK ⟨[(4, hI (-1))], []⟩ ?_
   have h := hr4 _ h
   obtain rfl := oi h
   exact AW.ret (qad (.inr rfl) (resT rfl rfl) rfl trivial)
  obtain ⟨hc, h⟩ := cF hc h
  refine zac ?_
  refine AW.dgs 9 follows rfl rfl fun K hK => ?_
  iterate 2 refine sm rfl rfl ?_
  obtain ⟨x9, h10, h⟩ := bS h
  refine sv rfl (qaJ ty31 es31 rfl rfl (qaw h10)) ?_
  refine sv rfl (qab ty3 rfl (qaL eInt h10 (o := 0) rfl rfl)) ?_
  iterate 2 refine sm rfl rfl ?_
  obtain ⟨x11, h12, h⟩ := bS h
  refine sv rfl (qaJ ty31 es31 rfl rfl (qaw h12)) ?_
  refine sv rfl (qab ty3 rfl (qaL eInt h12 (o := 0) rfl rfl)) ?_
  refine sv rfl (qae rfl rfl qbh) ?_
  refine qbU ?_
  refine bf hK ⟨[E7, E8, (7, hI a1), (43, .bool (decide (x11 < x9)))], []⟩ ?_
  refine zae rfl (fun hc => ?_) (fun hc => ?_)
  ·obtain ⟨hc, h⟩ := cT hc h
   refine zaa rfl fun K hK => mv rfl rfl ?_
   refine bf hK ⟨[(4, hI 1)], []⟩ ?_
   have h := hr4 _ h
   obtain rfl := oi h
   exact AW.ret (qad (.inr rfl) (resT rfl rfl) rfl trivial)
  obtain ⟨hc, h⟩ := cF hc h
  refine zac ?_
  refine zab rfl fun K hK => mv rfl rfl (bv rfl (qae rfl rfl qa6) (mv rfl rfl ?_))
  refine qah (hK _ ?_)
  exact to_L ⟨IntKind.wrap .i64 (a1 + 1), (), h, rfl⟩
 obtain ⟨hc, h⟩ := cF hc h
 refine AW.exit ?_
 exact to_L ⟨(), (), h, rfl⟩
theorem qd4 {p0 : qaa} {r : Int} (h : qaS p0 = some r) : Pure Tryz.prog 87 [gA p0] (· = hI r) := by
 unfold qaS at h
 refine zaj Tryz.func87 rfl rfl (lb rfl) fun hf => ?_
 unfold Tryz.f87
 dsimp only [qaH, Nat.reduceAdd]
 refine zaa rfl fun K hK => b_op rfl (qa5 rfl rfl rfl ?_)
 refine mv rfl rfl ?_
 let P1 : ASf := fun t H => ⟨(1, gF p0) :: t, H⟩
 refine bf hK (P1 [] []) ?_
 refine zad ?_
 refine zag h (S := Bool) (V := Unit) (fun a v => (P1 [(12, .bool a)] [])) (fun a1 w2 h => ?_) (fun k3 h => ?_)
 ·refine zae rfl (fun hc => ?_) (fun hc => ?_)
  ·have h := ifT hc h
   refine zaa rfl fun K hK => mv rfl rfl ?_
   refine bf hK ⟨[(2, hI 12)], []⟩ ?_
   obtain rfl := oi h
   exact AW.ret (qad (.inr rfl) (resT rfl rfl) rfl trivial)
  have h := ifF (bF' hc) h
  refine zac ?_
  refine zad ?_
  refine zaa rfl fun K hK => bv rfl (qac qcp rfl) (bv rfl (qab ty3 rfl (qan rfl rfl)) (bv rfl (qae rfl rfl qaV) ?_))
  refine bf hK (P1 [(15, .bool (decide (p0.2.1 < 0)))] []) ?_
  refine zae rfl (fun hc => ?_) (fun hc => ?_)
  ·obtain ⟨hc, h⟩ := cT hc h
   refine zaa rfl fun K hK => mv rfl rfl ?_
   refine bf hK ⟨[(2, hI 2)], []⟩ ?_
   obtain rfl := oi h
   exact AW.ret (qad (.inr rfl) (resT rfl rfl) rfl trivial)
  obtain ⟨hc, h⟩ := cF hc h
  refine zac ?_
  refine zad ?_
  refine zag h (S := Bool) (V := Unit) (fun a v => (P1 [(24, .bool a)] [])) (fun a4 w5 h => ?_) (fun k6 h => ?_)
  ·refine zae rfl (fun hc => ?_) (fun hc => ?_)
   ·have h := ifT hc h
    refine zaa rfl fun K hK => mv rfl rfl ?_
    refine bf hK ⟨[(2, hI 4)], []⟩ ?_
    obtain rfl := oi h
    exact AW.ret (qad (.inr rfl) (resT rfl rfl) rfl trivial)
   have h := ifF (bF' hc) h
   refine zac ?_
   refine zad ?_
   refine zaa rfl fun K hK => mv rfl rfl ?_
   refine bf hK (P1 [(3, hI 0)] []) ?_
   refine AW.lpR h (by first | exact qaG | exact qbp) (S := Int) (V := Unit) (fun a v => (P1 [(3, hI a)] [])) ?_ (X := Unit) (W := Unit) (fun a v => ⟨[], []⟩) (fun a30 w31 h => ?_) (fun a7 w8 st9 h hr10=> ?_)
   ·exact to_L ⟨(), rfl⟩
   ·refine zaa rfl fun K hK => mv rfl rfl ?_
    refine bf hK ⟨[(2, hI 0)], []⟩ ?_
    obtain rfl := oi h
    exact AW.ret (qad (.inr rfl) (resT rfl rfl) rfl trivial)
   refine zad ?_
   refine zaa rfl fun K hK => mv rfl rfl (bv rfl (qac qbi rfl) (bv rfl (qab ty25 rfl (qan rfl rfl)) (bv rfl (qaI rfl rfl ty25 rfl) (bv rfl (qae rfl rfl qaV) ?_))))
   refine bf hK (P1 [(3, hI a7), (29, .bool (decide (a7 < ((p0.2.2).length : Int))))] []) ?_
   refine zae rfl (fun hc => ?_) (fun hc => ?_)
   ·obtain ⟨hc, h⟩ := cT hc h
    refine zac ?_
    refine zad (zaf ?_)
    refine zaa rfl fun K hK => bv rfl (qac qbi rfl) (bv rfl (qab ty25 rfl (qan rfl rfl)) (mv rfl rfl ?_))
    obtain ⟨x11, h12, h⟩ := bS h
    refine bv rfl (qaJ ty25 es25 rfl rfl (qaw h12)) (bv rfl (qab qcN rfl (qlm eFromLabelTo h12 rfl rfl)) ?_)
    refine b_op rfl (qba (fid := 87) (zs := [hI 0, hI 0, hI 0]) 87004 rfl rfl qcN rfl (fun v13 => ?_))
    refine b_op rfl (qaD (cs := [hI x11.1, hI x11.2.1, hI x11.2.2]) (zs := [hI x11.1, hI x11.2.1, hI x11.2.2]) rfl rfl rfl qcN rfl rfl rfl rfl rfl ?_)
    refine bf hK (P1 [(3, hI a7), (4, .ptr 87004 v13 0)] [(87004, v13, .arr 3 128 [hI x11.1, hI x11.2.1, hI x11.2.2])]) ?_
    refine zad ?_
    refine zag h (S := Bool) (V := Unit) (fun a v => (P1 [(3, hI a7), (4, .ptr 87004 v13 0), (70, .bool a)] [(87004, v13, .arr 3 128 [hI x11.1, hI x11.2.1, hI x11.2.2])])) (fun a14 w15 h => ?_) (fun k16 h => ?_)
    ·refine zae rfl (fun hc => ?_) (fun hc => ?_)
     ·have h := ifT hc h
      refine zaa rfl fun K hK => mv rfl rfl ?_
      refine bf hK ⟨[(2, hI 2)], []⟩ ?_
      have h := hr10 _ h
      obtain rfl := oi h
      exact AW.ret (qad (.inr rfl) (resT rfl rfl) rfl trivial)
     have h := ifF (bF' hc) h
     refine zac ?_
     refine zag h (S := Bool) (V := Unit) (fun a v => (P1 [(3, hI a7), (83, .bool a)] [])) (fun a17 w18 h => ?_) (fun k19 h => ?_)
     ·refine zae rfl (fun hc => ?_) (fun hc => ?_)
      ·have h := ifT hc h
       refine zaa rfl fun K hK => mv rfl rfl ?_
       refine bf hK ⟨[(2, hI 10)], []⟩ ?_
       have h := hr10 _ h
       obtain rfl := oi h
       exact AW.ret (qad (.inr rfl) (resT rfl rfl) rfl trivial)
      have h := ifF (bF' hc) h
      refine zac ?_
      refine zab rfl fun K hK => mv rfl rfl (bv rfl (qae rfl rfl qa6) (mv rfl rfl ?_))
      refine qah (hK _ ?_)
      exact to_L ⟨IntKind.wrap .i64 (a7 + 1), (), h, rfl⟩
     refine AW.dg 13 follows rfl rfl fun K hK => ?_
     refine sm rfl rfl ?_
     refine sv rfl (qae rfl rfl qbh) ?_
     refine sm rfl rfl ?_
     by_cases hg24 : 0 < a7
     ·have h := ifT hg24 h
      refine s_T rfl rfl rfl rfl rfl (decide_eq_true hg24) (qat rfl (qac qbi rfl) ?_)
      refine s_T rfl rfl rfl rfl rfl rfl (qat rfl (qab ty25 rfl (qan rfl rfl)) ?_)
      refine s_T rfl rfl rfl rfl rfl rfl (qat rfl (qas rfl rfl).2 ?_)
      refine s_T rfl rfl rfl rfl rfl rfl (qat rfl (qae rfl rfl qhk) ?_)
      obtain ⟨x20, h21, h⟩ := bS h
      refine s_T rfl rfl rfl rfl rfl rfl (qat rfl (qaJ ty25 es25 rfl rfl (qaw h21)) ?_)
      refine s_T rfl rfl rfl rfl rfl rfl (qat rfl (qab qcN rfl (qlm eFromLabelTo h21 rfl rfl)) ?_)
      refine s_T rfl rfl rfl rfl rfl rfl (qat rfl (qar qcN rfl rfl (qav rfl (lb rfl) rfl)) ?_)
      obtain ⟨x22, h23, h⟩ := bS h
      refine s_T rfl rfl rfl rfl rfl rfl (qaR rfl rfl rfl rfl (zai (qij h23)) ?_)
      refine s_T rfl rfl rfl rfl rfl rfl (qat rfl (qae rfl rfl qfO) ?_)
      refine sv rfl (qaj rfl rfl rfl) ?_
      refine qbU ?_
      refine qah (hK _ ?_)
      exact to_L ⟨decide (0 ≤ x22), (), h, rfl⟩
     have h := ifF hg24 h
     refine s_F rfl rfl rfl rfl rfl (decide_eq_false hg24) ?_
     iterate 8 refine s_F rfl rfl rfl rfl rfl rfl ?_
     refine sv rfl (qak rfl rfl rfl) ?_
     refine qbU ?_
     refine qah (hK _ ?_)
     exact to_L ⟨false, (), h, rfl⟩
    refine zab rfl fun K hK => bv rfl (qao qcC rfl rfl) (bv rfl (qar ty3 rfl rfl (qan rfl rfl)) (bv rfl (qae rfl rfl qaV) (mv rfl rfl ?_)))
    by_cases hg29 : x11.1 < 0
    ·have h := ifT hg29 h
     refine b_F rfl rfl rfl rfl rfl (decide_eq_true hg29) ?_
     iterate 4 refine b_F rfl rfl rfl rfl rfl rfl ?_
     refine bv rfl (qaj rfl rfl rfl) (mv rfl rfl ?_)
     iterate 3 refine b_F rfl rfl rfl rfl rfl rfl ?_
     refine bv rfl (qaj rfl rfl rfl) (mv rfl rfl ?_)
     iterate 5 refine b_F rfl rfl rfl rfl rfl rfl ?_
     refine bv rfl (qaj rfl rfl rfl) (mv rfl rfl ?_)
     iterate 3 refine b_F rfl rfl rfl rfl rfl rfl ?_
     refine bv rfl (qaj rfl rfl rfl) (mv rfl rfl ?_)
     iterate 5 refine b_F rfl rfl rfl rfl rfl rfl ?_
     refine bv rfl (qaj rfl rfl rfl) ?_
     refine qah (hK _ ?_)
     exact to_L ⟨true, (), h, rfl⟩
    have h := ifF hg29 h
    refine b_T rfl rfl rfl rfl (decide_eq_false hg29) (qaf rfl (qao qcC rfl rfl) ?_)
    refine b_T rfl rfl rfl rfl rfl (qaf rfl (qar ty3 rfl rfl (qan rfl rfl)) ?_)
    refine b_T rfl rfl rfl rfl rfl (qaf rfl (qac qcp rfl) ?_)
    refine b_T rfl rfl rfl rfl rfl (qaf rfl (qab ty3 rfl (qan rfl rfl)) ?_)
    refine b_T rfl rfl rfl rfl rfl (qaf rfl (qae rfl rfl qfO) ?_)
    refine bv rfl (qak rfl rfl rfl) (mv rfl rfl ?_)
    by_cases hg28 : p0.2.1 ≤ x11.1
    ·have h := ifT hg28 h
     refine b_F rfl rfl rfl rfl rfl (decide_eq_true hg28) ?_
     iterate 2 refine b_F rfl rfl rfl rfl rfl rfl ?_
     refine bv rfl (qaj rfl rfl rfl) (mv rfl rfl ?_)
     iterate 5 refine b_F rfl rfl rfl rfl rfl rfl ?_
     refine bv rfl (qaj rfl rfl rfl) (mv rfl rfl ?_)
     iterate 3 refine b_F rfl rfl rfl rfl rfl rfl ?_
     refine bv rfl (qaj rfl rfl rfl) (mv rfl rfl ?_)
     iterate 5 refine b_F rfl rfl rfl rfl rfl rfl ?_
     refine bv rfl (qaj rfl rfl rfl) ?_
     refine qah (hK _ ?_)
     exact to_L ⟨true, (), h, rfl⟩
    have h := ifF hg28 h
    refine b_T rfl rfl rfl rfl (decide_eq_false hg28) (qaf rfl (qao qdZ rfl rfl) ?_)
    refine b_T rfl rfl rfl rfl rfl (qaf rfl (qar ty3 rfl rfl (qan rfl rfl)) ?_)
    refine b_T rfl rfl rfl rfl rfl (qaf rfl (qae rfl rfl qaV) ?_)
    refine bv rfl (qak rfl rfl rfl) (mv rfl rfl ?_)
    by_cases hg27 : x11.2.2 < 0
    ·have h := ifT hg27 h
     refine b_F rfl rfl rfl rfl rfl (decide_eq_true hg27) ?_
     iterate 4 refine b_F rfl rfl rfl rfl rfl rfl ?_
     refine bv rfl (qaj rfl rfl rfl) (mv rfl rfl ?_)
     iterate 3 refine b_F rfl rfl rfl rfl rfl rfl ?_
     refine bv rfl (qaj rfl rfl rfl) (mv rfl rfl ?_)
     iterate 5 refine b_F rfl rfl rfl rfl rfl rfl ?_
     refine bv rfl (qaj rfl rfl rfl) ?_
     refine qah (hK _ ?_)
     exact to_L ⟨true, (), h, rfl⟩
    have h := ifF hg27 h
    refine b_T rfl rfl rfl rfl (decide_eq_false hg27) (qaf rfl (qao qdZ rfl rfl) ?_)
    refine b_T rfl rfl rfl rfl rfl (qaf rfl (qar ty3 rfl rfl (qan rfl rfl)) ?_)
    refine b_T rfl rfl rfl rfl rfl (qaf rfl (qac qcp rfl) ?_)
    refine b_T rfl rfl rfl rfl rfl (qaf rfl (qab ty3 rfl (qan rfl rfl)) ?_)
    refine b_T rfl rfl rfl rfl rfl (qaf rfl (qae rfl rfl qfO) ?_)
    refine bv rfl (qak rfl rfl rfl) (mv rfl rfl ?_)
    by_cases hg26 : p0.2.1 ≤ x11.2.2
    ·have h := ifT hg26 h
     refine b_F rfl rfl rfl rfl rfl (decide_eq_true hg26) ?_
     iterate 2 refine b_F rfl rfl rfl rfl rfl rfl ?_
     refine bv rfl (qaj rfl rfl rfl) (mv rfl rfl ?_)
     iterate 5 refine b_F rfl rfl rfl rfl rfl rfl ?_
     refine bv rfl (qaj rfl rfl rfl) ?_
     refine qah (hK _ ?_)
     exact to_L ⟨true, (), h, rfl⟩
    have h := ifF hg26 h
    refine b_T rfl rfl rfl rfl (decide_eq_false hg26) (qaf rfl (qao qdC rfl rfl) ?_)
    refine b_T rfl rfl rfl rfl rfl (qaf rfl (qar ty3 rfl rfl (qan rfl rfl)) ?_)
    refine b_T rfl rfl rfl rfl rfl (qaf rfl (qae rfl rfl qaV) ?_)
    refine bv rfl (qak rfl rfl rfl) (mv rfl rfl ?_)
    by_cases hg25 : x11.2.1 < 0
    ·have h := ifT hg25 h
     refine b_F rfl rfl rfl rfl rfl (decide_eq_true hg25) ?_
     iterate 4 refine b_F rfl rfl rfl rfl rfl rfl ?_
     refine bv rfl (qaj rfl rfl rfl) ?_
     refine qah (hK _ ?_)
     exact to_L ⟨true, (), h, rfl⟩
    have h := ifF hg25 h
    refine b_T rfl rfl rfl rfl (decide_eq_false hg25) (qaf rfl (qao qdC rfl rfl) ?_)
    refine b_T rfl rfl rfl rfl rfl (qaf rfl (qar ty3 rfl rfl (qan rfl rfl)) ?_)
    refine b_T rfl rfl rfl rfl rfl (qaf rfl (qac qez rfl) ?_)
    refine b_T rfl rfl rfl rfl rfl (qaf rfl (qab ty3 rfl (qan rfl rfl)) ?_)
    refine b_T rfl rfl rfl rfl rfl (qaf rfl (qae rfl rfl qfO) ?_)
    refine bv rfl (qak rfl rfl rfl) ?_
    refine qah (hK _ ?_)
    exact to_L ⟨decide (p0.1 ≤ x11.2.1), (), h, rfl⟩
   obtain ⟨hc, h⟩ := cF hc h
   refine AW.exit ?_
   exact to_L ⟨(), (), h, rfl⟩
  refine zab rfl fun K hK => bv rfl (qac qcp rfl) (bv rfl (qab ty3 rfl (qan rfl rfl)) (bv rfl (qae rfl rfl qbh) (mv rfl rfl ?_)))
  by_cases hg32 : 64 < p0.2.1
  ·have h := ifT hg32 h
   refine b_F rfl rfl rfl rfl rfl (decide_eq_true hg32) ?_
   iterate 3 refine b_F rfl rfl rfl rfl rfl rfl ?_
   refine bv rfl (qaj rfl rfl rfl) ?_
   refine qah (hK _ ?_)
   exact to_L ⟨true, (), h, rfl⟩
  have h := ifF hg32 h
  refine b_T rfl rfl rfl rfl (decide_eq_false hg32) (qaf rfl (qac qbi rfl) ?_)
  refine b_T rfl rfl rfl rfl rfl (qaf rfl (qab ty25 rfl (qan rfl rfl)) ?_)
  refine b_T rfl rfl rfl rfl rfl (qaf rfl (qaI rfl rfl ty25 rfl) ?_)
  refine b_T rfl rfl rfl rfl rfl (qaf rfl (qae rfl rfl qbh) ?_)
  refine bv rfl (qak rfl rfl rfl) ?_
  refine qah (hK _ ?_)
  exact to_L ⟨decide (1024 < ((p0.2.2).length : Int)), (), h, rfl⟩
 refine zab rfl fun K hK => bv rfl (qac qez rfl) (bv rfl (qab ty3 rfl (qan rfl rfl)) (bv rfl (qae rfl rfl qaV) (mv rfl rfl ?_)))
 by_cases hg33 : p0.1 < 1
 ·have h := ifT hg33 h
  refine b_F rfl rfl rfl rfl rfl (decide_eq_true hg33) ?_
  iterate 2 refine b_F rfl rfl rfl rfl rfl rfl ?_
  refine bv rfl (qaj rfl rfl rfl) ?_
  refine qah (hK _ ?_)
  exact to_L ⟨true, (), h, rfl⟩
 have h := ifF hg33 h
 refine b_T rfl rfl rfl rfl (decide_eq_false hg33) (qaf rfl (qac qez rfl) ?_)
 refine b_T rfl rfl rfl rfl rfl (qaf rfl (qab ty3 rfl (qan rfl rfl)) ?_)
 refine b_T rfl rfl rfl rfl rfl (qaf rfl (qae rfl rfl qbh) ?_)
 refine bv rfl (qak rfl rfl rfl) ?_
 refine qah (hK _ ?_)
 exact to_L ⟨decide (256 < p0.1), (), h, rfl⟩
theorem qif {p0 : qaa} {r : (List (Int))} (h : qdz p0 = some r) : Pure Tryz.prog 153 [gA p0] (· = slE eInt r) := by
 unfold qdz at h
 refine zaj Tryz.func153 rfl rfl (lb rfl) fun hf => ?_
 unfold Tryz.f153
 dsimp only [qaH, Nat.reduceAdd]
 refine zaa rfl fun K hK => b_op rfl (qa5 rfl rfl rfl ?_)
 refine mv rfl rfl ?_
 refine bf hK ⟨[(1, gF p0)], []⟩ ?_
 refine zaa rfl fun K hK => b_op rfl (qfE (fid := 153) 153005 rfl rfl rfl (qbV (cs := []) ty31 ty3 rfl rfl rfl rfl rfl) (fun v1 => ?_))
 refine mv rfl rfl ?_
 let P2 : ASf := fun t H => ⟨(1, gF p0) :: (3, .ar 153005 v1 eInt.k 0 0) :: t, (153005, v1, .arr eInt.k 3 []) :: H⟩
 refine bf hK (P2 [] []) ?_
 refine zad ?_
 refine zaa rfl fun K hK => mv rfl rfl ?_
 refine bf hK (P2 [(4, hI 0)] []) ?_
 refine AW.lpX h (by first | exact qaG | exact qbp) (S := Int × (List Int)) (V := Nat) (fun a v => ⟨[(1, gF p0), (3, .ar 153005 v eInt.k 0 ((a.2).length)), (4, hI a.1)], [(153005, v, .arr eInt.k 3 (eInt.E a.2))]⟩) ?_ (X := (List Int)) (W := Nat) (fun a v => ⟨[(3, .ar 153005 v eInt.k 0 ((a).length))], [(153005, v, .arr eInt.k 3 (eInt.E a))]⟩) (fun a8 w9 h => ?_) (fun a2 w3 st4 h => ?_)
 ·exact to_L ⟨v1, rfl⟩
 ·refine zaa rfl fun K hK => mv rfl rfl (mv rfl rfl ?_)
  refine bf hK ⟨[(2, .ar 153005 w9 eInt.k 0 ((a8).length))], [(153005, w9, .arr eInt.k 3 (eInt.E a8))]⟩ ?_
  refine AW.to (qdN 2 [(153005, w9, .arr eInt.k 3 (eInt.E a8))] ⟨[(2, slE eInt a8)], []⟩ ⟨⟨_, rfl, qbw eInt (l := a8) rfl fun _ _ => rfl⟩, trivial⟩ trivial ⟨rfl, trivial⟩ ⟨rfl, trivial⟩ ?_)
  obtain rfl := oi h
  exact AW.ret (qad (.inr rfl) (resT rfl rfl) rfl (qai fun _ _ => ⟨trivial, trivial⟩))
 refine zad ?_
 refine zaa rfl fun K hK => mv rfl rfl (bv rfl (qac qcp rfl) (bv rfl (qab ty3 rfl (qan rfl rfl)) (bv rfl (qae rfl rfl qaV) ?_)))
 refine bf hK ⟨[(1, gF p0), (3, .ar 153005 w3 eInt.k 0 ((a2.2).length)), (4, hI a2.1), (9, .bool (decide (a2.1 < p0.2.1)))], [(153005, w3, .arr eInt.k 3 (eInt.E a2.2))]⟩ ?_
 refine zae rfl (fun hc => ?_) (fun hc => ?_)
 ·obtain ⟨hc, h⟩ := cT hc h
  refine zac ?_
  refine zad (zaf ?_)
  refine zab rfl fun K hK => mv rfl rfl (mv rfl rfl ?_)
  refine b_op rfl (qdX rfl rfl (qbV (cs := [hI a2.1]) ty31 ty3 rfl rfl rfl rfl rfl) ?_)
  obtain ⟨h7, h⟩ := ifN h
  refine b_op rfl (qdh eInt (l := a2.2) (m := [a2.1]) rfl rfl ty31 ty31 ty3 rfl rfl rfl rfl rfl h7 (fun v6 => ?_))
  refine mv rfl rfl ?_
  refine bf hK ⟨[(1, gF p0), (3, .ar 153005 v6 eInt.k 0 ((a2.2 ++ [a2.1]).length)), (4, hI a2.1)], [(153005, v6, .arr eInt.k 3 (eInt.E (a2.2 ++ [a2.1])))]⟩ ?_
  refine zab rfl fun K hK => mv rfl rfl (bv rfl (qae rfl rfl qa6) (mv rfl rfl ?_))
  refine qah (hK _ ?_)
  exact to_L ⟨(IntKind.wrap .i64 (a2.1 + 1), a2.2 ++ [a2.1]), v6, h, rfl⟩
 obtain ⟨hc, h⟩ := cF hc h
 refine AW.exit ?_
 exact to_L ⟨a2.2, w3, h, rfl⟩
theorem qgk {p0 : Int} {r : Int} (h : qcH p0 = some r) : Pure Tryz.prog 204 [.int .u8 p0] (· = hI r) := by
 unfold qcH at h
 refine zaj Tryz.func204 rfl rfl (lb rfl) fun hf => ?_
 unfold Tryz.f204
 dsimp only [qaH, Nat.reduceAdd]
 refine zaa rfl fun K hK => mv rfl rfl ?_
 refine bf hK ⟨[(0, .int .u8 p0)], []⟩ ?_
 refine zad ?_
 refine zaa rfl fun K hK => mv rfl rfl ?_
 refine bf hK ⟨[(0, .int .u8 p0), (3, hI 0)], []⟩ ?_
 refine AW.lpR h (by first | exact qaG | exact qbp) (S := Int) (V := Unit) (fun a v => ⟨[(0, .int .u8 p0), (3, hI a)], []⟩) ?_ (X := Unit) (W := Unit) (fun a v => ⟨[], []⟩) (fun a7 w8 h => ?_) (fun a1 w2 st3 h hr4=> ?_)
 ·exact to_L ⟨(), rfl⟩
 ·refine zaa rfl fun K hK => mv rfl rfl ?_
  refine bf hK ⟨[(2, hI (-1))], []⟩ ?_
  obtain rfl := oi h
  exact AW.ret (qad (.inr rfl) (resT rfl rfl) rfl trivial)
 refine zad ?_
 refine zaa rfl fun K hK => mv rfl rfl (bv rfl (qae rfl rfl qaV) ?_)
 refine bf hK ⟨[(0, .int .u8 p0), (3, hI a1), (5, .bool (decide (a1 < 16)))], []⟩ ?_
 refine zae rfl (fun hc => ?_) (fun hc => ?_)
 ·obtain ⟨hc, h⟩ := cT hc h
  refine zac ?_
  refine zad (zaf ?_)
  refine zaa rfl fun K hK => mv rfl rfl ?_
  obtain ⟨x5, h6, h⟩ := bS h
  refine bv rfl (qkU ty9 rfl rfl h6) (mv rfl rfl (bv rfl (qae rfl rfl qd1) ?_))
  refine bf hK ⟨[(0, .int .u8 p0), (3, hI a1), (11, .bool (decide ((x5.toNat : Int) = p0)))], []⟩ ?_
  refine zae rfl (fun hc => ?_) (fun hc => ?_)
  ·obtain ⟨hc, h⟩ := cT hc h
   refine zaa rfl fun K hK => mv rfl rfl (mv rfl rfl ?_)
   refine bf hK ⟨[(2, hI a1)], []⟩ ?_
   have h := hr4 _ h
   obtain rfl := oi h
   exact AW.ret (qad (.inr rfl) (resT rfl rfl) rfl trivial)
  obtain ⟨hc, h⟩ := cF hc h
  refine zac ?_
  refine zab rfl fun K hK => mv rfl rfl (bv rfl (qae rfl rfl qa6) (mv rfl rfl ?_))
  refine qah (hK _ ?_)
  exact to_L ⟨IntKind.wrap .i64 (a1 + 1), (), h, rfl⟩
 obtain ⟨hc, h⟩ := cF hc h
 refine AW.exit ?_
 exact to_L ⟨(), (), h, rfl⟩
theorem qj3 {p0 : Int} {p1 : List UInt8} {r : Int} (h : qdm p0 p1 = some r) : Pure Tryz.prog 181 [hI p0, .str p1] (· = hI r) := by
 unfold qdm at h
 refine zaj Tryz.func181 rfl rfl (lb rfl) fun hf => ?_
 unfold Tryz.f181
 dsimp only [qaH, Nat.reduceAdd]
 refine zaa rfl fun K hK => mv rfl rfl ?_
 let P3 : ASf := fun t H => ⟨(0, hI p0) :: (1, .str p1) :: t, H⟩
 refine bf hK (P3 [] []) ?_
 refine zad ?_
 refine zag h (S := Bool) (V := Unit) (fun a v => (P3 [(12, .bool a)] [])) (fun a1 w2 h => ?_) (fun k3 h => ?_)
 ·refine zae rfl (fun hc => ?_) (fun hc => ?_)
  ·have h := ifT hc h
   refine zaa rfl fun K hK => mv rfl rfl ?_
   refine bf hK ⟨[(4, hI 12)], []⟩ ?_
   obtain rfl := oi h
   exact AW.ret (qad (.inr rfl) (resT rfl rfl) rfl trivial)
  have h := ifF (bF' hc) h
  refine zac ?_
  refine zad ?_
  refine zaa rfl fun K hK => mv rfl rfl (bv rfl (qgo rfl rfl ty9 rfl) (bv rfl (qae rfl rfl qbh) ?_))
  refine bf hK (P3 [(15, .bool (decide (65536 < ((p1).length : Int))))] []) ?_
  refine zae rfl (fun hc => ?_) (fun hc => ?_)
  ·obtain ⟨hc, h⟩ := cT hc h
   refine zaa rfl fun K hK => mv rfl rfl ?_
   refine bf hK ⟨[(4, hI 4)], []⟩ ?_
   obtain rfl := oi h
   exact AW.ret (qad (.inr rfl) (resT rfl rfl) rfl trivial)
  obtain ⟨hc, h⟩ := cF hc h
  refine zac ?_
  refine zad ?_
  refine zaa rfl fun K hK => mv rfl rfl ?_
  refine bf hK (P3 [(5, hI 0)] []) ?_
  refine AW.lpR h (by first | exact qaG | exact qbp) (S := Int) (V := Unit) (fun a v => (P3 [(5, hI a)] [])) ?_ (X := Unit) (W := Unit) (fun a v => ⟨[], []⟩) (fun a16 w17 h => ?_) (fun a4 w5 st6 h hr7=> ?_)
  ·exact to_L ⟨(), rfl⟩
  ·refine zaa rfl fun K hK => mv rfl rfl ?_
   refine bf hK ⟨[(4, hI 0)], []⟩ ?_
   obtain rfl := oi h
   exact AW.ret (qad (.inr rfl) (resT rfl rfl) rfl trivial)
  refine zad ?_
  refine zaa rfl fun K hK => mv rfl rfl (mv rfl rfl (bv rfl (qgo rfl rfl ty9 rfl) (bv rfl (qae rfl rfl qaV) ?_)))
  refine bf hK (P3 [(5, hI a4), (19, .bool (decide (a4 < ((p1).length : Int))))] []) ?_
  refine zae rfl (fun hc => ?_) (fun hc => ?_)
  ·obtain ⟨hc, h⟩ := cT hc h
   refine zac ?_
   refine zad (zaf ?_)
   refine zaa rfl fun K hK => mv rfl rfl (mv rfl rfl ?_)
   obtain ⟨x8, h9, h⟩ := bS h
   refine bv rfl (qkU ty9 rfl rfl h9) ?_
   obtain ⟨x10, h11, h⟩ := bS h
   refine b_op rfl (qaB rfl rfl rfl rfl (zai (qgk h11)) ?_)
   refine mv rfl rfl ?_
   refine bf hK (P3 [(5, hI a4), (6, hI x10)] []) ?_
   refine zag h (S := Bool) (V := Unit) (fun a v => (P3 [(5, hI a4), (32, .bool a)] [])) (fun a12 w13 h => ?_) (fun k14 h => ?_)
   ·refine zae rfl (fun hc => ?_) (fun hc => ?_)
    ·have h := ifT hc h
     refine zaa rfl fun K hK => mv rfl rfl ?_
     refine bf hK ⟨[(4, hI 13)], []⟩ ?_
     have h := hr7 _ h
     obtain rfl := oi h
     exact AW.ret (qad (.inr rfl) (resT rfl rfl) rfl trivial)
    have h := ifF (bF' hc) h
    refine zac ?_
    refine zab rfl fun K hK => mv rfl rfl (bv rfl (qae rfl rfl qa6) (mv rfl rfl ?_))
    refine qah (hK _ ?_)
    exact to_L ⟨IntKind.wrap .i64 (a4 + 1), (), h, rfl⟩
   refine zab rfl fun K hK => mv rfl rfl (bv rfl (qae rfl rfl qaV) (mv rfl rfl ?_))
   by_cases hg15 : x10 < 0
   ·have h := ifT hg15 h
    refine b_F rfl rfl rfl rfl rfl (decide_eq_true hg15) ?_
    iterate 2 refine b_F rfl rfl rfl rfl rfl rfl ?_
    refine bv rfl (qaj rfl rfl rfl) ?_
    refine qah (hK _ ?_)
    exact to_L ⟨true, (), h, rfl⟩
   have h := ifF hg15 h
   refine b_T rfl rfl rfl rfl (decide_eq_false hg15) (qaf rfl (qas rfl rfl).2 ?_)
   refine b_T rfl rfl rfl rfl rfl (qaf rfl (qas rfl rfl).2 ?_)
   refine b_T rfl rfl rfl rfl rfl (qaf rfl (qae rfl rfl qfO) ?_)
   refine bv rfl (qak rfl rfl rfl) ?_
   refine qah (hK _ ?_)
   exact to_L ⟨decide (p0 ≤ x10), (), h, rfl⟩
  obtain ⟨hc, h⟩ := cF hc h
  refine AW.exit ?_
  exact to_L ⟨(), (), h, rfl⟩
 refine zab rfl fun K hK => mv rfl rfl (bv rfl (qae rfl rfl qaV) (mv rfl rfl ?_))
 by_cases hg18 : p0 < 1
 ·have h := ifT hg18 h
  refine b_F rfl rfl rfl rfl rfl (decide_eq_true hg18) ?_
  refine b_F rfl rfl rfl rfl rfl rfl ?_
  refine bv rfl (qaj rfl rfl rfl) ?_
  refine qah (hK _ ?_)
  exact to_L ⟨true, (), h, rfl⟩
 have h := ifF hg18 h
 refine b_T rfl rfl rfl rfl (decide_eq_false hg18) (qaf rfl (qas rfl rfl).2 ?_)
 refine b_T rfl rfl rfl rfl rfl (qaf rfl (qae rfl rfl qbh) ?_)
 refine bv rfl (qak rfl rfl rfl) ?_
 refine qah (hK _ ?_)
 exact to_L ⟨decide (16 < p0), (), h, rfl⟩
theorem qgj {p0 : qaa} {r : Int} (h : qbQ p0 = some r) : Pure Tryz.prog 192 [gA p0] (· = hI r) := by
 unfold qbQ at h
 refine zaj Tryz.func192 rfl rfl (lb rfl) fun hf => ?_
 unfold Tryz.f192
 dsimp only [qaH, Nat.reduceAdd]
 refine zaa rfl fun K hK => b_op rfl (qa5 rfl rfl rfl ?_)
 refine mv rfl rfl ?_
 refine bf hK ⟨[(1, gF p0)], []⟩ ?_
 refine zad ?_
 refine zaa rfl fun K hK => bv rfl (qab ty27 rfl (qav rfl (lb rfl) rfl)) ?_
 obtain ⟨x1, h2, h⟩ := bS h
 refine b_op rfl (qaB rfl rfl rfl rfl (zai (qd4 h2)) ?_)
 refine bv rfl (qae rfl rfl qcL) ?_
 refine bf hK ⟨[(1, gF p0), (5, .bool (decide (x1 ≠ 0)))], []⟩ ?_
 refine zae rfl (fun hc => ?_) (fun hc => ?_)
 ·obtain ⟨hc, h⟩ := cT hc h
  refine zaa rfl fun K hK => mv rfl rfl ?_
  refine bf hK ⟨[(2, hI 1)], []⟩ ?_
  obtain rfl := oi h
  exact AW.ret (qad (.inr rfl) (resT rfl rfl) rfl trivial)
 obtain ⟨hc, h⟩ := cF hc h
 refine zac ?_
 refine zad ?_
 refine zaa rfl fun K hK => bv rfl (qac qez rfl) (bv rfl (qab ty3 rfl (qan rfl rfl)) (bv rfl (qae rfl rfl qbh) ?_))
 refine bf hK ⟨[(8, .bool (decide (16 < p0.1)))], []⟩ ?_
 refine zae rfl (fun hc => ?_) (fun hc => ?_)
 ·obtain ⟨hc, h⟩ := cT hc h
  refine zaa rfl fun K hK => mv rfl rfl ?_
  refine bf hK ⟨[(2, hI 12)], []⟩ ?_
  obtain rfl := oi h
  exact AW.ret (qad (.inr rfl) (resT rfl rfl) rfl trivial)
 obtain ⟨hc, h⟩ := cF hc h
 refine zac ?_
 refine zaa rfl fun K hK => mv rfl rfl ?_
 refine bf hK ⟨[(2, hI 0)], []⟩ ?_
 obtain rfl := oi h
 exact AW.ret (qad (.inr rfl) (resT rfl rfl) rfl trivial)
theorem qgX {p0 : qaa} {p1 : List UInt8} {r : Int} (h : qb1 p0 p1 = some r) : Pure Tryz.prog 173 [gA p0, .str p1] (· = hI r) := by
 unfold qb1 at h
 refine zaj Tryz.func173 rfl rfl (lb rfl) fun hf => ?_
 unfold Tryz.f173
 dsimp only [qaH, Nat.reduceAdd]
 refine zaa rfl fun K hK => b_op rfl (qa5 rfl rfl rfl ?_)
 refine mv rfl rfl ?_
 refine bf hK ⟨[(1, .str p1), (2, gF p0)], []⟩ ?_
 refine zad ?_
 refine zaa rfl fun K hK => bv rfl (qab ty27 rfl (qav rfl (lb rfl) rfl)) ?_
 obtain ⟨x1, h2, h⟩ := bS h
 refine b_op rfl (qaB rfl rfl rfl rfl (zai (qgj h2)) ?_)
 refine mv rfl rfl ?_
 refine bf hK ⟨[(1, .str p1), (2, gF p0), (5, hI x1)], []⟩ ?_
 refine zaa rfl fun K hK => mv rfl rfl (bv rfl (qae rfl rfl qcL) ?_)
 refine bf hK ⟨[(1, .str p1), (2, gF p0), (5, hI x1), (9, .bool (decide (x1 ≠ 0)))], []⟩ ?_
 refine zae rfl (fun hc => ?_) (fun hc => ?_)
 ·obtain ⟨hc, h⟩ := cT hc h
  refine zaa rfl fun K hK => mv rfl rfl (mv rfl rfl ?_)
  refine bf hK ⟨[(4, hI x1)], []⟩ ?_
  obtain rfl := oi h
  exact AW.ret (qad (.inr rfl) (resT rfl rfl) rfl trivial)
 obtain ⟨hc, h⟩ := cF hc h
 refine zac ?_
 refine zaa rfl fun K hK => bv rfl (qac qez rfl) (bv rfl (qab ty3 rfl (qan rfl rfl)) (mv rfl rfl ?_))
 obtain ⟨x3, h4, h⟩ := bS h
 refine b_op rfl (qaB rfl rfl rfl rfl (zai (qj3 h4)) ?_)
 refine mv rfl rfl ?_
 refine bf hK ⟨[(4, hI x3)], []⟩ ?_
 obtain rfl := oi h
 exact AW.ret (qad (.inr rfl) (resT rfl rfl) rfl trivial)
theorem qlP {p0 : List (Int)} {p1 : Int} {r : Bool} (h : qdy p0 p1 = some r) : Pure Tryz.prog 229 [slE eInt p0, hI p1] (· = HV.bool r) := by
 unfold qdy at h
 refine zaj Tryz.func229 rfl rfl (lb rfl) fun hf => ?_
 unfold Tryz.f229
 dsimp only [qaH, Nat.reduceAdd]
 refine zaa rfl fun K hK => mv rfl rfl ?_
 let P4 : ASf := fun t H => ⟨(0, slE eInt p0) :: (1, hI p1) :: t, H⟩
 refine bf hK (P4 [] []) ?_
 refine zad ?_
 refine zaa rfl fun K hK => mv rfl rfl ?_
 refine bf hK (P4 [(5, hI 0)] []) ?_
 refine AW.lpR h (by first | exact qaG | exact qbp) (S := Int) (V := Unit) (fun a v => (P4 [(5, hI a)] [])) ?_ (X := Unit) (W := Unit) (fun a v => ⟨[], []⟩) (fun a7 w8 h => ?_) (fun a1 w2 st3 h hr4=> ?_)
 ·exact to_L ⟨(), rfl⟩
 ·refine zaa rfl fun K hK => mv rfl rfl ?_
  refine bf hK ⟨[(4, .bool false)], []⟩ ?_
  obtain rfl := oi h
  exact AW.ret (qad (.inr rfl) (resT rfl rfl) rfl trivial)
 refine zad ?_
 refine zaa rfl fun K hK => mv rfl rfl (mv rfl rfl (bv rfl (qaI rfl rfl ty31 rfl) (bv rfl (qae rfl rfl qaV) ?_)))
 refine bf hK (P4 [(5, hI a1), (9, .bool (decide (a1 < ((p0).length : Int))))] []) ?_
 refine zae rfl (fun hc => ?_) (fun hc => ?_)
 ·obtain ⟨hc, h⟩ := cT hc h
  refine zac ?_
  refine zad (zaf ?_)
  refine zaa rfl fun K hK => mv rfl rfl (mv rfl rfl ?_)
  obtain ⟨x5, h6, h⟩ := bS h
  refine bv rfl (qaJ ty31 es31 rfl rfl (qaw h6)) (bv rfl (qab ty3 rfl (qaL eInt h6 (o := 0) rfl rfl)) (mv rfl rfl (bv rfl (qae rfl rfl qd1) ?_)))
  refine bf hK (P4 [(5, hI a1), (17, .bool (decide (x5 = p1)))] []) ?_
  refine zae rfl (fun hc => ?_) (fun hc => ?_)
  ·obtain ⟨hc, h⟩ := cT hc h
   refine zaa rfl fun K hK => mv rfl rfl ?_
   refine bf hK ⟨[(4, .bool true)], []⟩ ?_
   have h := hr4 _ h
   obtain rfl := oi h
   exact AW.ret (qad (.inr rfl) (resT rfl rfl) rfl trivial)
  obtain ⟨hc, h⟩ := cF hc h
  refine zac ?_
  refine zab rfl fun K hK => mv rfl rfl (bv rfl (qae rfl rfl qa6) (mv rfl rfl ?_))
  refine qah (hK _ ?_)
  exact to_L ⟨IntKind.wrap .i64 (a1 + 1), (), h, rfl⟩
 obtain ⟨hc, h⟩ := cF hc h
 refine AW.exit ?_
 exact to_L ⟨(), (), h, rfl⟩
theorem qhs {p0 : qaa} {p1 : List (Int)} {p2 : Int} {r : (List (Int))} (h : qc4 p0 p1 p2 = some r) : Pure Tryz.prog 203 [gA p0, slE eInt p1, hI p2] (· = slE eInt r) := by
 unfold qc4 at h
 refine zaj Tryz.func203 rfl rfl (lb rfl) fun hf => ?_
 unfold Tryz.f203
 dsimp only [qaH, Nat.reduceAdd]
 refine zaa rfl fun K hK => b_op rfl (qa5 rfl rfl rfl ?_)
 refine mv rfl rfl ?_
 let P1 : ASf := fun t H => ⟨(1, slE eInt p1) :: (2, hI p2) :: (3, gF p0) :: t, H⟩
 refine bf hK (P1 [] []) ?_
 refine zaa rfl fun K hK => b_op rfl (qfE (fid := 203) 203011 rfl rfl rfl (qbV (cs := []) ty31 ty3 rfl rfl rfl rfl rfl) (fun v1 => ?_))
 refine mv rfl rfl ?_
 refine bf hK (P1 [(7, .ar 203011 v1 eInt.k 0 0)] [(203011, v1, .arr eInt.k 3 [])]) ?_
 refine zad ?_
 refine zaa rfl fun K hK => mv rfl rfl ?_
 refine bf hK (P1 [(7, .ar 203011 v1 eInt.k 0 0), (8, hI 0)] [(203011, v1, .arr eInt.k 3 [])]) ?_
 refine AW.lpX h (by first | exact qaG | exact qbp) (S := Int × (List Int)) (V := Nat) (fun a v => (P1 [(7, .ar 203011 v eInt.k 0 ((a.2).length)), (8, hI a.1)] [(203011, v, .arr eInt.k 3 (eInt.E a.2))])) ?_ (X := (List Int)) (W := Nat) (fun a v => ⟨[(7, .ar 203011 v eInt.k 0 ((a).length))], [(203011, v, .arr eInt.k 3 (eInt.E a))]⟩) (fun a33 w34 h => ?_) (fun a2 w3 st4 h => ?_)
 ·exact to_L ⟨v1, rfl⟩
 ·refine zaa rfl fun K hK => mv rfl rfl (mv rfl rfl ?_)
  refine bf hK ⟨[(6, .ar 203011 w34 eInt.k 0 ((a33).length))], [(203011, w34, .arr eInt.k 3 (eInt.E a33))]⟩ ?_
  refine AW.to (qdN 2 [(203011, w34, .arr eInt.k 3 (eInt.E a33))] ⟨[(6, slE eInt a33)], []⟩ ⟨⟨_, rfl, qbw eInt (l := a33) rfl fun _ _ => rfl⟩, trivial⟩ trivial ⟨rfl, trivial⟩ ⟨rfl, trivial⟩ ?_)
  obtain rfl := oi h
  exact AW.ret (qad (.inr rfl) (resT rfl rfl) rfl (qai fun _ _ => ⟨trivial, trivial⟩))
 refine zad ?_
 refine zaa rfl fun K hK => mv rfl rfl (bv rfl (qac qcp rfl) (bv rfl (qab ty3 rfl (qan rfl rfl)) (bv rfl (qae rfl rfl qaV) ?_)))
 let E1 : Nat × HV := (7, .ar 203011 w3 eInt.k 0 ((a2.2).length))
 let O2 : Nat × Nat × AObj := (203011, w3, .arr eInt.k 3 (eInt.E a2.2))
 refine bf hK (P1 [E1, (8, hI a2.1), (15, .bool (decide (a2.1 < p0.2.1)))] [O2]) ?_
 refine zae rfl (fun hc => ?_) (fun hc => ?_)
 ·obtain ⟨hc, h⟩ := cT hc h
  refine zac ?_
  refine zag h (S := (List Int)) (V := Nat) (fun a v => (P1 [(7, .ar 203011 v eInt.k 0 ((a).length)), (8, hI a2.1)] [(203011, v, .arr eInt.k 3 (eInt.E a))])) (fun a6 w7 h => ?_) (fun k8 h => ?_)
  ·refine zab rfl fun K hK => mv rfl rfl (bv rfl (qae rfl rfl qa6) (mv rfl rfl ?_))
   refine qah (hK _ ?_)
   exact to_L ⟨(IntKind.wrap .i64 (a2.1 + 1), a6), w7, h, rfl⟩
  refine zaf ?_
  refine zaa rfl fun K hK => mv rfl rfl ?_
  refine bf hK (P1 [E1, (8, hI a2.1), (9, .bool false)] [O2]) ?_
  refine zad ?_
  refine zaa rfl fun K hK => mv rfl rfl ?_
  refine bf hK (P1 [E1, (8, hI a2.1), (9, .bool false), (10, hI 0)] [O2]) ?_
  refine AW.lpX h (by first | exact qaG | exact qbp) (S := Bool × Int) (V := Unit) (fun a v => (P1 [E1, (8, hI a2.1), (9, .bool a.1), (10, hI a.2)] [O2])) ?_ (X := Bool) (W := Unit) (fun a v => (P1 [E1, (8, hI a2.1), (9, .bool a)] [O2])) (fun a29 w30 h => ?_) (fun a9 w10 st11 h => ?_)
  ·exact to_L ⟨(), rfl⟩
  ·refine zaa rfl fun K hK => mv rfl rfl ?_
   refine bf hK (P1 [E1, (8, hI a2.1), (53, .bool a29)] [O2]) ?_
   refine zae rfl (fun hc => ?_) (fun hc => ?_)
   ·have h := ifT hc h
    refine zab rfl fun K hK => mv rfl rfl (mv rfl rfl ?_)
    refine b_op rfl (qdX rfl rfl (qbV (cs := [hI a2.1]) ty31 ty3 rfl rfl rfl rfl rfl) ?_)
    obtain ⟨h32, h⟩ := ifN h
    refine b_op rfl (qdh eInt (l := a2.2) (m := [a2.1]) rfl rfl ty31 ty31 ty3 rfl rfl rfl rfl rfl h32 (fun v31 => ?_))
    refine mv rfl rfl ?_
    refine qah (hK _ ?_)
    exact to_L ⟨a2.2 ++ [a2.1], v31, h, rfl⟩
   have h := ifF (bF' hc) h
   refine zac ?_
   exact to_L ⟨a2.2, w3, h, rfl⟩
  refine zad ?_
  refine zaa rfl fun K hK => mv rfl rfl (bv rfl (qac qbi rfl) (bv rfl (qab ty25 rfl (qan rfl rfl)) (bv rfl (qaI rfl rfl ty25 rfl) (bv rfl (qae rfl rfl qaV) ?_))))
  refine bf hK (P1 [E1, (8, hI a2.1), (9, .bool a9.1), (10, hI a9.2), (22, .bool (decide (a9.2 < ((p0.2.2).length : Int))))] [O2]) ?_
  refine zae rfl (fun hc => ?_) (fun hc => ?_)
  ·obtain ⟨hc, h⟩ := cT hc h
   refine zac ?_
   refine zag h (S := Bool) (V := Unit) (fun a v => (P1 [E1, (8, hI a2.1), (9, .bool a), (10, hI a9.2)] [O2])) (fun a13 w14 h => ?_) (fun k15 h => ?_)
   ·refine zab rfl fun K hK => mv rfl rfl (bv rfl (qae rfl rfl qa6) (mv rfl rfl ?_))
    refine qah (hK _ ?_)
    exact to_L ⟨(a13, IntKind.wrap .i64 (a9.2 + 1)), (), h, rfl⟩
   refine zaf ?_
   refine zag h (S := Bool) (V := Unit) (fun a v => (P1 [E1, (8, hI a2.1), (9, .bool a9.1), (10, hI a9.2), (52, .bool a)] [O2])) (fun a16 w17 h => ?_) (fun k18 h => ?_)
   ·refine zae rfl (fun hc => ?_) (fun hc => ?_)
    ·have h := ifT hc h
     refine zab rfl fun K hK => mv rfl rfl ?_
     refine qah (hK _ ?_)
     exact to_L ⟨true, (), h, rfl⟩
    have h := ifF (bF' hc) h
    refine zac ?_
    exact to_L ⟨a9.1, (), h, rfl⟩
   refine zab rfl fun K hK => bv rfl (qac qbi rfl) (bv rfl (qab ty25 rfl (qan rfl rfl)) (mv rfl rfl ?_))
   obtain ⟨x19, h20, h⟩ := bS h
   refine bv rfl (qaJ ty25 es25 rfl rfl (qaw h20)) (bv rfl (qac qdZ rfl) (bv rfl (qab ty3 rfl (qaL eFromLabelTo h20 (o := 2) rfl rfl)) (mv rfl rfl (bv rfl (qae rfl rfl qd1) (mv rfl rfl ?_)))))
   by_cases hg28 : x19.2.2 = a2.1
   ·have h := ifT hg28 h
    refine b_T rfl rfl rfl rfl (decide_eq_true hg28) (qaf rfl (qac qbi rfl) ?_)
    refine b_T rfl rfl rfl rfl rfl (qaf rfl (qab ty25 rfl (qan rfl rfl)) ?_)
    refine b_T rfl rfl rfl rfl rfl (qaf rfl (qas rfl rfl).2 ?_)
    obtain ⟨x21, h22, h⟩ := bS h
    refine b_T rfl rfl rfl rfl rfl (qaf rfl (qaJ ty25 es25 rfl rfl (qaw h22)) ?_)
    refine b_T rfl rfl rfl rfl rfl (qaf rfl (qac qdC rfl) ?_)
    refine b_T rfl rfl rfl rfl rfl (qaf rfl (qab ty3 rfl (qaL eFromLabelTo h22 (o := 1) rfl rfl)) ?_)
    refine b_T rfl rfl rfl rfl rfl (qaf rfl (qas rfl rfl).2 ?_)
    refine b_T rfl rfl rfl rfl rfl (qaf rfl (qae rfl rfl qd1) ?_)
    refine bv rfl (qaj rfl rfl rfl) (mv rfl rfl ?_)
    by_cases hg27 : x21.2.1 = p2
    ·have h := ifT hg27 h
     refine b_T rfl rfl rfl rfl (decide_eq_true hg27) (qaf rfl (qas rfl rfl).2 ?_)
     refine b_T rfl rfl rfl rfl rfl (qaf rfl (qac qbi rfl) ?_)
     refine b_T rfl rfl rfl rfl rfl (qaf rfl (qab ty25 rfl (qan rfl rfl)) ?_)
     refine b_T rfl rfl rfl rfl rfl (qaf rfl (qas rfl rfl).2 ?_)
     obtain ⟨x23, h24, h⟩ := bS h
     refine b_T rfl rfl rfl rfl rfl (qaf rfl (qaJ ty25 es25 rfl rfl (qaw h24)) ?_)
     refine b_T rfl rfl rfl rfl rfl (qaf rfl (qac qcC rfl) ?_)
     refine b_T rfl rfl rfl rfl rfl (qaf rfl (qab ty3 rfl (qaL eFromLabelTo h24 (o := 0) rfl rfl)) ?_)
     obtain ⟨x25, h26, h⟩ := bS h
     refine b_T rfl rfl rfl rfl rfl (qaB rfl rfl rfl rfl (zai (qlP h26)) ?_)
     refine bv rfl (qaj rfl rfl rfl) ?_
     refine qah (hK _ ?_)
     exact to_L ⟨x25, (), h, rfl⟩
    have h := ifF hg27 h
    refine b_F rfl rfl rfl rfl rfl (decide_eq_false hg27) ?_
    iterate 7 refine b_F rfl rfl rfl rfl rfl rfl ?_
    refine bv rfl (qak rfl rfl rfl) ?_
    refine qah (hK _ ?_)
    exact to_L ⟨false, (), h, rfl⟩
   have h := ifF hg28 h
   refine b_F rfl rfl rfl rfl rfl (decide_eq_false hg28) ?_
   iterate 7 refine b_F rfl rfl rfl rfl rfl rfl ?_
   refine bv rfl (qak rfl rfl rfl) (mv rfl rfl ?_)
   iterate 8 refine b_F rfl rfl rfl rfl rfl rfl ?_
   refine bv rfl (qak rfl rfl rfl) ?_
   refine qah (hK _ ?_)
   exact to_L ⟨false, (), h, rfl⟩
  obtain ⟨hc, h⟩ := cF hc h
  refine AW.exit ?_
  exact to_L ⟨a9.1, (), h, rfl⟩
 obtain ⟨hc, h⟩ := cF hc h
 refine AW.exit ?_
 exact to_L ⟨a2.2, w3, h, rfl⟩
theorem qkS {p0 : qaa} {p1 : List (Int)} {p2 : List UInt8} {r : (List (Int))} (h : qdP p0 p1 p2 = some r) : Pure Tryz.prog 174 [gA p0, slE eInt p1, .str p2] (· = slE eInt r) := by
 unfold qdP at h
 refine zaj Tryz.func174 rfl rfl (lb rfl) fun hf => ?_
 unfold Tryz.f174
 dsimp only [qaH, Nat.reduceAdd]
 refine zaa rfl fun K hK => b_op rfl (qa5 rfl rfl rfl ?_)
 refine mv rfl rfl ?_
 refine bf hK ⟨[(1, slE eInt p1), (2, .str p2), (3, gF p0)], []⟩ ?_
 refine zad ?_
 refine zaa rfl fun K hK => mv rfl rfl ?_
 refine bf hK ⟨[(1, slE eInt p1), (2, .str p2), (3, gF p0), (7, hI 0)], []⟩ ?_
 refine AW.lpX h (by first | exact qaG | exact qbp) (S := (List Int) × Int) (V := Unit) (fun a v => ⟨[(1, slE eInt a.1), (2, .str p2), (3, gF p0), (7, hI a.2)], []⟩) ?_ (X := (List Int)) (W := Unit) (fun a v => ⟨[(1, slE eInt a)], []⟩) (fun a11 w12 h => ?_) (fun a1 w2 st3 h => ?_)
 ·exact to_L ⟨(), rfl⟩
 ·refine zaa rfl fun K hK => mv rfl rfl (mv rfl rfl ?_)
  refine bf hK ⟨[(6, slE eInt a11)], []⟩ ?_
  obtain rfl := oi h
  exact AW.ret (qad (.inr rfl) (resT rfl rfl) rfl (qai fun _ _ => ⟨trivial, trivial⟩))
 refine zad ?_
 refine zaa rfl fun K hK => mv rfl rfl (mv rfl rfl (bv rfl (qgo rfl rfl ty9 rfl) (bv rfl (qae rfl rfl qaV) ?_)))
 refine bf hK ⟨[(1, slE eInt a1.1), (2, .str p2), (3, gF p0), (7, hI a1.2), (11, .bool (decide (a1.2 < ((p2).length : Int))))], []⟩ ?_
 refine zae rfl (fun hc => ?_) (fun hc => ?_)
 ·obtain ⟨hc, h⟩ := cT hc h
  refine zac ?_
  refine zad (zaf ?_)
  refine AW.dg 8 follows rfl rfl fun K hK => ?_
  refine sv rfl (qab ty27 rfl (qav rfl (lb rfl) rfl)) ?_
  iterate 3 refine sm rfl rfl ?_
  obtain ⟨x5, h6, h⟩ := bS h
  refine sv rfl (qkU ty9 rfl rfl h6) ?_
  obtain ⟨x7, h8, h⟩ := bS h
  refine s_op rfl rfl (qaR rfl rfl rfl rfl (zai (qgk h8)) ?_)
  obtain ⟨x9, h10, h⟩ := bS h
  refine s_op rfl rfl (qaR rfl rfl rfl rfl (zai (qhs h10)) ?_)
  refine sm rfl rfl ?_
  refine qbU ?_
  refine bf hK ⟨[(1, slE eInt x9), (2, .str p2), (3, gF p0), (7, hI a1.2)], []⟩ ?_
  refine zab rfl fun K hK => mv rfl rfl (bv rfl (qae rfl rfl qa6) (mv rfl rfl ?_))
  refine qah (hK _ ?_)
  exact to_L ⟨(x9, IntKind.wrap .i64 (a1.2 + 1)), (), h, rfl⟩
 obtain ⟨hc, h⟩ := cF hc h
 refine AW.exit ?_
 exact to_L ⟨a1.1, (), h, rfl⟩
theorem qig {p0 : qaa} {p1 : List UInt8} {r : Bool × Int} (h : qb2 p0 p1 = some r) : Pure Tryz.prog 126 [gA p0, .str p1] (· = HV.tup [.bool r.1, hI r.2]) := by
 unfold qb2 at h
 refine zaj Tryz.func126 rfl rfl (lb rfl) fun hf => ?_
 unfold Tryz.f126
 dsimp only [qaH, Nat.reduceAdd]
 refine zaa rfl fun K hK => b_op rfl (qa5 rfl rfl rfl ?_)
 refine mv rfl rfl (mv rfl rfl ?_)
 refine bf hK ⟨[(1, .str p1), (2, gF p0)], []⟩ ?_
 refine zad ?_
 refine zaa rfl fun K hK => bv rfl (qab ty27 rfl (qav rfl (lb rfl) rfl)) (mv rfl rfl ?_)
 obtain ⟨x1, h2, h⟩ := bS h
 refine b_op rfl (qaB rfl rfl rfl rfl (zai (qgX h2)) ?_)
 refine mv rfl rfl ?_
 refine bf hK ⟨[(1, .str p1), (2, gF p0), (6, hI x1)], []⟩ ?_
 refine zaa rfl fun K hK => mv rfl rfl (bv rfl (qae rfl rfl qcL) ?_)
 refine bf hK ⟨[(1, .str p1), (2, gF p0), (6, hI x1), (11, .bool (decide (x1 ≠ 0)))], []⟩ ?_
 refine zae rfl (fun hc => ?_) (fun hc => ?_)
 ·obtain ⟨hc, h⟩ := cT hc h
  refine zaa rfl fun K hK => mv rfl rfl (mv rfl rfl (mv rfl rfl ?_))
  refine bf hK ⟨[(4, .bool false), (5, hI x1)], []⟩ ?_
  obtain rfl := oi h
  exact AW.ret (qad (.inr rfl) (resT rfl (resT rfl rfl)) rfl ⟨trivial, trivial, trivial⟩)
 obtain ⟨hc, h⟩ := cF hc h
 refine zac ?_
 refine AW.dgs 9 follows rfl rfl fun K hK => ?_
 refine sv rfl (qab ty27 rfl (qav rfl (lb rfl) rfl)) ?_
 refine sv rfl (qab ty27 rfl (qav rfl (lb rfl) rfl)) ?_
 obtain ⟨x3, h4, h⟩ := bS h
 refine s_op rfl rfl (qaR rfl rfl rfl rfl (zai (qif h4)) ?_)
 refine sm rfl rfl ?_
 obtain ⟨x5, h6, h⟩ := bS h
 refine s_op rfl rfl (qaR rfl rfl rfl rfl (zai (qkS h6)) ?_)
 refine sv rfl (qaI rfl rfl ty31 rfl) ?_
 refine sv rfl (qae rfl rfl qbh) ?_
 iterate 2 refine sm rfl rfl ?_
 refine qbU ?_
 refine bf hK ⟨[(4, .bool (decide (0 < ((x5).length : Int)))), (5, hI 0)], []⟩ ?_
 obtain rfl := oi h
 exact AW.ret (qad (.inr rfl) (resT rfl (resT rfl rfl)) rfl ⟨trivial, trivial, trivial⟩)
theorem qie {p0 : qaa} {p1 : List UInt8} {r : Bool} (h : qcv p0 p1 = some r) : Pure Tryz.prog 77 [gA p0, .str p1] (· = HV.bool r) := by
 unfold qcv at h
 refine zaj Tryz.func77 rfl rfl (lb rfl) fun hf => ?_
 unfold Tryz.f77
 dsimp only [qaH, Nat.reduceAdd]
 refine zaa rfl fun K hK => b_op rfl (qa5 rfl rfl rfl ?_)
 refine mv rfl rfl ?_
 refine bf hK ⟨[(1, .str p1), (2, gF p0)], []⟩ ?_
 refine zaa rfl fun K hK => bv rfl (qab ty27 rfl (qav rfl (lb rfl) rfl)) (mv rfl rfl ?_)
 obtain ⟨x1, h2, h⟩ := bS h
 refine b_op rfl (qaB rfl rfl rfl rfl (zai (qig h2)) ?_)
 refine mv rfl rfl (bv rfl (qaq rfl rfl) (bv rfl (qaq rfl rfl) (mv rfl rfl (mv rfl rfl ?_))))
 refine bf hK ⟨[(5, .bool x1.1)], []⟩ ?_
 refine zaa rfl fun K hK => mv rfl rfl (mv rfl rfl ?_)
 refine bf hK ⟨[(4, .bool x1.1)], []⟩ ?_
 obtain rfl := oi h
 exact AW.ret (qad (.inr rfl) (resT rfl rfl) rfl trivial)
theorem qeB {p0 : List (List UInt8)} {p1 : qaa} {p2 : List UInt8} {p3 : List UInt8} {r : Bool} (h : qa7 p0 p1 p2 p3 = some r) : Pure Tryz.prog 88 [slE eStr p0, gA p1, .str p2, .str p3] (· = HV.bool r) := by
 unfold qa7 at h
 refine zaj Tryz.func88 rfl rfl (lb rfl) fun hf => ?_
 unfold Tryz.f88
 dsimp only [qaH, Nat.reduceAdd]
 refine zaa rfl fun K hK => b_op rfl (qa5 rfl rfl rfl ?_)
 refine mv rfl rfl ?_
 let P2 : ASf := fun t H => ⟨(0, slE eStr p0) :: (2, .str p2) :: (3, .str p3) :: (5, gF p1) :: t, H⟩
 refine bf hK (P2 [] []) ?_
 refine zad ?_
 refine zaa rfl fun K hK => mv rfl rfl ?_
 refine bf hK (P2 [(9, hI 0)] []) ?_
 refine AW.lpR h (by first | exact qaG | exact qbp) (S := Int) (V := Unit) (fun a v => (P2 [(9, hI a)] [])) ?_ (X := Unit) (W := Unit) (fun a v => ⟨[], []⟩) (fun a11 w12 h => ?_) (fun a1 w2 st3 h hr4=> ?_)
 ·exact to_L ⟨(), rfl⟩
 ·refine zaa rfl fun K hK => mv rfl rfl ?_
  refine bf hK ⟨[(8, .bool false)], []⟩ ?_
  obtain rfl := oi h
  exact AW.ret (qad (.inr rfl) (resT rfl rfl) rfl trivial)
 refine zad ?_
 refine zaa rfl fun K hK => mv rfl rfl (mv rfl rfl (bv rfl (qaI rfl rfl ty22 rfl) (bv rfl (qae rfl rfl qaV) ?_)))
 refine bf hK (P2 [(9, hI a1), (13, .bool (decide (a1 < ((p0).length : Int))))] []) ?_
 refine zae rfl (fun hc => ?_) (fun hc => ?_)
 ·obtain ⟨hc, h⟩ := cT hc h
  refine zac ?_
  refine zad (zaf ?_)
  refine AW.dgs 10 follows rfl rfl fun K hK => ?_
  refine sv rfl (qab ty27 rfl (qav rfl (lb rfl) rfl)) ?_
  iterate 3 refine sm rfl rfl ?_
  obtain ⟨x5, h6, h⟩ := bS h
  refine sv rfl (qaJ ty22 es22 rfl rfl (qaw h6)) ?_
  refine sv rfl (qab ty9 rfl (qaL eStr h6 (o := 0) rfl rfl)) ?_
  obtain ⟨h7, h⟩ := ifN h
  refine sv rfl (qae rfl rfl (qf2 h7)) ?_
  refine sm rfl rfl ?_
  obtain ⟨h8, h⟩ := ifN h
  refine sv rfl (qae rfl rfl (qf2 h8)) ?_
  obtain ⟨x9, h10, h⟩ := bS h
  refine s_op rfl rfl (qaR rfl rfl rfl rfl (zai (qie h10)) ?_)
  refine qbU ?_
  refine bf hK (P2 [(9, hI a1), (25, .bool x9)] []) ?_
  refine zae rfl (fun hc => ?_) (fun hc => ?_)
  ·have h := ifT hc h
   refine zaa rfl fun K hK => mv rfl rfl ?_
   refine bf hK ⟨[(8, .bool true)], []⟩ ?_
   have h := hr4 _ h
   obtain rfl := oi h
   exact AW.ret (qad (.inr rfl) (resT rfl rfl) rfl trivial)
  have h := ifF (bF' hc) h
  refine zac ?_
  refine zab rfl fun K hK => mv rfl rfl (bv rfl (qae rfl rfl qa6) (mv rfl rfl ?_))
  refine qah (hK _ ?_)
  exact to_L ⟨IntKind.wrap .i64 (a1 + 1), (), h, rfl⟩
 obtain ⟨hc, h⟩ := cF hc h
 refine AW.exit ?_
 exact to_L ⟨(), (), h, rfl⟩
theorem qfn {p0 : qaa} {r : Bool × Int} (h : qbm p0 = some r) : Pure Tryz.prog 99 [gA p0] (· = HV.tup [.bool r.1, hI r.2]) := by
 unfold qbm at h
 refine zaj Tryz.func99 rfl rfl (lb rfl) fun hf => ?_
 unfold Tryz.f99
 dsimp only [qaH, Nat.reduceAdd]
 refine zaa rfl fun K hK => b_op rfl (qa5 rfl rfl rfl ?_)
 refine mv rfl rfl (mv rfl rfl ?_)
 refine bf hK ⟨[(1, gF p0)], []⟩ ?_
 refine zad ?_
 refine zaa rfl fun K hK => bv rfl (qab ty27 rfl (qav rfl (lb rfl) rfl)) ?_
 obtain ⟨x1, h2, h⟩ := bS h
 refine b_op rfl (qaB rfl rfl rfl rfl (zai (qd4 h2)) ?_)
 refine bv rfl (qae rfl rfl qcL) ?_
 refine bf hK ⟨[(1, gF p0), (7, .bool (decide (x1 ≠ 0)))], []⟩ ?_
 refine zae rfl (fun hc => ?_) (fun hc => ?_)
 ·obtain ⟨hc, h⟩ := cT hc h
  refine zaa rfl fun K hK => mv rfl rfl (mv rfl rfl ?_)
  refine bf hK ⟨[(2, .bool false), (3, hI 1)], []⟩ ?_
  obtain rfl := oi h
  exact AW.ret (qad (.inr rfl) (resT rfl (resT rfl rfl)) rfl ⟨trivial, trivial, trivial⟩)
 obtain ⟨hc, h⟩ := cF hc h
 refine zac ?_
 refine zad ?_
 refine zaa rfl fun K hK => mv rfl rfl ?_
 refine bf hK ⟨[(1, gF p0), (4, hI 1)], []⟩ ?_
 refine AW.lpR h (by first | exact qaG | exact qbp) (S := Int) (V := Unit) (fun a v => ⟨[(1, gF p0), (4, hI a)], []⟩) ?_ (X := Unit) (W := Unit) (fun a v => ⟨[], []⟩) (fun a19 w20 h => ?_) (fun a3 w4 st5 h hr6=> ?_)
 ·exact to_L ⟨(), rfl⟩
 ·refine zaa rfl fun K hK => mv rfl rfl (mv rfl rfl ?_)
  refine bf hK ⟨[(2, .bool true), (3, hI 0)], []⟩ ?_
  obtain rfl := oi h
  exact AW.ret (qad (.inr rfl) (resT rfl (resT rfl rfl)) rfl ⟨trivial, trivial, trivial⟩)
 refine zad ?_
 refine zaa rfl fun K hK => mv rfl rfl (bv rfl (qac qbi rfl) (bv rfl (qab ty25 rfl (qan rfl rfl)) (bv rfl (qaI rfl rfl ty25 rfl) (bv rfl (qae rfl rfl qaV) ?_))))
 refine bf hK ⟨[(1, gF p0), (4, hI a3), (12, .bool (decide (a3 < ((p0.2.2).length : Int))))], []⟩ ?_
 refine zae rfl (fun hc => ?_) (fun hc => ?_)
 ·obtain ⟨hc, h⟩ := cT hc h
  refine zac ?_
  refine zad (zaf ?_)
  refine zag h (S := Bool) (V := Unit) (fun a v => ⟨[(1, gF p0), (4, hI a3), (44, .bool a)], []⟩) (fun a7 w8 h => ?_) (fun k9 h => ?_)
  ·refine zae rfl (fun hc => ?_) (fun hc => ?_)
   ·have h := ifT hc h
    refine zaa rfl fun K hK => mv rfl rfl (mv rfl rfl ?_)
    refine bf hK ⟨[(2, .bool false), (3, hI 0)], []⟩ ?_
    have h := hr6 _ h
    obtain rfl := oi h
    exact AW.ret (qad (.inr rfl) (resT rfl (resT rfl rfl)) rfl ⟨trivial, trivial, trivial⟩)
   have h := ifF (bF' hc) h
   refine zac ?_
   refine zab rfl fun K hK => mv rfl rfl (bv rfl (qae rfl rfl qa6) (mv rfl rfl ?_))
   refine qah (hK _ ?_)
   exact to_L ⟨IntKind.wrap .i64 (a3 + 1), (), h, rfl⟩
  refine AW.dg 30 follows rfl rfl fun K hK => ?_
  refine sv rfl (qac qbi rfl) ?_
  refine sv rfl (qab ty25 rfl (qan rfl rfl)) ?_
  refine sm rfl rfl ?_
  obtain ⟨x10, h11, h⟩ := bS h
  refine sv rfl (qaJ ty25 es25 rfl rfl (qaw h11)) ?_
  refine sv rfl (qac qcC rfl) ?_
  refine sv rfl (qab ty3 rfl (qaL eFromLabelTo h11 (o := 0) rfl rfl)) ?_
  refine sv rfl (qac qbi rfl) ?_
  refine sv rfl (qab ty25 rfl (qan rfl rfl)) ?_
  refine sm rfl rfl ?_
  refine sv rfl (qae rfl rfl qhk) ?_
  obtain ⟨x12, h13, h⟩ := bS h
  refine sv rfl (qaJ ty25 es25 rfl rfl (qaw h13)) ?_
  refine sv rfl (qac qcC rfl) ?_
  refine sv rfl (qab ty3 rfl (qaL eFromLabelTo h13 (o := 0) rfl rfl)) ?_
  refine sv rfl (qae rfl rfl qd1) ?_
  refine sm rfl rfl ?_
  by_cases hg18 : x10.1 = x12.1
  ·have h := ifT hg18 h
   refine s_T rfl rfl rfl rfl rfl (decide_eq_true hg18) (qat rfl (qac qbi rfl) ?_)
   refine s_T rfl rfl rfl rfl rfl rfl (qat rfl (qab ty25 rfl (qan rfl rfl)) ?_)
   refine s_T rfl rfl rfl rfl rfl rfl (qat rfl (qas rfl rfl).2 ?_)
   obtain ⟨x14, h15, h⟩ := bS h
   refine s_T rfl rfl rfl rfl rfl rfl (qat rfl (qaJ ty25 es25 rfl rfl (qaw h15)) ?_)
   refine s_T rfl rfl rfl rfl rfl rfl (qat rfl (qac qdC rfl) ?_)
   refine s_T rfl rfl rfl rfl rfl rfl (qat rfl (qab ty3 rfl (qaL eFromLabelTo h15 (o := 1) rfl rfl)) ?_)
   refine s_T rfl rfl rfl rfl rfl rfl (qat rfl (qac qbi rfl) ?_)
   refine s_T rfl rfl rfl rfl rfl rfl (qat rfl (qab ty25 rfl (qan rfl rfl)) ?_)
   refine s_T rfl rfl rfl rfl rfl rfl (qat rfl (qas rfl rfl).2 ?_)
   refine s_T rfl rfl rfl rfl rfl rfl (qat rfl (qae rfl rfl qhk) ?_)
   obtain ⟨x16, h17, h⟩ := bS h
   refine s_T rfl rfl rfl rfl rfl rfl (qat rfl (qaJ ty25 es25 rfl rfl (qaw h17)) ?_)
   refine s_T rfl rfl rfl rfl rfl rfl (qat rfl (qac qdC rfl) ?_)
   refine s_T rfl rfl rfl rfl rfl rfl (qat rfl (qab ty3 rfl (qaL eFromLabelTo h17 (o := 1) rfl rfl)) ?_)
   refine s_T rfl rfl rfl rfl rfl rfl (qat rfl (qae rfl rfl qd1) ?_)
   refine sv rfl (qaj rfl rfl rfl) ?_
   refine qbU ?_
   refine qah (hK _ ?_)
   exact to_L ⟨decide (x14.2.1 = x16.2.1), (), h, rfl⟩
  have h := ifF hg18 h
  refine s_F rfl rfl rfl rfl rfl (decide_eq_false hg18) ?_
  iterate 13 refine s_F rfl rfl rfl rfl rfl rfl ?_
  refine sv rfl (qak rfl rfl rfl) ?_
  refine qbU ?_
  refine qah (hK _ ?_)
  exact to_L ⟨false, (), h, rfl⟩
 obtain ⟨hc, h⟩ := cF hc h
 refine AW.exit ?_
 exact to_L ⟨(), (), h, rfl⟩
theorem qih {p0 : qaa} {p1 : Int} {r : (List (Bool))} (h : qcw p0 p1 = some r) : Pure Tryz.prog 190 [gA p0, hI p1] (· = slE eBool r) := by
 unfold qcw at h
 refine zaj Tryz.func190 rfl rfl (lb rfl) fun hf => ?_
 unfold Tryz.f190
 dsimp only [qaH, Nat.reduceAdd]
 refine zaa rfl fun K hK => b_op rfl (qa5 rfl rfl rfl ?_)
 refine mv rfl rfl ?_
 refine bf hK ⟨[(1, hI p1), (2, gF p0)], []⟩ ?_
 refine zaa rfl fun K hK => bv rfl (qac qcp rfl) (bv rfl (qab ty3 rfl (qan rfl rfl)) ?_)
 obtain ⟨h2, h⟩ := ifN h
 refine b_op rfl (qfC (fid := 190) eBool (false : Bool) 190010 rfl rfl qdM rfl rfl ty4 rfl rfl h2 (fun v1 => ?_))
 refine mv rfl rfl ?_
 refine bf hK ⟨[(1, hI p1), (2, gF p0), (5, .ar 190010 v1 eBool.k 0 ((List.replicate (p0.2.1).toNat (false : Bool)).length))], [(190010, v1, .arr eBool.k 4 (eBool.E (List.replicate (p0.2.1).toNat (false : Bool))))]⟩ ?_
 refine zaa rfl fun K hK => mv rfl rfl (mv rfl rfl ?_)
 obtain ⟨x3, h4, h⟩ := bS h
 refine bv rfl (qd2 qdM qkJ rfl rfl (qaw h4) rfl) ?_
 refine b_op rfl (qe3 eBool (l := (List.replicate (p0.2.1).toNat (false : Bool))) (j := p1) (v := true) rfl rfl rfl ty4 rfl rfl rfl (qaw h4) ?_)
 let E3 : Nat × HV := (5, .ar 190010 v1 eBool.k 0 (((List.replicate (p0.2.1).toNat (false : Bool)).set (p1).toNat true).length))
 let O4 : Nat × Nat × AObj := (190010, v1, .arr eBool.k 4 (eBool.E ((List.replicate (p0.2.1).toNat (false : Bool)).set (p1).toNat true)))
 let P3 : ASf := fun t H => ⟨(2, gF p0) :: t, H⟩
 refine qnY hK (s' := (P3 [E3] [O4])) (zak ⟨rfl, arl (by first | rfl | simp only [List.length_set, qcP, qbN]), trivial⟩ ⟨rfl, trivial⟩) ?_
 refine zad ?_
 refine zaa rfl fun K hK => mv rfl rfl ?_
 refine bf hK (P3 [E3, (6, hI 0)] [O4]) ?_
 refine AW.lpX h (by first | exact qaG | exact qbp) (S := Int × (List Bool)) (V := Unit) (fun a v => (P3 [(5, .ar 190010 v1 eBool.k 0 ((a.2).length)), (6, hI a.1)] [(190010, v1, .arr eBool.k 4 (eBool.E a.2))])) ?_ (X := (List Bool)) (W := Unit) (fun a v => ⟨[(5, .ar 190010 v1 eBool.k 0 ((a).length))], [(190010, v1, .arr eBool.k 4 (eBool.E a))]⟩) (fun a28 w29 h => ?_) (fun a5 w6 st7 h => ?_)
 ·exact to_L ⟨(), rfl⟩
 ·refine zaa rfl fun K hK => mv rfl rfl (mv rfl rfl ?_)
  refine bf hK ⟨[(4, .ar 190010 v1 eBool.k 0 ((a28).length))], [(190010, v1, .arr eBool.k 4 (eBool.E a28))]⟩ ?_
  refine AW.to (qdN 2 [(190010, v1, .arr eBool.k 4 (eBool.E a28))] ⟨[(4, slE eBool a28)], []⟩ ⟨⟨_, rfl, qbw eBool (l := a28) rfl fun _ _ => rfl⟩, trivial⟩ trivial ⟨rfl, trivial⟩ ⟨rfl, trivial⟩ ?_)
  obtain rfl := oi h
  exact AW.ret (qad (.inr rfl) (resT rfl rfl) rfl (qai fun _ _ => ⟨trivial, trivial⟩))
 refine zad ?_
 refine zaa rfl fun K hK => mv rfl rfl (bv rfl (qac qcp rfl) (bv rfl (qab ty3 rfl (qan rfl rfl)) (bv rfl (qae rfl rfl qaV) ?_)))
 refine bf hK (P3 [(5, .ar 190010 v1 eBool.k 0 ((a5.2).length)), (6, hI a5.1), (17, .bool (decide (a5.1 < p0.2.1)))] [(190010, v1, .arr eBool.k 4 (eBool.E a5.2))]) ?_
 refine zae rfl (fun hc => ?_) (fun hc => ?_)
 ·obtain ⟨hc, h⟩ := cT hc h
  refine zac ?_
  refine zad (zaf ?_)
  refine zaa rfl fun K hK => mv rfl rfl ?_
  refine bf hK (P3 [(5, .ar 190010 v1 eBool.k 0 ((a5.2).length)), (6, hI a5.1), (7, hI 0)] [(190010, v1, .arr eBool.k 4 (eBool.E a5.2))]) ?_
  refine AW.lpX h (by first | exact qaG | exact qbp) (S := Int × (List Bool)) (V := Unit) (fun a v => (P3 [(5, .ar 190010 v1 eBool.k 0 ((a.2).length)), (6, hI a5.1), (7, hI a.1)] [(190010, v1, .arr eBool.k 4 (eBool.E a.2))])) ?_ (X := (List Bool)) (W := Unit) (fun a v => (P3 [(5, .ar 190010 v1 eBool.k 0 ((a).length)), (6, hI a5.1)] [(190010, v1, .arr eBool.k 4 (eBool.E a))])) (fun a26 w27 h => ?_) (fun a9 w10 st11 h => ?_)
  ·exact to_L ⟨(), rfl⟩
  ·refine zab rfl fun K hK => mv rfl rfl (bv rfl (qae rfl rfl qa6) (mv rfl rfl ?_))
   refine qah (hK _ ?_)
   exact to_L ⟨(IntKind.wrap .i64 (a5.1 + 1), a26), (), h, rfl⟩
  refine zad ?_
  refine zaa rfl fun K hK => mv rfl rfl (bv rfl (qac qbi rfl) (bv rfl (qab ty25 rfl (qan rfl rfl)) (bv rfl (qaI rfl rfl ty25 rfl) (bv rfl (qae rfl rfl qaV) ?_))))
  refine bf hK (P3 [(5, .ar 190010 v1 eBool.k 0 ((a9.2).length)), (6, hI a5.1), (7, hI a9.1), (24, .bool (decide (a9.1 < ((p0.2.2).length : Int))))] [(190010, v1, .arr eBool.k 4 (eBool.E a9.2))]) ?_
  refine zae rfl (fun hc => ?_) (fun hc => ?_)
  ·obtain ⟨hc, h⟩ := cT hc h
   refine zac ?_
   refine zag h (S := (List Bool)) (V := Unit) (fun a v => (P3 [(5, .ar 190010 v1 eBool.k 0 ((a).length)), (6, hI a5.1), (7, hI a9.1)] [(190010, v1, .arr eBool.k 4 (eBool.E a))])) (fun a13 w14 h => ?_) (fun k15 h => ?_)
   ·refine zab rfl fun K hK => mv rfl rfl (bv rfl (qae rfl rfl qa6) (mv rfl rfl ?_))
    refine qah (hK _ ?_)
    exact to_L ⟨(IntKind.wrap .i64 (a9.1 + 1), a13), (), h, rfl⟩
   refine zaf ?_
   refine zaa rfl fun K hK => mv rfl rfl (bv rfl (qac qbi rfl) (bv rfl (qab ty25 rfl (qan rfl rfl)) (mv rfl rfl ?_)))
   obtain ⟨x16, h17, h⟩ := bS h
   refine bv rfl (qaJ ty25 es25 rfl rfl (qaw h17)) (bv rfl (qac qcC rfl) (bv rfl (qab ty3 rfl (qaL eFromLabelTo h17 (o := 0) rfl rfl)) ?_))
   obtain ⟨x18, h19, h⟩ := bS h
   refine bv rfl (qd2 qdM qkJ rfl rfl (qaw h19) rfl) ?_
   obtain ⟨x20, h21, h⟩ := bS h
   refine bv rfl (qar ty4 rfl rfl (qaL eBool h21 (o := 0) rfl rfl)) ?_
   refine bf hK (P3 [(5, .ar 190010 v1 eBool.k 0 ((a9.2).length)), (6, hI a5.1), (7, hI a9.1), (35, .bool x20)] [(190010, v1, .arr eBool.k 4 (eBool.E a9.2))]) ?_
   refine zae rfl (fun hc => ?_) (fun hc => ?_)
   ·have h := ifT hc h
    refine zab rfl fun K hK => mv rfl rfl (bv rfl (qac qbi rfl) (bv rfl (qab ty25 rfl (qan rfl rfl)) (mv rfl rfl ?_)))
    obtain ⟨x22, h23, h⟩ := bS h
    refine bv rfl (qaJ ty25 es25 rfl rfl (qaw h23)) (bv rfl (qac qdZ rfl) (bv rfl (qab ty3 rfl (qaL eFromLabelTo h23 (o := 2) rfl rfl)) ?_))
    obtain ⟨x24, h25, h⟩ := bS h
    refine bv rfl (qd2 qdM qkJ rfl rfl (qaw h25) rfl) ?_
    refine b_op rfl (qe3 eBool (l := a9.2) (j := x22.2.2) (v := true) rfl rfl rfl ty4 rfl rfl rfl (qaw h25) ?_)
    refine qah (hK _ ?_)
    exact qa9 (s' := (P3 [(5, .ar 190010 v1 eBool.k 0 (((a9.2).set (x22.2.2).toNat true).length)), (6, hI a5.1), (7, hI a9.1)] [(190010, v1, .arr eBool.k 4 (eBool.E ((a9.2).set (x22.2.2).toNat true)))])) (zak ⟨rfl, arl (by first | rfl | simp only [List.length_set, qcP, qbN]), rfl, rfl, trivial⟩ ⟨rfl, trivial⟩) ⟨(a9.2).set (x22.2.2).toNat true, (), h, rfl⟩
   have h := ifF (bF' hc) h
   refine zac ?_
   exact to_L ⟨a9.2, (), h, rfl⟩
  obtain ⟨hc, h⟩ := cF hc h
  refine AW.exit ?_
  exact to_L ⟨a9.2, (), h, rfl⟩
 obtain ⟨hc, h⟩ := cF hc h
 refine AW.exit ?_
 exact to_L ⟨a5.2, (), h, rfl⟩
end Go.AW
