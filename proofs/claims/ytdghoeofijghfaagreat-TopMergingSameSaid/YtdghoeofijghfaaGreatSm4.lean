import Derived.Test.YtdghoeofijghfaaGreatSm3
import Derived.DeepKeys3
import Derived.Maps.Keyed
import Derived.WideKeyEntry
import Derived.WideKeyMaps
namespace Go.AW
open Go
structure Lq {α : Type} (x y : Option α) : Prop where
 ap : ∀ r, x = some r → y = some r
theorem Lq.refl {α : Type} (x : Option α) : Lq x x := ⟨fun _ h => h⟩
theorem Lq.none {α : Type} {y : Option α} : Lq Option.none y := ⟨fun _ h => by cases h⟩
theorem Lq.bind {α β : Type} {x y : Option α} {f g : α → Option β} (h : Lq x y) (hk : ∀ a, Lq (f a) (g a)) : Lq (x.bind f) (y.bind g) := by
 refine ⟨fun r hr => ?_⟩
 obtain ⟨a, ha, hf⟩ := bS hr
 rw [h.ap a ha]
 exact (hk a).ap r hf
theorem Lq.ite {α : Type} {p : Prop} [Decidable p] {a a' b b' : Option α} (h1 : Lq a a') (h2 : Lq b b') : Lq (if p then a else b) (if p then a' else b') := by
 refine ⟨fun r hr => ?_⟩
 by_cases hp : p
 ·rw [if_pos hp] at hr ⊢; exact h1.ap r hr
 rw [if_neg hp] at hr ⊢; exact h2.ap r hr
theorem Lq.jp {S R : Type} {M M' : S → Option R} {B B' : (S → Option R) → Option R} (hM : ∀ a, Lq (M a) (M' a)) (hB : ∀ k k' : S → Option R, (∀ a, Lq (k a) (k' a)) → Lq (B k) (B' k')) : Lq (Go.AW.jp M B) (Go.AW.jp M' B') := hB _ _ hM
theorem iter_mono {S X : Type} {f g : S → Option (Stp S X)} (h : ∀ s, Lq (f s) (g s)) : ∀ (n : Nat) (s : S) (r : X), iter f n s = some r → iter g n s = some r
 | 0, _, _, hr => hr
 | n + 1, s, r, hr => by
  simp only [iter] at hr ⊢
  split at hr
  ·rename_i s' hs
   rw [(h s).ap _ hs]
   exact iter_mono h n s' r hr
  ·rename_i x hs
   rw [(h s).ap _ hs]
   exact hr
  cases hr
def loopE {S X : Type} (body : S → Option (Stp S X)) (s : S) : Option X := iter body 1000000 s
theorem Lq.loop {S X : Type} {f g : S → Option (Stp S X)} {s : S} (h : ∀ s, Lq (f s) (g s)) : Lq (loopE f s) (loopW g s) := ⟨fun r hr => loopW_of (iter_mono h _ s r hr)⟩
theorem Lq.lpO {V R Y : Type} {x y : Option (Ou V R)} {M M' : V → Option Y} {Rt Rt' : R → Option Y} (h : Lq x y) (hM : ∀ v, Lq (M v) (M' v)) (hR : ∀ r, Lq (Rt r) (Rt' r)) : Lq (Go.AW.lpO x M Rt) (Go.AW.lpO y M' Rt') := by
 refine ⟨fun r hr => ?_⟩
 unfold Go.AW.lpO at hr ⊢
 split at hr
 ·rename_i v
  rw [h.ap _ rfl]; exact (hM v).ap r hr
 ·rename_i v
  rw [h.ap _ rfl]; exact (hR v).ap r hr
 cases hr
theorem forL_mono {S α X : Type} {f g : S → α → Option (Stp S X)} (h : ∀ s a, Lq (f s a) (g s a)) : ∀ (l : List α) (s : S) (r : Ou S X), forL f l s = some r → forL g l s = some r
 | [], _, _, hr => hr
 | x :: l, s, r, hr => by
  simp only [forL] at hr ⊢
  split at hr
  ·rename_i s' hs
   rw [(h s x).ap _ hs]
   exact forL_mono h l s' r hr
  ·rename_i y hs
   rw [(h s x).ap _ hs]
   exact hr
  cases hr
theorem Lq.forL {S α X : Type} {f g : S → α → Option (Stp S X)} {l : List α} {s : S} (h : ∀ s a, Lq (f s a) (g s a)) : Lq (Go.AW.forL f l s) (Go.AW.forL g l s) := ⟨forL_mono h l s⟩
set_option linter.unusedVariables false
def cz_delay_rests (p0 : TLettersWords) (p1 : List UInt8) (p2 : Int) : Option ((List (List UInt8))) :=
 if p1 ≠ ([] : List UInt8) then
  (idx p1 0).bind fun x1 =>
  if (x1.toNat : Int) ≠ p2 then
   some []
  else
   if 0 ≤ (1 : Int) ∧ (1 : Int) ≤ ((p1).length : Int) ∧ ((p1).length : Int) ≤ (p1.length : Int) then
    some [(p1.take (((p1).length : Int)).toNat).drop (1 : Int).toNat]
   else none
 else
  (loopE (S := Int × (List (List UInt8))) (X := (List (List UInt8))) (fun a4 =>
      if a4.1 < ((p0.2).length : Int) then
       jp (fun (a8 : (List (List UInt8))) =>
         some (Stp.next (IntKind.wrap .i64 (a4.1 + 1), a8)))
         fun k10 =>
        (idx p0.2 a4.1).bind fun x11 =>
        (idx x11 0).bind fun x13 =>
        if (x13.toNat : Int) = p2 then
         if 0 ≤ (1 : Int) ∧ (1 : Int) ≤ ((x11).length : Int) ∧ ((x11).length : Int) ≤ (x11.length : Int) then
          if fits 16 ((a4.2 : List (List UInt8)).length + ([(x11.take (((x11).length : Int)).toNat).drop (1 : Int).toNat]).length) then
           k10 (a4.2 ++ [(x11.take (((x11).length : Int)).toNat).drop (1 : Int).toNat])
          else none
         else none
        else
         k10 a4.2
      else
       some (Stp.exit a4.2)) (0, ([] : List (List UInt8)))).bind fun a19 =>
  some a19
set_option maxHeartbeats 1600000 in
theorem lz_delay_rests {p0 : TLettersWords} {p1 : List UInt8} {p2 : Int} : Lq (cz_delay_rests p0 p1 p2) (m_delay_rests p0 p1 p2) := by
 unfold cz_delay_rests m_delay_rests
 repeat' with_reducible first | intro _ | exact Lq.refl _ | exact Lq.none | apply Lq.ite | apply Lq.bind | apply Lq.jp | apply Lq.loop | apply Lq.lpO | apply Lq.forL | apply_assumption
def cz_delay_races_after (p0 : TCReach) (p1 : TFirstSecond) (p2 : Int) : Option ((List (TFirstSecond))) :=
 (cz_delay_rests (p0.1.1, p0.1.2) p1.1 p2).bind fun x1 =>
 (loopE (S := Int × (List TFirstSecond)) (X := (List TFirstSecond)) (fun a3 =>
     if a3.1 < ((x1).length : Int) then
      (idx x1 a3.1).bind fun x7 =>
      (cz_delay_rests (p0.1.1, p0.1.2) p1.2 p2).bind fun x9 =>
      (loopE (S := Int × (List TFirstSecond)) (X := (List TFirstSecond)) (fun a11 =>
          if a11.1 < ((x9).length : Int) then
           (idx x9 a11.1).bind fun x15 =>
           if fits 32 ((a11.2 : List TFirstSecond).length + ([(x7, x15)]).length) then
            some (Stp.next (IntKind.wrap .i64 (a11.1 + 1), a11.2 ++ [(x7, x15)]))
           else none
          else
           some (Stp.exit a11.2)) (0, a3.2)).bind fun a19 =>
      some (Stp.next (IntKind.wrap .i64 (a3.1 + 1), a19))
     else
      some (Stp.exit a3.2)) (0, ([] : List TFirstSecond))).bind fun a22 =>
 some a22
set_option maxHeartbeats 1600000 in
theorem lz_delay_races_after {p0 : TCReach} {p1 : TFirstSecond} {p2 : Int} : Lq (cz_delay_races_after p0 p1 p2) (m_delay_races_after p0 p1 p2) := by
 unfold cz_delay_races_after m_delay_races_after
 repeat' with_reducible first | intro _ | exact Lq.refl _ | exact Lq.none | apply Lq.ite | apply Lq.bind | apply Lq.jp | apply Lq.loop | apply Lq.lpO | apply Lq.forL | apply_assumption | apply lz_delay_rests
abbrev cod35 : TLettersWords := (2, [[48], [48, 48, 49]])
theorem rest35_0 : m_delay_rests cod35 [] 48 = some [[], [48, 49]] := lz_delay_rests.ap _ (by decide +kernel : cz_delay_rests cod35 [] 48 = some [[], [48, 49]])
theorem rest35_1 : m_delay_rests cod35 [] 49 = some [] := lz_delay_rests.ap _ (by decide +kernel : cz_delay_rests cod35 [] 49 = some [])
theorem rest35_2 : m_delay_rests cod35 [48, 49] 49 = some [] := lz_delay_rests.ap _ (by decide +kernel : cz_delay_rests cod35 [48, 49] 49 = some [])
theorem aft35 (z : Nat × Nat) (x : TFirstSecond) (l : Int) : cz_delay_races_after (cod35, z) x l = cz_delay_races_after (cod35, (0, 0)) x l := rfl
theorem aft35_A0 (z : Nat × Nat) : m_delay_races_after (cod35, z) ([], [48, 49]) 48 = some [([], [49]), ([48, 49], [49])] := lz_delay_races_after.ap _ ((aft35 z ([], [48, 49]) 48).trans (by decide +kernel))
theorem aft35_A1 (z : Nat × Nat) : m_delay_races_after (cod35, z) ([], [48, 49]) 49 = some [] := lz_delay_races_after.ap _ ((aft35 z ([], [48, 49]) 49).trans (by decide +kernel))
theorem aft35_B0 (z : Nat × Nat) : m_delay_races_after (cod35, z) ([], [49]) 48 = some [] := lz_delay_races_after.ap _ ((aft35 z ([], [49]) 48).trans (by decide +kernel))
theorem aft35_B1 (z : Nat × Nat) : m_delay_races_after (cod35, z) ([], [49]) 49 = some [] := lz_delay_races_after.ap _ ((aft35 z ([], [49]) 49).trans (by decide +kernel))
theorem aft35_C0 (z : Nat × Nat) : m_delay_races_after (cod35, z) ([48, 49], [49]) 48 = some [] := lz_delay_races_after.ap _ ((aft35 z ([48, 49], [49]) 48).trans (by decide +kernel))
theorem aft35_C1 (z : Nat × Nat) : m_delay_races_after (cod35, z) ([48, 49], [49]) 49 = some [] := lz_delay_races_after.ap _ ((aft35 z ([48, 49], [49]) 49).trans (by decide +kernel))
section
open Go Go.MapKept
structure IsKv (P : Program) (kt : TypeId) (h : HV) (v : Value) : Prop where
 rep : ∀ w μ x, Rep w μ h x → x = v
 lit : ∃ l, keyOf P kt v = some l
def noIt (id : Nat) (H : Heap) : Prop := ∀ j v mv seen cur, hget H j ≠ some (v, .iter id mv seen cur)
theorem noIt_nil {id : Nat} : noIt id [] := fun _ _ _ _ _ h => by cases h
theorem noIt_cons {id i v : Nat} {o : AObj} {H : Heap} (ho : ∀ mv seen cur, o ≠ .iter id mv seen cur) (h : noIt id H) : noIt id ((i, v, o) :: H) := fun j u mv seen cur hj => by
 simp only [hget] at hj
 split at hj
 ·cases hj; exact ho _ _ _ rfl
 exact h _ _ _ _ _ hj
section
variable {P : Program} {ro : Option Nat} {N : Nat} {s : AS} {w w' : World} {μ : Mu} {H : Heap}
structure KPut (es es' : List (Value × Value)) (kv v : Value) : Prop where
 old : ∀ e ∈ es', e ∈ es ∨ e = (kv, v)
 new : (kv, v) ∈ es'
 keep : ∀ e ∈ es, e.1 ≠ kv → e ∈ es'
end
section
variable {P : Program} {ro : Option Nat} {N : Nat} {o : Oper} {sl : List (Nat × HV)} {H : Heap} {all : Array Oper} {rest : List Oper} {K : AS → Prop}
theorem ret_A {s : AS} {rvs : List ResultVar} {hs : List HV} {q : HV} {e : Exit} {K : HV → Heap → Prop} (he : e = .normal ∨ e = .ret) (hr : resAll P s rvs fun hs' => hs' = hs) (hj : joinR hs = q) (hk : K q s.heap) : retQ P rvs K e s :=
 ⟨he, resAll_mono hr fun hs' e => by subst e; exact ⟨q, s.heap, by rw [hj]; exact Conv.refl _ _, hk⟩⟩
end
end
section
open Go Go.MapKept
section
variable {K V : Type}
structure KeyT (P : Program) (kt : TypeId) (kh : K → HV) (kf : K → Value) (wf : K → Bool) : Prop where
 law : Go.Maps.Keyed P kt
 inj : ∀ a b, kf a = kf b → a = b
 kv : ∀ k, wf k = true → IsKv P kt (kh k) (kf k)
variable {P : Program} {kt : TypeId} {kh : K → HV} {kf : K → Value} {wf : K → Bool}
variable [DecidableEq K] [DecidableEq V]
end
section
variable {P : Program} {ro : Option Nat} {N : Nat} {o : Oper} {sl : List (Nat × HV)} {H : Heap} {all : Array Oper} {rest : List Oper} {Q : AS → Prop}
variable {K V : Type} [DecidableEq K] [DecidableEq V] {kt : TypeId} {kh : K → HV} {kf : K → Value} {wf : K → Bool}
end
theorem l_part {α : Type} (c : EncL α) {T : TyI} {l : List α} {j : Int} {x : α} (h : idx l j = some x) {o : Nat} {cs : List HV} (ha : aggD T.desc = true) (hs : o + T.size ≤ c.k) (hc : ((c.C x).drop o).take T.size = cs) : loadK T (c.E l) (j.toNat * c.k + o) (· = .agg cs) := by
 have h1 := idx_lt h
 refine l_litA ha ?_ ?_
 ·rw [c.len]
  have : (j.toNat + 1) * c.k ≤ l.length * c.k := Nat.mul_le_mul_right _ (by omega)
  rw [Nat.succ_mul] at this
  omega
 rw [← hc, ← c.part h, List.drop_take, List.drop_drop, List.take_take, Nat.min_eq_left (by omega)]
structure RevI (P : Program) (f : FuncId) : Prop where
 arr : ∀ (H : Heap) (id ver : Nat) (e : TypeId) (l : List Int) (K : HV → Heap → Prop), hget H id = some (ver, .arr 1 e (l.map (.int .i64))) → l.length < 4611686018427387904 → K (.tup []) (hset H id ver (.arr 1 e (l.reverse.map (.int .i64)))) → ACall P f [.ar id ver 1 0 l.length] H K
section
variable {P : Program} {ro : Option Nat} {N : Nat} {o : Oper} {sl : List (Nat × HV)} {H : Heap} {all : Array Oper} {rest : List Oper} {K : AS → Prop}
end
end
section
open Go Go.MapKept
set_option linter.unusedSimpArgs false
section
variable {K : Type}
def gcan (kf : K → Value) (e : List (K × HV)) : List (Value × HV) := e.map fun x => (kf x.1, x.2)
variable [DecidableEq K]
def glook (k : K) : List (K × HV) → Option HV
 | [] => none
 | (q, h) :: l => if q = k then some h else glook k l
def gput (k : K) (v : HV) : List (K × HV) → List (K × HV)
 | [] => [(k, v)]
 | (q, h) :: l => if q = k then (k, v) :: l else (q, h) :: gput k v l
theorem glook_none {k : K} : ∀ {l : List (K × HV)}, glook k l = none ↔ ∀ x ∈ l, x.1 ≠ k
 | [] => by simp [glook]
 | (q, h) :: l => by
  unfold glook
  split
  ·rename_i e; simp [e]
  rename_i e; rw [glook_none]; simp [e]
theorem gput_new {k : K} {v : HV} : ∀ {l : List (K × HV)}, glook k l = none → gput k v l = l ++ [(k, v)]
 | [], _ => rfl
 | (q, h) :: l, hh => by
  unfold glook at hh
  unfold gput
  split at hh
  ·cases hh
  rename_i e
  rw [if_neg e, gput_new hh]; rfl
theorem glook_at {k : K} : ∀ {l : List (K × HV)} {j : Nat} {h : HV}, (l.map (·.1)).Nodup → l[j]? = some (k, h) → glook k l = some h ∧ ∀ v, gput k v l = l.modify j fun x => (x.1, v)
 | [], _, _, _, hj => by simp at hj
 | (q, g) :: l, 0, h, hn, hj => by
  have e : q = k ∧ g = h := by simpa using hj
  obtain ⟨rfl, rfl⟩ := e
  exact ⟨by simp [glook], fun v => by simp [gput]⟩
 | (q, g) :: l, j + 1, h, hn, hj => by
  simp only [List.map_cons, List.nodup_cons] at hn
  have hj : l[j]? = some (k, h) := by simpa using hj
  have hq : q ≠ k := fun e => hn.1 (by rw [e]; exact List.mem_map.2 ⟨_, List.mem_of_getElem? hj, rfl⟩)
  obtain ⟨h1, h2⟩ := glook_at hn.2 hj
  exact ⟨by simp [glook, hq, h1], fun v => by simp [gput, hq, h2]⟩
end
section
variable {P : Program} {ro : Option Nat} {N : Nat} {s : AS} {w w' : World} {μ : Mu} {H : Heap}
variable {K : Type} {kt : TypeId} {kh : K → HV} {kf : K → Value} {wf : K → Bool}
theorem gkeys_at {e : List (K × HV)} {ents : List MapEntry} (hk : ents.map (·.key) = (gcan kf e).map (·.1)) {j : Nat} {x : MapEntry} (he : ents[j]? = some x) : ∃ p, e[j]? = some p ∧ x.key = kf p.1 := by
 have h1 : (ents.map (·.key))[j]? = some x.key := by rw [List.getElem?_map, he]; rfl
 rw [hk] at h1
 simp only [gcan, List.map_map, List.getElem?_map] at h1
 cases hp : e[j]? with
 | none => rw [hp] at h1; cases h1
 | some p => rw [hp] at h1; exact ⟨p, rfl, (Option.some.inj h1).symm⟩
theorem gvals (e : List (K × HV)) : (gcan kf e).map (·.2) = e.map (·.2) := by simp [gcan]
theorem gnodup (hinj : ∀ a b, kf a = kf b → a = b) {e : List (K × HV)} : ((gcan kf e).map (·.1)).Nodup ↔ (e.map (·.1)).Nodup := by
 have h : (gcan kf e).map (·.1) = (e.map (·.1)).map kf := by simp [gcan]
 rw [h]
 show List.Pairwise _ _ ↔ List.Pairwise _ _
 rw [List.pairwise_map]
 exact ⟨fun h => h.imp fun hne e => hne (by rw [e]), fun h => h.imp fun hne e => hne (hinj _ _ e)⟩
variable [DecidableEq K]
theorem find_g (T : KeyT P kt kh kf wf) (w : World) {k : K} (hk : wf k = true) {ents : Array MapEntry} {e : List (K × HV)} (he : ents.toList.map (·.key) = (gcan kf e).map (·.1)) (hv : RepL w μ ((gcan kf e).map (·.2)) (ents.toList.map (·.val))) (hn : ((gcan kf e).map (·.1)).Nodup) (hw : ∀ x ∈ e, wf x.1 = true) :
  ((Instr.findKey kt (kf k) ents.toList).run P w = .ok none w ∧ glook k e = none) ∨
  ∃ j x h, (Instr.findKey kt (kf k) ents.toList).run P w = .ok (some (j, x.val)) w ∧ ents.toList[j]? = some x ∧ x.key = kf k ∧ e[j]? = some (k, h) ∧ glook k e = some h ∧ Rep w μ h x.val ∧ ∀ v, gput k v e = e.modify j fun y => (y.1, v) := by
 obtain ⟨l, hl⟩ := (T.kv k hk).lit
 have hkeys : ∀ x ∈ ents.toList, ∃ l, keyOf P kt x.key = some l := fun x hx => by
  obtain ⟨j, hj⟩ := List.mem_iff_getElem?.1 hx
  obtain ⟨p, hp, hpk⟩ := gkeys_at he hj
  rw [hpk]
  exact (T.kv _ (hw p (List.mem_of_getElem? hp))).lit
 rcases T.law.find w hl ents.toList hkeys with ⟨h1, h2⟩ | ⟨j, x, h1, h2, h3⟩
 ·refine .inl ⟨h1, glook_none.2 fun p hp hpk => ?_⟩
  obtain ⟨j, hj⟩ := List.mem_iff_getElem?.1 hp
  have h4 : ((gcan kf e).map (·.1))[j]? = some (kf k) := by simp [gcan, hj, hpk]
  rw [← he, List.getElem?_map] at h4
  cases hx : ents.toList[j]? with
  | none => rw [hx] at h4; cases h4
  | some x =>
   rw [hx] at h4
   exact h2 x (List.mem_of_getElem? hx) (Option.some.inj h4)
 obtain ⟨p, hp, hpk⟩ := gkeys_at he h2
 have hpk : p.1 = k := T.inj _ _ (hpk.symm.trans h3)
 obtain ⟨q, h⟩ := p
 simp only at hpk
 subst hpk
 have hval : (ents.toList.map (·.val))[j]? = some x.val := by rw [List.getElem?_map, h2]; rfl
 obtain ⟨c, hc, hcr⟩ := RepL.mem hv hval
 have hc' : c = h := by
  rw [gvals, List.getElem?_map, hp] at hc
  exact (Option.some.inj hc).symm
 subst hc'
 obtain ⟨g1, g2⟩ := glook_at ((gnodup T.inj).1 hn) hp
 exact .inr ⟨j, x, c, h1, h2, h3, hp, g1, hcr, g2⟩
theorem AOp.lookupG {o : Oper} {Q : AS → Prop} {t et : TypeId} {m x : Operand} {id ver : Nat} {k : K} {e : List (K × HV)} {pe : Option (Nat × Value)} {Ty Te : TyI} {z : HV} (T : KeyT P kt kh kf wf) (hop : o.op = .lookup t m x false) (hN : okd N o.dst = true)
  (hT : ty P t = some Ty) (hTd : Ty.desc = .map kt et) (hTe : ty P et = some Te) (hz : constHV Te.zero = some z)
  (hm : s.ev m = some (.mp id ver)) (hx : s.ev x = some (kh k)) (hk : wf k = true) (hg : hget s.heap id = some (ver, .gmap (gcan kf e) pe)) (hw : ∀ x ∈ e, wf x.1 = true)
  (h : Q (s.put o.dst ((glook k e).getD z))) : AOp P ro N o Q s := by
 refine AOp.value (fun c e => by rw [hop] at e; cases e) hN fun B μ a w hs => ?_
 obtain ⟨b, hl, he, ents, clock, hb, hkeys, hvals, hborn, hlt, hnd, hpe⟩ := hs.liveMap (hs.ev hm) hg
 have hxe : a.eval x = kf k := (T.kv k hk).rep w μ _ (hs.ev hx)
 have htd : P.underlying t = some (.map kt et) := by rw [← hTd]; exact (ty_spec hT).1
 obtain ⟨l, hkl⟩ := (T.kv k hk).lit
 have hchk := T.law.check w ents.isEmpty hkl
 rcases find_g T w hk hkeys hvals hnd hw with ⟨h3, h4⟩ | ⟨j, y, hv, h3, h4, h5, h6, h7, h8, h9⟩
 ·refine ⟨Te.zero, z, μ, w, s.heap, ?_, hs.sr, Evo.refl w μ, constHV_rep hz, by rw [h4] at h; exact h⟩
  simp [execOp, hop, hxe, he, Instr.lookup, run_underlying htd, MapKept.run_getObj_map hb, hchk, h3, ty_zero hTe, Result.andThen]
 refine ⟨y.val, hv, μ, w, s.heap, ?_, hs.sr, Evo.refl w μ, h8, by rw [h7] at h; exact h⟩
 simp [execOp, hop, hxe, he, Instr.lookup, run_underlying htd, MapKept.run_getObj_map hb, hchk, h3, Result.andThen]
theorem AOp.lookupOkG {o : Oper} {Q : AS → Prop} {t et : TypeId} {m x : Operand} {id ver : Nat} {k : K} {e : List (K × HV)} {pe : Option (Nat × Value)} {Ty Te : TyI} {z : HV} (T : KeyT P kt kh kf wf) (hop : o.op = .lookup t m x true) (hN : okd N o.dst = true)
  (hT : ty P t = some Ty) (hTd : Ty.desc = .map kt et) (hTe : ty P et = some Te) (hz : constHV Te.zero = some z)
  (hm : s.ev m = some (.mp id ver)) (hx : s.ev x = some (kh k)) (hk : wf k = true) (hg : hget s.heap id = some (ver, .gmap (gcan kf e) pe)) (hw : ∀ x ∈ e, wf x.1 = true)
  (h : Q (s.put o.dst (.tup [(glook k e).getD z, .bool (glook k e).isSome]))) : AOp P ro N o Q s := by
 refine AOp.value (fun c e => by rw [hop] at e; cases e) hN fun B μ a w hs => ?_
 obtain ⟨b, hl, he, ents, clock, hb, hkeys, hvals, hborn, hlt, hnd, hpe⟩ := hs.liveMap (hs.ev hm) hg
 have hxe : a.eval x = kf k := (T.kv k hk).rep w μ _ (hs.ev hx)
 have htd : P.underlying t = some (.map kt et) := by rw [← hTd]; exact (ty_spec hT).1
 obtain ⟨l, hkl⟩ := (T.kv k hk).lit
 have hchk := T.law.check w ents.isEmpty hkl
 rcases find_g T w hk hkeys hvals hnd hw with ⟨h3, h4⟩ | ⟨j, y, hv, h3, h4, h5, h6, h7, h8, h9⟩
 ·refine ⟨.tuple #[Te.zero, .bool false], .tup [z, .bool false], μ, w, s.heap, ?_, hs.sr, Evo.refl w μ, ⟨[Te.zero, .bool false], rfl, _, _, rfl, constHV_rep hz, _, _, rfl, rfl, rfl⟩, by rw [h4] at h; exact h⟩
  simp [execOp, hop, hxe, he, Instr.lookup, run_underlying htd, MapKept.run_getObj_map hb, hchk, h3, ty_zero hTe, Result.andThen]
 refine ⟨.tuple #[y.val, .bool true], .tup [hv, .bool true], μ, w, s.heap, ?_, hs.sr, Evo.refl w μ, ⟨[y.val, .bool true], rfl, _, _, rfl, h8, _, _, rfl, rfl, rfl⟩, by rw [h7] at h; exact h⟩
 simp [execOp, hop, hxe, he, Instr.lookup, run_underlying htd, MapKept.run_getObj_map hb, hchk, h3, Result.andThen]
theorem SR.updG {B : Nat} {a : Act} (hs : SRel ro N B μ s a w) {id ver b clock clock' : Nat} {o o' : AObj} {ents ents' : Array MapEntry} (hg : hget s.heap id = some (ver, o)) (hb : w.heap[b]? = some (.map ents clock)) (hl : μ.loc id = some (ver, some b)) (hni : noIt id s.heap)
  (ho : ∀ w', Evo w μ w' μ → w'.heap[b]? = some (.map ents' clock') → OR w' μ o' (some b)) : SR { w with heap := w.heap.set! b (.map ents' clock') } μ (hset s.heap id ver o') ∧ Evo w μ { w with heap := w.heap.set! b (.map ents' clock') } μ := by
 have hlb : b < w.heap.size := (Array.getElem?_eq_some_iff.1 hb).1
 exact hs.sr.upd (w' := { w with heap := w.heap.set! b (.map ents' clock') }) (o' := o') hg
   (fun cur e hr => by
    obtain ⟨lo, hi, hc, _⟩ := hr
    rw [hb] at hc
    cases hc) hl ⟨rfl, rfl, rfl⟩ (by simp)
   (fun b' hb' => by simp [Array.getElem?_setIfInBounds_ne (fun e => hb' e.symm)])
   (fun E => ho _ E (by simp [hlb]))
   (fun _ j v mver seen cur l hj => absurd hj (hni j v mver seen cur))
theorem OR.gpush (hok : μ.ok) {w0 : World} (E : Evo w0 μ w μ) {b clock : Nat} {k : K} {hv : HV} {v : Value} {ents : Array MapEntry} {e : List (K × HV)} {pe : Option (Nat × Value)} (hinj : ∀ a b, kf a = kf b → a = b) (h1 : glook k e = none) (hkeys : ents.toList.map (·.key) = (gcan kf e).map (·.1)) (hvals : RepL w0 μ ((gcan kf e).map (·.2)) (ents.toList.map (·.val)))
  (hborn : (ents.toList.map (·.born)).Nodup) (hlt : ∀ x ∈ ents.toList, x.born < clock) (hnd : ((gcan kf e).map (·.1)).Nodup) (hr : Rep w0 μ hv v) (hb : w.heap[b]? = some (.map (ents.push { key := kf k, val := v, born := clock }) (clock + 1)))
  (hp : ∀ p, pe = some p → p = (clock, kf k)) : OR w μ (.gmap (gcan kf (gput k hv e)) pe) (some b) := by
 rw [gput_new h1]
 refine ⟨_, _, hb, by simp [hkeys, gcan], ?_, ?_, ?_, ?_, fun p hpp => ?_⟩
 ·simp only [gcan, List.map_append, Array.toList_push, List.map_cons, List.map_nil]
  exact repL_append_one (RepL.evo E hok _ _ hvals) (Rep.evo E hok _ _ hr)
 ·simp only [List.map_append, Array.toList_push, List.map_cons, List.map_nil]
  rw [List.nodup_append]
  refine ⟨hborn, by simp, fun x hx y hy => ?_⟩
  simp only [List.mem_singleton] at hy
  obtain ⟨z, hz, rfl⟩ := List.mem_map.1 hx
  have := hlt z hz
  omega
 ·intro z hz
  simp only [Array.toList_push, List.mem_append, List.mem_singleton] at hz
  rcases hz with hz | rfl
  ·have := hlt z hz; omega
  simp
 ·rw [gnodup hinj] at hnd ⊢
  simp only [List.map_append, List.map_cons, List.map_nil]
  rw [List.nodup_append]
  exact ⟨hnd, by simp, fun x hx y hy e2 => by
   simp only [List.mem_singleton] at hy
   obtain ⟨z, hz, rfl⟩ := List.mem_map.1 hx
   exact glook_none.1 h1 z hz (e2.trans hy)⟩
 rw [hp p hpp]
 exact ⟨{ key := kf k, val := v, born := clock }, by simp, rfl, rfl⟩
theorem OR.gset (hok : μ.ok) {w0 : World} (E : Evo w0 μ w μ) {b clock j : Nat} {k : K} {hv h0 : HV} {v : Value} {ents : Array MapEntry} {x : MapEntry} {e : List (K × HV)} {pe : Option (Nat × Value)} {f : MapEntry → MapEntry} (hinj : ∀ a b, kf a = kf b → a = b) (hx : ents.toList[j]? = some x) (hxk : x.key = kf k) (hj : e[j]? = some (k, h0)) (hput : ∀ v, gput k v e = e.modify j fun y => (y.1, v))
  (hf : ∀ y, ents.toList[j]? = some y → (f y).key = y.key) (hfv : ∀ y, (f y).val = v) (hfb : ∀ y, (f y).born = y.born)
  (hkeys : ents.toList.map (·.key) = (gcan kf e).map (·.1)) (hvals : RepL w0 μ ((gcan kf e).map (·.2)) (ents.toList.map (·.val)))
  (hborn : (ents.toList.map (·.born)).Nodup) (hlt : ∀ x ∈ ents.toList, x.born < clock) (hnd : ((gcan kf e).map (·.1)).Nodup) (hr : Rep w0 μ hv v) (hb : w.heap[b]? = some (.map (ents.modify j f) clock))
  (hp : ∀ p, pe = some p → p = (x.born, kf k)) : OR w μ (.gmap (gcan kf (gput k hv e)) pe) (some b) := by
 have hes : (gput k hv e).map (fun x => kf x.1) = e.map (fun x => kf x.1) := by
  rw [hput]; exact modify_map_same (fun x => kf x.1) (fun x => (x.1, hv)) e j (fun x _ => rfl)
 have hes2 : (gput k hv e).map (fun x => x.1) = e.map (fun x => x.1) := by
  rw [hput]; exact modify_map_same (fun x => x.1) (fun x => (x.1, hv)) e j (fun x _ => rfl)
 have hborn' : (ents.modify j f).toList.map (·.born) = ents.toList.map (·.born) := by
  rw [Array.toList_modify]; exact modify_map_same (fun x : MapEntry => x.born) f ents.toList j (fun x _ => hfb x)
 refine ⟨_, _, hb, ?_, ?_, ?_, ?_, ?_, fun p hpp => ?_⟩
 ·have : (gcan kf (gput k hv e)).map (·.1) = (gcan kf e).map (·.1) := by
   unfold gcan
   rw [List.map_map, List.map_map]
   exact hes
  rw [this, Array.toList_modify, ← hkeys]
  exact modify_map_same (fun x : MapEntry => x.key) f ents.toList j hf
 ·rw [gvals, hput, Array.toList_modify, modify_map_set (fun x : K × HV => x.2) (fun x => (x.1, hv)) hv (fun _ => rfl), modify_map_set (fun x : MapEntry => x.val) f v hfv]
  rw [gvals] at hvals
  exact RepL.set (RepL.evo E hok _ _ hvals) (Rep.evo E hok _ _ hr) j
 ·rw [hborn']; exact hborn
 ·intro z hz
  have : z.born ∈ (ents.modify j f).toList.map (·.born) := List.mem_map.2 ⟨z, hz, rfl⟩
  rw [hborn'] at this
  obtain ⟨z', hz', e'⟩ := List.mem_map.1 this
  rw [← e']
  exact hlt z' hz'
 ·rw [gnodup hinj] at hnd ⊢
  rw [hes2]; exact hnd
 rw [hp p hpp]
 refine ⟨f x, ?_, hfb x, (hf x hx).trans hxk⟩
 rw [Array.toList_modify]
 exact List.mem_iff_getElem?.2 ⟨j, by simp [List.getElem?_modify, hx]⟩
theorem AOp.mapUpdateG {o : Oper} {Q : AS → Prop} {t et : TypeId} {m x y : Operand} {id ver : Nat} {k : K} {e : List (K × HV)} {pe : Option (Nat × Value)} {Ty : TyI} {hv : HV} (T : KeyT P kt kh kf wf) (hop : o.op = .mapUpdate t m x y ∨ o.op = .insert t m x y) (hN : okd N o.dst = true)
  (hT : ty P t = some Ty) (hTd : Ty.desc = .map kt et)
  (hm : s.ev m = some (.mp id ver)) (hx : s.ev x = some (kh k)) (hk : wf k = true) (hy : s.ev y = some hv) (hg : hget s.heap id = some (ver, .gmap (gcan kf e) pe)) (hw : ∀ x ∈ e, wf x.1 = true) (hni : noIt id s.heap)
  (h : Q (({ s with heap := hset s.heap id ver (.gmap (gcan kf (gput k hv e)) none) } : AS).put o.dst (.v undef))) : AOp P ro N o Q s := by
 refine AOp.skip (fun c e => by rcases hop with hop | hop <;> (rw [hop] at e; cases e)) hN fun B μ a w hs => ?_
 obtain ⟨b, hl, he, ents, clock, hb, hkeys, hvals, hborn, hlt, hnd, hpe⟩ := hs.liveMap (hs.ev hm) hg
 have hxe : a.eval x = kf k := (T.kv k hk).rep w μ _ (hs.ev hx)
 have hyr := hs.ev hy
 have htd : P.underlying t = some (.map kt et) := by rw [← hTd]; exact (ty_spec hT).1
 obtain ⟨l, hkl⟩ := (T.kv k hk).lit
 have hchk := T.law.check w false hkl
 have done : ∀ (ents' : Array MapEntry) (clock' : Nat), (Instr.mapUpdate t (.map (some b)) (kf k) (a.eval y)).run P w = .ok () { w with heap := w.heap.set! b (.map ents' clock') } →
   (∀ w', Evo w μ w' μ → w'.heap[b]? = some (.map ents' clock') → OR w' μ (.gmap (gcan kf (gput k hv e)) none) (some b)) →
   ∃ μ' w' H', (execOp a.eval o).run P w = .ok .skip w' ∧ SR w' μ' H' ∧ Evo w μ w' μ' ∧ Q (({ s with heap := H' } : AS).put o.dst (.v undef)) := by
  intro ents' clock' hrun hor
  obtain ⟨h1, h2⟩ := SR.updG hs hg hb hl hni hor
  refine ⟨μ, _, _, ?_, h1, h2, h⟩
  rcases hop with hop | hop <;> (simp only [execOp, hop, hxe, he, Sem.run_bind, hrun, Result.andThen_ok]; rfl)
 rcases find_g T w hk hkeys hvals hnd hw with ⟨h3, h4⟩ | ⟨j, z, h0, h3, h4, h5, h6, h7, h8, h9⟩
 ·refine done (ents.push { key := kf k, val := a.eval y, born := clock }) (clock + 1) ?_ fun w' E hb' => OR.gpush hs.sr.ok E T.inj h4 hkeys hvals hborn hlt hnd hyr hb' (fun p hp => by cases hp)
  simp [Instr.mapUpdate, run_underlying htd, MapKept.run_getObj_map hb, hchk, h3, run_setObj_map _ hb, Result.andThen]
 refine done (ents.modify j fun e => { e with key := kf k, val := a.eval y }) clock ?_ fun w' E hb' => OR.gset (f := fun e => { e with key := kf k, val := a.eval y }) hs.sr.ok E T.inj h4 h5 h6 h9 (fun q hq => by rw [h4] at hq; cases hq; exact h5.symm) (fun _ => rfl) (fun _ => rfl) hkeys hvals hborn hlt hnd hyr hb' (fun p hp => by cases hp)
 have hj : ents[j]? = some z := by simpa using h4
 simp [Instr.mapUpdate, run_underlying htd, MapKept.run_getObj_map hb, hchk, h3, hj, h5, T.law.stays w hkl, run_setObj_map _ hb, Result.andThen]
def gtouch (k : K) (z : HV) (e : List (K × HV)) : List (K × HV) := if (glook k e).isSome then e else gput k z e
theorem AOp.mapEntryG {o : Oper} {Q : AS → Prop} {t et : TypeId} {m x : Operand} {id ver : Nat} {k : K} {e : List (K × HV)} {pe : Option (Nat × Value)} {Ty Te : TyI} {z : HV} (T : KeyT P kt kh kf wf) (hop : o.op = .mapEntry t m x) (hN : okd N o.dst = true)
  (hT : ty P t = some Ty) (hTd : Ty.desc = .map kt et) (hTe : ty P et = some Te) (hz : constHV Te.zero = some z)
  (hm : s.ev m = some (.mp id ver)) (hx : s.ev x = some (kh k)) (hk : wf k = true) (hg : hget s.heap id = some (ver, .gmap (gcan kf e) pe)) (hw : ∀ x ∈ e, wf x.1 = true) (hni : noIt id s.heap)
  (h : ∀ n : Nat, Q (({ s with heap := hset s.heap id ver (.gmap (gcan kf (gtouch k z e)) (some (n, kf k))) } : AS).put o.dst (.tup [(glook k e).getD z, .v (goInt n)]))) : AOp P ro N o Q s := by
 refine AOp.value (fun c e => by rw [hop] at e; cases e) hN fun B μ a w hs => ?_
 obtain ⟨b, hl, he, ents, clock, hb, hkeys, hvals, hborn, hlt, hnd, hpe⟩ := hs.liveMap (hs.ev hm) hg
 have hxe : a.eval x = kf k := (T.kv k hk).rep w μ _ (hs.ev hx)
 have htd : P.underlying t = some (.map kt et) := by rw [← hTd]; exact (ty_spec hT).1
 obtain ⟨l, hkl⟩ := (T.kv k hk).lit
 have hchk := T.law.check w false hkl
 rcases find_g T w hk hkeys hvals hnd hw with ⟨h3, h4⟩ | ⟨j, y, hv, h3, h4, h5, h6, h7, h8, h9⟩
 ·obtain ⟨h1, h2⟩ := SR.updG (ents' := ents.push { key := kf k, val := Te.zero, born := clock }) (clock' := clock + 1) (o' := .gmap (gcan kf (gput k z e)) (some (clock, kf k))) hs hg hb hl hni
   fun w' E hb' => OR.gpush hs.sr.ok E T.inj h4 hkeys hvals hborn hlt hnd (constHV_rep hz) hb' (fun p hp => by cases hp; rfl)
  have hK := h clock
  unfold gtouch at hK
  rw [h4] at hK
  refine ⟨.tuple #[Te.zero, goInt clock], .tup [z, .v (goInt clock)], μ, _, _, ?_, h1, h2, ⟨[Te.zero, goInt clock], rfl, _, _, rfl, constHV_rep hz, _, _, rfl, rfl, rfl⟩, hK⟩
  simp [execOp, hop, hxe, he, Instr.mapEntry, run_underlying htd, MapKept.run_getObj_map hb, hchk, h3, ty_zero hTe, run_setObj_map _ hb, Result.andThen]
 have hj : ents[j]? = some y := by simpa using h4
 have hsame : (ents.modify j fun e => { e with key := kf k }) = ents := by
  apply Array.ext'
  rw [Array.toList_modify]
  have := modify_map_same (fun x : MapEntry => x) (fun e : MapEntry => { e with key := kf k }) ents.toList j (fun x hx => by rw [h4] at hx; cases hx; rw [← h5])
  simpa using this
 obtain ⟨h1, h2⟩ := SR.updG (ents' := ents) (clock' := clock) (o' := .gmap (gcan kf e) (some (y.born, kf k))) hs hg hb hl hni
  fun w' E hb' => ⟨ents, clock, hb', hkeys, RepL.evo E hs.sr.ok _ _ hvals, hborn, hlt, hnd, fun p hp => by cases hp; exact ⟨y, List.mem_of_getElem? h4, rfl, h5⟩⟩
 have hK := h y.born
 unfold gtouch at hK
 rw [h7] at hK
 refine ⟨.tuple #[y.val, goInt y.born], .tup [hv, .v (goInt y.born)], μ, _, _, ?_, h1, h2, ⟨[y.val, goInt y.born], rfl, _, _, rfl, Rep.evo h2 hs.sr.ok _ _ h8, _, _, rfl, rfl, rfl⟩, hK⟩
 simp [execOp, hop, hxe, he, Instr.mapEntry, run_underlying htd, MapKept.run_getObj_map hb, hchk, h3, hj, h5, T.law.stays w hkl, hsame, run_setObj_map _ hb, Result.andThen]
theorem AOp.entryStoreG {o : Oper} {Q : AS → Prop} {t : TypeId} {m x y : Operand} {id ver n : Nat} {k : K} {e : List (K × HV)} {hv : HV} (hinj : ∀ a b, kf a = kf b → a = b) (hop : o.op = .entryStore t m x y) (hN : okd N o.dst = true)
  (hm : s.ev m = some (.mp id ver)) (hx : s.ev x = some (.v (goInt n))) (hy : s.ev y = some hv) (hg : hget s.heap id = some (ver, .gmap (gcan kf e) (some (n, kf k)))) (hni : noIt id s.heap)
  (h : Q (({ s with heap := hset s.heap id ver (.gmap (gcan kf (gput k hv e)) none) } : AS).put o.dst (.v undef))) : AOp P ro N o Q s := by
 refine AOp.skip (fun c e => by rw [hop] at e; cases e) hN fun B μ a w hs => ?_
 obtain ⟨b, hl, he, ents, clock, hb, hkeys, hvals, hborn, hlt, hnd, hpe⟩ := hs.liveMap (hs.ev hm) hg
 have hxe : a.eval x = goInt n := hs.ev hx
 have hyr := hs.ev hy
 obtain ⟨z, hz, hz1, hz2⟩ := hpe _ rfl
 obtain ⟨j, hj⟩ := List.mem_iff_getElem?.1 hz
 obtain ⟨p, hp, hpk⟩ := gkeys_at hkeys hj
 have hpk : p.1 = k := hinj _ _ (hpk.symm.trans hz2)
 obtain ⟨q, h0⟩ := p
 simp only at hpk
 subst hpk
 obtain ⟨g1, g2⟩ := glook_at ((gnodup hinj).1 hnd) hp
 obtain ⟨h1, h2⟩ := SR.updG (ents' := ents.modify j fun e => { e with val := a.eval y }) (clock' := clock) (o' := .gmap (gcan kf (gput q hv e)) none) hs hg hb hl hni
  fun w' E hb' => OR.gset (f := fun e => { e with val := a.eval y }) hs.sr.ok E hinj hj hz2 hp g2 (fun _ _ => rfl) (fun _ => rfl) (fun _ => rfl) hkeys hvals hborn hlt hnd hyr hb' (fun p hp => by cases hp)
 refine ⟨μ, _, _, ?_, h1, h2, h⟩
 have hidx : ents.findIdx? (fun e => ((e.born : Nat) : Int) == ((n : Nat) : Int)) = some j := by
  have hz1 : z.born = n := hz1
  rw [WideElems.findIdx_arr, ← hz1]
  exact WideElems.findIdx_born hborn hj
 simp [execOp, hop, hxe, he, Instr.entryStore, MapKept.run_getObj_map hb, asInt, asIntOf, goInt, hidx, run_setObj_map _ hb, Result.andThen]
theorem SR.allocIterG (h : SR w μ H) (id : Nat) {mid mver mb : Nat} (hl : μ.loc mid = some (mver, some mb)) (hid : id ≠ mid) {ents : Array MapEntry} {clock : Nat}
  (hb : w.heap[mb]? = some (.map ents clock)) :
  SR (w.alloc (.mapIter (some mb) clock #[] clock)) (μ.set id (some w.heap.size)) (hset H id μ.nx (.iter mid mver [] false)) ∧ Evo w μ (w.alloc (.mapIter (some mb) clock #[] clock)) (μ.set id (some w.heap.size)) := by
 have g := Grow.alloc w (.mapIter (some mb) clock #[] clock)
 have hE := Evo.repl h id (some w.heap.size) g.toSame g.size (fun b hb _ => g.old b hb) (fun b hb => by cases hb; exact .inl (Nat.le_refl _))
 refine ⟨h.repl id (some w.heap.size) _ g.toSame g.size (fun b hb _ => g.old b hb) (fun b hb => by cases hb; exact .inl (Nat.le_refl _)) ?_, hE⟩
 have hmb := h.blk hl
 refine ⟨by have := h.ok mid mver _ hl; simp [Mu.set]; omega, mb, clock, #[], clock, ?_, fun l hl' => ?_⟩
 ·show (w.heap.push _)[w.heap.size]? = _
  simp
 simp only [Mu.set, if_neg (Ne.symm hid), hl] at hl'
 cases hl'
 refine ⟨rfl, ents, clock, (g.old mb hmb).trans hb, rfl, rfl, fun x _ => by simp, fun h => by cases h⟩
theorem AOp.rangeG {o : Oper} {Q : AS → Prop} {t et : TypeId} {m : Operand} {mid mver : Nat} {es : List (Value × HV)} {pe : Option (Nat × Value)} {Ty : TyI} (id : Nat) (hop : o.op = .range t m) (hN : okd N o.dst = true)
  (hT : ty P t = some Ty) (hTd : Ty.desc = .map kt et) (hm : s.ev m = some (.mp mid mver)) (hg : hget s.heap mid = some (mver, .gmap es pe)) (hid : id ≠ mid)
  (h : ∀ ver, Q (({ s with heap := hset s.heap id ver (.iter mid mver [] false) } : AS).put o.dst (.it id ver))) : AOp P ro N o Q s := by
 refine AOp.value (fun c e => by rw [hop] at e; cases e) hN fun B μ a w hs => ?_
 obtain ⟨b, hl, he, ents, clock, hb, _⟩ := hs.liveMap (hs.ev hm) hg
 have htd : P.underlying t = some (.map kt et) := by rw [← hTd]; exact (ty_spec hT).1
 obtain ⟨hsr, hE⟩ := hs.sr.allocIterG id hl hid hb
 refine ⟨.pointer (some ⟨w.heap.size, 0, none⟩), .it id μ.nx, _, _, _, ?_, hsr, hE, .inl ⟨w.heap.size, by simp [Mu.set], rfl⟩, h μ.nx⟩
 simp [execOp, hop, he, Instr.range, run_underlying htd, MapKept.run_getObj_map hb, World.alloc_eq, Result.andThen]
end
section
variable {P : Program} {ro : Option Nat} {N : Nat} {s : AS} {w w' : World} {μ : Mu} {H : Heap}
variable {K : Type} {kt : TypeId} {kh : K → HV} {kf : K → Value} {wf : K → Bool}
theorem AOp.nextG {o : Oper} {Q : AS → Prop} {x : Operand} {id ver mid mver : Nat} {seen : List (List UInt8)} {cur : Bool} {e0 : List (K × HV)} {pe : Option (Nat × Value)} (kc : ∀ w μ k, wf k = true → Rep w μ (kh k) (kf k)) (hci : ∀ a b, codeV (kf a) = codeV (kf b) → a = b) (hinj : ∀ a b, kf a = kf b → a = b) (hop : o.op = .next x false) (hN : okd N o.dst = true)
  (hx : s.ev x = some (.it id ver)) (hg : hget s.heap id = some (ver, .iter mid mver seen cur)) (hgm : hget s.heap mid = some (mver, .gmap (gcan kf e0) pe)) (hw : ∀ x ∈ e0, wf x.1 = true)
  (h1 : (∀ p ∈ e0, codeV (kf p.1) ∈ seen) → Q (s.put o.dst (.tup [.bool false])))
  (h2 : ∀ k v, (k, v) ∈ e0 → codeV (kf k) ∉ seen → Q (({ s with heap := hset s.heap id ver (.iter mid mver (codeV (kf k) :: seen) true) } : AS).put o.dst (.tup [.bool true, kh k, v]))) : AOp P ro N o Q s := by
 refine AOp.value (fun c e => by rw [hop] at e; cases e) hN fun B μ a w hs => ?_
 obtain ⟨r, hl, he, h0, mb, since, sn, last, hr, hall⟩ := hs.liveIt (hs.ev hx) hg
 obtain ⟨lm, hlm, hmor⟩ := hs.sr.has mid mver _ hgm
 obtain ⟨rfl, ents, clock, hb, rfl, rfl, hseen, hcur⟩ := hall lm hlm
 obtain ⟨ents', clock', hb', hkeys, hvals, hborn, hlt, hnd, hpe⟩ := hmor
 have hnd0 : (e0.map (·.1)).Nodup := (gnodup hinj).1 hnd
 rw [hb] at hb'
 cases hb'
 have hleft : ∀ e, e ∈ (leftOf ents sn).toList ↔ e ∈ ents.toList ∧ e.born ∉ sn.toList := fun e => by
  simp [leftOf]
 rcases Go.run_next_at (P := P) w o.type r mb _ _ sn ents _ hr hb hlt (Nat.le_refl _) with ⟨h3, h4⟩ | ⟨e, h3, w1, h4, h5⟩
 ·refine ⟨_, .tup [.bool false], μ, w, s.heap, ?_, hs.sr, Evo.refl w μ, ⟨[.bool false], rfl, _, _, rfl, rfl, rfl⟩, h1 fun p hp => ?_⟩
  ·simp only [execOp, hop, he, Sem.run_bind, h4, Result.andThen_ok]
   rfl
  obtain ⟨j, hj⟩ := List.mem_iff_getElem?.1 hp
  have hkj : ((gcan kf e0).map (·.1))[j]? = some (kf p.1) := by simp [gcan, hj]
  rw [← hkeys, List.getElem?_map] at hkj
  cases hej : ents.toList[j]? with
  | none => rw [hej] at hkj; cases hkj
  | some e =>
   rw [hej] at hkj
   have hke : e.key = kf p.1 := Option.some.inj hkj
   have hem : e ∈ ents.toList := List.mem_of_getElem? hej
   have hnot : ¬ (e ∈ (leftOf ents sn).toList) := fun hh => by
    have := Array.eq_empty_of_size_eq_zero h3
    rw [this] at hh
    cases hh
   have hin : e.born ∈ sn.toList := Classical.byContradiction fun hn => hnot ((hleft e).2 ⟨hem, hn⟩)
   obtain ⟨k, hk, hkk⟩ := (hseen e hem).1 hin
   rw [hke] at hkk
   rw [hkk]
   exact hk
 obtain ⟨hem, hns⟩ := (hleft e).1 h3
 obtain ⟨j, hej⟩ := List.mem_iff_getElem?.1 hem
 obtain ⟨p, hpj, hke⟩ := gkeys_at hkeys hej
 have hval : (ents.toList.map (·.val))[j]? = some e.val := by rw [List.getElem?_map, hej]; rfl
 obtain ⟨c, hc, hcr⟩ := RepL.mem hvals hval
 have hc' : c = p.2 := by
  rw [gvals, List.getElem?_map, hpj] at hc
  exact (Option.some.inj hc).symm
 subst hc'
 have hpm : p ∈ e0 := List.mem_of_getElem? hpj
 have hw1 : Same w w1 ∧ w1.heap = w.heap := by
  rcases h4 with rfl | rfl
  ·exact ⟨Same.refl _, rfl⟩
  exact ⟨⟨rfl, rfl, rfl⟩, rfl⟩
 have hrl : r < w.heap.size := (Array.getElem?_eq_some_iff.1 hr).1
 have hmr : mb ≠ r := fun e' => by subst e'; rw [hr] at hb; cases hb
 have hke1 : codeV e.key = codeV (kf p.1) := by rw [hke]
 have hknot : codeV (kf p.1) ∉ seen := fun hh => hns ((hseen e hem).2 ⟨_, hh, hke1⟩)
 have hbeq : ∀ x ∈ ents.toList, x.born = e.born → x = e := fun x hx hxe => by
  obtain ⟨i, hi⟩ := List.mem_iff_getElem?.1 hx
  have h6 : (ents.toList.map (·.born))[i]? = some e.born := by rw [List.getElem?_map, hi]; simp [hxe]
  have h7 : (ents.toList.map (·.born))[j]? = some e.born := by rw [List.getElem?_map, hej]; rfl
  have hil : i < (ents.toList.map (·.born)).length := (List.getElem?_eq_some_iff.1 h6).1
  have := (List.getElem?_inj hil hborn).1 (h6.trans h7.symm)
  subst this
  rw [hej] at hi
  exact (Option.some.inj hi).symm
 obtain ⟨h6, h7⟩ := hs.sr.updIter (w' := ChangeMaps.setBlock w1 r (.mapIter (some mb) last (sn.push e.born) last)) (seen' := codeV (kf p.1) :: seen) (cur' := true) hg hl
  ⟨hw1.1.os, hw1.1.tape, hw1.1.output⟩ (by simp [ChangeMaps.setBlock, hw1.2]) (fun b' hb' => by
   simp only [ChangeMaps.setBlock, hw1.2]
   rw [Array.getElem?_setIfInBounds_ne (fun e => hb' e.symm)])
  (fun E => by
   refine ⟨h0, mb, last, sn.push e.born, last, ?_, fun l' hl' => ?_⟩
   ·simp [ChangeMaps.setBlock, hw1.2, hrl]
   rw [hlm] at hl'
   cases hl'
   refine ⟨rfl, ents, last, ?_, rfl, rfl, fun x hx => ?_, fun _ => ⟨_, rfl, e, hem, hke1, by simp⟩⟩
   ·simp only [ChangeMaps.setBlock, hw1.2]
    rw [Array.getElem?_setIfInBounds_ne (fun e => hmr e.symm)]
    exact hb
   simp only [Array.toList_push, List.mem_append, List.mem_cons, List.not_mem_nil, or_false]
   constructor
   ·rintro (hx' | hx')
    ·obtain ⟨k, hk, hkk⟩ := (hseen x hx).1 hx'
     exact ⟨k, .inr hk, hkk⟩
    rw [hbeq x hx hx']
    exact ⟨_, .inl rfl, hke1⟩
   rintro ⟨k, rfl | hk, hkk⟩
   ·right
    obtain ⟨i, hi⟩ := List.mem_iff_getElem?.1 hx
    obtain ⟨q, hq, hqk⟩ := gkeys_at hkeys hi
    have e1 : q.1 = p.1 := by rw [hqk] at hkk; exact hci _ _ hkk
    have h8 : (e0.map (·.1))[i]? = some p.1 := by rw [List.getElem?_map, hq]; simp [e1]
    have h9 : (e0.map (·.1))[j]? = some p.1 := by rw [List.getElem?_map, hpj]; rfl
    have := (List.getElem?_inj (List.getElem?_eq_some_iff.1 h8).1 hnd0).1 (h8.trans h9.symm)
    subst this
    rw [hej] at hi
    rw [Option.some.inj hi]
   exact .inl ((hseen x hx).2 ⟨k, hk, hkk⟩))
 refine ⟨.tuple #[.bool true, e.key, e.val], .tup [.bool true, kh p.1, p.2], μ, _, _, ?_, h6, h7, ?_, h2 p.1 p.2 hpm hknot⟩
 ·simp only [execOp, hop, he, Sem.run_bind, h5, Result.andThen_ok]
  rfl
 refine ⟨[.bool true, e.key, e.val], rfl, _, _, rfl, rfl, _, _, rfl, hke.symm ▸ kc _ _ _ (hw p hpm), _, _, rfl, Rep.evo h7 hs.sr.ok _ _ hcr, rfl⟩
end
section
variable {P : Program} {ro : Option Nat} {N : Nat} {s : AS} {w w' : World} {μ : Mu} {H : Heap}
variable {K : Type} {kt : TypeId} {kh : K → HV} {kf : K → Value} {wf : K → Bool}
variable [DecidableEq K]
theorem AOp.entryG {o : Oper} {Q : AS → Prop} {x : Operand} {id ver mid mver : Nat} {k : K} {seen : List (List UInt8)} {e0 : List (K × HV)} {pe : Option (Nat × Value)} {v : HV} (kc : ∀ w μ k, wf k = true → Rep w μ (kh k) (kf k)) (hci : ∀ a b, codeV (kf a) = codeV (kf b) → a = b) (hinj : ∀ a b, kf a = kf b → a = b) (hop : o.op = .entry x) (hN : okd N o.dst = true)
  (hx : s.ev x = some (.it id ver)) (hg : hget s.heap id = some (ver, .iter mid mver (codeV (kf k) :: seen) true)) (hgm : hget s.heap mid = some (mver, .gmap (gcan kf e0) pe)) (hw : ∀ x ∈ e0, wf x.1 = true) (hk : glook k e0 = some v)
  (h : Q (s.put o.dst (.tup [kh k, v]))) : AOp P ro N o Q s := by
 refine AOp.value (fun c e => by rw [hop] at e; cases e) hN fun B μ a w hs => ?_
 obtain ⟨r, hl, he, h0, mb, since, sn, last, hr, hall⟩ := hs.liveIt (hs.ev hx) hg
 obtain ⟨lm, hlm, hmor⟩ := hs.sr.has mid mver _ hgm
 obtain ⟨rfl, ents, clock, hb, rfl, rfl, hseen, hcur⟩ := hall lm hlm
 obtain ⟨ents', clock', hb', hkeys, hvals, hborn, hlt, hnd, hpe⟩ := hmor
 have hnd0 : (e0.map (·.1)).Nodup := (gnodup hinj).1 hnd
 rw [hb] at hb'
 cases hb'
 obtain ⟨k', hk', e, hem, hke, hback⟩ := hcur rfl
 cases hk'
 obtain ⟨j, hej⟩ := List.mem_iff_getElem?.1 hem
 obtain ⟨p, hpj, hke'⟩ := gkeys_at hkeys hej
 have hval : (ents.toList.map (·.val))[j]? = some e.val := by rw [List.getElem?_map, hej]; rfl
 obtain ⟨c, hc, hcr⟩ := RepL.mem hvals hval
 have hc' : c = p.2 := by
  rw [gvals, List.getElem?_map, hpj] at hc
  exact (Option.some.inj hc).symm
 subst hc'
 have hpm : p ∈ e0 := List.mem_of_getElem? hpj
 have hpk : p.1 = k := by rw [hke'] at hke; exact hci _ _ hke
 have hv : v = p.2 := by
  have := (glook_at (k := k) (h := p.2) hnd0 (by rw [hpj, ← hpk])).1
  rw [hk] at this
  exact Option.some.inj this
 subst hv
 have hbeq : ∀ x ∈ ents.toList, x.born = e.born → x = e := fun x hx hxe => by
  obtain ⟨i, hi⟩ := List.mem_iff_getElem?.1 hx
  have h6 : (ents.toList.map (·.born))[i]? = some e.born := by rw [List.getElem?_map, hi]; simp [hxe]
  have h7 : (ents.toList.map (·.born))[j]? = some e.born := by rw [List.getElem?_map, hej]; rfl
  have hil : i < (ents.toList.map (·.born)).length := (List.getElem?_eq_some_iff.1 h6).1
  have := (List.getElem?_inj hil hborn).1 (h6.trans h7.symm)
  subst this
  rw [hej] at hi
  exact (Option.some.inj hi).symm
 have hfind : ents.find? (fun x => x.born == e.born) = some e := by
  cases hf : ents.find? (fun x => x.born == e.born) with
  | none =>
   have := Array.find?_eq_none.1 hf e (by simpa using hem)
   simp at this
  | some y =>
   have h1 := Array.find?_some hf
   have h2 := Array.mem_of_find?_eq_some hf
   rw [hbeq y (by simpa using h2) (by simpa using h1)]
 refine ⟨.tuple #[e.key, e.val], .tup [kh k, p.2], μ, w, s.heap, ?_, hs.sr, Evo.refl w μ, ⟨[e.key, e.val], rfl, _, _, rfl, (by rw [hke', hpk]; exact kc _ _ _ (hpk ▸ hw p hpm)), _, _, rfl, hcr, rfl⟩, h⟩
 simp [execOp, hop, he, Instr.entry, getObj, Sem.run, hr, hback, hb, hfind, Result.andThen]
end
section
variable {K : Type}
theorem to_gmap (kf : K → Value) {G : AS → Prop} {sl : List (Nat × HV)} {H : Heap} {id ver : Nat} (hg : hget H id = some (ver, .map [])) (h : G ⟨sl, (id, ver, .gmap (gcan kf []) none) :: H⟩) : (⟨sl, H⟩ : AS).to G := by
 intro ro N B μ a w hs
 refine ⟨μ, _, h, ⟨hs.size, ⟨hs.sr.ok, fun i v o hi => ?_, fun i x hx => ?_, hs.sr.inj, hs.sr.held⟩, hs.slot, hs.marks, hs.ro⟩, Evo.refl w μ⟩
 ·simp only [hget] at hi
  split at hi
  ·rename_i e
   subst e
   cases hi
   obtain ⟨l, hl, hor⟩ := hs.sr.has i ver _ hg
   refine ⟨l, hl, ?_⟩
   cases l with
   | none => exact hor.elim
   | some b =>
    obtain ⟨ents, clock, h1, h2, h3, h4, h5, _⟩ := hor
    exact ⟨ents, clock, h1, h2, h3, h4, h5, List.nodup_nil, fun p hp => by cases hp⟩
  exact hs.sr.has i v o hi
 obtain ⟨y, hy⟩ := hs.sr.only i x hx
 simp only [hget]
 split
 ·exact ⟨_, rfl⟩
 exact ⟨y, hy⟩
end
end
section
variable {P : Program} {ro : Option Nat} {N : Nat} {Q : Exit → AS → Prop} {s : AS}
def UW (P : Program) (ro : Option Nat) (N : Nat) (c : Code) (Q : Exit → AS → Prop) : Nat → AS → Prop
 | 0, _ => False
 | n + 1, s => AW P ro N c (thenQ (fun s' => UW P ro N c Q n s') Q) s
theorem AW.unroll {c : Code} (n : Nat) (h : UW P ro N c Q n s) : AW P ro N (.loop c) Q s := by
 refine AW.loop' (fun k s => UW P ro N c Q k s) ⟨n, s, AS.le_refl s, h⟩ fun k s hk => ?_
 cases k with
 | zero => exact hk.elim
 | succ k =>
  refine AW.mono (show AW P ro N c (thenQ (fun s' => UW P ro N c Q k s') Q) s from hk) fun e s' h => ?_
  cases e with
  | normal => exact ⟨k, Nat.lt_succ_self k, s', AS.le_refl s', h⟩
  | _ => exact h
end
section
variable {P : Program} {ro : Option Nat} {N : Nat} {o : Oper} {sl : List (Nat × HV)} {H : Heap} {all : Array Oper} {rest : List Oper} {Q : AS → Prop}
variable {K : Type} [DecidableEq K] {kt : TypeId} {kh : K → HV} {kf : K → Value} {wf : K → Bool}
theorem b_lookG (T : KeyT P kt kh kf wf) {d : Nat} {t et : TypeId} {a b : Nat} {z : Value} {m x : Operand} {id ver : Nat} {k : K} {e : List (K × HV)} {pe : Option (Nat × Value)} {Te : TyI} {zh : HV}
  (h0 : (o.guard, o.dst, o.op) = (none, some d, .lookup t m x false)) (hT : ty P t = some ⟨.map kt et, a, b, z⟩) (hTe : ty P et = some Te) (hz : constHV Te.zero = some zh)
  (hm : (⟨sl, H⟩ : AS).ev m = some (.mp id ver)) (hx : (⟨sl, H⟩ : AS).ev x = some (kh k)) (hk : wf k = true) (hg : hget H id = some (ver, .gmap (gcan kf e) pe)) (hw : ∀ x ∈ e, wf x.1 = true)
  (kk : bops P ro N all rest Q ⟨(d, (glook k e).getD zh) :: sl, H⟩) : bops P ro N all (o :: rest) Q ⟨sl, H⟩ := by
 obtain ⟨e1, e2⟩ := Prod.mk.inj h0
 obtain ⟨e2, e3⟩ := Prod.mk.inj e2
 refine b_opX e1 fun hN => AOp.lookupG T e3 hN hT rfl hTe hz hm hx hk hg hw ?_
 rw [e2]; exact bops_le (put_le (s := ⟨sl, H⟩) d _) kk
theorem b_lookOkG (T : KeyT P kt kh kf wf) {d : Nat} {t et : TypeId} {a b : Nat} {z : Value} {m x : Operand} {id ver : Nat} {k : K} {e : List (K × HV)} {pe : Option (Nat × Value)} {Te : TyI} {zh : HV}
  (h0 : (o.guard, o.dst, o.op) = (none, some d, .lookup t m x true)) (hT : ty P t = some ⟨.map kt et, a, b, z⟩) (hTe : ty P et = some Te) (hz : constHV Te.zero = some zh)
  (hm : (⟨sl, H⟩ : AS).ev m = some (.mp id ver)) (hx : (⟨sl, H⟩ : AS).ev x = some (kh k)) (hk : wf k = true) (hg : hget H id = some (ver, .gmap (gcan kf e) pe)) (hw : ∀ x ∈ e, wf x.1 = true)
  (kk : bops P ro N all rest Q ⟨(d, .tup [(glook k e).getD zh, .bool (glook k e).isSome]) :: sl, H⟩) : bops P ro N all (o :: rest) Q ⟨sl, H⟩ := by
 obtain ⟨e1, e2⟩ := Prod.mk.inj h0
 obtain ⟨e2, e3⟩ := Prod.mk.inj e2
 refine b_opX e1 fun hN => AOp.lookupOkG T e3 hN hT rfl hTe hz hm hx hk hg hw ?_
 rw [e2]; exact bops_le (put_le (s := ⟨sl, H⟩) d _) kk
theorem b_setG (T : KeyT P kt kh kf wf) {t et : TypeId} {a b : Nat} {z : Value} {m x y : Operand} {id ver : Nat} {k : K} {e : List (K × HV)} {pe : Option (Nat × Value)} {hv : HV}
  (h0 : (o.guard, o.dst, o.op) = (none, none, .mapUpdate t m x y) ∨ (o.guard, o.dst, o.op) = (none, none, .insert t m x y)) (hT : ty P t = some ⟨.map kt et, a, b, z⟩)
  (hm : (⟨sl, H⟩ : AS).ev m = some (.mp id ver)) (hx : (⟨sl, H⟩ : AS).ev x = some (kh k)) (hk : wf k = true) (hy : (⟨sl, H⟩ : AS).ev y = some hv) (hg : hget H id = some (ver, .gmap (gcan kf e) pe)) (hw : ∀ x ∈ e, wf x.1 = true) (hni : noIt id H)
  (kk : bops P ro N all rest Q ⟨sl, (id, ver, .gmap (gcan kf (gput k hv e)) none) :: H⟩) : bops P ro N all (o :: rest) Q ⟨sl, H⟩ := by
 have e1 : o.guard = none := by rcases h0 with h0 | h0 <;> exact (Prod.mk.inj h0).1
 have e2 : o.dst = none := by rcases h0 with h0 | h0 <;> exact (Prod.mk.inj (Prod.mk.inj h0).2).1
 have e3 : o.op = .mapUpdate t m x y ∨ o.op = .insert t m x y := by
  rcases h0 with h0 | h0
  ·exact .inl (Prod.mk.inj (Prod.mk.inj h0).2).2
  exact .inr (Prod.mk.inj (Prod.mk.inj h0).2).2
 refine b_opX e1 fun hN => AOp.mapUpdateG T e3 hN hT rfl hm hx hk hy hg hw hni ?_
 rw [e2]
 exact bops_le (putN_le (s := ⟨sl, H⟩) id ver _ _) kk
theorem b_entG (T : KeyT P kt kh kf wf) {d : Nat} {t et : TypeId} {a b : Nat} {z : Value} {m x : Operand} {id ver : Nat} {k : K} {e : List (K × HV)} {pe : Option (Nat × Value)} {Te : TyI} {zh : HV}
  (h0 : (o.guard, o.dst, o.op) = (none, some d, .mapEntry t m x)) (hT : ty P t = some ⟨.map kt et, a, b, z⟩) (hTe : ty P et = some Te) (hz : constHV Te.zero = some zh)
  (hm : (⟨sl, H⟩ : AS).ev m = some (.mp id ver)) (hx : (⟨sl, H⟩ : AS).ev x = some (kh k)) (hk : wf k = true) (hg : hget H id = some (ver, .gmap (gcan kf e) pe)) (hw : ∀ x ∈ e, wf x.1 = true) (hni : noIt id H)
  (kk : ∀ n : Nat, bops P ro N all rest Q ⟨(d, .tup [(glook k e).getD zh, .v (goInt n)]) :: sl, (id, ver, .gmap (gcan kf (gtouch k zh e)) (some (n, kf k))) :: H⟩) : bops P ro N all (o :: rest) Q ⟨sl, H⟩ := by
 obtain ⟨e1, e2⟩ := Prod.mk.inj h0
 obtain ⟨e2, e3⟩ := Prod.mk.inj e2
 refine b_opX e1 fun hN => AOp.mapEntryG T e3 hN hT rfl hTe hz hm hx hk hg hw hni fun n => ?_
 rw [e2]; exact bops_le (putH_le (s := ⟨sl, H⟩) id ver _ d _) (kk n)
theorem b_entStG (hinj : ∀ a b, kf a = kf b → a = b) {t : TypeId} {m x y : Operand} {id ver n : Nat} {k : K} {e : List (K × HV)} {hv : HV} (h0 : (o.guard, o.dst, o.op) = (none, none, .entryStore t m x y))
  (hm : (⟨sl, H⟩ : AS).ev m = some (.mp id ver)) (hx : (⟨sl, H⟩ : AS).ev x = some (.v (goInt n))) (hy : (⟨sl, H⟩ : AS).ev y = some hv) (hg : hget H id = some (ver, .gmap (gcan kf e) (some (n, kf k)))) (hni : noIt id H)
  (kk : bops P ro N all rest Q ⟨sl, (id, ver, .gmap (gcan kf (gput k hv e)) none) :: H⟩) : bops P ro N all (o :: rest) Q ⟨sl, H⟩ := by
 obtain ⟨e1, e2⟩ := Prod.mk.inj h0
 obtain ⟨e2, e3⟩ := Prod.mk.inj e2
 refine b_opX e1 fun hN => AOp.entryStoreG hinj e3 hN hm hx hy hg hni ?_
 rw [e2]
 exact bops_le (putN_le (s := ⟨sl, H⟩) id ver _ _) kk
theorem b_rangeG {d : Nat} {t et : TypeId} {a b : Nat} {z : Value} {m : Operand} {mid mver : Nat} {es : List (Value × HV)} {pe : Option (Nat × Value)} (id : Nat) (h0 : (o.guard, o.dst, o.op) = (none, some d, .range t m)) (hT : ty P t = some ⟨.map kt et, a, b, z⟩) (hm : (⟨sl, H⟩ : AS).ev m = some (.mp mid mver)) (hg : hget H mid = some (mver, .gmap es pe)) (hid : id ≠ mid)
  (kk : ∀ ver, bops P ro N all rest Q ⟨(d, .it id ver) :: sl, (id, ver, .iter mid mver [] false) :: H⟩) : bops P ro N all (o :: rest) Q ⟨sl, H⟩ := by
 obtain ⟨h1, h2⟩ := Prod.mk.inj h0
 obtain ⟨h2, h3⟩ := Prod.mk.inj h2
 refine b_opX h1 fun hN => AOp.rangeG id h3 hN hT rfl hm hg hid fun ver => ?_
 rw [h2]
 exact bops_le (putH_le (s := ⟨sl, H⟩) id ver _ d _) (kk ver)
end
section
variable {P : Program} {ro : Option Nat} {N : Nat} {o : Oper} {sl : List (Nat × HV)} {H : Heap} {all : Array Oper} {rest : List Oper} {Q : AS → Prop}
variable {K : Type} {kt : TypeId} {kh : K → HV} {kf : K → Value} {wf : K → Bool}
theorem b_nextG {d : Nat} {x : Operand} {id ver mid mver : Nat} {seen : List (List UInt8)} {cur : Bool} {e : List (K × HV)} {pe : Option (Nat × Value)} (kc : ∀ w μ k, wf k = true → Rep w μ (kh k) (kf k)) (hci : ∀ a b, codeV (kf a) = codeV (kf b) → a = b) (hinj : ∀ a b, kf a = kf b → a = b)
  (h0 : (o.guard, o.dst, o.op) = (none, some d, .next x false)) (hx : (⟨sl, H⟩ : AS).ev x = some (.it id ver)) (hg : hget H id = some (ver, .iter mid mver seen cur)) (hgm : hget H mid = some (mver, .gmap (gcan kf e) pe)) (hw : ∀ x ∈ e, wf x.1 = true)
  (h1 : (∀ p ∈ e, codeV (kf p.1) ∈ seen) → bops P ro N all rest Q ⟨(d, .tup [.bool false]) :: sl, H⟩)
  (h2 : ∀ k v, (k, v) ∈ e → codeV (kf k) ∉ seen → bops P ro N all rest Q ⟨(d, .tup [.bool true, kh k, v]) :: sl, (id, ver, .iter mid mver (codeV (kf k) :: seen) true) :: H⟩) : bops P ro N all (o :: rest) Q ⟨sl, H⟩ := by
 obtain ⟨e1, e2⟩ := Prod.mk.inj h0
 obtain ⟨e2, e3⟩ := Prod.mk.inj e2
 refine b_opX e1 fun hN => AOp.nextG kc hci hinj e3 hN hx hg hgm hw (fun hall => ?_) (fun k v hk hn => ?_)
 ·rw [e2]
  exact bops_le (put_le (s := ⟨sl, H⟩) d _) (h1 hall)
 rw [e2]
 exact bops_le (putH_le (s := ⟨sl, H⟩) id ver _ d _) (h2 k v hk hn)
end
section
variable {P : Program} {ro : Option Nat} {N : Nat} {o : Oper} {sl : List (Nat × HV)} {H : Heap} {all : Array Oper} {rest : List Oper} {Q : AS → Prop}
variable {K : Type} {kt : TypeId} {kh : K → HV} {kf : K → Value} {wf : K → Bool}
variable [DecidableEq K]
theorem b_entryG {d : Nat} {x : Operand} {id ver mid mver : Nat} {k : K} {seen : List (List UInt8)} {e : List (K × HV)} {pe : Option (Nat × Value)} {v : HV} (kc : ∀ w μ k, wf k = true → Rep w μ (kh k) (kf k)) (hci : ∀ a b, codeV (kf a) = codeV (kf b) → a = b) (hinj : ∀ a b, kf a = kf b → a = b)
  (h0 : (o.guard, o.dst, o.op) = (none, some d, .entry x)) (hx : (⟨sl, H⟩ : AS).ev x = some (.it id ver)) (hg : hget H id = some (ver, .iter mid mver (codeV (kf k) :: seen) true)) (hgm : hget H mid = some (mver, .gmap (gcan kf e) pe)) (hw : ∀ x ∈ e, wf x.1 = true) (hk : glook k e = some v)
  (kk : bops P ro N all rest Q ⟨(d, .tup [kh k, v]) :: sl, H⟩) : bops P ro N all (o :: rest) Q ⟨sl, H⟩ := by
 obtain ⟨e1, e2⟩ := Prod.mk.inj h0
 obtain ⟨e2, e3⟩ := Prod.mk.inj e2
 refine b_opX e1 fun hN => AOp.entryG kc hci hinj e3 hN hx hg hgm hw hk ?_
 rw [e2]
 exact bops_le (put_le (s := ⟨sl, H⟩) d _) kk
end
def kfSS (k : List UInt8 × List UInt8) : Value := .agg #[strV k.1, strV k.2]
def khSS (k : List UInt8 × List UInt8) : HV := .agg [.str k.1, .str k.2]
def wfSS (k : List UInt8 × List UInt8) : Bool := decide (k.1.length ≤ maxLen) && decide (k.2.length ≤ maxLen)
theorem kfSS_inj (a b : List UInt8 × List UInt8) (h : kfSS a = kfSS b) : a = b := by
 obtain ⟨a1, a2⟩ := a
 obtain ⟨b1, b2⟩ := b
 simp [kfSS, strV] at h
 simp [h]
theorem khSS_rep (w : World) (μ : Mu) (k : List UInt8 × List UInt8) (h : wfSS k = true) : Rep w μ (khSS k) (kfSS k) := by
 simp only [wfSS, Bool.and_eq_true, decide_eq_true_eq] at h
 refine ⟨fun d hd => ?_, _, rfl, _, _, rfl, ⟨rfl, h.1⟩, _, _, rfl, ⟨rfl, h.2⟩, rfl⟩
 simp only [List.mem_cons, List.not_mem_nil, or_false] at hd
 rcases hd with rfl | rfl <;> rfl
theorem codeSS (k : List UInt8 × List UInt8) : codeV (kfSS k) = List.replicate k.1.length 1 ++ 0 :: (k.1 ++ k.2) := rfl
theorem rep_inj : ∀ (n m : Nat) (u v : List UInt8), List.replicate n (1 : UInt8) ++ 0 :: u = List.replicate m 1 ++ 0 :: v → n = m ∧ u = v
 | 0, 0, u, v, h => ⟨rfl, by simpa using h⟩
 | 0, m + 1, u, v, h => by simp [List.replicate_succ] at h
 | n + 1, 0, u, v, h => by simp [List.replicate_succ] at h
 | n + 1, m + 1, u, v, h => by
  simp only [List.replicate_succ, List.cons_append, List.cons.injEq, true_and] at h
  have := rep_inj n m u v h
  exact ⟨by omega, this.2⟩
theorem codeSS_inj (a b : List UInt8 × List UInt8) (h : codeV (kfSS a) = codeV (kfSS b)) : a = b := by
 rw [codeSS, codeSS] at h
 obtain ⟨h1, h2⟩ := rep_inj _ _ _ _ h
 obtain ⟨a1, a2⟩ := a
 obtain ⟨b1, b2⟩ := b
 obtain ⟨rfl, rfl⟩ := List.append_inj h2 h1
 rfl
open Go.Proofs
theorem kTRace : KeyT Tryz.prog 116 khSS kfSS wfSS where
 law := Go.Maps.Keyed.of_law (deep_law (m := 3) (by decide) (by kernel_rfl) (by kernel_rfl) (by kernel_rfl))
 inj := kfSS_inj
 kv := by
  rintro ⟨a, b⟩ h
  have hb : a.length ≤ maxLen ∧ b.length ≤ maxLen := by
   have := h
   unfold wfSS at this
   simpa [Bool.and_eq_true, decide_eq_true_eq] using this
  obtain ⟨h1, h2⟩ := hb
  have hk : hkey Tryz.prog (Tryz.prog.types.size + 1) 116 [HV.str a, HV.str b] = some [Lit.string a, Lit.string b] := by kernel_rfl
  have hu : (match Tryz.prog.underlying 116 with | some (.struct _) => true | _ => false) = true := by kernel_rfl
  have hf : (Tryz.prog.keyType 116 && (Value.agg #[strV a, strV b]).formed Tryz.prog 116) = true := by kernel_rfl
  refine ⟨?_, ?_⟩
  ·rintro w μ x ⟨_, vs, rfl, x1, _, rfl, ⟨rfl, _⟩, x2, _, rfl, ⟨rfl, _⟩, rfl⟩
   rfl
  have hr : RepL default (⟨0, fun _ => none, fun _ => False⟩ : Mu) [HV.str a, HV.str b] [strV a, strV b] := ⟨_, _, rfl, ⟨rfl, h1⟩, _, _, rfl, ⟨rfl, h2⟩, rfl⟩
  have hl := hkey_lits hr hk
  unfold keyOf kfSS
  split
  ·rename_i he; rw [he] at hu; cases hu
  ·rw [if_pos hf]
   show ∃ l, Option.map _ (Tryz.prog.keyLits _ _ [strV a, strV b]) = some l
   rw [hl]
   exact ⟨_, rfl⟩
  rename_i h1 h2
  split at hu
  ·rename_i fs he; exact absurd he (h2 fs)
  cases hu
section
variable {P : Program} {ro : Option Nat} {N : Nat} {s : AS}
theorem AOp.buildA {o : Oper} {K : AS → Prop} {t e : TypeId} {n : Nat} {ps : Array (Nat × Operand)} {T E : TyI} {zs cs : List HV} {qs : List (Nat × HV)} (hop : o.op = .build t ps) (hN : okd N o.dst = true) (hT : ty P t = some T) (hTd : T.desc = .array n e) (hE : ty P e = some E)
  (hz : zcells T.zero = some zs) (hq : aparts s ps.toList = some qs) (hf : afill (fun i => some (i * E.size, E.size)) qs zs = some cs) (k : K (s.put o.dst (.agg cs))) : AOp P ro N o K s := by
 refine AOp.value (fun c e => by rw [hop] at e; cases e) hN fun B μ a w hs => ?_
 obtain ⟨hl, hp⟩ := aparts_spec hs hq
 have hz0 := zcells_rep (w := w) (μ := μ) hz
 obtain ⟨cells, h1, h2, h3⟩ := fill_rep (fun i => some (i * E.size, E.size)) hl hp (zcells_ones hz) hz0 hf
 have htd : P.underlying t = some (.array n e) := by rw [← hTd]; exact (ty_spec hT).1
 refine ⟨.agg cells, .agg cs, μ, w, s.heap, ?_, hs.sr, Evo.refl w μ, ⟨h2, cells.toList, rfl, h3⟩, k⟩
 have h4 : Instr.fill (fun i => some (i * E.size, E.size)) T.zero.cells (ps.map fun (i, x) => (i, a.eval x)).toList = some cells := by
  rw [← h1]
  congr 1
  simp
 have hb : (Instr.build t (ps.map fun (i, x) => (i, a.eval x))).run P w = .ok (.agg cells) w := by
  simp only [Instr.build, Sem.run_bind, ty_zero hT, Result.andThen_ok, run_underlying htd, ty_sizeOf hE, h4]
  rfl
 simp only [execOp, hop, Sem.run_bind, hb, Result.andThen_ok]
 rfl
end
section
variable {P : Program} {ro : Option Nat} {N : Nat} {o : Oper} {sl : List (Nat × HV)} {H : Heap} {all : Array Oper} {rest : List Oper} {Q : AS → Prop}
theorem b_buildA {d : Nat} {t e : TypeId} {n a b : Nat} {z : Value} {ps : Array (Nat × Operand)} {E : TyI} {zs cs : List HV} {qs : List (Nat × HV)} (h0 : (o.guard, o.dst, o.op) = (none, some d, .build t ps)) (hT : ty P t = some ⟨.array n e, a, b, z⟩) (hE : ty P e = some E)
  (hz : zcells z = some zs) (hq : aparts ⟨sl, H⟩ ps.toList = some qs) (hf : afill (fun i => some (i * E.size, E.size)) qs zs = some cs) (kk : bops P ro N all rest Q ⟨(d, .agg cs) :: sl, H⟩) : bops P ro N all (o :: rest) Q ⟨sl, H⟩ := by
 obtain ⟨h1, h2⟩ := Prod.mk.inj h0
 obtain ⟨h2, h3⟩ := Prod.mk.inj h2
 refine b_opX h1 fun hN => AOp.buildA h3 hN hT rfl hE hz hq hf ?_
 rw [h2]
 exact bops_le (put_le (s := ⟨sl, H⟩) d _) kk
end
section
variable {P : Program} {ro : Option Nat} {N B : Nat} {s : AS} {μ μ' : Mu} {a : Act} {w w' : World}
theorem run_append_inOs {t xt ty' e : TypeId} {T Te : TyI} (hT : ty P t = some T) (hd : T.desc = .slice e) (hTe : ty P e = some Te) {b off n cap m : Nat} {cur : Array Value} {x : Value} {news : List Value}
  (hr : Row w b cur e) (hsrc : Src P w xt x Te.size m news) (h1 : ∀ v ∈ news, v.oneCell' = true) (hcap : off + cap * Te.size = cur.size) (hroom : n + m ≤ cap) :
  ∃ w' cur', (Builtin.append_ #[t, xt] ty' #[.slice (some ⟨b, off, none⟩) n cap, x]).run P w = .ok (.slice (some ⟨b, off, none⟩) (n + m) cap) w' ∧ Row w' b cur' e ∧
   cur'.toList = cur.toList.take (off + n * Te.size) ++ news ++ cur.toList.drop (off + n * Te.size + news.length) ∧ Same w w' ∧ w'.heap.size = w.heap.size ∧ ∀ b', b' ≠ b → w'.heap[b']? = w.heap[b']? := by
 have hfit : off + n * Te.size + 0 + news.length ≤ cur.size := by
  rw [hsrc.hl, ← hcap, Nat.add_zero, Nat.add_assoc, ← Nat.add_mul]
  exact Nat.add_le_add_left (Nat.mul_le_mul_right _ hroom) _
 obtain ⟨w', cur', h2, h3, h4, h5, h6, h7⟩ := storeCells_row (P := P) b (off + n * Te.size) e news 0 cur w hr hfit h1
 refine ⟨w', cur', ?_, h3, by simpa using h4, h5, h6, h7⟩
 have hu := ty_under hT
 rw [hd] at hu
 have hadd : (⟨b, off, none⟩ : Addr).add (n * Te.size) = ⟨b, off + n * Te.size, none⟩ := by rw [Addr.add_lit]
 rcases hsrc.int with ⟨e', hx⟩ | hx
 ·simp [Builtin.append_, hu, hx, ty_sizeOf hTe, hsrc.len, hroom, hsrc.cells w rfl, h2, hadd]
 simp [Builtin.append_, hu, hx, ty_sizeOf hTe, hsrc.len, hroom, hsrc.cells w rfl, h2, hadd]
theorem AOp.appendQs {o : Oper} {K : AS → Prop} {t xt e : TypeId} {T Te : TyI} {x y : Operand} {hy : HV} {i ver off n m : Nat} {xs ds : List HV}
  (hop : o.op = .call { callee := .builtin .append, args := #[x, y], argTypes := #[t, xt] }) (hN : okd N o.dst = true) (hT : ty P t = some T) (hd : T.desc = .slice e) (hTe : ty P e = some Te)
  (hz : (zcells Te.zero).any (fun zs => zs.length == Te.size) = true) (hex : s.ev x = some (.ar i ver Te.size off n)) (hey : s.ev y = some hy)
  (hg : hget s.heap i = some (ver, .arr Te.size e xs)) (hlen : off + n * Te.size = xs.length) (hsrc : asrc P s xt Te.size hy fun m' ds' => m' = m ∧ ds' = ds)
  (hbytes : (n + m) * Te.bytes ≤ 140737488355328) (h63 : n + m ≤ maxLen)
  (hk1 : ∀ v, K (({ s with heap := hset s.heap i v (.arr Te.size e (xs ++ ds)) } : AS).put o.dst (.ar i v Te.size off (n + m))))
  (hk2 : ∀ v, K (({ s with heap := hset s.heap i v (.arr Te.size e (xs.drop off ++ ds)) } : AS).put o.dst (.ar i v Te.size 0 (n + m)))) : AOp P ro N o K s := by
 refine AOp.value (fun c e => by rw [hop] at e; cases e) hN fun B μ a w hs => ?_
 obtain ⟨m', ds', vs, ⟨rfl, rfl⟩, hdone, hdr, hS⟩ := asrc_spec hs (hs.ev hey) hsrc
 have hzs : Te.zero.cells.size = Te.size := by
  cases hzz : zcells Te.zero with
  | none => rw [hzz] at hz; simp at hz
  | some zs =>
   rw [hzz] at hz
   have := (zcells_rep (w := w) (μ := μ) hzz).length
   simp at hz
   rw [← Array.length_toList, this, hz]
 have hrunC : ∀ v' w', (Builtin.append_ #[t, xt] o.type #[a.eval x, a.eval y]).run P w = .ok v' w' → (execOp a.eval o).run P w = .ok (.value v') w' := fun v' w' hv => by
  simp only [execOp, hop, resolve, invoke, builtin, Sem.run_bind, Sem.run_pure, Result.andThen_ok, List.map_toArray, List.map_cons, List.map_nil, hv]
 obtain ⟨l, hl, hor⟩ := hs.sr.has i _ _ hg
 rcases hs.ev hex with ⟨l', hl', hxr⟩ | ⟨hdd, _⟩
 case inr => exact absurd hl (hdd.2 l)
 rw [hl] at hl'
 cases hl'
 rcases hxr with ⟨rfl, he, rfl, rfl⟩ | ⟨b, cap, cur, e3, rfl, he, hnc, hcm, hrow, hsz⟩
 ·-- nothing there: a new row, or nothing is appended
  have hxs : xs = [] := hor
  subst hxs
  by_cases hm0 : m' = 0
  ·subst hm0
   have hrun : (Builtin.append_ #[t, xt] o.type #[a.eval x, a.eval y]).run P w = .ok (.slice none 0 0) w := by
    have hu := ty_under hT
    rw [hd] at hu
    have hv0 : vs = [] := List.eq_nil_of_length_eq_zero (by rw [hS.hl]; simp)
    have hc := hS.cells w rfl
    rw [he]
    rcases hS.int with ⟨e', hx'⟩ | hx'
    ·simp [Builtin.append_, hu, hx', ty_sizeOf hTe, hS.len, hc, storeCells, hv0]
    simp [Builtin.append_, hu, hx', ty_sizeOf hTe, hS.len, hc, storeCells, hv0]
   have hds0 : ds' = [] := List.eq_nil_of_length_eq_zero (by rw [← hdr.length, hS.hl]; simp)
   have hsame : ∀ b, b < w.heap.size → (∀ ver, μ.loc i ≠ some (ver, some b)) → w.heap[b]? = w.heap[b]? := fun _ _ _ => rfl
   refine ⟨_, .ar i μ.nx Te.size 0 (0 + 0), μ.set i none, w, _, hrunC _ _ hrun, hs.sr.repl i none (.arr Te.size e ([].drop 0 ++ ds')) (Same.refl w) (Nat.le_refl _) hsame (fun b hb => by cases hb) ?_,
    Evo.repl hs.sr i none (Same.refl w) (Nat.le_refl _) hsame (fun b hb => by cases hb), .inl ⟨none, by simp [Mu.set], .inl ⟨rfl, rfl, rfl, rfl⟩⟩, hk2 μ.nx⟩
   show [] ++ ds' = []
   rw [hds0]; rfl
  have hold0 : ∀ w' : World, w'.heap = w.heap → (Builtin.firstCells Te.size 0 (.slice none 0 0)).run P w' = .ok ([] : List Value).toArray w' := by
   intro w' _
   simp [Builtin.firstCells]
  obtain ⟨w', newCap, rest, h1, h2, h3, h4, h5, g⟩ := run_append_out (P := P) (ty' := o.type) hT hd hTe hold0 (by simp) hS hzs (by omega) hbytes h63
  have hold : ∀ b', b' < w.heap.size → (∀ ver, μ.loc i ≠ some (ver, some b')) → w'.heap[b']? = w.heap[b']? := fun b' hb' _ => g.old b' hb'
  have hl' : ∀ b', some w.heap.size = some b' → w.heap.size ≤ b' ∨ ∃ ver, μ.loc i = some (ver, some b') := fun b' e => by cases e; exact .inl (Nat.le_refl _)
  have hE := Evo.repl hs.sr i (some w.heap.size) g.toSame g.size hold hl'
  refine ⟨_, .ar i μ.nx Te.size 0 (0 + m'), μ.set i (some w.heap.size), w', _, hrunC _ _ (by rw [he]; exact h1), hs.sr.repl i (some w.heap.size) (.arr Te.size e ([].drop 0 ++ ds')) g.toSame g.size hold hl' ?_, hE,
   .inl ⟨some w.heap.size, by simp [Mu.set], .inr ⟨w.heap.size, newCap, _, e, rfl, rfl, h4, h5, h2, by simp only [List.size_toArray]; omega⟩⟩, hk2 μ.nx⟩
  exact ⟨ones.nil.append hdone, _, [] ++ vs, rest, h2, rfl, by simpa using RepL.evo hE hs.sr.ok _ _ hdr⟩
 obtain ⟨h1, cur', us, rest, hrow', hcl, hrl⟩ := hor
 obtain ⟨rfl, rfl⟩ := hrow.inj hrow'
 have hul := hrl.length
 have htake : cur.toList.take (off + n * Te.size) = us := by rw [hcl, List.take_append_of_le_length (by omega), List.take_of_length_le (by omega)]
 by_cases hroom : n + m' ≤ cap
 ·obtain ⟨w', cur', q1, h2, h3, h4, h5, h6⟩ := run_append_inOs (P := P) (ty' := o.type) hT hd hTe hrow hS (RepL.oneCells hdone hdr) hsz hroom
  have hold : ∀ b', b' < w.heap.size → (∀ ver, μ.loc i ≠ some (ver, some b')) → w'.heap[b']? = w.heap[b']? := fun b' _ hno => h6 b' fun e => hno ver (e ▸ hl)
  have hl' : ∀ b', some b = some b' → w.heap.size ≤ b' ∨ ∃ ver, μ.loc i = some (ver, some b') := fun b' e => by cases e; exact .inr ⟨ver, hl⟩
  have hE := Evo.repl hs.sr i (some b) h4 (by omega) hold hl'
  have hcsz : cur'.size = cur.size := by
   have hfit : off + n * Te.size + vs.length ≤ cur.size := by
    rw [hS.hl, ← hsz, Nat.add_assoc, ← Nat.add_mul]
    exact Nat.add_le_add_left (Nat.mul_le_mul_right _ hroom) _
   rw [← Array.length_toList, h3]
   simp only [List.length_append, List.length_take, List.length_drop, Array.length_toList]
   omega
  refine ⟨_, .ar i μ.nx Te.size off (n + m'), μ.set i (some b), w', _, hrunC _ _ (by rw [he]; exact q1), hs.sr.repl i (some b) (.arr Te.size _ (xs ++ ds')) h4 (by omega) hold hl' ?_, hE,
   .inl ⟨some b, by simp [Mu.set], .inr ⟨b, cap, cur', _, rfl, rfl, hroom, hcm, h2, by omega⟩⟩, hk1 μ.nx⟩
  refine ⟨h1.append hdone, cur', us ++ vs, cur.toList.drop (off + n * Te.size + vs.length), h2, ?_, (RepL.evo hE hs.sr.ok _ _ hrl).append (RepL.evo hE hs.sr.ok _ _ hdr)⟩
  rw [h3, htake]
 have hold0 : ∀ w' : World, w'.heap = w.heap → (Builtin.firstCells Te.size n (.slice (some ⟨b, off, none⟩) n cap)).run P w' = .ok (us.drop off).toArray w' := by
  intro w' hw'
  obtain ⟨lo, hi, hh, _⟩ := hrow
  have hseg : Seg w b off (us.drop off) := ⟨cur, _, (lo, hi), us.take off, rest, hh, by rw [List.take_append_drop]; exact hcl, by simp; omega⟩
  exact first_seg hseg (by simp; omega) w' hw'
 obtain ⟨w', newCap, rest', q1, h2, h3, h4, h5, g⟩ := run_append_out (P := P) (ty' := o.type) hT hd hTe hold0 (by simp; omega) hS hzs (by omega) hbytes h63
 have hold : ∀ b', b' < w.heap.size → (∀ ver, μ.loc i ≠ some (ver, some b')) → w'.heap[b']? = w.heap[b']? := fun b' hb' _ => g.old b' hb'
 have hl' : ∀ b', some w.heap.size = some b' → w.heap.size ≤ b' ∨ ∃ ver, μ.loc i = some (ver, some b') := fun b' e => by cases e; exact .inl (Nat.le_refl _)
 have hE := Evo.repl hs.sr i (some w.heap.size) g.toSame g.size hold hl'
 refine ⟨_, .ar i μ.nx Te.size 0 (n + m'), μ.set i (some w.heap.size), w', _, hrunC _ _ (by rw [he]; exact q1), hs.sr.repl i (some w.heap.size) (.arr Te.size _ (xs.drop off ++ ds')) g.toSame g.size hold hl' ?_, hE,
  .inl ⟨some w.heap.size, by simp [Mu.set], .inr ⟨w.heap.size, newCap, _, _, rfl, rfl, h4, h5, h2, by simp only [List.size_toArray]; omega⟩⟩, hk2 μ.nx⟩
 exact ⟨(h1.drop off).append hdone, _, us.drop off ++ vs, rest', h2, rfl, ((RepL.evo hE hs.sr.ok _ _ hrl).drop off).append (RepL.evo hE hs.sr.ok _ _ hdr)⟩
theorem AOp.appendV {o : Oper} {K : AS → Prop} {t xt e : TypeId} {T Te : TyI} {x y : Operand} {hy : HV} {a0 : Option Addr} {m : Nat} {ds : List HV} (i : Nat)
  (hop : o.op = .call { callee := .builtin .append, args := #[x, y], argTypes := #[t, xt] }) (hN : okd N o.dst = true) (hT : ty P t = some T) (hd : T.desc = .slice e) (hTe : ty P e = some Te)
  (hz : (zcells Te.zero).any (fun zs => zs.length == Te.size) = true) (hex : s.ev x = some (.v (.slice a0 0 0))) (hey : s.ev y = some hy)
  (hsrc : asrc P s xt Te.size hy fun m' ds' => m' = m ∧ ds' = ds) (hm0 : 1 ≤ m)
  (hbytes : m * Te.bytes ≤ 140737488355328) (h63 : m ≤ maxLen)
  (hk2 : ∀ v, K (({ s with heap := hset s.heap i v (.arr Te.size e ds) } : AS).put o.dst (.ar i v Te.size 0 m))) : AOp P ro N o K s := by
 refine AOp.value (fun c e => by rw [hop] at e; cases e) hN fun B μ a w hs => ?_
 obtain ⟨m', ds', vs, ⟨rfl, rfl⟩, hdone, hdr, hS⟩ := asrc_spec hs (hs.ev hey) hsrc
 have hzs : Te.zero.cells.size = Te.size := by
  cases hzz : zcells Te.zero with
  | none => rw [hzz] at hz; simp at hz
  | some zs =>
   rw [hzz] at hz
   have := (zcells_rep (w := w) (μ := μ) hzz).length
   simp at hz
   rw [← Array.length_toList, this, hz]
 have hrunC : ∀ v' w', (Builtin.append_ #[t, xt] o.type #[a.eval x, a.eval y]).run P w = .ok v' w' → (execOp a.eval o).run P w = .ok (.value v') w' := fun v' w' hv => by
  simp only [execOp, hop, resolve, invoke, builtin, Sem.run_bind, Sem.run_pure, Result.andThen_ok, List.map_toArray, List.map_cons, List.map_nil, hv]
 have he : a.eval x = .slice a0 0 0 := hs.ev hex
 have hold0 : ∀ w' : World, w'.heap = w.heap → (Builtin.firstCells Te.size 0 (.slice a0 0 0)).run P w' = .ok ([] : List Value).toArray w' := by
  intro w' _
  cases a0 <;> simp [Builtin.firstCells, loadCells, loadCellsFrom]
 obtain ⟨w', newCap, rest, h1, h2, h3, h4, h5, g⟩ := run_append_out (P := P) (n := 0) (cap := 0) (ty' := o.type) hT hd hTe hold0 (by simp) hS hzs (by omega) (by rw [Nat.zero_add]; exact hbytes) (by rw [Nat.zero_add]; exact h63)
 have hold : ∀ b', b' < w.heap.size → (∀ ver, μ.loc i ≠ some (ver, some b')) → w'.heap[b']? = w.heap[b']? := fun b' hb' _ => g.old b' hb'
 have hl' : ∀ b', some w.heap.size = some b' → w.heap.size ≤ b' ∨ ∃ ver, μ.loc i = some (ver, some b') := fun b' e => by cases e; exact .inl (Nat.le_refl _)
 have hE := Evo.repl hs.sr i (some w.heap.size) g.toSame g.size hold hl'
 refine ⟨_, .ar i μ.nx Te.size 0 (0 + m'), μ.set i (some w.heap.size), w', _, hrunC _ _ (by rw [he]; exact h1), hs.sr.repl i (some w.heap.size) (.arr Te.size e ds') g.toSame g.size hold hl' ?_, hE,
  .inl ⟨some w.heap.size, by simp [Mu.set], .inr ⟨w.heap.size, newCap, _, e, rfl, rfl, h4, h5, h2, by simp only [List.size_toArray]; omega⟩⟩, by rw [Nat.zero_add]; exact hk2 μ.nx⟩
 exact ⟨hdone, _, vs, rest, by simpa using h2, rfl, RepL.evo hE hs.sr.ok _ _ hdr⟩
theorem AOp.sliceQs {o : Oper} {K : AS → Prop} {t e e' : TypeId} {T : TyI} {x lo : Operand} {i ver k off n : Nat} {xs : List HV} {lk : IntKind}
  (hop : o.op = .slice t x (some lo) none none) (hN : okd N o.dst = true) (hT : ty P t = some T) (hd : T.desc = .slice e) (hk : elemSize P t = some k) (hex : s.ev x = some (.ar i ver k off n)) (hlo : s.ev lo = some (.int lk 1))
  (hg : hget s.heap i = some (ver, .arr k e' xs)) (hn : 1 ≤ n)
  (hk1 : ∀ v, K (({ s with heap := hset s.heap i v (.arr k e' xs) } : AS).put o.dst (.ar i v k (off + k) (n - 1))))
  (hk2 : n = 1 → ∀ a0 : Option Addr, K (s.put o.dst (.v (.slice a0 0 0)))) : AOp P ro N o K s := by
 refine AOp.value (fun c e => by rw [hop] at e; cases e) hN fun B μ a w hs => ?_
 obtain ⟨l, hl, hor⟩ := hs.sr.has i _ _ hg
 have hu := ty_under hT
 rw [hd] at hu
 have hz := elemSize_slice hT hd hk w
 rcases hs.ev hex with ⟨l', hl', hxr⟩ | ⟨hdd, _⟩
 case inr => exact absurd hl (hdd.2 l)
 rw [hl] at hl'
 cases hl'
 rcases hxr with ⟨rfl, _, h0, _⟩ | ⟨b, cap, cur, e3, rfl, he, hnc, hcm, hrow, hsz⟩
 ·omega
 have hb := run_bounds (P := P) hs (lo := some lo) (hi := none) (p := 1) (q := n) true n cap (by simp [asl, hlo]) rfl (by omega) (by omega) (by omega)
 simp only [Option.map_some, Option.map_none, Int.toNat_one, Int.toNat_natCast] at hb
 by_cases hpc : cap = 1
 ·have hn1 : n = 1 := by omega
  subst hn1 hpc
  refine ⟨.slice (some ⟨b, off, none⟩) 0 0, .v (.slice (some ⟨b, off, none⟩) 0 0), μ, w, s.heap, ?_, hs.sr, Evo.refl w μ, rfl, hk2 rfl _⟩
  simp [execOp, hop, Instr.sliceAt, Instr.slice, he, hu, hb, hz]
 refine ⟨.slice (some ⟨b, off + 1 * k, none⟩) (n - 1) (cap - 1), .ar i ver k (off + k) (n - 1), μ, w, _, ?_, hs.sr.same hg, Evo.refl w μ, .inl ⟨some b, hl, .inr ⟨b, cap - 1, cur, e3, rfl, by rw [Nat.one_mul], by omega, by omega, hrow, ?_⟩⟩, hk1 ver⟩
 ·simp [execOp, hop, Instr.sliceAt, Instr.slice, he, hu, hb, hz, hpc, Addr.add_lit]
 obtain ⟨c', rfl⟩ : ∃ c', cap = c' + 1 := ⟨cap - 1, by omega⟩
 rw [Nat.add_sub_cancel, ← hsz, Nat.add_mul, Nat.one_mul]
 omega
end
section
variable {P : Program} {ro : Option Nat} {N : Nat} {o : Oper} {sl : List (Nat × HV)} {H : Heap} {all : Array Oper} {rest : List Oper} {K : AS → Prop} {α : Type} (c : EncL α)
theorem v_idxAQs {s : AS} {t e : TypeId} {a b : Nat} {z : Value} {x i : Operand} {k m n id ver : Nat} {o : AObj} {k' : IntKind} {j : Int} (hT : ty P t = some ⟨.slice e, a, b, z⟩) (hE : elemSize P t = some k) (hx : s.ev x = some (.ar id ver k m n)) (hi : s.ev i = some (.int k' j)) (hj : 0 ≤ j ∧ j < n) (hg : hget s.heap id = some (ver, o)) :
  aval P (.indexAddr t x i) s (· = .ptr id ver (m + j.toNat * k)) := by
 simp only [aval, hT, hE, hx, hi]
 exact ⟨trivial, hj.1, hj.2, by simp only [alive, hg], trivial⟩
theorem idxQs {pre l : List α} {j : Int} {x : α} (h : idx l j = some x) : idx (pre ++ l) ((pre.length : Int) + j) = some x ∧ ((pre.length : Int) + j).toNat = pre.length + j.toNat := by
 obtain ⟨h0, h1⟩ := idx_lt h
 have e : ((pre.length : Int) + j).toNat = pre.length + j.toNat := by omega
 refine ⟨?_, e⟩
 unfold idx
 rw [if_pos (by omega), e, List.getElem?_append_right (by omega), Nat.add_sub_cancel_left]
 exact idx_get h
theorem l_aggQs {T : TyI} {pre l : List α} {j : Int} {x : α} (h : idx l j = some x) (ha : aggD T.desc = true) (hs : T.size = c.k) : loadK T (c.E (pre ++ l)) (pre.length * c.k + j.toNat * c.k) (· = .agg (c.C x)) := by
 obtain ⟨h1, h2⟩ := idxQs (pre := pre) h
 have := l_agg c h1 ha hs
 rwa [h2, Nat.add_mul] at this
theorem b_appQs {d : Nat} {t xt e e2 : TypeId} {a b a2 b2 : Nat} {z z2 : Value} {aa : Array Operand} {ts : Array TypeId} {x y : Operand} {Te : TyI} {pre l m : List α} {id ver : Nat}
  (hgd : o.guard = none) (h0 : (o.dst, o.op) = (some d, .call ⟨.builtin .append, aa, ts⟩)) (ha : (aa.toList, ts.toList) = ([x, y], [t, xt])) (hT : ty P t = some ⟨.slice e, a, b, z⟩) (hxt : ty P xt = some ⟨.slice e2, a2, b2, z2⟩) (hTe : ty P e = some Te)
  (hx : (⟨sl, H⟩ : AS).ev x = some (.ar id ver c.k (pre.length * c.k) l.length)) (hg : hget H id = some (ver, .arr c.k e (c.E (pre ++ l)))) (hy : (⟨sl, H⟩ : AS).ev y = some (.sl c.k m.length (c.E m)))
  (hk : Te.size = c.k) (hz : (zcells Te.zero).any (fun zs => zs.length == Te.size) = true) (h : fits Te.bytes (l.length + m.length))
  (k : ∀ ver' pre', bops P ro N all rest K ⟨(d, .ar id ver' c.k (List.length (α := α) pre' * c.k) (l ++ m).length) :: sl, (id, ver', .arr c.k e (c.E (pre' ++ (l ++ m)))) :: H⟩) : bops P ro N all (o :: rest) K ⟨sl, H⟩ := by
 refine b_opX hgd fun hN => ?_
 obtain ⟨e2', e3⟩ := Prod.mk.inj h0
 obtain ⟨e4, e5⟩ := Prod.mk.inj ha
 have e4 : aa = #[x, y] := by rw [← Array.toArray_toList (xs := aa), e4]
 have e5 : ts = #[t, xt] := by rw [← Array.toArray_toList (xs := ts), e5]
 subst e4 e5
 obtain ⟨f1, f2⟩ := h
 rw [← hk] at hx hg hy
 refine AOp.appendQs (ds := c.E m) (m := m.length) e3 hN hT rfl hTe hz hx hy hg (by rw [c.append, List.length_append, c.len, c.len, hk]) ?_ f1 f2 (fun v => ?_) (fun v => ?_)
 ·simp only [asrc, hxt]
  exact ⟨trivial, trivial, trivial⟩
 ·have := k v pre
  rw [← List.append_assoc, c.append, List.length_append, ← hk] at this
  rw [e2']
  exact bops_le (put_le (s := ⟨sl, hset H id v _⟩) d _) (bops_le (hset_le H id v _ _) this)
 have := k v []
 rw [List.nil_append, c.append, List.length_append, List.length_nil, Nat.zero_mul, ← hk] at this
 have hdr : (c.E (pre ++ l)).drop (pre.length * Te.size) = c.E l := by
  rw [c.append, hk, ← c.len, List.drop_left]
 rw [e2', hdr]
 exact bops_le (put_le (s := ⟨sl, hset H id v _⟩) d _) (bops_le (hset_le H id v _ _) this)
theorem b_sliceQs {d : Nat} {t e : TypeId} {a b : Nat} {z : Value} {x lo : Operand} {pre l : List α} {id ver : Nat} {lk : IntKind}
  (hgd : o.guard = none) (h0 : (o.dst, o.op) = (some d, .slice t x (some lo) none none)) (hT : ty P t = some ⟨.slice e, a, b, z⟩) (hk : elemSize P t = some c.k)
  (hx : (⟨sl, H⟩ : AS).ev x = some (.ar id ver c.k (pre.length * c.k) l.length)) (hlo : (⟨sl, H⟩ : AS).ev lo = some (.int lk 1)) (hg : hget H id = some (ver, .arr c.k e (c.E (pre ++ l)))) (hn : 1 ≤ l.length)
  (k : ∀ ver' pre', bops P ro N all rest K ⟨(d, .ar id ver' c.k (List.length (α := α) pre' * c.k) (l.drop 1).length) :: sl, (id, ver', .arr c.k e (c.E (pre' ++ l.drop 1))) :: H⟩)
  (kv : l.length = 1 → ∀ a0 : Option Addr, bops P ro N all rest K ⟨(d, .v (.slice a0 0 0)) :: sl, H⟩) : bops P ro N all (o :: rest) K ⟨sl, H⟩ := by
 refine b_opX hgd fun hN => ?_
 obtain ⟨e2', e3⟩ := Prod.mk.inj h0
 cases l with
 | nil => simp at hn
 | cons y l =>
  simp only [List.drop_succ_cons, List.drop_zero] at k
  refine AOp.sliceQs e3 hN hT rfl hk hx hlo hg hn (fun v => ?_) (fun h1 a0 => ?_)
  ·have := k v (pre ++ [y])
   rw [List.append_assoc, List.length_append, List.length_singleton, Nat.add_mul, Nat.one_mul] at this
   rw [e2']
   exact bops_le (put_le (s := ⟨sl, hset H id v _⟩) d _) (bops_le (hset_le H id v _ _) this)
  rw [e2']
  exact bops_le (put_le (s := ⟨sl, H⟩) d _) (kv h1 a0)
theorem b_appVs {d : Nat} {t xt e e2 : TypeId} {a b a2 b2 : Nat} {z z2 : Value} {aa : Array Operand} {ts : Array TypeId} {x y : Operand} {Te : TyI} {m : List α} {a0 : Option Addr} (id : Nat)
  (hgd : o.guard = none) (h0 : (o.dst, o.op) = (some d, .call ⟨.builtin .append, aa, ts⟩)) (ha : (aa.toList, ts.toList) = ([x, y], [t, xt])) (hT : ty P t = some ⟨.slice e, a, b, z⟩) (hxt : ty P xt = some ⟨.slice e2, a2, b2, z2⟩) (hTe : ty P e = some Te)
  (hx : (⟨sl, H⟩ : AS).ev x = some (.v (.slice a0 0 0))) (hy : (⟨sl, H⟩ : AS).ev y = some (.sl c.k m.length (c.E m)))
  (hk : Te.size = c.k) (hz : (zcells Te.zero).any (fun zs => zs.length == Te.size) = true) (hm : 1 ≤ m.length) (h : fits Te.bytes m.length)
  (k : ∀ ver', bops P ro N all rest K ⟨(d, .ar id ver' c.k (List.length (α := α) [] * c.k) m.length) :: sl, (id, ver', .arr c.k e (c.E ([] ++ m))) :: H⟩) : bops P ro N all (o :: rest) K ⟨sl, H⟩ := by
 refine b_opX hgd fun hN => ?_
 obtain ⟨e2', e3⟩ := Prod.mk.inj h0
 obtain ⟨e4, e5⟩ := Prod.mk.inj ha
 have e4 : aa = #[x, y] := by rw [← Array.toArray_toList (xs := aa), e4]
 have e5 : ts = #[t, xt] := by rw [← Array.toArray_toList (xs := ts), e5]
 subst e4 e5
 obtain ⟨f1, f2⟩ := h
 rw [← hk] at hy
 refine AOp.appendV (ds := c.E m) (m := m.length) id e3 hN hT rfl hTe hz hx hy ?_ hm f1 f2 (fun v => ?_)
 ·simp only [asrc, hxt]
  exact ⟨trivial, trivial, trivial⟩
 have := k v
 rw [List.nil_append, List.length_nil, Nat.zero_mul, ← hk] at this
 rw [e2']
 exact bops_le (put_le (s := ⟨sl, hset H id v _⟩) d _) (bops_le (hset_le H id v _ _) this)
end
section
variable {P : Program} {ro : Option Nat} {N : Nat} {Q : Exit → AS → Prop} {s : AS}
theorem AW.seqK {x y : Code} (h : ∀ A : AS → Prop, (∀ s', AW P ro N y Q s' → A s') → (∀ s', s'.to A → A s') → AW P ro N x (thenQ A Q) s) : AW P ro N (.seq x y) Q s :=
 AW.seq (h _ (fun _ h => h) fun _ h => AW.to h)
theorem to_leR {s s' : AS} {G : AS → Prop} (h : G s') (hl : s.le s') : s.to G := to_le hl h
theorem UW.step {c : Code} {n : Nat} (h : ∀ A : AS → Prop, (∀ s', UW P ro N c Q (n + 1) s' → A s') → (∀ s', s'.to A → A s') → AW P ro N c (thenQ A Q) s) : UW P ro N c Q (n + 2) s :=
 h _ (fun _ h => h) fun _ h => AW.to h
end
section
variable {P : Program} {ro : Option Nat} {N : Nat} {o : Oper} {sl : List (Nat × HV)} {H : Heap} {all : Array Oper} {rest : List Oper} {Q : AS → Prop}
variable {K : Type} [DecidableEq K] {kt : TypeId} {kh : K → HV} {kf : K → Value} {wf : K → Bool}
theorem o_lookG (hN : okd N o.dst = true) (T : KeyT P kt kh kf wf) {d : Nat} {t et : TypeId} {a b : Nat} {z : Value} {m x : Operand} {id ver : Nat} {k : K} {e : List (K × HV)} {pe : Option (Nat × Value)} {Te : TyI} {zh : HV}
  (h0 : (o.dst, o.op) = (some d, .lookup t m x false)) (hT : ty P t = some ⟨.map kt et, a, b, z⟩) (hTe : ty P et = some Te) (hz : constHV Te.zero = some zh)
  (hm : (⟨sl, H⟩ : AS).ev m = some (.mp id ver)) (hx : (⟨sl, H⟩ : AS).ev x = some (kh k)) (hk : wf k = true) (hg : hget H id = some (ver, .gmap (gcan kf e) pe)) (hw : ∀ x ∈ e, wf x.1 = true)
  (kk : bops P ro N all rest Q ⟨(d, (glook k e).getD zh) :: sl, H⟩) : AOp P ro N o (fun s' => bops P ro N all rest Q s') ⟨sl, H⟩ := by
 obtain ⟨e2, e3⟩ := Prod.mk.inj h0
 refine AOp.lookupG T e3 hN hT rfl hTe hz hm hx hk hg hw ?_
 rw [e2]; exact bops_le (put_le (s := ⟨sl, H⟩) d _) kk
theorem ops_lookG {o : Oper} {s : AS} (T : KeyT P kt kh kf wf) {t et : TypeId} {a b : Nat} {z : Value} {m x : Operand} {id ver : Nat} {k : K} {e : List (K × HV)} {pe : Option (Nat × Value)} {Te : TyI} {zh : HV} {R : HV → Prop}
  (h0 : o.op = .lookup t m x false) (hT : ty P t = some ⟨.map kt et, a, b, z⟩) (hTe : ty P et = some Te) (hz : constHV Te.zero = some zh)
  (hm : s.ev m = some (.mp id ver)) (hx : s.ev x = some (kh k)) (hk : wf k = true) (hg : hget s.heap id = some (ver, .gmap (gcan kf e) pe)) (hw : ∀ x ∈ e, wf x.1 = true)
  (kk : R ((glook k e).getD zh)) : aopS P o R s := by
 unfold aopS
 rw [h0]
 exact ⟨_, kk, fun ro N s2 hN hh he K hK => AOp.lookupG T h0 hN hT rfl hTe hz (by rw [he m (by rw [h0]; simp [Op.operands])]; exact hm) (by rw [he x (by rw [h0]; simp [Op.operands])]; exact hx) hk (by rw [hh]; exact hg) hw hK⟩
theorem o_entG (hN : okd N o.dst = true) (T : KeyT P kt kh kf wf) {d : Nat} {t et : TypeId} {a b : Nat} {z : Value} {m x : Operand} {id ver : Nat} {k : K} {e : List (K × HV)} {pe : Option (Nat × Value)} {Te : TyI} {zh : HV}
  (h0 : (o.dst, o.op) = (some d, .mapEntry t m x)) (hT : ty P t = some ⟨.map kt et, a, b, z⟩) (hTe : ty P et = some Te) (hz : constHV Te.zero = some zh)
  (hm : (⟨sl, H⟩ : AS).ev m = some (.mp id ver)) (hx : (⟨sl, H⟩ : AS).ev x = some (kh k)) (hk : wf k = true) (hg : hget H id = some (ver, .gmap (gcan kf e) pe)) (hw : ∀ x ∈ e, wf x.1 = true) (hni : noIt id H)
  (kk : ∀ n : Nat, bops P ro N all rest Q ⟨(d, .tup [(glook k e).getD zh, .v (goInt n)]) :: sl, (id, ver, .gmap (gcan kf (gtouch k zh e)) (some (n, kf k))) :: H⟩) : AOp P ro N o (fun s' => bops P ro N all rest Q s') ⟨sl, H⟩ := by
 obtain ⟨e2, e3⟩ := Prod.mk.inj h0
 refine AOp.mapEntryG T e3 hN hT rfl hTe hz hm hx hk hg hw hni fun n => ?_
 rw [e2]; exact bops_le (putH_le (s := ⟨sl, H⟩) id ver _ d _) (kk n)
theorem o_entStG (hN : okd N o.dst = true) (hinj : ∀ a b, kf a = kf b → a = b) {t : TypeId} {m x y : Operand} {id ver n : Nat} {k : K} {e : List (K × HV)} {hv : HV} (h0 : (o.dst, o.op) = (none, .entryStore t m x y))
  (hm : (⟨sl, H⟩ : AS).ev m = some (.mp id ver)) (hx : (⟨sl, H⟩ : AS).ev x = some (.v (goInt n))) (hy : (⟨sl, H⟩ : AS).ev y = some hv) (hg : hget H id = some (ver, .gmap (gcan kf e) (some (n, kf k)))) (hni : noIt id H)
  (kk : bops P ro N all rest Q ⟨sl, (id, ver, .gmap (gcan kf (gput k hv e)) none) :: H⟩) : AOp P ro N o (fun s' => bops P ro N all rest Q s') ⟨sl, H⟩ := by
 obtain ⟨e2, e3⟩ := Prod.mk.inj h0
 refine AOp.entryStoreG hinj e3 hN hm hx hy hg hni ?_
 rw [e2]
 exact bops_le (putN_le (s := ⟨sl, H⟩) id ver _ _) kk
theorem AOp.lenV {s : AS} {K : AS → Prop} {t e : TypeId} {T : TyI} {x : Operand} {a0 : Option Addr} (hop : o.op = .call { callee := .builtin .len, args := #[x], argTypes := #[t] }) (hN : okd N o.dst = true) (hT : ty P t = some T) (hd : T.desc = .slice e)
  (hx : s.ev x = some (.v (.slice a0 0 0))) (k : K (s.put o.dst (.int .i64 0))) : AOp P ro N o K s := by
 refine AOp.value (fun c e => by rw [hop] at e; cases e) hN fun B μ a w hs => ?_
 have he : a.eval x = .slice a0 0 0 := hs.ev hx
 have hu := ty_under hT
 rw [hd] at hu
 refine ⟨.int .i64 0, .int .i64 0, μ, w, s.heap, ?_, hs.sr, Evo.refl w μ, ⟨rfl, by decide⟩, k⟩
 simp [execOp, hop, he, resolve, invoke, builtin, Builtin.len_, goInt, hu]
theorem b_lenV {d : Nat} {t e : TypeId} {a b : Nat} {z : Value} {x : Operand} {a0 : Option Addr} {aa : Array Operand} {ts : Array TypeId} (hgd : o.guard = none) (h0 : (o.dst, o.op) = (some d, .call ⟨.builtin .len, aa, ts⟩)) (ha : (aa.toList, ts.toList) = ([x], [t])) (hT : ty P t = some ⟨.slice e, a, b, z⟩)
  (hx : (⟨sl, H⟩ : AS).ev x = some (.v (.slice a0 0 0))) (kk : bops P ro N all rest Q ⟨(d, .int .i64 0) :: sl, H⟩) : bops P ro N all (o :: rest) Q ⟨sl, H⟩ := by
 refine b_opX hgd fun hN => ?_
 obtain ⟨e2', e3⟩ := Prod.mk.inj h0
 obtain ⟨e4, e5⟩ := Prod.mk.inj ha
 have e4 : aa = #[x] := by rw [← Array.toArray_toList (xs := aa), e4]
 have e5 : ts = #[t] := by rw [← Array.toArray_toList (xs := ts), e5]
 subst e4 e5
 refine AOp.lenV e3 hN hT rfl hx ?_
 rw [e2']
 exact bops_le (put_le (s := ⟨sl, H⟩) d _) kk
end
def EmptyQ (id ver k n : Nat) (q : HV) : Prop := q = .ar id ver k (n * k) 0 ∨ ∃ a0 : Option Addr, q = .v (.slice a0 0 0)
theorem EmptyQ.cells {id ver k n : Nat} {q : HV} (h : EmptyQ id ver k n q) : q.cells? = some [q] := by
 rcases h with rfl | ⟨a0, rfl⟩ <;> rfl
section
variable {P : Program} {ro : Option Nat} {N : Nat} {o : Oper} {sl : List (Nat × HV)} {H : Heap} {all : Array Oper} {rest : List Oper} {K : AS → Prop} {α : Type} (c : EncL α)
theorem hcons_le {sl : List (Nat × HV)} {H : Heap} {id ver : Nat} {ob : AObj} (hg : hget H id = some (ver, ob)) : (⟨sl, H⟩ : AS).le ⟨sl, (id, ver, ob) :: H⟩ := by
 refine ⟨fun _ _ h => h, fun j x h => ?_⟩
 simp only [hget] at h
 split at h
 ·rename_i e; rw [e, hg]; exact h
 exact h
theorem b_sliceQ1 {d : Nat} {t e : TypeId} {a b : Nat} {z : Value} {x lo : Operand} {pre l : List α} {id ver : Nat} {lk : IntKind}
  (hgd : o.guard = none) (h0 : (o.dst, o.op) = (some d, .slice t x (some lo) none none)) (hT : ty P t = some ⟨.slice e, a, b, z⟩) (hk : elemSize P t = some c.k)
  (hx : (⟨sl, H⟩ : AS).ev x = some (.ar id ver c.k (pre.length * c.k) l.length)) (hlo : (⟨sl, H⟩ : AS).ev lo = some (.int lk 1)) (hg : hget H id = some (ver, .arr c.k e (c.E (pre ++ l)))) (hn : l.length = 1)
  (k : ∀ ver' (pre' : List α) q, EmptyQ id ver' c.k pre'.length q → bops P ro N all rest K ⟨(d, q) :: sl, (id, ver', .arr c.k e (c.E pre')) :: H⟩) : bops P ro N all (o :: rest) K ⟨sl, H⟩ := by
 refine b_sliceQs c hgd h0 hT hk hx hlo hg (by omega) (fun v p => ?_) (fun _ a0 => ?_)
 ·have hd : l.drop 1 = [] := List.drop_eq_nil_of_le (by omega)
  rw [hd, List.append_nil]
  exact k v p _ (.inl rfl)
 refine bops_le ?_ (k ver (pre ++ l) (.v (.slice a0 0 0)) (.inr ⟨a0, rfl⟩))
 exact hcons_le hg
theorem b_appEQ {d : Nat} {t xt e e2 : TypeId} {a b a2 b2 : Nat} {z z2 : Value} {aa : Array Operand} {ts : Array TypeId} {x y : Operand} {Te : TyI} {m p : List α} {id ver : Nat} {q : HV} (hq : EmptyQ id ver c.k p.length q)
  (hgd : o.guard = none) (h0 : (o.dst, o.op) = (some d, .call ⟨.builtin .append, aa, ts⟩)) (ha : (aa.toList, ts.toList) = ([x, y], [t, xt])) (hT : ty P t = some ⟨.slice e, a, b, z⟩) (hxt : ty P xt = some ⟨.slice e2, a2, b2, z2⟩) (hTe : ty P e = some Te)
  (hx : (⟨sl, H⟩ : AS).ev x = some q) (hg : hget H id = some (ver, .arr c.k e (c.E p))) (hy : (⟨sl, H⟩ : AS).ev y = some (.sl c.k m.length (c.E m)))
  (hk : Te.size = c.k) (hz : (zcells Te.zero).any (fun zs => zs.length == Te.size) = true) (hm : 1 ≤ m.length) (h : fits Te.bytes m.length)
  (k : ∀ ver' pre', bops P ro N all rest K ⟨(d, .ar id ver' c.k (List.length (α := α) pre' * c.k) m.length) :: sl, (id, ver', .arr c.k e (c.E (pre' ++ m))) :: H⟩) : bops P ro N all (o :: rest) K ⟨sl, H⟩ := by
 rcases hq with rfl | ⟨a0, rfl⟩
 ·exact b_appQs c (pre := p) (l := []) (m := m) hgd h0 ha hT hxt hTe hx (by rw [List.append_nil]; exact hg) hy hk hz (by simpa using h) k
 exact b_appVs c id hgd h0 ha hT hxt hTe hx hy hk hz hm h fun v => k v []
theorem b_lenEQ {d : Nat} {t e : TypeId} {a b : Nat} {z : Value} {x : Operand} {aa : Array Operand} {ts : Array TypeId} {id ver n kk : Nat} {ob : AObj} {q : HV} (hq : EmptyQ id ver kk n q) (hgd : o.guard = none) (h0 : (o.dst, o.op) = (some d, .call ⟨.builtin .len, aa, ts⟩)) (ha : (aa.toList, ts.toList) = ([x], [t])) (hT : ty P t = some ⟨.slice e, a, b, z⟩)
  (hx : (⟨sl, H⟩ : AS).ev x = some q) (hg : hget H id = some (ver, ob)) (k : bops P ro N all rest K ⟨(d, .int .i64 0) :: sl, H⟩) : bops P ro N all (o :: rest) K ⟨sl, H⟩ := by
 rcases hq with rfl | ⟨a0, rfl⟩
 ·obtain ⟨e1, e2⟩ := Prod.mk.inj h0
  obtain ⟨e4, e5⟩ := Prod.mk.inj ha
  refine bv (hv := .int .i64 0) (by rw [hgd, e1, e2]; rfl) ?_ k
  rw [e2]
  exact v_lenA (n := 0) e5 e4 hT hx hg
 exact b_lenV hgd h0 ha hT hx k
end
end Go.AW
