/- The evaluation of closed code: operations that change something, what a task's evaluation says. -/
import Derived.Test.YtccnafddjjamoaaAwS
namespace Go.AW
open Go

/-- a loop's record stays the record of its loop -/
def LoopKeep (H H' : Heap) : Prop := ∀ id v st pend f n snap ps a b, hget H id = some (v, .loop st pend f n snap ps a b) → ∀ x, hget H' id = some x → ∃ st' pend', x = (v, .loop st' pend' f n snap ps a b)

theorem LoopKeep.refl (H : Heap) : LoopKeep H H := fun _ _ _ _ _ _ _ _ _ _ h x hx => by rw [h] at hx; cases hx; exact ⟨_, _, rfl⟩
theorem LoopKeep.set {H : Heap} {id v : Nat} {o : AObj} (h : ∀ v st pend f n snap ps a b, hget H id ≠ some (v, .loop st pend f n snap ps a b)) : LoopKeep H (hset H id v o) := by
  intro j u st pend f n snap ps a b hj x hx
  rw [hget_hset] at hx
  split at hx
  · rename_i e; subst e; exact absurd hj (h _ _ _ _ _ _ _ _ _)
  · rw [hj] at hx; cases hx; exact ⟨_, _, rfl⟩
theorem LoopKeep.setL {H : Heap} {id v : Nat} {st st' : LoopState} {pend pend' : Option Code} {f n : Nat} {snap : List (Nat × HV)} {ps : Array Tmp} {a b : Code}
    (h : hget H id = some (v, .loop st pend f n snap ps a b)) : LoopKeep H (hset H id v (.loop st' pend' f n snap ps a b)) := by
  intro j u st2 pend2 f2 n2 snap2 ps2 a2 b2 hj x hx
  rw [hget_hset] at hx
  split at hx
  · rename_i e; subst e; rw [h] at hj; cases hj; cases hx; exact ⟨_, _, rfl⟩
  · rw [hj] at hx; cases hx; exact ⟨_, _, rfl⟩
/-- dropping between -/
theorem LoopKeep.trans {H H1 H2 : Heap} (h : LoopKeep H H1) (h' : LoopKeep H1 H2) (hd : ∀ id x, hget H id = some x → ∀ y, hget H2 id = some y → ∃ z, hget H1 id = some z) : LoopKeep H H2 := by
  intro j u st pend f n snap ps a b hj x hx
  obtain ⟨z, hz⟩ := hd j _ hj x hx
  obtain ⟨st1, p1, rfl⟩ := h _ _ _ _ _ _ _ _ _ _ hj z hz
  exact h' _ _ _ _ _ _ _ _ _ _ hz x hx

/-- what stays is what was there (objects with number below n) -/
def Back (n : Nat) (H H' : Heap) : Prop := ∀ id, id < n → ∀ y, hget H' id = some y → ∃ z, hget H id = some z
theorem Back.refl (n : Nat) (H : Heap) : Back n H H := fun _ _ y h => ⟨y, h⟩
theorem Back.trans {n m : Nat} {H H1 H2 : Heap} (h : Back n H H1) (hn : n ≤ m) (h' : Back m H1 H2) : Back n H H2 := fun id hid y hy => by
  obtain ⟨z, hz⟩ := h' id (by omega) y hy
  exact h id hid z hz
theorem Back.set {n id v : Nat} {H : Heap} {o : AObj} (h : n ≤ id ∨ ∃ x, hget H id = some x) : Back n H (hset H id v o) := fun j hj y hy => by
  rw [hget_hset] at hy
  split at hy
  · rename_i e; subst e; exact h.elim (fun h => by omega) id
  · exact ⟨y, hy⟩

theorem sch_lt {n id : Nat} {H : Heap} {x : Nat × AObj} (h : scH n H = true) (hg : hget H id = some x) : id < n := (sch_get (o := x.2) (v := x.1) h hg).1.1
theorem sch_fresh {n : Nat} {H : Heap} (h : scH n H = true) : hget H n = none := by
  cases hg : hget H n with
  | none => rfl
  | some x => exact absurd (sch_lt h hg) (by omega)

/-- the state's loops stay, nothing of a lower number comes -/
structure Step (n n' : Nat) (H H' : Heap) : Prop where
  le : n ≤ n'
  loop : LoopKeep H H'
  back : Back n H H'

theorem Step.refl (n : Nat) (H : Heap) : Step n n H H := ⟨Nat.le_refl _, LoopKeep.refl H, Back.refl n H⟩
theorem Step.trans {n n1 n2 : Nat} {H H1 H2 : Heap} (hs : scH n H = true) (h : Step n n1 H H1) (h' : Step n1 n2 H1 H2) : Step n n2 H H2 :=
  ⟨Nat.le_trans h.le h'.le, h.loop.trans h'.loop fun id x hx y hy => h'.back id (Nat.lt_of_lt_of_le (sch_lt hs hx) h.le) y hy, h.back.trans h.le h'.back⟩

inductive Task where
  | code (top : Bool) (N : Nat) (c : Code) (s : AS) (n : Nat)
  | call (f : FuncId) (args : List HV) (H : Heap) (n : Nat)

inductive Out where
  | code (e : Exit) (s : AS) (n : Nat)
  | call (rv : HV) (H : Heap) (n : Nat)

def Sem (P : Program) : Task → Out → Prop
  | .code top N c s n, .code e s' n' => s.sc n = true → s'.sc n' = true ∧ Step n n' s.heap s'.heap ∧
      ∀ (ρ : Nat → Nat) (ro : Option Nat) (Q : Exit → AS → Prop), (top = true → ro = none) → (∀ ρ', Agree n ρ ρ' → Q e (s'.ren ρ')) → AW P ro N c Q (s.ren ρ)
  | .call f args H n, .call rv H' n' => scL n args = true → scH n H = true → rv.sc n' = true ∧ scH n' H' = true ∧ Step n n' H H' ∧
      ∀ (ρ : Nat → Nat) (K : HV → Heap → Prop), (∀ ρ', Agree n ρ ρ' → K (rv.ren ρ') (renH ρ' H')) → ACall P f (renL ρ args) (renH ρ H) K
  | _, _ => False

def Good (P : Program) (r : Task → Option Out) : Prop := ∀ t o, r t = some o → Sem P t o

/-- what an operation's evaluation says -/
def OpOk (P : Program) (N : Nat) (o : Oper) (s : AS) (n : Nat) (s' : AS) (n' : Nat) : Prop := s'.sc n' = true ∧ Step n n' s.heap s'.heap ∧
  ∀ (ρ : Nat → Nat) (ro : Option Nat) (K : AS → Prop), (∀ ρ', Agree n ρ ρ' → K (s'.ren ρ')) → AOp P ro N o K (s.ren ρ)

def fin (s : AS) (n : Nat) (d : Option Tmp) (h : HV) : Option (AS × Nat) := guardO (h.sc n) (some (s.put d h, n))
def new (s : AS) (n : Nat) (d : Option Tmp) (id : Nat) (o : AObj) (h : HV) : Option (AS × Nat) := guardO (o.sc n) (some (({ s with heap := hset s.heap id n o } : AS).put d h, n + 1))

section
variable {P : Program} {N n n' : Nat} {o : Oper} {s s' : AS}

theorem sc_heap_of (hs : s.sc n = true) : scH n s.heap = true := by
  simp only [AS.sc, Bool.and_eq_true] at hs; exact hs.2
theorem sc_slots_of (hs : s.sc n = true) : scS n s.slots = true := by
  simp only [AS.sc, Bool.and_eq_true] at hs; exact hs.1

theorem put_heap' (s : AS) (d : Option Tmp) (h : HV) : (s.put d h).heap = s.heap := by cases d <;> rfl

theorem fin_ok {h : HV} (hs : s.sc n = true) (he : fin s n o.dst h = some (s', n')) (hk : ∀ (ρ : Nat → Nat) (ro : Option Nat) (K : AS → Prop), K ((s.ren ρ).put o.dst (h.ren ρ)) → AOp P ro N o K (s.ren ρ)) : OpOk P N o s n s' n' := by
  obtain ⟨h1, h2⟩ := guardO_some he
  cases h2
  refine ⟨sc_put hs h1, by rw [put_heap']; exact Step.refl _ _, fun ρ ro K hK => hk ρ ro K ?_⟩
  rw [← ren_put]
  exact hK ρ (Agree.refl _ _)

theorem new_ok {id : Nat} {ob : AObj} {h : HV} (hs : s.sc n = true) (hid : id = n ∨ ∃ v k e cs, hget s.heap id = some (v, .arr k e cs)) (hh : h.sc (n + 1) = true) (he : new s n o.dst id ob h = some (s', n'))
    (hk : ∀ (ρ : Nat → Nat) (ro : Option Nat) (K : AS → Prop), (∀ ver, K ((⟨(s.ren ρ).slots, hset (s.ren ρ).heap id ver (ob.ren ρ)⟩ : AS).put o.dst (h.ren (upd ρ n ver)))) → AOp P ro N o K (s.ren ρ)) : OpOk P N o s n s' n' := by
  obtain ⟨h1, h2⟩ := guardO_some he
  cases h2
  have hsh := sc_heap_of hs
  have hidn : id < n + 1 := by
    rcases hid with rfl | ⟨v, k, e, cs, hg⟩
    · omega
    · have := sch_lt hsh hg; omega
  refine ⟨sc_put (sc_heap (AS.sc_mono (Nat.le_succ n) s hs) hidn (by omega) (AObj.sc_mono (Nat.le_succ n) ob h1)) hh, ?_, fun ρ ro K hK => hk ρ ro K fun ver => ?_⟩
  · rw [put_heap']
    refine ⟨by omega, LoopKeep.set ?_, Back.set ?_⟩
    · rcases hid with rfl | ⟨v, k, e, cs, hg⟩
      · rw [sch_fresh hsh]; intros; simp
      · rw [hg]; intros; simp
    · rcases hid with rfl | ⟨v, k, e, cs, hg⟩
      · exact .inl (Nat.le_refl _)
      · exact .inr ⟨_, hg⟩
  · have := hK (upd ρ n ver) (Agree.upd n ver ρ)
    rw [ren_put] at this
    have e : (⟨s.slots, hset s.heap id n ob⟩ : AS).ren (upd ρ n ver) = ⟨(s.ren ρ).slots, hset (s.ren ρ).heap id ver (ob.ren ρ)⟩ := by
      simp only [AS.ren, renH_set, upd_at]
      rw [← renS_agree (Agree.upd n ver ρ) _ (sc_slots_of hs), ← renH_agree (Agree.upd n ver ρ) _ hsh, ← AObj.ren_agree (Agree.upd n ver ρ) _ h1]
    rw [e] at this
    exact this
end

/-! the parts of literals -/
theorem aparts_ren (ρ : Nat → Nat) (s : AS) : ∀ ps : List (Nat × Operand), aparts (s.ren ρ) ps = (aparts s ps).map (renS ρ)
  | [] => rfl
  | p :: ps => by
    have ih := aparts_ren ρ s ps
    unfold aparts at ih ⊢
    simp only [List.mapM_cons, Option.pure_def, Option.bind_eq_bind]
    rw [ih, ev_ren]
    cases s.ev p.2 with
    | none => rfl
    | some h =>
      simp only [Option.map_some, Option.bind_some]
      cases List.mapM (fun p => Option.map (fun h => (p.fst, h)) (s.ev p.snd)) ps with
      | none => rfl
      | some qs => rfl

theorem afill_ren (ρ : Nat → Nat) (place : Nat → Option (Nat × Nat)) : ∀ (qs : List (Nat × HV)) (cells : List HV), afill place (renS ρ qs) (renL ρ cells) = (afill place qs cells).map (renL ρ)
  | [], cells => rfl
  | (i, h) :: qs, cells => by
    simp only [renS, afill, cells_ren]
    cases place i with
    | none => rfl
    | some p =>
      obtain ⟨off, size⟩ := p
      cases h.cells? with
      | none => rfl
      | some cs =>
        simp only [Option.map_some, renL_len]
        split
        · rw [← renL_splice, afill_ren ρ place qs]
        · rfl

theorem consts_ren (ρ : Nat → Nat) : ∀ (vs : List Value) (hs : List HV), vs.mapM constHV = some hs → renL ρ hs = hs
  | [], hs, h => by simp at h; subst h; rfl
  | v :: vs, hs, h => by
    simp only [List.mapM_cons, Option.pure_def, Option.bind_eq_bind, Option.bind_eq_some_iff] at h
    obtain ⟨c, hc, ds, hd, he⟩ := h
    cases he
    have h1 := constHV_ren ρ v
    rw [hc] at h1
    simp only [Option.map_some, Option.some.injEq] at h1
    simp only [renL, h1, consts_ren ρ vs ds hd]

theorem zcells_ren (ρ : Nat → Nat) {z : Value} {zs : List HV} (h : zcells z = some zs) : renL ρ zs = zs := by
  have one : ∀ {v : Value}, (match constHV v with
      | some h => if h.one then some [h] else none
      | none => none) = some zs → renL ρ zs = zs := fun {v} h => by
    have h1 := constHV_ren ρ v
    split at h
    · rename_i c hc
      rw [hc] at h1
      simp only [Option.map_some, Option.some.injEq] at h1
      split at h
      · cases h; simp only [renL, h1]
      · cases h
    · cases h
  unfold zcells at h
  split at h
  · split at h
    · rename_i hs hm
      split at h
      · cases h; exact consts_ren ρ _ _ hm
      · cases h
    · cases h
  · cases h
  · exact one h

theorem zrep_ren (ρ : Nat → Nat) {zs : List HV} (h : renL ρ zs = zs) (n : Nat) : renL ρ (zrep zs n) = zrep zs n := by
  induction n with
  | zero => rfl
  | succ n ih =>
    simp only [zrep, List.replicate_succ, List.flatten_cons, renL_append, h] at ih ⊢
    rw [ih]

def sslice (T : TypeId → Option TyI) (s : AS) (t : TypeId) (n : Nat) (ps : List (Nat × Operand)) : Option (Nat × TypeId × List HV) :=
  match T t with
  | some ⟨.slice e, _, _, _⟩ => match T e with
    | some U => match zcells U.zero, aparts s ps with
      | some zs, some qs => guardO (Nat.beq zs.length U.size && Nat.ble (n * U.size) 16777216) (match afill (fun i => some (i * U.size, U.size)) qs (zrep zs n) with
        | some cs => some (U.size, e, cs)
        | none => none)
      | _, _ => none
    | none => none
  | _ => none

def sPlaces (T : TypeId → Option TyI) : List Field → Option (List (Nat × Nat))
  | [] => some []
  | f :: fs => match T f.type, sPlaces T fs with
    | some U, some l => some ((f.offset, U.size) :: l)
    | _, _ => none

def sbuild (T : TypeId → Option TyI) (s : AS) (t : TypeId) (ps : List (Nat × Operand)) : Option HV :=
  match T t with
  | some ⟨.struct fs, _, _, z⟩ => match sPlaces T fs.toList, zcells z, aparts s ps with
    | some pl, some zs, some qs => match afill (fun i => pl[i]?) qs zs with
      | some cs => some (.agg cs)
      | none => none
    | _, _, _ => none
  | _ => none

def ssrc (T : TypeId → Option TyI) (s : AS) (xt : TypeId) (k : Nat) (x : HV) : Option (Nat × List HV) :=
  match T xt, x with
  | some ⟨.slice _, _, _, _⟩, .sl k' m cs => guardO (Nat.beq k' k) (some (m, cs))
  | some ⟨.slice _, _, _, _⟩, .ar id ver k' off m => match hget s.heap id with
    | some (ver', .arr _ _ cs) => guardO (Nat.beq ver ver' && (Nat.beq k' k && Nat.ble (off + m * k) cs.length)) (some (m, (cs.drop off).take (m * k)))
    | _ => none
  | some ⟨.slice _, _, _, _⟩, .v (.slice none 0 0) => some (0, [])
  | some ⟨.string, _, _, _⟩, .str l => guardO (Nat.beq k 1) (some (l.length, l.map fun b => .int .u8 b.toNat))
  | _, _ => none

def sbase (s : AS) (k : Nat) (e : TypeId) (x : HV) : Option (Nat × List HV) :=
  match x with
  | .v (.slice none 0 0) => some (0, [])
  | .ar id ver k' off n => match hget s.heap id with
    | some (ver', .arr _ e' cs) => guardO (Nat.beq ver ver' && (Nat.beq k' k && (Nat.beq e' e && (Nat.beq off 0 && Nat.ble (n * k) cs.length)))) (some (n, cs.take (n * k)))
    | _ => none
  | _ => none

section
variable {P : Program} {T : TypeId → Option TyI} {s : AS} {ρ : Nat → Nat}

theorem sslice_sound (hT : TabOk P T) {t : TypeId} {n k : Nat} {e : TypeId} {ps : List (Nat × Operand)} {cs : List HV} {R : Nat → TypeId → List HV → Prop} (h : sslice T s t n ps = some (k, e, cs)) (hr : R k e (renL ρ cs)) : aslice P (s.ren ρ) t n ps R := by
  unfold sslice at h
  split at h
  · rename_i e' _ _ _ ht
    split at h
    · rename_i U hU
      split at h
      · rename_i zs qs hz hq
        obtain ⟨hv, h⟩ := guardO_some h
        simp only [Bool.and_eq_true] at hv
        split at h
        · rename_i cs' hc
          cases h
          have hf := afill_ren ρ (fun i => some (i * U.size, U.size)) qs (zrep zs n)
          rw [hc, zrep_ren ρ (zcells_ren ρ hz)] at hf
          simp only [aslice, hT _ _ ht, hT _ _ hU, hz, aparts_ren, hq, Option.map_some, hf]
          exact ⟨Nat.eq_of_beq_eq_true hv.1, Nat.le_of_ble_eq_true hv.2, hr⟩
        · cases h
      · cases h
    · cases h
  · cases h

theorem sPlaces_sound (hT : TabOk P T) : ∀ {fs : List Field} {l : List (Nat × Nat)}, sPlaces T fs = some l → placesOf P fs = some l
  | [], l, h => h
  | f :: fs, l, h => by
    simp only [sPlaces] at h
    split at h
    · rename_i U l' hU hl
      cases h
      simp [placesOf, hT _ _ hU, sPlaces_sound hT hl]
    · cases h

theorem sbuild_sound (hT : TabOk P T) {t : TypeId} {ps : List (Nat × Operand)} {r : HV} {R : HV → Prop} (h : sbuild T s t ps = some r) (hr : R (r.ren ρ)) : abuild P (s.ren ρ) t ps R := by
  unfold sbuild at h
  split at h
  · rename_i fs _ _ z ht
    split at h
    · rename_i pl zs qs hpl hz hq
      split at h
      · rename_i cs hc
        cases h
        have hf := afill_ren ρ (fun i => pl[i]?) qs zs
        rw [hc, zcells_ren ρ hz] at hf
        simp only [abuild, hT _ _ ht, sPlaces_sound hT hpl, hz, aparts_ren, hq, Option.map_some, hf]
        exact hr
      · cases h
    · cases h
  · cases h

theorem bytes_ren (ρ : Nat → Nat) (l : List UInt8) : renL ρ (l.map fun b => HV.int .u8 b.toNat) = l.map fun b => HV.int .u8 b.toNat := by
  induction l with
  | nil => rfl
  | cons b l ih => simp only [List.map_cons, renL, HV.ren, ih]

theorem ssrc_sound (hT : TabOk P T) {xt : TypeId} {k m : Nat} {x : HV} {cs : List HV} (h : ssrc T s xt k x = some (m, cs)) : asrc P (s.ren ρ) xt k (x.ren ρ) fun m' cs' => m' = m ∧ cs' = renL ρ cs := by
  unfold ssrc at h
  split at h
  · rename_i e _ _ _ k' m' cs' ht
    obtain ⟨hv, h⟩ := guardO_some h
    cases h
    simp only [asrc, hT _ _ ht, HV.ren]
    exact ⟨Nat.eq_of_beq_eq_true hv, trivial, trivial⟩
  · rename_i e _ _ _ id ver k' off m' ht
    split at h
    · rename_i ver' k2 e2 cs' hg
      obtain ⟨hv, h⟩ := guardO_some h
      cases h
      simp only [Bool.and_eq_true] at hv
      have h1 := Nat.eq_of_beq_eq_true hv.1
      subst h1
      simp only [asrc, hT _ _ ht, HV.ren, hget_s ρ hg, AObj.ren]
      refine ⟨trivial, Nat.eq_of_beq_eq_true hv.2.1, by rw [renL_len]; exact Nat.le_of_ble_eq_true hv.2.2, trivial, ?_⟩
      rw [renL_take, renL_drop]
    · cases h
  · rename_i e _ _ _ ht
    cases h
    simp only [asrc, hT _ _ ht, HV.ren]
    exact ⟨trivial, rfl⟩
  · rename_i _ _ _ l ht
    obtain ⟨hv, h⟩ := guardO_some h
    cases h
    simp only [asrc, hT _ _ ht, HV.ren]
    exact ⟨Nat.eq_of_beq_eq_true hv, trivial, (bytes_ren ρ l).symm⟩
  · cases h

theorem sbase_sound {e : TypeId} {k m : Nat} {x : HV} {cs : List HV} (h : sbase s k e x = some (m, cs)) : abase (s.ren ρ) k e (x.ren ρ) fun m' cs' => m' = m ∧ cs' = renL ρ cs := by
  unfold sbase at h
  split at h
  · cases h
    simp only [abase, HV.ren]
    exact ⟨trivial, rfl⟩
  · rename_i id ver k' off m'
    split at h
    · rename_i ver' k2 e2 cs' hg
      obtain ⟨hv, h⟩ := guardO_some h
      cases h
      simp only [Bool.and_eq_true] at hv
      have h1 := Nat.eq_of_beq_eq_true hv.1
      subst h1
      simp only [abase, HV.ren, hget_s ρ hg, AObj.ren]
      refine ⟨trivial, Nat.eq_of_beq_eq_true hv.2.1, Nat.eq_of_beq_eq_true hv.2.2.1, Nat.eq_of_beq_eq_true hv.2.2.2.1, by rw [renL_len]; exact Nat.le_of_ble_eq_true hv.2.2.2.2, trivial, ?_⟩
      rw [renL_take]
    · cases h
  · cases h
end
end Go.AW
