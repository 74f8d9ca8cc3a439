/- Regions that draw their order: all operations but the last ones only compute, or call functions that change nothing; then any order gives what the text's order gives. -/
import Derived.Test.YtccnafddjjamoaaAwI
namespace Go.AW
open Go

section
variable {P : Program} {ro : Option Nat} {N : Nat} {s s' : AS} {fid : Nat} {mt : List Nat}

theorem mapM_congr' {α β : Type} {f g : α → Option β} : ∀ {l : List α}, (∀ x ∈ l, f x = g x) → l.mapM f = l.mapM g
  | [], _ => rfl
  | x :: l, h => by
    rw [List.mapM_cons, List.mapM_cons, h x (List.mem_cons_self ..), mapM_congr' fun y hy => h y (List.mem_cons_of_mem _ hy)]

theorem asl_congr {lo : Option Operand} {d : Int} (h : ∀ x, lo = some x → s'.ev x = s.ev x) : asl s' lo d = asl s lo d := by
  cases lo with
  | none => rfl
  | some x => simp only [asl, h x rfl]

theorem aval_congr {op : Op} {R : HV → Prop} (hh : s'.heap = s.heap) (he : ∀ x ∈ op.operands, s'.ev x = s.ev x) : aval P op s' R = aval P op s R := by
  cases op with
  | move x => simp only [aval, he x (by simp [Op.operands])]
  | assign x => simp only [aval, he x (by simp [Op.operands])]
  | pick c a b => simp only [aval, he c (by simp [Op.operands]), he a (by simp [Op.operands]), he b (by simp [Op.operands])]
  | load t x => simp only [aval, he x (by simp [Op.operands]), hh]
  | nilCheck x => simp only [aval, he x (by simp [Op.operands]), hh]
  | binOp op t x y u => simp only [aval, he x (by simp [Op.operands]), he y (by simp [Op.operands])]
  | unOp op t x => simp only [aval, he x (by simp [Op.operands])]
  | convert t u x => simp only [aval, he x (by simp [Op.operands])]
  | makeFunc fn fs cs =>
    have h1 : fs.toList.mapM s'.ev = fs.toList.mapM s.ev := mapM_congr' fun x hx => he x (by simp [Op.operands]; exact .inl (by simpa using hx))
    have h2 : cs.toList.mapM s'.ev = cs.toList.mapM s.ev := mapM_congr' fun x hx => he x (by simp [Op.operands]; exact .inr (by simpa using hx))
    simp only [aval, h1, h2]
  | fieldAddr t x f => simp only [aval, he x (by simp [Op.operands]), hh]
  | field t x f => simp only [aval, he x (by simp [Op.operands])]
  | indexAddr t x i => simp only [aval, he x (by simp [Op.operands]), he i (by simp [Op.operands]), hh]
  | index t x i => simp only [aval, he x (by simp [Op.operands]), he i (by simp [Op.operands])]
  | extract x i => simp only [aval, he x (by simp [Op.operands])]
  | slice t x lo hi mx =>
    cases mx with
    | some m => rfl
    | none =>
      have h1 : ∀ d, asl s' lo d = asl s lo d := fun d => asl_congr fun x hx => he x (by subst hx; simp [Op.operands])
      have h2 : ∀ d, asl s' hi d = asl s hi d := fun d => asl_congr fun x hx => he x (by subst hx; simp [Op.operands])
      simp only [aval, he x (by simp [Op.operands]), h1, h2, hh]
  | call c =>
    have h1 : ∀ x ∈ c.args.toList, s'.ev x = s.ev x := fun x hx => he x (by simp only [Op.operands, Call.operands, Array.mem_append]; exact .inr (by simpa using hx))
    simp only [aval, hh]
    split
    · rename_i t x _ _ ha
      rw [h1 x (by rw [ha]; simp)]
    · rename_i b x y _ ha
      rw [h1 x (by rw [ha]; simp), h1 y (by rw [ha]; simp)]
    · rename_i b x y z _ ha
      rw [h1 x (by rw [ha]; simp), h1 y (by rw [ha]; simp), h1 z (by rw [ha]; simp)]
    · rfl
  | _ => rfl

theorem loadK_det {T : TyI} {cs : List HV} {off : Nat} {R : HV → Prop} (h : loadK T cs off R) : ∃ hv, R hv ∧ loadK T cs off (· = hv) := by
  unfold loadK at h
  split at h
  · rename_i ha
    refine ⟨_, h.2, ?_⟩
    unfold loadK
    rw [if_pos ha]
    exact ⟨h.1, rfl⟩
  · rename_i ha
    split at h
    · rename_i c hc
      refine ⟨_, h, ?_⟩
      unfold loadK
      rw [if_neg ha, hc]
    · exact h.elim

theorem abin_det {op : BinOp} {x y : HV} {R : HV → Prop} (h : abin op x y R) : ∃ hv, R hv ∧ abin op x y (· = hv) := by
  unfold abin at h ⊢
  split at h <;> first
    | exact h.elim
    | exact ⟨_, h.2.2, h.1, h.2.1, rfl⟩
    | exact ⟨_, h.2, h.1, rfl⟩
    | exact ⟨_, h, rfl⟩

theorem abinT_det {op : BinOp} {tx : TypeId} {x y : HV} {R : HV → Prop} (h : abinT P op tx x y R) : ∃ hv, R hv ∧ abinT P op tx x y (· = hv) := by
  unfold abinT at h ⊢
  split at h
  · split at h
    · rename_i hT; simp only [hT]; exact ⟨_, h, rfl⟩
    · rename_i hT; simp only [hT]; exact ⟨_, h, rfl⟩
    · exact h.elim
  · exact abin_det h

theorem aval_det {op : Op} {R : HV → Prop} (h : aval P op s R) : ∃ hv, R hv ∧ aval P op s (· = hv) := by
  unfold aval at h ⊢
  split at h
  · split at h
    · exact ⟨_, h, rfl⟩
    · exact h.elim
  · split at h
    · exact ⟨_, h, rfl⟩
    · exact h.elim
  · split at h
    · exact ⟨_, h, rfl⟩
    · exact ⟨_, h, rfl⟩
    · exact ⟨_, h, rfl⟩
    · exact h.elim
  · split at h
    · exact loadK_det h
    · split at h
      · obtain ⟨h1, h2⟩ := h
        obtain ⟨hv, h3, h4⟩ := loadK_det h2
        exact ⟨hv, h3, h1, h4⟩
      · exact h.elim
    · exact h.elim
  · split at h
    · split at h
      · exact ⟨_, h.2, h.1, rfl⟩
      · exact h.elim
    · exact ⟨_, h, rfl⟩
    · exact h.elim
  · split at h
    · exact abinT_det h
    · exact h.elim
  · split at h
    · exact ⟨_, h, rfl⟩
    · exact ⟨_, h, rfl⟩
    · exact h.elim
  · split at h
    · exact ⟨_, h, rfl⟩
    · exact ⟨_, h, rfl⟩
    · exact ⟨_, h, rfl⟩
    · exact h.elim
  · split at h
    · exact ⟨_, h, rfl⟩
    · exact h.elim
  · split at h
    · exact ⟨_, h.2, h.1, rfl⟩
    · exact ⟨_, h, rfl⟩
    · exact h.elim
  · split at h
    · exact loadK_det h
    · exact h.elim
  · split at h
    · exact ⟨_, h.2.2.2, h.1, h.2.1, h.2.2.1, rfl⟩
    · exact ⟨_, h.2.2.2.2, h.1, h.2.1, h.2.2.1, h.2.2.2.1, rfl⟩
    · exact ⟨_, h.2.2.2, h.1, h.2.1, h.2.2.1, rfl⟩
    · exact ⟨_, h.2.2, h.1, h.2.1, rfl⟩
    · exact h.elim
  · split at h
    · obtain ⟨h0, h⟩ := h
      split at h
      · exact ⟨_, h, h0, rfl⟩
      · exact h.elim
    · obtain ⟨h0, h1, h⟩ := h
      split at h
      · obtain ⟨hv, h3, h4⟩ := loadK_det h
        exact ⟨hv, h3, h0, h1, h4⟩
      · exact h.elim
    · exact h.elim
  · split at h
    · split at h
      · exact ⟨_, h, rfl⟩
      · exact h.elim
    · exact h.elim
  · split at h
    · split at h
      · exact ⟨_, h.2.2.2, h.1, h.2.1, h.2.2.1, rfl⟩
      · exact h.elim
    · split at h
      · exact ⟨_, h.2.2.2.2, h.1, h.2.1, h.2.2.1, h.2.2.2.1, rfl⟩
      · exact h.elim
    · split at h
      · exact ⟨_, h.2.2.2.2.2.2, h.1, h.2.1, h.2.2.1, h.2.2.2.1, h.2.2.2.2.1, h.2.2.2.2.2.1, rfl⟩
      · exact h.elim
    · exact h.elim
  · split at h
    · split at h
      · exact ⟨_, h, rfl⟩
      · exact ⟨_, h, rfl⟩
      · exact ⟨_, h.2, h.1, rfl⟩
      · exact ⟨_, h, rfl⟩
      · exact ⟨_, h, rfl⟩
      · split at h
        · exact ⟨_, h.2.2, h.1, h.2.1, rfl⟩
        · exact h.elim
      · exact h.elim
    · split at h
      · exact ⟨_, h.2.2, h.1, h.2.1, rfl⟩
      · exact h.elim
    · split at h
      · exact ⟨_, h.2.2.2, h.1, h.2.1, h.2.2.1, rfl⟩
      · exact h.elim
    · exact h.elim
  · exact h.elim

/-- same slots, same objects -/
def AS.eqv (s s' : AS) : Prop := s'.heap = s.heap ∧ ∀ t, sget s'.slots t = sget s.slots t

theorem AS.eqv.refl (s : AS) : s.eqv s := ⟨rfl, fun _ => rfl⟩
theorem AS.eqv.symm (h : s.eqv s') : s'.eqv s := ⟨h.1.symm, fun t => (h.2 t).symm⟩
theorem AS.eqv.trans {s2 : AS} (h : s.eqv s') (h' : s'.eqv s2) : s.eqv s2 := ⟨h'.1.trans h.1, fun t => (h'.2 t).trans (h.2 t)⟩

theorem SRel.eqv {B : Nat} {μ : Mu} {a : Act} {w : World} (hs : SRel ro N B μ s a w) (h : s.eqv s') : SRel ro N B μ s' a w :=
  ⟨hs.size, h.1 ▸ hs.sr, fun t hv ht => hs.slot t hv (by rw [← h.2]; exact ht), hs.marks, hs.ro⟩

theorem sget_put (s : AS) (d : Option Tmp) (h : HV) (t : Nat) : sget (s.put d h).slots t = if d = some t then some h else sget s.slots t := by
  cases d with
  | none => simp [AS.put]
  | some x =>
    simp only [AS.put, sget_sset, Option.some.injEq]
    by_cases e : t = x
    · simp [e]
    · rw [if_neg e, if_neg (fun e' => e e'.symm)]

theorem put_heap (s : AS) (d : Option Tmp) (h : HV) : (s.put d h).heap = s.heap := by cases d <;> rfl

theorem AS.eqv.put (h : s.eqv s') (d : Option Tmp) (v : HV) : (s.put d v).eqv (s'.put d v) :=
  ⟨by rw [put_heap, put_heap, h.1], fun t => by rw [sget_put, sget_put, h.2]⟩

def AOpI (P : Program) (ro : Option Nat) (N : Nat) (ops : Array Oper) (i : Nat) (K : AS → Prop) (s : AS) : Prop :=
  ∀ (w0 : World) (μ0 μ : Mu) (a : Act) (w : World) (next : Act → World → Prop) (Q : Exit → Act → World → Prop), SRel ro N w0.heap.size μ s a w → Evo w0 μ0 w μ →
    (∀ μ' s' a' w', K s' → SRel ro N w0.heap.size μ' s' a' w' → Evo w0 μ0 w' μ' → next a' w') → wpOpIn (fence ro) 0 P ops Q i next a w

theorem AOpI.plain {ops : Array Oper} {K : AS → Prop} {i : Nat} {o : Oper} (ho : ops[i]? = some o) (hg : o.guard = none) (h : AOp P ro N o K s) : AOpI P ro N ops i K s := by
  intro w0 μ0 μ a w next Q hs hE hK
  simp only [wpOpIn, ho, Region.wanted, hg, if_true]
  exact h w0 μ0 μ a w _ _ hs hE hK

theorem AOpI.guard {ops : Array Oper} {K : AS → Prop} {i j d : Nat} {o oj : Oper} {want b : Bool} (ho : ops[i]? = some o) (hN : okd N o.dst = true) (hg : o.guard = some (j, want)) (hj : ops[j]? = some oj) (hd : oj.dst = some d)
    (hb : sget s.slots d = some (.bool b)) (h1 : b = want → AOp P ro N o K s) (h2 : b = !want → K (s.put o.dst (.v undef))) : AOpI P ro N ops i K s := by
  intro w0 μ0 μ a w next Q hs hE hK
  obtain ⟨hdN, hbv⟩ := hs.slot d _ hb
  have hy : yielded ops a.tmps j = some b := by
    have hlt : d < a.tmps.size := by rw [hs.size]; exact hdN
    have hv : a.tmps[d]? = some (.bool b) := by
      have hbv' : a.tmps.getD d undef = .bool b := hbv
      rw [Array.getD_eq_getD_getElem?, Array.getElem?_eq_getElem hlt] at hbv'
      rw [Array.getElem?_eq_getElem hlt]
      simpa using hbv'
    simp [yielded, hj, hd, hv]
  simp only [wpOpIn, ho, Region.wanted, hg, hy]
  by_cases hw : b = want
  · subst hw
    simp only [beq_self_eq_true, if_true]
    exact h1 rfl w0 μ0 μ a w _ _ hs hE hK
  · have hbw : b = !want := by cases b <;> cases want <;> simp_all
    have : (some b == some want) = false := by simpa using hw
    simp only [this, Bool.false_eq_true, if_false]
    refine ⟨fun _ _ => trivial, ?_⟩
    have hru : Rep w μ (.v undef) undef := rfl
    exact hK μ _ _ w (h2 hbw) (hs.put (Evo.refl w μ) hs.sr hN hru) hE

/-- an operation that gives one value and changes nothing, wherever its operands are as they are in S -/
def PureAt (P : Program) (ro : Option Nat) (N : Nat) (ops : Array Oper) (i : Nat) (o : Oper) (hv : HV) (S : AS) : Prop :=
  ∀ s2 : AS, s2.heap = S.heap → (∀ t ∈ o.looksAt ops, sget s2.slots t = sget S.slots t) → ∀ K : AS → Prop, K (s2.put o.dst hv) → AOpI P ro N ops i K s2

theorem ev_looks {ops : Array Oper} {o : Oper} (h : ∀ t ∈ o.looksAt ops, sget s'.slots t = sget s.slots t) : ∀ x ∈ o.op.operands, s'.ev x = s.ev x := by
  intro x hx
  cases x with
  | tmp t =>
    refine h t ?_
    simp only [Oper.looksAt, List.mem_append, List.mem_filterMap]
    exact .inl ⟨.tmp t, by simpa using hx, rfl⟩
  | _ => rfl

/-- a call that gives one value and changes nothing -/
def ACallD (P : Program) (g : FuncId) (args : List HV) (H : Heap) (hv : HV) : Prop := ACall P g args H fun r H' => r = hv ∧ H' = H

def aopS (P : Program) (o : Oper) (R : HV → Prop) (s : AS) : Prop :=
  match o.op with
  | .box _ x => match s.ev x with
    | some hv => match hv.cells? with
      | some cs => R (.fptr cs 0)
      | none => False
    | none => False
  | .buildSlice t n ps => n ≤ 16777216 ∧ aslice P s t n ps.toList fun k _ cs => R (.sl k n cs)
  | .call ⟨.value f, as, _⟩ => match s.ev f, as.toList.mapM s.ev with
    | some (.fn (.func g) fs cs), some hs => ∃ hv, ACallD P g (fs ++ hs ++ cs) s.heap hv ∧ R hv
    | _, _ => False
  | op => aval P op s R

theorem aslice_congr {t : TypeId} {n : Nat} {ps : List (Nat × Operand)} {R : Nat → TypeId → List HV → Prop} (he : ∀ p ∈ ps, s'.ev p.2 = s.ev p.2) : aslice P s' t n ps R = aslice P s t n ps R := by
  have : aparts s' ps = aparts s ps := mapM_congr' fun p hp => by rw [he p hp]
  simp only [aslice, this]

theorem aslice_det {t : TypeId} {n : Nat} {ps : List (Nat × Operand)} {R : Nat → TypeId → List HV → Prop} (h : aslice P s t n ps R) :
    ∃ k e cs, R k e cs ∧ aslice P s t n ps fun k' e' cs' => k' = k ∧ e' = e ∧ cs' = cs := by
  unfold aslice at h
  split at h
  · rename_i hT
    split at h
    · rename_i hTe
      split at h
      · rename_i hz hq
        obtain ⟨h1, h2, h⟩ := h
        split at h
        · rename_i hf
          refine ⟨_, _, _, h, ?_⟩
          unfold aslice
          simp only [hT, hTe, hz, hq, hf]
          refine ⟨h1, h2, ?_⟩
          first | exact ⟨rfl, rfl, rfl⟩ | exact ⟨trivial, trivial, trivial⟩ | trivial
        · exact h.elim
      · exact h.elim
    · exact h.elim
  · exact h.elim

theorem aopS_pure {ops : Array Oper} {o : Oper} {R : HV → Prop} (hN : okd N o.dst = true) (h : aopS P o R s) :
    ∃ hv, R hv ∧ ∀ s2 : AS, s2.heap = s.heap → (∀ t ∈ o.looksAt ops, sget s2.slots t = sget s.slots t) → ∀ K : AS → Prop, K (s2.put o.dst hv) → AOp P ro N o K s2 := by
  unfold aopS at h
  split at h
  · rename_i e x hop
    split at h
    · rename_i hv hx
      split at h
      · rename_i cs hcs
        refine ⟨_, h, fun s2 _ hl K hK => AOp.box hop hN ?_ hcs hK⟩
        rw [ev_looks hl x (by rw [hop]; simp [Op.operands])]; exact hx
      · exact h.elim
    · exact h.elim
  · rename_i t n ps hop
    obtain ⟨hn, h⟩ := h
    obtain ⟨k, e, cs, hR, hd⟩ := aslice_det h
    refine ⟨_, hR, fun s2 _ hl K hK => AOp.buildSlice hop hN hn ?_⟩
    rw [aslice_congr (s := s) (fun p hp => ev_looks hl p.2 (by
      rw [hop]
      simp only [Op.operands, List.mem_toArray, List.mem_map]
      exact ⟨p, hp, rfl⟩))]
    have mono : ∀ {R R' : Nat → TypeId → List HV → Prop}, (∀ k e cs, R k e cs → R' k e cs) → aslice P s t n ps.toList R → aslice P s t n ps.toList R' := by
      intro R R' hr h
      unfold aslice at h ⊢
      split at h
      · split at h
        · split at h
          · obtain ⟨h1, h2, h⟩ := h
            refine ⟨h1, h2, ?_⟩
            split at h
            · exact hr _ _ _ h
            · exact h.elim
          · exact h.elim
        · exact h.elim
      · exact h.elim
    refine mono ?_ hd
    rintro k' e' cs' ⟨rfl, rfl, rfl⟩
    exact hK
  · rename_i f as ts hop
    split at h
    · rename_i g fs cs hs hf ha
      obtain ⟨hv, hc, hR⟩ := h
      refine ⟨hv, hR, fun s2 hh hl K hK => ?_⟩
      have he := ev_looks hl
      refine AOp.call hop rfl hN (by rw [he f (by rw [hop]; simp [Op.operands, Call.operands])]; exact hf)
        (hs := hs) (by rw [mapM_congr' fun x hx => he x (by rw [hop]; simp only [Op.operands, Call.operands, Array.mem_append]; exact .inr (by simpa using hx))]; exact ha) ?_
      rw [hh]
      refine ACall.mono hc ?_
      rintro r H' ⟨rfl, rfl⟩
      have : ({ s2 with heap := s.heap } : AS) = s2 := by rw [← hh]
      rw [this]
      exact hK
    · exact h.elim
  · obtain ⟨hv, hR, hd⟩ := aval_det h
    refine ⟨hv, hR, fun s2 hh hl K hK => ?_⟩
    have hd' : aval P o.op s2 (· = hv) := by rw [aval_congr (s := s) hh (ev_looks hl)]; simpa using hd
    refine AOp.value (fun c e => by rw [e] at hd'; exact hd') hN fun B μ a w hs => ?_
    obtain ⟨v, hv', h1, rfl, h3⟩ := aval_sound hs o hd'
    exact ⟨v, _, μ, w, s2.heap, h1, hs.sr, Evo.refl w μ, h3, hK⟩

/-- the operations ahead of the last ones, in the order of the text, each of which gives one value and changes nothing -/
def asteps (P : Program) (all : List Oper) : List Oper → (AS → Prop) → AS → Prop
  | [], K, s => K s
  | o :: rest, K, s => match o.guard with
    | none => aopS P o (fun h => asteps P all rest K (s.put o.dst h)) s
    | some (j, want) => match all[j]? with
      | some oj => match oj.dst with
        | some d => match sget s.slots d with
          | some (.bool b) => if b = want then aopS P o (fun h => asteps P all rest K ((s.put (some d) (.bool want)).put o.dst h)) (s.put (some d) (.bool want))
              else asteps P all rest K ((s.put (some d) (.bool !want)).put o.dst (.v undef))
          | _ => False
        | none => False
      | none => False

theorem eqv_same {d : Nat} {h : HV} (hd : sget s.slots d = some h) : s.eqv (s.put (some d) h) :=
  ⟨rfl, fun t => by rw [sget_put]; split <;> rename_i e; · cases e; exact hd.symm
                    · rfl⟩

/-- the plan: what each operation gives, in the states of the text's order -/
theorem asteps_plan {ops : Array Oper} (hok : ops.toList.all (fun o => okd N o.dst) = true) {K : AS → Prop} : ∀ (l : List Oper) (i : Nat) (s : AS), (∀ k, k < l.length → l[k]? = ops[i + k]?) → asteps P ops.toList l K s →
    ∃ (plan : Nat → HV) (St : Nat → AS), s.eqv (St i) ∧ K (St (i + l.length)) ∧ ∀ k, k < l.length → ∃ o, ops[i + k]? = some o ∧ PureAt P ro N ops (i + k) o (plan (i + k)) (St (i + k)) ∧ ((St (i + k)).put o.dst (plan (i + k))).eqv (St (i + k + 1))
  | [], i, s, _, h => ⟨fun _ => .v undef, fun _ => s, AS.eqv.refl s, h, fun k hk => by simp at hk⟩
  | o :: l, i, s, hl, h => by
    have ho : ops[i]? = some o := by have := hl 0 (by simp); simpa using this.symm
    have hN : okd N o.dst = true := List.all_eq_true.1 hok o (by
      have := Array.getElem?_toList (xs := ops) (i := i)
      rw [ho] at this
      exact List.mem_of_getElem? this)
    have hl' : ∀ k, k < l.length → l[k]? = ops[i + 1 + k]? := fun k hk => by
      have := hl (k + 1) (by simpa using hk)
      rw [List.getElem?_cons_succ] at this
      rw [this]; congr 1; omega
    have ih := fun s' => asteps_plan (K := K) hok l (i + 1) s'
    -- from the value at i and the rest to the whole
    have key : ∀ (s1 : AS) (hv : HV), s.eqv s1 → PureAt P ro N ops i o hv s1 → asteps P ops.toList l K (s1.put o.dst hv) →
        ∃ (plan : Nat → HV) (St : Nat → AS), s.eqv (St i) ∧ K (St (i + (o :: l).length)) ∧ ∀ k, k < (o :: l).length → ∃ o, ops[i + k]? = some o ∧ PureAt P ro N ops (i + k) o (plan (i + k)) (St (i + k)) ∧
          ((St (i + k)).put o.dst (plan (i + k))).eqv (St (i + k + 1)) := by
      intro s1 hv hs1 hp hrest
      obtain ⟨plan, St, h1, h2, h3⟩ := ih _ hl' hrest
      refine ⟨fun j => if j = i then hv else plan j, fun j => if j = i then s1 else St j, by simp [hs1], ?_, fun k hk => ?_⟩
      · have : i + (o :: l).length ≠ i := by simp
        simp only [this, if_false]
        have e : i + (o :: l).length = i + 1 + l.length := by simp; omega
        rw [e]; exact h2
      · cases k with
        | zero =>
          refine ⟨o, ho, by simpa using hp, ?_⟩
          simp only [Nat.add_zero, if_true]
          rw [if_neg (by omega)]
          exact h1
        | succ k =>
          obtain ⟨o', h4, h5, h6⟩ := h3 k (by simpa using hk)
          have e : i + (k + 1) = i + 1 + k := by omega
          have hne : i + 1 + k ≠ i := by omega
          have hne' : i + 1 + k + 1 ≠ i := by omega
          refine ⟨o', by rw [e]; exact h4, ?_, ?_⟩
          · rw [e]; simp only [hne, if_false]; exact h5
          · rw [e]; simp only [hne, hne', if_false]; exact h6
    simp only [asteps] at h
    split at h
    · rename_i hg
      obtain ⟨hv, hR, hp⟩ := aopS_pure (ro := ro) (ops := ops) hN h
      exact key s hv (AS.eqv.refl s) (fun s2 hh hl K hK => AOpI.plain ho hg (hp s2 hh hl K hK)) hR
    · rename_i j want hg
      split at h
      · rename_i oj hoj
        split at h
        · rename_i d hd
          split at h
          · rename_i b hb
            have hojA : ops[j]? = some oj := by simpa using hoj
            have hdl : d ∈ o.looksAt ops := by
              simp only [Oper.looksAt, hg, List.mem_append]
              right
              simp [hojA, hd]
            by_cases hw : b = want
            · subst hw
              have h1 := h
              rw [if_pos rfl] at h1
              obtain ⟨hv, hR, hp⟩ := aopS_pure (ro := ro) (ops := ops) hN h1
              have he := eqv_same hb
              refine key (s.put (some d) (.bool b)) hv he (fun s2 hh hl K hK => ?_) hR
              have hb2 : sget s2.slots d = some (.bool b) := by rw [hl d hdl, he.2]; exact hb
              exact AOpI.guard ho hN hg hojA hd hb2 (fun _ => hp s2 hh hl K hK) (fun e => by cases b <;> simp at e)
            · have hbw : b = !want := by cases b <;> cases want <;> simp_all
              have h1 := h
              rw [if_neg hw] at h1
              subst hbw
              have he := eqv_same hb
              refine key (s.put (some d) (.bool !want)) (.v undef) he (fun s2 hh hl K hK => ?_) h1
              have hb2 : sget s2.slots d = some (.bool !want) := by rw [hl d hdl, he.2]; exact hb
              exact AOpI.guard ho hN hg hojA hd hb2 (fun e => by cases want <;> simp at e) (fun _ => hK)
          · exact h.elim
        · exact h.elim
      · exact h.elim

/-- on which operations an operation waits -/
def da (ops : Array Oper) (i : Nat) : List Nat := match ops[i]? with
  | some o => (o.after.toList.filter fun e => Region.binds .any e).map (·.on)
  | none => []

/-- on which it waits, and those on which they wait, .. -/
def clos (ops : Array Oper) (i : Nat) : List Nat := (List.range i).foldr (fun k acc => if acc.contains k then da ops k ++ acc else acc) (da ops i)

theorem clos_ind {ops : Array Oper} {i : Nat} (R : Nat → Prop) (h0 : ∀ k ∈ da ops i, R k) (hs : ∀ k, k < i → R k → ∀ m ∈ da ops k, R m) : ∀ k ∈ clos ops i, R k := by
  have key : ∀ (l : List Nat), (∀ k ∈ l, k < i) → ∀ k ∈ l.foldr (fun k acc => if acc.contains k then da ops k ++ acc else acc) (da ops i), R k := by
    intro l
    induction l with
    | nil => exact fun _ k hk => h0 k hk
    | cons x l ih =>
      intro hl k hk
      have ih' := ih fun y hy => hl y (List.mem_cons_of_mem _ hy)
      simp only [List.foldr_cons] at hk
      split at hk
      · rename_i hc
        rcases List.mem_append.1 hk with h | h
        · exact hs x (hl x (List.mem_cons_self ..)) (ih' x (by simpa using hc)) k h
        · exact ih' k h
      · exact ih' k hk
  exact key (List.range i) fun k hk => List.mem_range.1 hk

def dstOf (ops : Array Oper) (i : Nat) : Option Tmp := (ops[i]?).bind (·.dst)

/-- the check of a region: its first p operations write different slots, a slot that one writes and another reads puts them in order, the others wait on all before them -/
def drawOk (ops : Array Oper) (p : Nat) : Bool :=
  decide (p ≤ ops.size) &&
  ((List.range p).all fun i => (List.range p).all fun k => i == k || (match dstOf ops i with
    | some d => dstOf ops k != some d
    | none => true)) &&
  ((List.range p).all fun i => (List.range p).all fun k => match dstOf ops k, ops[i]? with
    | some d, some o => !(o.looksAt ops).contains d || (if k < i then (da ops i).contains k else k == i || (da ops k).contains i)
    | _, _ => true) &&
  ((List.range ops.size).all fun i => decide (i < p) || ((List.range i).all fun k => (clos ops i).contains k)) &&
  ((List.range ops.size).all fun i => (da ops i).all fun k => decide (k < i))

theorem count_set : ∀ (l : List Bool) (i : Nat), l[i]? = some false → (l.set i true).count false + 1 = l.count false
  | [], i, h => by simp at h
  | b :: l, 0, h => by simp at h; subst h; simp
  | b :: l, i + 1, h => by
    simp only [List.getElem?_cons_succ] at h
    have := count_set l i h
    cases b <;> simp [List.set_cons_succ] <;> omega

def cnt (listed : Array Bool) : Nat := listed.toList.count false

theorem cnt_set {listed : Array Bool} {i : Nat} (h : listed.getD i true = false) : cnt (listed.setIfInBounds i true) + 1 = cnt listed := by
  have h' : listed.toList[i]? = some false := by
    rw [Array.getD_eq_getD_getElem?] at h
    rw [Array.getElem?_toList]
    cases hh : listed[i]? with
    | none => rw [hh] at h; simp at h
    | some b => rw [hh] at h; simp at h; rw [h]
  unfold cnt
  rw [Array.toList_setIfInBounds]
  exact count_set _ _ h'

theorem cnt_pos {listed : Array Bool} {i : Nat} (h : listed.getD i true = false) : 0 < cnt listed := by have := cnt_set h; omega

/-- the rest of a region whose order is forced -/
theorem any_tail {F : Fence} {n : Nat} {ops : Array Oper} {Q : Exit → Act → World → Prop} (hda : ∀ i, i < ops.size → ∀ k ∈ da ops i, k < i) :
    ∀ (fuel j : Nat) (listed : Array Bool) (a : Act) (w : World), j ≤ ops.size → ops.size - j ≤ fuel → (∀ i, j ≤ i → i < ops.size → ∀ k, k < i → k ∈ clos ops i) →
      (∀ i, i < ops.size → listed.getD i true = decide (i < j)) → (∀ i, i < ops.size → listed.getD i false = decide (i < j)) →
      wpOpsIn F n P ops Q (List.range' j (ops.size - j)) a w → wpAnyIn F n P .any ops Q fuel listed a w := by
  intro fuel
  induction fuel with
  | zero =>
    intro j listed a w hj hf hchain h1 h2 h
    have hjn : j = ops.size := by omega
    subst hjn
    rw [Nat.sub_self] at h
    refine ⟨?_, h⟩
    cases hr : Region.ready .any ops listed with
    | nil => rfl
    | cons x xs =>
      have hx : x ∈ Region.ready .any ops listed := by rw [hr]; exact List.mem_cons_self ..
      obtain ⟨h0, o, ho, _⟩ := mem_ready.1 hx
      have hlt := (Array.getElem?_eq_some_iff.1 ho).1
      rw [h1 x hlt] at h0
      simp [hlt] at h0
  | succ fuel ih =>
    intro j listed a w hj hf hchain h1 h2 h
    refine ⟨fun hr => ?_, fun i hi => ?_⟩
    · by_cases hjn : j = ops.size
      · subst hjn
        rw [Nat.sub_self] at h
        exact h
      · exfalso
        have hjl : j < ops.size := by omega
        have : j ∈ Region.ready .any ops listed := by
          refine mem_ready.2 ⟨by rw [h1 j hjl]; simp, ops[j], by simp [hjl], fun e he hb => ?_⟩
          have hk : e.on ∈ da ops j := by
            simp only [da, Array.getElem?_eq_getElem hjl, List.mem_map, List.mem_filter]
            exact ⟨e, ⟨by simpa using he, hb⟩, rfl⟩
          have hlt := hda j hjl _ hk
          rw [h2 _ (by omega)]
          simp [hlt]
        rw [hr] at this
        cases this
    · obtain ⟨h0, o, ho, hall⟩ := mem_ready.1 hi
      have hil := (Array.getElem?_eq_some_iff.1 ho).1
      rw [h1 i hil] at h0
      have hji : j ≤ i := by simpa using h0
      have hij : i = j := by
        rcases Nat.lt_or_ge j i with hlt | hge
        · exfalso
          have := clos_ind (· < j) (fun k hk => by
            have hki := hda i hil k hk
            simp only [da, ho, List.mem_map, List.mem_filter] at hk
            obtain ⟨e, ⟨he, hb⟩, hon⟩ := hk
            have := hall e (by simpa using he) hb
            rw [hon, h2 k (by omega)] at this
            simpa using this) (fun k hki hkj m hm => Nat.lt_trans (hda k (by omega) m hm) hkj) j (hchain i hji hil j hlt)
          omega
        · omega
      subst hij
      have e1 : ops.size - i = (ops.size - (i + 1)) + 1 := by omega
      rw [e1, List.range'_succ, wpOpsIn_cons] at h
      refine wpOpIn_mono (fun a w hh => ih (i + 1) _ a w (by omega) (by omega) (fun x hx => hchain x (by omega)) (fun x hx => ?_) (fun x hx => ?_) hh) h
      · by_cases hxi : i = x
        · subst hxi
          have hsz : i < listed.size := by
            rcases Nat.lt_or_ge i listed.size with h | h
            · exact h
            · have := h1 i hil
              simp [Array.getElem?_eq_none h] at this
          simp [hsz]
        · rw [getD_set_ne true hxi, h1 x hx]
          congr 1
          apply propext
          omega
      · by_cases hxi : i = x
        · subst hxi
          have hsz : i < listed.size := by
            rcases Nat.lt_or_ge i listed.size with h | h
            · exact h
            · have := h1 i hil
              simp [Array.getElem?_eq_none h] at this
          simp [hsz]
        · rw [getD_set_ne false hxi, h2 x hx]
          congr 1
          apply propext
          omega

/-- the slots when the listed ones of the first p operations are done -/
def JJ (ops : Array Oper) (p : Nat) (plan : Nat → HV) (S0 : AS) (listed : Nat → Prop) (s : AS) : Prop :=
  s.heap = S0.heap ∧ (∀ i t, i < p → listed i → dstOf ops i = some t → sget s.slots t = some (plan i)) ∧
    ∀ t, (∀ i, i < p → listed i → dstOf ops i ≠ some t) → sget s.slots t = sget S0.slots t

theorem JJ.step {ops : Array Oper} {p : Nat} {plan : Nat → HV} {S0 : AS} {listed listed' : Nat → Prop} (h : JJ ops p plan S0 listed s) {i : Nat} {o : Oper} (ho : ops[i]? = some o) (hi : i < p)
    (hdis : ∀ k, k < p → k ≠ i → ∀ d, dstOf ops i = some d → dstOf ops k ≠ some d) (hl : ∀ k, listed' k ↔ listed k ∨ k = i) (he : (s.put o.dst (plan i)).eqv s') : JJ ops p plan S0 listed' s' := by
  have hdst : dstOf ops i = o.dst := by simp [dstOf, ho]
  refine ⟨by rw [he.1, put_heap, h.1], fun k t hk hlk hd => ?_, fun t ht => ?_⟩
  · rw [he.2, sget_put]
    by_cases hki : k = i
    · subst hki
      rw [if_pos (by rw [← hdst]; exact hd)]
    · rw [if_neg (fun e => hdis k hk hki t (by rw [hdst]; exact e) hd)]
      exact h.2.1 k t hk (((hl k).1 hlk).resolve_right hki) hd
  · rw [he.2, sget_put, if_neg (fun e => ht i hi ((hl i).2 (.inr rfl)) (by rw [hdst]; exact e))]
    exact h.2.2 t fun k hk hlk => ht k hk ((hl k).2 (.inl hlk))

theorem AW.drawX {id : Nat} {ops : Array Oper} {Q : Exit → AS → Prop} (p : Nat) (tail : AS → Prop) (hm : P.follows .mixedOrders = true) (hok : ops.toList.all (fun o => okd N o.dst) = true) (hd : drawOk ops p = true)
    (htl : ∀ s1, tail s1 → AOps P ro N ops (List.range' p (ops.size - p)) (fun s' => Q .normal s') s1) (h : asteps P ops.toList (ops.toList.take p) tail s) : AW P ro N (.region id ops true) Q s := by
  simp only [drawOk, Bool.and_eq_true, decide_eq_true_eq, List.all_eq_true, List.mem_range] at hd
  obtain ⟨⟨⟨⟨hp, hdis⟩, hlook⟩, hchain⟩, hda⟩ := hd
  intro w0 μ0 μ a w hs hE
  obtain ⟨plan, St, hS0, hK, hplan⟩ := asteps_plan (ro := ro) hok (ops.toList.take p) 0 s (fun k hk => by
    simp at hk
    rw [List.getElem?_take_of_lt (by omega), Nat.zero_add, Array.getElem?_toList]) h
  have hlen : (ops.toList.take p).length = p := by simp; omega
  rw [hlen, Nat.zero_add] at hK
  rw [hlen] at hplan
  simp only [Nat.zero_add] at hplan
  have hdis' : ∀ i k, i < p → k < p → k ≠ i → ∀ d, dstOf ops i = some d → dstOf ops k ≠ some d := fun i k hi hk hki d hdi => by
    have := hdis i hi k hk
    rw [hdi] at this
    simp only [Bool.or_eq_true, beq_iff_eq, bne_iff_ne] at this
    exact this.resolve_left fun e => hki e.symm
  -- the states of the text's order
  have hJ : ∀ j, j ≤ p → JJ ops p plan (St 0) (· < j) (St j) := by
    intro j
    induction j with
    | zero => exact fun _ => ⟨rfl, fun _ _ _ hx => absurd hx (Nat.not_lt_zero _), fun _ _ => rfl⟩
    | succ j ih =>
      intro hj
      obtain ⟨o, ho, _, he⟩ := hplan j (by omega)
      exact (ih (by omega)).step ho (by omega) (fun k hk hkj => hdis' j k (by omega) hk hkj) (fun k => by omega) he
  have hsz : (∀ i, i < ops.size → (Array.replicate ops.size false).getD i true = false) := fun i hi => by simp [hi]
  -- the first p operations, in whatever order
  have main : ∀ (fuel : Nat) (listed : Array Bool) (s1 : AS) (μ1 : Mu) (a1 : Act) (w1 : World), listed.size = ops.size → cnt listed ≤ fuel → (∀ i, i < ops.size → listed.getD i false = true → ∀ k ∈ da ops i, listed.getD k false = true) →
      (∀ i, p ≤ i → i < ops.size → listed.getD i false = false) → JJ ops p plan (St 0) (fun i => listed.getD i false = true) s1 → SRel ro N w0.heap.size μ1 s1 a1 w1 → Evo w0 μ0 w1 μ1 →
      wpAnyIn (fence ro) 0 P .any ops (Post ro N Q w0 μ0) fuel listed a1 w1 := by
    intro fuel
    have gd : ∀ (listed : Array Bool) (i : Nat), listed.size = ops.size → i < ops.size → listed.getD i true = listed.getD i false := fun listed i hl hi => by
      have : i < listed.size := by omega
      simp [this]
    -- when all of them are done
    have fin : ∀ (fuel : Nat) (listed : Array Bool) (s1 : AS) (μ1 : Mu) (a1 : Act) (w1 : World), listed.size = ops.size → cnt listed ≤ fuel → (∀ i, i < p → listed.getD i false = true) →
        (∀ i, p ≤ i → i < ops.size → listed.getD i false = false) → JJ ops p plan (St 0) (fun i => listed.getD i false = true) s1 → SRel ro N w0.heap.size μ1 s1 a1 w1 → Evo w0 μ0 w1 μ1 →
        wpAnyIn (fence ro) 0 P .any ops (Post ro N Q w0 μ0) fuel listed a1 w1 := by
      intro fuel listed s1 μ1 a1 w1 hl hc hall htail hj hs1 hE1
      have heq : s1.eqv (St p) := by
        have hp1 := hJ p (Nat.le_refl _)
        refine ⟨hp1.1.trans hj.1.symm, fun t => ?_⟩
        by_cases hx : ∃ i, i < p ∧ dstOf ops i = some t
        · obtain ⟨i, hi, hdi⟩ := hx
          rw [hp1.2.1 i t hi hi hdi, hj.2.1 i t hi (hall i hi) hdi]
        · rw [hp1.2.2 t (fun i hi _ hdi => hx ⟨i, hi, hdi⟩), hj.2.2 t (fun i hi _ hdi => hx ⟨i, hi, hdi⟩)]
      have hsp := hs1.eqv heq
      have hops := htl _ hK w0 μ0 μ1 a1 w1 (Post ro N Q w0 μ0) hsp hE1 fun μ' s' a' w' hk hs' hE' =>
        ⟨(fun _ h => by cases h), (fun h => by cases h), _, _, hk, hs', hE'⟩
      refine any_tail (fun i hi k hk => hda i hi k hk) fuel p listed a1 w1 hp ?_ (fun i hpi hi k hk => ?_) (fun i hi => ?_) (fun i hi => ?_) hops
      · have hcount : ∀ (m : Nat) (l : List Bool), (∀ i, i < l.length → m ≤ i → l[i]? = some false) → l.length - m ≤ l.count false := by
          intro m l
          induction l generalizing m with
          | nil => intro _; simp
          | cons b l ih =>
            intro hx
            cases m with
            | zero =>
              have hb := hx 0 (by simp) (Nat.le_refl _)
              simp at hb
              subst hb
              have := ih 0 (fun i hi _ => by have := hx (i + 1) (by simpa using hi) (by omega); simpa using this)
              simp at this ⊢
              omega
            | succ m =>
              have := ih m (fun i hi hm => by have := hx (i + 1) (by simpa using hi) (by omega); simpa using this)
              simp only [List.length_cons, List.count_cons]
              omega
        have := hcount p listed.toList (fun i hi hpi => by
          rw [Array.length_toList] at hi
          have h3 := htail i hpi (by omega)
          rw [Array.getElem?_toList, Array.getElem?_eq_getElem hi]
          simp [hi] at h3
          rw [h3])
        rw [Array.length_toList] at this
        unfold cnt at hc
        omega
      · have := hchain i hi
        simp only [Bool.or_eq_true, decide_eq_true_eq, List.all_eq_true, List.mem_range, List.contains_iff_mem] at this
        exact this.resolve_left (by omega) k hk
      · rw [gd listed i hl hi]
        by_cases hip : i < p
        · rw [hall i hip]; simp [hip]
        · rw [htail i (by omega) hi]; simp [hip]
      · by_cases hip : i < p
        · rw [hall i hip]; simp [hip]
        · rw [htail i (by omega) hi]; simp [hip]
    induction fuel with
    | zero =>
      intro listed s1 μ1 a1 w1 hl hc hcl htail hj hs1 hE1
      refine fin 0 listed s1 μ1 a1 w1 hl hc (fun i hi => ?_) htail hj hs1 hE1
      cases hh : listed.getD i false with
      | true => rfl
      | false =>
        have := cnt_pos (listed := listed) (i := i) (by rw [gd listed i hl (by omega)]; exact hh)
        omega
    | succ fuel ih =>
      intro listed s1 μ1 a1 w1 hl hc hcl htail hj hs1 hE1
      by_cases hall : ∀ i, i < p → listed.getD i false = true
      · exact fin (fuel + 1) listed s1 μ1 a1 w1 hl hc hall htail hj hs1 hE1
      · refine ⟨fun hr => ?_, fun i hi => ?_⟩
        · exfalso
          -- the least operation that is not listed is ready
          obtain ⟨j, ⟨hjp, hjl⟩, hmin⟩ := least (fun j => j < p ∧ listed.getD j false = false) (by
            refine Classical.byContradiction fun hno => hall fun i hi => ?_
            cases hh : listed.getD i false with
            | true => rfl
            | false => exact absurd ⟨i, hi, hh⟩ hno)
          have hjs : j < ops.size := by omega
          have : j ∈ Region.ready .any ops listed := by
            refine mem_ready.2 ⟨by rw [gd listed j hl hjs]; exact hjl, ops[j], by simp [hjs], fun e he hb => ?_⟩
            have hk : e.on ∈ da ops j := by
              simp only [da, Array.getElem?_eq_getElem hjs, List.mem_map, List.mem_filter]
              exact ⟨e, ⟨by simpa using he, hb⟩, rfl⟩
            have hlt := hda j hjs _ hk
            cases hh : listed.getD e.on false with
            | true => rfl
            | false => have := hmin e.on ⟨by omega, hh⟩; omega
          rw [hr] at this
          cases this
        · obtain ⟨h0, o, ho, hwait⟩ := mem_ready.1 hi
          have his := (Array.getElem?_eq_some_iff.1 ho).1
          have hil : listed.getD i false = false := by rw [← gd listed i hl his]; exact h0
          have hdone : ∀ k ∈ da ops i, listed.getD k false = true := fun k hk => by
            simp only [da, ho, List.mem_map, List.mem_filter] at hk
            obtain ⟨e, ⟨he, hb⟩, rfl⟩ := hk
            exact hwait e (by simpa using he) hb
          have hip : i < p := by
            rcases Nat.lt_or_ge i p with h | h
            · exact h
            · exfalso
              refine hall fun k hk => ?_
              have := hchain i his
              simp only [Bool.or_eq_true, decide_eq_true_eq, List.all_eq_true, List.mem_range, List.contains_iff_mem] at this
              refine clos_ind (fun k => listed.getD k false = true) hdone (fun k hki hkl m hm => ?_) k (this.resolve_left (by omega) k (by omega))
              rcases Nat.lt_or_ge k p with hkp | hkp
              · exact hcl k (by omega) hkl m hm
              · rw [htail k hkp (by omega)] at hkl
                cases hkl
          obtain ⟨o', ho', hpure, _⟩ := hplan i hip
          rw [ho] at ho'
          cases ho'
          have hSi := hJ i (by omega)
          -- its operands are as in the text's order
          have hagree : ∀ t ∈ o.looksAt ops, sget s1.slots t = sget (St i).slots t := by
            intro t ht
            by_cases hx : ∃ k, k < p ∧ dstOf ops k = some t
            · obtain ⟨k, hk, hdk⟩ := hx
              have hc2 := hlook i hip k hk
              rw [hdk, ho] at hc2
              simp only [Bool.or_eq_true, Bool.not_eq_true', List.contains_eq_mem, decide_eq_false_iff_not] at hc2
              have hc3 := hc2.resolve_left (fun hn => hn ht)
              by_cases hki : k < i
              · rw [if_pos hki] at hc3
                have hkd : k ∈ da ops i := by simpa using hc3
                rw [hSi.2.1 k t hk hki hdk, hj.2.1 k t hk (hdone k hkd) hdk]
              · rw [if_neg hki] at hc3
                have hkn : listed.getD k false = false := by
                  rcases (by simpa using hc3 : k = i ∨ i ∈ da ops k) with e | hik
                  · rw [e]; exact hil
                  · cases hh : listed.getD k false with
                    | false => rfl
                    | true =>
                      have := hcl k (by omega) hh i hik
                      rw [hil] at this
                      cases this
                rw [hSi.2.2 t (fun m hm hmi hdm => ?_), hj.2.2 t (fun m hm hml hdm => ?_)]
                · by_cases hmk : m = k
                  · subst hmk
                    have hml' : listed.getD m false = true := hml
                    rw [hkn] at hml'
                    cases hml'
                  · exact hdis' k m hk hm hmk t hdk hdm
                · by_cases hmk : m = k
                  · subst hmk; omega
                  · exact hdis' k m hk hm hmk t hdk hdm
            · rw [hSi.2.2 t (fun m hm _ hdm => hx ⟨m, hm, hdm⟩), hj.2.2 t (fun m hm _ hdm => hx ⟨m, hm, hdm⟩)]
          refine hpure s1 (hj.1.trans hSi.1.symm) hagree (fun s2 => s2 = s1.put o.dst (plan i)) rfl w0 μ0 μ1 a1 w1 _ _ hs1 hE1 ?_
          rintro μ2 s2 a2 w2 rfl hs2 hE2
          have hset : ∀ k, (listed.setIfInBounds i true).getD k false = true ↔ listed.getD k false = true ∨ k = i := fun k => by
            by_cases hki : i = k
            · subst hki
              have : i < listed.size := by omega
              simp [this]
            · rw [getD_set_ne false hki]
              exact ⟨.inl, fun h => h.resolve_right fun e => hki e.symm⟩
          have hcnt := cnt_set (listed := listed) (i := i) h0
          refine ih (listed.setIfInBounds i true) _ μ2 a2 w2 (by simp [hl]) (by omega) (fun j hj hlj k hk => ?_) (fun j hpj hjs => ?_) (hj.step ho hip (fun k hk hki => hdis' i k hip hk hki) (fun k => hset k) (AS.eqv.refl _)) hs2 hE2
          · rcases (hset j).1 hlj with h | rfl
            · exact (hset k).2 (.inl (hcl j hj h k hk))
            · exact (hset k).2 (.inl (hdone k hk))
          · cases hh : (listed.setIfInBounds i true).getD j false with
            | false => rfl
            | true =>
              rcases (hset j).1 hh with h | h
              · rw [htail j hpj hjs] at h; cases h
              · omega
  refine wpIn_region_any hm ?_
  have g := Grow.drawn w (w.drawn + 1)
  have hE' := Evo.grow hs.sr g
  have hs' : SRel ro N w0.heap.size μ s a { w with drawn := w.drawn + 1 } :=
    ⟨hs.size, hs.sr.grow g, fun t hv ht => ⟨(hs.slot t hv ht).1, Rep.evo hE' hs.sr.ok _ _ (hs.slot t hv ht).2⟩, hs.marks.evo hE', hs.ro.evo hE'⟩
  refine main ops.size (Array.replicate ops.size false) s μ a _ (by simp) (by simp [cnt]) (fun i hi hl => ?_) (fun i _ hi => by simp [hi]) ⟨hS0.1.symm, fun i t hi hl => ?_, fun t _ => (hS0.2 t).symm⟩ hs' (hE.trans hE')
  · simp [hi] at hl
  · have hi' : i < ops.size := by omega
    simp [hi'] at hl

theorem AW.draw {id : Nat} {ops : Array Oper} {Q : Exit → AS → Prop} (p : Nat) (ks : List Nat) (hm : P.follows .mixedOrders = true) (hok : ops.toList.all (fun o => okd N o.dst) = true) (hd : drawOk ops p = true)
    (h : ∀ K : AS → Prop, (∀ s', Q .normal s' → K s') → asteps P ops.toList (ops.toList.take p) (fun s1 => aops P fid mt ops.toList (ops.toList.drop p) (fun s' => K (s'.keep ks)) s1) s) : AW P ro N (.region id ops true) Q s := by
  refine AW.conseq (Q' := fun e s' => e = .normal ∧ Q .normal (s'.keep ks)) (AW.drawX p _ hm hok hd (fun s1 h1 => ?_) (h (Q .normal) fun _ h => h)) fun e s1 ⟨he, h⟩ => he ▸ ⟨s1.keep ks, AS.le_keep s1 ks, h⟩
  have hso := aops_sound (ro := ro) hok (ops.toList.drop p) p s1 (fun k => by rw [List.getElem?_drop, Array.getElem?_toList]) h1
  have hld : (ops.toList.drop p).length = ops.size - p := by simp
  rw [hld] at hso
  intro w0 μ0 μ a w Q' hs hE hK
  exact hso w0 μ0 μ a w Q' hs hE fun μ' s' a' w' hk hs' hE' => hK μ' s' a' w' ⟨rfl, hk⟩ hs' hE'
end
end Go.AW
