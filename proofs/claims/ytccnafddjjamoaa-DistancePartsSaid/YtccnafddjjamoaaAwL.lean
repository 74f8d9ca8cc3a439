/- The step rules in the form in which a walk uses them: a region, then the rest. -/
import Derived.Test.YtccnafddjjamoaaAwK
namespace Go.AW
open Go

section
variable {P : Program} {ro : Option Nat} {N : Nat} {s : AS} {fid : Nat} {mt : List Nat} {Q : Exit → AS → Prop}

theorem AW.rseq {id : Nat} {ops : Array Oper} {y : Code} (ks : List Nat) (hok : ops.toList.all (fun o => okd N o.dst) = true)
    (h : ∀ K : AS → Prop, (∀ s', AW P ro N y Q s' → K s') → aops P fid mt ops.toList ops.toList (fun s' => K (s'.keep ks)) s) : AW P ro N (.seq (.region id ops false) y) Q s :=
  AW.seq (AW.region ks hok h)

theorem AW.dseq {id : Nat} {ops : Array Oper} {y : Code} (p : Nat) (ks : List Nat) (hm : P.follows .mixedOrders = true) (hok : ops.toList.all (fun o => okd N o.dst) = true) (hd : drawOk ops p = true)
    (h : ∀ K : AS → Prop, (∀ s', AW P ro N y Q s' → K s') → asteps P ops.toList (ops.toList.take p) (fun s1 => aops P fid mt ops.toList (ops.toList.drop p) (fun s' => K (s'.keep ks)) s1) s) :
    AW P ro N (.seq (.region id ops true) y) Q s :=
  AW.seq (AW.draw p ks hm hok hd h)

theorem AW.cseq {c : Operand} {x y z : Code} {t : Bool} (hc : s.ev c = some (.bool t)) (h1 : t = true → AW P ro N x (thenQ (AW P ro N z Q) Q) s) (h2 : t = false → AW P ro N y (thenQ (AW P ro N z Q) Q) s) :
    AW P ro N (.seq (.cond c x y) z) Q s := AW.seq (AW.cond hc h1 h2)

def leS (l : List (Nat × HV)) : List (Nat × HV) → Prop
  | [] => True
  | (i, h) :: l' => sget l i = some h ∧ leS l l'

theorem leS_get {l : List (Nat × HV)} : ∀ {l' : List (Nat × HV)}, leS l l' → ∀ t hv, sget l' t = some hv → sget l t = some hv
  | [], _, _, _, h => by cases h
  | (i, g) :: l', h, t, hv, ht => by
    simp only [sget] at ht
    split at ht
    · rename_i e; subst e; cases ht; exact h.1
    · exact leS_get h.2 t hv ht

def leH (l : Heap) : Heap → Prop
  | [] => True
  | (i, x) :: l' => hget l i = some x ∧ leH l l'

theorem leH_get {l : Heap} : ∀ {l' : Heap}, leH l l' → ∀ t hv, hget l' t = some hv → hget l t = some hv
  | [], _, _, _, h => by cases h
  | (i, g) :: l', h, t, hv, ht => by
    obtain ⟨v, o⟩ := g
    simp only [hget] at ht
    split at ht
    · rename_i e; subst e; cases ht; exact h.1
    · exact leH_get h.2 t hv ht

theorem AS.le_of {s s' : AS} (h1 : leS s.slots s'.slots) (h2 : leH s.heap s'.heap) : s.le s' := ⟨leS_get h1, leH_get h2⟩

theorem AW.put {c : Code} {s' : AS} (hl : s.le s') (h : AW P ro N c Q s') : AW P ro N c Q s := AW.weaken h hl

/-- a loop whose head's states are drawn from a family -/
theorem AW.loopS {c : Code} {α : Type} (St : α → AS) (I : α → Prop) (m : α → Nat) (a0 : α) (h0 : s.le (St a0)) (hI : I a0)
    (round : ∀ a, I a → AW P ro N c (thenQ (fun s' => ∃ b, I b ∧ m b < m a ∧ s'.le (St b)) Q) (St a)) : AW P ro N (.loop c) Q s := by
  refine AW.loop' (fun n s => ∃ a, I a ∧ s = St a ∧ m a = n) ⟨_, _, h0, a0, hI, rfl, rfl⟩ ?_
  rintro n s ⟨a, ha, rfl, rfl⟩
  refine (round a ha).mono ?_
  rintro e s' h
  cases e with
  | normal => obtain ⟨b, hb, hlt, hl⟩ := h; exact ⟨_, hlt, _, hl, b, hb, rfl, rfl⟩
  | exit id => exact h
  | goto l => exact h
  | ret => exact h
  | panic ch => exact h
  | outgrown => exact h

/-- both branches come to states of one family -/
theorem AW.cjoin {c : Operand} {x y z : Code} {t : Bool} {α : Type} (St : α → AS) (I : α → Prop) (hc : s.ev c = some (.bool t))
    (h1 : t = true → AW P ro N x (thenQ (fun s' => ∃ a, I a ∧ s'.le (St a)) Q) s) (h2 : t = false → AW P ro N y (thenQ (fun s' => ∃ a, I a ∧ s'.le (St a)) Q) s)
    (h3 : ∀ a, I a → AW P ro N z Q (St a)) : AW P ro N (.seq (.cond c x y) z) Q s := by
  refine AW.seq ((AW.cond hc h1 h2).mono ?_)
  rintro e s' h
  cases e with
  | normal => obtain ⟨a, ha, hl⟩ := h; exact AW.weaken (h3 a ha) hl
  | exit id => exact h
  | goto l => exact h
  | ret => exact h
  | panic ch => exact h
  | outgrown => exact h
end

attribute [go_sem] aops aop aval AS.ev sget sset AS.put constHV Lit.wf AS.keep skeep inL loadK abin abinT asteps aopS aslice leS leH okd HV.cells? abuild placesOf aparts afill noIter setPs elemSize asl isMut cid zcells aggD alive hget hset abase asrc baseId splice minmax resOne resAll joinR
  Bool.false_eq_true Bool.true_eq_false true_and and_true decide_true decide_false Bool.and_self thenQ blockQ Option.map_some Int.toNat_natCast Nat.mul_one List.mapM_cons List.mapM_nil Option.pure_def Option.bind_eq_bind Option.bind_some List.nil_append List.cons_append List.append_nil

@[go_sem] theorem min_i64 : IntKind.min .i64 = -9223372036854775808 := rfl
@[go_sem] theorem max_i64 : IntKind.max .i64 = 9223372036854775807 := rfl
@[go_sem] theorem min_u8 : IntKind.min .u8 = 0 := rfl
@[go_sem] theorem max_u8 : IntKind.max .u8 = 255 := rfl
@[go_sem] theorem min_u64 : IntKind.min .u64 = 0 := rfl
@[go_sem] theorem max_u64 : IntKind.max .u64 = 18446744073709551615 := rfl
@[go_sem] theorem min_u32 : IntKind.min .u32 = 0 := rfl
@[go_sem] theorem max_u32 : IntKind.max .u32 = 4294967295 := rfl

@[go_sem] theorem u8_eq (a b : UInt8) : ((a.toNat : Int) = b.toNat) = (a = b) := by
  rw [← UInt8.toNat_inj]; exact propext Int.ofNat_inj
@[go_sem] theorem u8_ne (a b : UInt8) : ((a.toNat : Int) ≠ b.toNat) = (a ≠ b) := by
  rw [ne_eq, u8_eq]

theorem w64 {n : Int} (h1 : -9223372036854775808 ≤ n) (h2 : n ≤ 9223372036854775807) : IntKind.wrap .i64 n = n := by
  rw [IntKind.wrap_i64]; omega

end Go.AW
