/- Regions that draw their order, piece by piece: some operations that change nothing in whatever order, one on which all behind it wait, .. -/
import Derived.Test.YtccnafddjjamoaaAwJ
namespace Go.AW
open Go

section
variable {P : Program} {ro : Option Nat} {N : Nat} {s : AS}

/-- from here on: the first q operations are done -/
def AnyAt (P : Program) (ro : Option Nat) (N : Nat) (ops : Array Oper) (Q : Exit → AS → Prop) (q : Nat) (s : AS) : Prop :=
  ∀ (w0 : World) (μ0 : Mu) (fuel : Nat) (listed : Array Bool) (μ1 : Mu) (a1 : Act) (w1 : World), listed.size = ops.size → cnt listed ≤ fuel → (∀ i, i < ops.size → listed.getD i false = decide (i < q)) →
    SRel ro N w0.heap.size μ1 s a1 w1 → Evo w0 μ0 w1 μ1 → wpAnyIn (fence ro) 0 P .any ops (Post ro N Q w0 μ0) fuel listed a1 w1

/-- no operation waits on a later one -/
def daOk (ops : Array Oper) : Bool := (List.range ops.size).all fun i => (da ops i).all fun k => decide (k < i)
/-- all operations from p on wait on those from q to p -/
def waitOk (ops : Array Oper) (q p : Nat) : Bool := (List.range ops.size).all fun i => decide (i < p) || ((List.range p).all fun k => decide (k < q) || (clos ops i).contains k)
/-- the operations from q to p write different slots; a slot that one writes and another reads puts them in order -/
def segOk (ops : Array Oper) (q p : Nat) : Bool :=
  ((List.range p).all fun i => decide (i < q) || ((List.range p).all fun k => decide (k < q) || (i == k || (match dstOf ops i with
    | some d => dstOf ops k != some d
    | none => true)))) &&
  ((List.range p).all fun i => decide (i < q) || ((List.range p).all fun k => decide (k < q) || (match dstOf ops k, ops[i]? with
    | some d, some o => !(o.looksAt ops).contains d || (if k < i then (da ops i).contains k else k == i || (da ops k).contains i)
    | _, _ => true)))

theorem getD_tf {listed : Array Bool} {i : Nat} (h : i < listed.size) : listed.getD i true = listed.getD i false := by simp [h]

theorem daOk_spec {ops : Array Oper} (h : daOk ops = true) : ∀ i, i < ops.size → ∀ k ∈ da ops i, k < i := by
  simp only [daOk, List.all_eq_true, List.mem_range, decide_eq_true_eq] at h
  exact h

theorem waitOk_spec {ops : Array Oper} {q p : Nat} (h : waitOk ops q p = true) : ∀ i, p ≤ i → i < ops.size → ∀ k, q ≤ k → k < p → k ∈ clos ops i := by
  simp only [waitOk, List.all_eq_true, List.mem_range, Bool.or_eq_true, decide_eq_true_eq, List.contains_iff_mem] at h
  intro i hpi hi k hqk hkp
  exact ((h i hi).resolve_left (by omega) k hkp).resolve_left (by omega)

theorem AnyAt.done {ops : Array Oper} {Q : Exit → AS → Prop} (hda : daOk ops = true) (h : Q .normal s) : AnyAt P ro N ops Q ops.size s := by
  intro w0 μ0 fuel listed μ1 a1 w1 hl hc hlist hs hE
  refine any_tail (daOk_spec hda) fuel ops.size listed a1 w1 (Nat.le_refl _) (by omega) (fun i h1 h2 => by omega) (fun i hi => ?_) hlist ?_
  · rw [getD_tf (by omega)]; exact hlist i hi
  · rw [Nat.sub_self]
    exact ⟨(fun _ h => by cases h), (fun h => by cases h), _, _, h, hs, hE⟩

/-- the least one that is not done is ready -/
theorem ready_of {ops : Array Oper} {listed : Array Bool} (hda : ∀ i, i < ops.size → ∀ k ∈ da ops i, k < i) (hl : listed.size = ops.size) {j : Nat} (hj : j < ops.size) (hjl : listed.getD j false = false) (hmin : ∀ k, k < j → listed.getD k false = true) :
    j ∈ Region.ready .any ops listed := by
  refine mem_ready.2 ⟨by rw [getD_tf (by omega)]; exact hjl, ops[j], by simp [hj], fun e he hb => ?_⟩
  have hk : e.on ∈ da ops j := by
    simp only [da, Array.getElem?_eq_getElem hj, List.mem_map, List.mem_filter]
    exact ⟨e, ⟨by simpa using he, hb⟩, rfl⟩
  exact hmin _ (hda j hj _ hk)

theorem deps_done {ops : Array Oper} {listed : Array Bool} {i : Nat} (hi : i ∈ Region.ready .any ops listed) : ∀ k ∈ da ops i, listed.getD k false = true := by
  obtain ⟨h0, o, ho, hwait⟩ := mem_ready.1 hi
  intro k hk
  simp only [da, ho, List.mem_map, List.mem_filter] at hk
  obtain ⟨e, ⟨he, hb⟩, rfl⟩ := hk
  exact hwait e (by simpa using he) hb

/-- one operation, on which all behind it wait -/
theorem AnyAt.op {ops : Array Oper} {Q : Exit → AS → Prop} {q : Nat} (hda : daOk ops = true) (hq : q < ops.size) (hw : waitOk ops q (q + 1) = true) (h : AOpI P ro N ops q (AnyAt P ro N ops Q (q + 1)) s) : AnyAt P ro N ops Q q s := by
  intro w0 μ0 fuel listed μ1 a1 w1 hl hc hlist hs hE
  have hda' := daOk_spec hda
  have hqn : listed.getD q false = false := by rw [hlist q hq]; simp
  cases fuel with
  | zero =>
    have := cnt_pos (listed := listed) (i := q) (by rw [getD_tf (by omega)]; exact hqn)
    omega
  | succ fuel =>
    refine ⟨fun hr => ?_, fun i hi => ?_⟩
    · exfalso
      have := ready_of hda' hl hq hqn fun k hk => by rw [hlist k (by omega)]; simp [hk]
      rw [hr] at this
      cases this
    · have hdone := deps_done hi
      obtain ⟨h0, o, ho, _⟩ := mem_ready.1 hi
      have his := (Array.getElem?_eq_some_iff.1 ho).1
      rw [getD_tf (by omega), hlist i his] at h0
      have hqi : q ≤ i := by simpa using h0
      have hiq : i = q := by
        rcases Nat.lt_or_ge q i with hlt | hge
        · exfalso
          have hc := waitOk_spec hw i hlt his q (Nat.le_refl _) (Nat.lt_succ_self _)
          have := clos_ind (fun k => k < q) (fun k hk => by
            have hd := hdone k hk
            rw [hlist k (Nat.lt_trans (hda' i his k hk) his)] at hd
            simpa using hd) (fun k hki hkq m hm => Nat.lt_trans (hda' k (by omega) m hm) hkq) q hc
          omega
        · omega
      subst hiq
      refine h w0 μ0 μ1 a1 w1 _ _ hs hE fun μ2 s2 a2 w2 hk hs2 hE2 => hk w0 μ0 fuel _ μ2 a2 w2 (by simp [hl]) ?_ (fun k hk => ?_) hs2 hE2
      · have := cnt_set (listed := listed) (i := i) (by rw [getD_tf (by omega)]; exact hqn)
        omega
      · by_cases hki : i = k
        · subst hki
          have : i < listed.size := by omega
          simp [this]
        · rw [getD_set_ne false hki, hlist k hk]
          congr 1
          apply propext
          omega

/-- the slots when the listed ones of the operations from q to p are done -/
def JQ (ops : Array Oper) (q p : Nat) (plan : Nat → HV) (S0 : AS) (listed : Nat → Prop) (s : AS) : Prop :=
  s.heap = S0.heap ∧ (∀ i t, q ≤ i → i < p → listed i → dstOf ops i = some t → sget s.slots t = some (plan i)) ∧
    ∀ t, (∀ i, q ≤ i → i < p → listed i → dstOf ops i ≠ some t) → sget s.slots t = sget S0.slots t

theorem JQ.step {ops : Array Oper} {q p : Nat} {plan : Nat → HV} {S0 s s' : AS} {listed listed' : Nat → Prop} (h : JQ ops q p plan S0 listed s) {i : Nat} {o : Oper} (ho : ops[i]? = some o) (hq : q ≤ i) (hi : i < p)
    (hdis : ∀ k, q ≤ k → k < p → k ≠ i → ∀ d, dstOf ops i = some d → dstOf ops k ≠ some d) (hl : ∀ k, listed' k ↔ listed k ∨ k = i) (he : (s.put o.dst (plan i)).eqv s') : JQ ops q p plan S0 listed' s' := by
  have hdst : dstOf ops i = o.dst := by simp [dstOf, ho]
  refine ⟨by rw [he.1, put_heap, h.1], fun k t hqk hk hlk hd => ?_, fun t ht => ?_⟩
  · rw [he.2, sget_put]
    by_cases hki : k = i
    · subst hki
      rw [if_pos (by rw [← hdst]; exact hd)]
    · rw [if_neg (fun e => hdis k hqk hk hki t (by rw [hdst]; exact e) hd)]
      exact h.2.1 k t hqk hk (((hl k).1 hlk).resolve_right hki) hd
  · rw [he.2, sget_put, if_neg (fun e => ht i hq hi ((hl i).2 (.inr rfl)) (by rw [hdst]; exact e))]
    exact h.2.2 t fun k hqk hk hlk => ht k hqk hk ((hl k).2 (.inl hlk))

/-- operations that change nothing, in whatever order -/
theorem AnyAt.steady {ops : Array Oper} {Q : Exit → AS → Prop} {q : Nat} (p : Nat) (tail : AS → Prop) (hok : ops.toList.all (fun o => okd N o.dst) = true) (hda : daOk ops = true) (hqp : q ≤ p) (hp : p ≤ ops.size) (hw : waitOk ops q p = true) (hseg : segOk ops q p = true)
    (htail : ∀ s1, tail s1 → AnyAt P ro N ops Q p s1) (h : asteps P ops.toList ((ops.toList.drop q).take (p - q)) tail s) : AnyAt P ro N ops Q q s := by
  have hda' := daOk_spec hda
  have hchain := waitOk_spec hw
  simp only [segOk, Bool.and_eq_true, Bool.or_eq_true, decide_eq_true_eq, List.all_eq_true, List.mem_range] at hseg
  obtain ⟨hdis, hlook⟩ := hseg
  obtain ⟨plan, St, hS0, hK, hplan⟩ := asteps_plan (ro := ro) hok ((ops.toList.drop q).take (p - q)) q s (fun k hk => by
    simp at hk
    rw [List.getElem?_take_of_lt (by omega), List.getElem?_drop, Array.getElem?_toList]) h
  have hlen : ((ops.toList.drop q).take (p - q)).length = p - q := by simp; omega
  rw [hlen] at hK hplan
  have hqpp : q + (p - q) = p := by omega
  rw [hqpp] at hK
  have hdis' : ∀ i k, q ≤ i → i < p → q ≤ k → k < p → k ≠ i → ∀ d, dstOf ops i = some d → dstOf ops k ≠ some d := fun i k hqi hi hqk hk hki d hdi => by
    have := ((hdis i hi).resolve_left (by omega) k hk).resolve_left (by omega)
    rw [hdi] at this
    simp only [beq_iff_eq, bne_iff_ne] at this
    exact this.resolve_left fun e => hki e.symm
  have hplan' : ∀ i, q ≤ i → i < p → ∃ o, ops[i]? = some o ∧ PureAt P ro N ops i o (plan i) (St i) ∧ ((St i).put o.dst (plan i)).eqv (St (i + 1)) := fun i hqi hi => by
    have := hplan (i - q) (by omega)
    rw [show q + (i - q) = i by omega] at this
    exact this
  have hJ : ∀ j, q ≤ j → j ≤ p → JQ ops q p plan (St q) (fun i => q ≤ i ∧ i < j) (St j) := by
    intro j hqj
    obtain ⟨d, rfl⟩ : ∃ d, j = q + d := ⟨j - q, by omega⟩
    clear hqj
    induction d with
    | zero => exact fun _ => ⟨rfl, fun _ _ _ _ hx => by omega, fun _ _ => rfl⟩
    | succ d ih =>
      intro hj
      obtain ⟨o, ho, _, he⟩ := hplan' (q + d) (by omega) (by omega)
      exact (ih (by omega)).step ho (by omega) (by omega) (fun k hqk hk hkj => hdis' (q + d) k (by omega) (by omega) hqk hk hkj) (fun k => by omega) he
  intro w0 μ0
  have main : ∀ (fuel : Nat) (listed : Array Bool) (s1 : AS) (μ1 : Mu) (a1 : Act) (w1 : World), listed.size = ops.size → cnt listed ≤ fuel → (∀ i, i < ops.size → listed.getD i false = true → ∀ k ∈ da ops i, listed.getD k false = true) →
      (∀ i, i < q → listed.getD i false = true) → (∀ i, p ≤ i → i < ops.size → listed.getD i false = false) → JQ ops q p plan (St q) (fun i => listed.getD i false = true) s1 → SRel ro N w0.heap.size μ1 s1 a1 w1 → Evo w0 μ0 w1 μ1 →
      wpAnyIn (fence ro) 0 P .any ops (Post ro N Q w0 μ0) fuel listed a1 w1 := by
    intro fuel
    have fin : ∀ (fuel : Nat) (listed : Array Bool) (s1 : AS) (μ1 : Mu) (a1 : Act) (w1 : World), listed.size = ops.size → cnt listed ≤ fuel → (∀ i, i < p → listed.getD i false = true) →
        (∀ i, p ≤ i → i < ops.size → listed.getD i false = false) → JQ ops q p plan (St q) (fun i => listed.getD i false = true) s1 → SRel ro N w0.heap.size μ1 s1 a1 w1 → Evo w0 μ0 w1 μ1 →
        wpAnyIn (fence ro) 0 P .any ops (Post ro N Q w0 μ0) fuel listed a1 w1 := by
      intro fuel listed s1 μ1 a1 w1 hl hc hall htl hj hs1 hE1
      have heq : s1.eqv (St p) := by
        have hp1 := hJ p hqp (Nat.le_refl _)
        refine ⟨hp1.1.trans hj.1.symm, fun t => ?_⟩
        by_cases hx : ∃ i, q ≤ i ∧ i < p ∧ dstOf ops i = some t
        · obtain ⟨i, hqi, hi, hdi⟩ := hx
          rw [hp1.2.1 i t hqi hi ⟨hqi, hi⟩ hdi, hj.2.1 i t hqi hi (hall i hi) hdi]
        · rw [hp1.2.2 t (fun i hqi hi _ hdi => hx ⟨i, hqi, hi, hdi⟩), hj.2.2 t (fun i hqi hi _ hdi => hx ⟨i, hqi, hi, hdi⟩)]
      refine htail _ hK w0 μ0 fuel listed μ1 a1 w1 hl hc (fun i hi => ?_) (hs1.eqv heq) hE1
      by_cases hip : i < p
      · rw [hall i hip]; simp [hip]
      · rw [htl i (by omega) hi]; simp [hip]
    induction fuel with
    | zero =>
      intro listed s1 μ1 a1 w1 hl hc hcl hold htl hj hs1 hE1
      refine fin 0 listed s1 μ1 a1 w1 hl hc (fun i hi => ?_) htl hj hs1 hE1
      cases hh : listed.getD i false with
      | true => rfl
      | false =>
        have := cnt_pos (listed := listed) (i := i) (by rw [getD_tf (by omega)]; exact hh)
        omega
    | succ fuel ih =>
      intro listed s1 μ1 a1 w1 hl hc hcl hold htl hj hs1 hE1
      by_cases hall : ∀ i, i < p → listed.getD i false = true
      · exact fin (fuel + 1) listed s1 μ1 a1 w1 hl hc hall htl hj hs1 hE1
      · refine ⟨fun hr => ?_, fun i hi => ?_⟩
        · exfalso
          obtain ⟨j, ⟨hjp, hjl⟩, hmin⟩ := least (fun j => j < p ∧ listed.getD j false = false) (by
            refine Classical.byContradiction fun hno => hall fun i hi => ?_
            cases hh : listed.getD i false with
            | true => rfl
            | false => exact absurd ⟨i, hi, hh⟩ hno)
          have := ready_of hda' hl (by omega : j < ops.size) hjl fun k hk => by
            cases hh : listed.getD k false with
            | true => rfl
            | false => have := hmin k ⟨by omega, hh⟩; omega
          rw [hr] at this
          cases this
        · have hdone := deps_done hi
          obtain ⟨h0, o, ho, hwait⟩ := mem_ready.1 hi
          have his := (Array.getElem?_eq_some_iff.1 ho).1
          have hil : listed.getD i false = false := by rw [← getD_tf (by omega)]; exact h0
          have hqi : q ≤ i := by
            rcases Nat.lt_or_ge i q with h | h
            · have := hold i h; rw [hil] at this; cases this
            · exact h
          have hip : i < p := by
            rcases Nat.lt_or_ge i p with h | h
            · exact h
            · exfalso
              refine hall fun k hk => ?_
              rcases Nat.lt_or_ge k q with hkq | hkq
              · exact hold k hkq
              · refine clos_ind (fun k => listed.getD k false = true) hdone (fun k hki hkl m hm => ?_) k (hchain i h his k hkq hk)
                exact hcl k (by omega) hkl m hm
          obtain ⟨o', ho', hpure, _⟩ := hplan' i hqi hip
          rw [ho] at ho'
          cases ho'
          have hSi := hJ i hqi (by omega)
          have hagree : ∀ t ∈ o.looksAt ops, sget s1.slots t = sget (St i).slots t := by
            intro t ht
            by_cases hx : ∃ k, q ≤ k ∧ k < p ∧ dstOf ops k = some t
            · obtain ⟨k, hqk, hk, hdk⟩ := hx
              have hc2 := ((hlook i hip).resolve_left (by omega) k hk).resolve_left (by omega)
              rw [hdk, ho] at hc2
              simp only [Bool.or_eq_true, Bool.not_eq_true', List.contains_eq_mem, decide_eq_false_iff_not] at hc2
              have hc3 := hc2.resolve_left (fun hn => hn ht)
              by_cases hki : k < i
              · rw [if_pos hki] at hc3
                have hkd : k ∈ da ops i := by simpa using hc3
                rw [hSi.2.1 k t hqk hk ⟨hqk, hki⟩ hdk, hj.2.1 k t hqk hk (hdone k hkd) hdk]
              · rw [if_neg hki] at hc3
                have hkn : listed.getD k false = false := by
                  rcases (by simpa using hc3 : k = i ∨ i ∈ da ops k) with e | hik
                  · rw [e]; exact hil
                  · cases hh : listed.getD k false with
                    | false => rfl
                    | true =>
                      have := hcl k (by omega) hh i hik
                      rw [hil] at this
                      cases this
                rw [hSi.2.2 t (fun m hqm hm hmi hdm => ?_), hj.2.2 t (fun m hqm hm hml hdm => ?_)]
                · by_cases hmk : m = k
                  · subst hmk
                    have hml' : listed.getD m false = true := hml
                    rw [hkn] at hml'
                    cases hml'
                  · exact hdis' k m hqk hk hqm hm hmk t hdk hdm
                · by_cases hmk : m = k
                  · subst hmk; omega
                  · exact hdis' k m hqk hk hqm hm hmk t hdk hdm
            · rw [hSi.2.2 t (fun m hqm hm _ hdm => hx ⟨m, hqm, hm, hdm⟩), hj.2.2 t (fun m hqm hm _ hdm => hx ⟨m, hqm, hm, hdm⟩)]
          refine hpure s1 (hj.1.trans hSi.1.symm) hagree (fun s2 => s2 = s1.put o.dst (plan i)) rfl w0 μ0 μ1 a1 w1 _ _ hs1 hE1 ?_
          rintro μ2 s2 a2 w2 rfl hs2 hE2
          have hset : ∀ k, (listed.setIfInBounds i true).getD k false = true ↔ listed.getD k false = true ∨ k = i := fun k => by
            by_cases hki : i = k
            · subst hki
              have : i < listed.size := by omega
              simp [this]
            · rw [getD_set_ne false hki]
              exact ⟨.inl, fun h => h.resolve_right fun e => hki e.symm⟩
          have hcnt := cnt_set (listed := listed) (i := i) h0
          refine ih (listed.setIfInBounds i true) _ μ2 a2 w2 (by simp [hl]) (by omega) (fun j hj hlj k hk => ?_) (fun j hjq => (hset j).2 (.inl (hold j hjq))) (fun j hpj hjs => ?_) (hj.step ho hqi hip (fun k hqk hk hki => hdis' i k hqi hip hqk hk hki) (fun k => hset k) (AS.eqv.refl _)) hs2 hE2
          · rcases (hset j).1 hlj with h | rfl
            · exact (hset k).2 (.inl (hcl j hj h k hk))
            · exact (hset k).2 (.inl (hdone k hk))
          · cases hh : (listed.setIfInBounds i true).getD j false with
            | false => rfl
            | true =>
              rcases (hset j).1 hh with h | h
              · rw [htl j hpj hjs] at h; cases h
              · omega
  intro fuel listed μ1 a1 w1 hl hc hlist hs hE
  have hs' : SRel ro N w0.heap.size μ1 (St q) a1 w1 := hs.eqv hS0
  refine main fuel listed (St q) μ1 a1 w1 hl hc (fun i hi hli k hk => ?_) (fun i hi => ?_) (fun i hpi hi => ?_) ⟨rfl, fun i t hqi hi hli => ?_, fun t _ => rfl⟩ hs' hE
  · have hki := hda' i hi k hk
    rw [hlist i hi] at hli
    rw [hlist k (by omega)]
    simp at hli ⊢
    omega
  · rw [hlist i (by omega)]; simp [hi]
  · rw [hlist i hi]; simp; omega
  · have hli' : listed.getD i false = true := hli
    rw [hlist i (by omega)] at hli'
    simp at hli'
    omega

/-- the region -/
theorem AW.any {id : Nat} {ops : Array Oper} {Q : Exit → AS → Prop} (hm : P.follows .mixedOrders = true) (h : AnyAt P ro N ops Q 0 s) : AW P ro N (.region id ops true) Q s := by
  intro w0 μ0 μ a w hs hE
  refine wpIn_region_any hm ?_
  have g := Grow.drawn w (w.drawn + 1)
  have hE' := Evo.grow hs.sr g
  have hs' : SRel ro N w0.heap.size μ s a { w with drawn := w.drawn + 1 } :=
    ⟨hs.size, hs.sr.grow g, fun t hv ht => ⟨(hs.slot t hv ht).1, Rep.evo hE' hs.sr.ok _ _ (hs.slot t hv ht).2⟩, hs.marks.evo hE', hs.ro.evo hE'⟩
  exact h w0 μ0 ops.size (Array.replicate ops.size false) μ a _ (by simp) (by simp [cnt]) (fun i hi => by simp [hi]) hs' (hE.trans hE')
end
end Go.AW
