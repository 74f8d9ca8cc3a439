/- One definition that computes what an operation asks (aop), what a region asks in the order of its text (aops), and that they are sound. -/
import Derived.Test.YtccnafddjjamoaaAwN
namespace Go.AW
open Go

def inL (t : Nat) : List Nat → Bool
  | [] => false
  | k :: ks => if t = k then true else inL t ks

def skeep (ks : List Nat) : List (Nat × HV) → List (Nat × HV)
  | [] => []
  | (i, h) :: l => if inL i ks then (i, h) :: skeep ks l else skeep ks l

theorem sget_skeep (ks : List Nat) : ∀ (l : List (Nat × HV)) (t : Nat), sget (skeep ks l) t = if inL t ks then sget l t else none
  | [], t => by simp [skeep, sget]
  | (i, h) :: l, t => by
    simp only [skeep]
    by_cases hi : inL i ks = true
    · rw [if_pos hi]
      simp only [sget, sget_skeep ks l t]
      by_cases ht : t = i
      · subst ht; simp [hi]
      · simp [ht]
    · rw [if_neg hi, sget_skeep ks l t]
      simp only [sget]
      by_cases ht : t = i
      · subst ht; simp [hi]
      · simp [ht]

def AS.keep (s : AS) (ks : List Nat) : AS := { s with slots := skeep ks s.slots }

theorem AS.le_keep (s : AS) (ks : List Nat) : s.le (s.keep ks) := by
  refine ⟨fun t hv h => ?_, fun _ _ h => h⟩
  simp only [AS.keep, sget_skeep] at h
  split at h
  · exact h
  · cases h

def cid (fid : Nat) (d : Option Tmp) : Nat := match d with
  | some t => fid * 1000 + t
  | none => fid * 1000 + 999

/-- is the memory that this operation makes written later? -/
def isMut (mt : List Nat) (d : Option Tmp) : Bool := match d with
  | some t => inL t mt
  | none => false

def aop (P : Program) (fid : Nat) (mt : List Nat) (o : Oper) (K : AS → Prop) (s : AS) : Prop :=
  match o.op with
  | .box e x => match s.ev x with
    | some hv => match hv.cells? with
      | some cs => if isMut mt o.dst then ∀ ver, K (({ s with heap := hset s.heap (cid fid o.dst) ver (.arr cs.length e cs) } : AS).put o.dst (.ptr (cid fid o.dst) ver 0)) else K (s.put o.dst (.fptr cs 0))
      | none => False
    | none => False
  | .alloc e => match ty P e with
    | some T => match zcells T.zero with
      | some zs => ∀ ver, K (({ s with heap := hset s.heap (cid fid o.dst) ver (.arr zs.length e zs) } : AS).put o.dst (.ptr (cid fid o.dst) ver 0))
      | none => False
    | none => False
  | .store t x y => match s.ev x, s.ev y, ty P t with
    | some (.ptr id ver off), some hv, some T => match hv.cells?, hget s.heap id with
      | some cs, some (ver', .arr k e xs) => ver' = ver ∧ T.size = cs.length ∧ off + cs.length ≤ xs.length ∧ K (({ s with heap := hset s.heap id ver (.arr k e (splice xs off cs)) } : AS).put o.dst (.v undef))
      | _, _ => False
    | _, _, _ => False
  | .buildSlice t n ps => n ≤ 16777216 ∧ aslice P s t n ps.toList fun k e cs =>
      if isMut mt o.dst || n == 0 then ∀ ver, K (({ s with heap := hset s.heap (cid fid o.dst) ver (.arr k e cs) } : AS).put o.dst (.ar (cid fid o.dst) ver k 0 n)) else K (s.put o.dst (.sl k n cs))
  | .makeSlice t x y => match ty P t, s.ev x, s.ev y with
    | some ⟨.slice e, _, _, _⟩, some (.int .i64 l), some (.int .i64 c) => match ty P e with
      | some Te => match zcells Te.zero with
        | some zs => zs.length = Te.size ∧ 0 ≤ l ∧ l ≤ c ∧ c * Te.bytes ≤ 281474976710656 ∧ ∀ ver, K (({ s with heap := hset s.heap (cid fid o.dst) ver (.arr Te.size e (zrep zs l.toNat)) } : AS).put o.dst (.ar (cid fid o.dst) ver Te.size 0 l.toNat))
        | none => False
      | none => False
    | _, _, _ => False
  | .call ⟨.builtin .append, as, ts⟩ => match as.toList, ts.toList with
    | [x, y], [t, xt] => match ty P t, s.ev x, s.ev y with
      | some ⟨.slice e, _, _, _⟩, some hx, some hy => match ty P e with
        | some Te => (zcells Te.zero).any (fun zs => zs.length == Te.size) = true ∧ abase s Te.size e hx fun n cs => asrc P s xt Te.size hy fun m ds =>
            (n + m) * Te.bytes ≤ 140737488355328 ∧ n + m ≤ maxLen ∧ ∀ ver, K (({ s with heap := hset s.heap (baseId hx (cid fid o.dst)) ver (.arr Te.size e (cs ++ ds)) } : AS).put o.dst (.ar (baseId hx (cid fid o.dst)) ver Te.size 0 (n + m)))
        | none => False
      | _, _, _ => False
    | _, _ => False
  | .call ⟨.builtin .clear, as, ts⟩ => match as.toList, ts.toList with
    | [x], [t] => match ty P t, s.ev x with
      | some ⟨.slice e, _, _, _⟩, some (.ar id ver _ off n) => match ty P e, hget s.heap id with
        | some Te, some (ver', .arr k' e' xs) => match zcells Te.zero with
          | some [z] => ver' = ver ∧ off + n ≤ xs.length ∧ K (({ s with heap := hset s.heap id ver (.arr k' e' (xs.take off ++ List.replicate n z ++ xs.drop (off + n))) } : AS).put o.dst (.tup []))
          | _ => False
        | _, _ => False
      | _, _ => False
    | _, _ => False
  | .call ⟨.value f, as, _⟩ => match s.ev f, as.toList.mapM s.ev with
    | some (.fn (.func g) fs cs), some hs => ACall P g (fs ++ hs ++ cs) s.heap fun r H' => K (({ s with heap := H' } : AS).put o.dst r)
    | some (.yl id ver), some hs => YCall P id ver hs s.heap fun r H' => K (({ s with heap := H' } : AS).put o.dst r)
    | _, _ => False
  | .build t ps => abuild P s t ps.toList fun r => K (s.put o.dst r)
  | .makeMap _ none => ∀ ver, K (({ s with heap := hset s.heap (cid fid o.dst) ver (.map []) } : AS).put o.dst (.mp (cid fid o.dst) ver))
  | .mapUpdate t m x y => match ty P t, s.ev m, s.ev x, s.ev y with
    | some ⟨.map kt _, _, _, _⟩, some (.mp id ver), some (.str k), some hv => match ty P kt, hget s.heap id with
      | some ⟨.string, _, _, _⟩, some (ver', .map es) => ver' = ver ∧ noIter id s.heap ∧ K (({ s with heap := hset s.heap id ver (.map (mput k hv es)) } : AS).put o.dst (.v undef))
      | _, _ => False
    | _, _, _, _ => False
  | .lookup t m x false => match ty P t, s.ev m, s.ev x with
    | some ⟨.map kt et, _, _, _⟩, some (.mp id ver), some (.str k) => match ty P kt, ty P et, hget s.heap id with
      | some ⟨.string, _, _, _⟩, some Te, some (ver', .map es) => match constHV Te.zero with
        | some z => ver' = ver ∧ K (s.put o.dst ((alook k es).getD z))
        | none => False
      | _, _, _ => False
    | _, _, _ => False
  | .range t m => match ty P t, s.ev m with
    | some ⟨.map _ _, _, _, _⟩, some (.mp mid mver) => match hget s.heap mid with
      | some (mver', .map _) => mver' = mver ∧ cid fid o.dst ≠ mid ∧ ∀ ver, K (({ s with heap := hset s.heap (cid fid o.dst) ver (.iter mid mver [] false) } : AS).put o.dst (.it (cid fid o.dst) ver))
      | _ => False
    | _, _ => False
  | .next x false => match s.ev x with
    | some (.it id ver) => match hget s.heap id with
      | some (ver', .iter mid mver seen _) => match hget s.heap mid with
        | some (mver', .map es) => ver' = ver ∧ mver' = mver ∧ ((∀ p ∈ es, p.1 ∈ seen) → K (s.put o.dst (.tup [.bool false]))) ∧
            (∀ k v, (k, v) ∈ es → k ∉ seen → K (({ s with heap := hset s.heap id ver (.iter mid mver (k :: seen) true) } : AS).put o.dst (.tup [.bool true, .str k, v])))
        | _ => False
      | _ => False
    | _ => False
  | .entry x => match s.ev x with
    | some (.it id ver) => match hget s.heap id with
      | some (ver', .iter mid mver (k :: _) true) => match hget s.heap mid with
        | some (mver', .map es) => ver' = ver ∧ mver' = mver ∧ ∃ v, alook k es = some v ∧ K (s.put o.dst (.tup [.str k, v]))
        | _ => False
      | _ => False
    | _ => False
  | op => aval P op s fun h => K (s.put o.dst h)

theorem abase_det {s : AS} {k : Nat} {e : TypeId} {x : HV} {R : Nat → List HV → Prop} (h : abase s k e x R) : ∃ n cs, R n cs ∧ abase s k e x fun n' cs' => n' = n ∧ cs' = cs := by
  unfold abase at h ⊢
  split at h
  · exact ⟨_, _, h, rfl, rfl⟩
  · split at h
    · obtain ⟨h1, h2, h3, h4, h5, h6⟩ := h
      exact ⟨_, _, h6, h1, h2, h3, h4, h5, rfl, rfl⟩
    · exact h.elim
  · exact h.elim

theorem asrc_det {P : Program} {s : AS} {xt : TypeId} {k : Nat} {x : HV} {R : Nat → List HV → Prop} (h : asrc P s xt k x R) : ∃ n cs, R n cs ∧ asrc P s xt k x fun n' cs' => n' = n ∧ cs' = cs := by
  unfold asrc at h ⊢
  split at h
  · rename_i hT
    simp only [hT]
    obtain ⟨h1, h2⟩ := h
    exact ⟨_, _, h2, h1, rfl, rfl⟩
  · rename_i hT
    simp only [hT]
    split at h
    · obtain ⟨h1, h2, h3, h4⟩ := h
      exact ⟨_, _, h4, h1, h2, h3, rfl, rfl⟩
    · exact h.elim
  · rename_i hT
    simp only [hT]
    exact ⟨_, _, h, rfl, rfl⟩
  · rename_i hT
    simp only [hT]
    obtain ⟨h1, h2⟩ := h
    exact ⟨_, _, h2, h1, rfl, rfl⟩
  · exact h.elim

section
variable {P : Program} {ro : Option Nat} {N : Nat} {s : AS} {fid : Nat} {mt : List Nat}

theorem aop_sound {o : Oper} {K : AS → Prop} (hN : okd N o.dst = true) (h : aop P fid mt o K s) : AOp P ro N o K s := by
  unfold aop at h
  split at h
  · rename_i e x hop
    split at h
    · rename_i hv hx
      split at h
      · rename_i cs hcs
        split at h
        · exact AOp.boxM _ hop hN hx hcs h
        · exact AOp.box hop hN hx hcs h
      · exact h.elim
    · exact h.elim
  · rename_i e hop
    split at h
    · rename_i T hT
      split at h
      · rename_i zs hz
        exact AOp.alloc _ hop hN hT hz h
      · exact h.elim
    · exact h.elim
  · rename_i t x y hop
    split at h
    · rename_i id ver off hv T hx hy hT
      split at h
      · rename_i cs ver' k e xs hcs hg
        obtain ⟨rfl, h1, h2, h3⟩ := h
        exact AOp.store hop hN hx hy hcs hg hT h1 h2 h3
      · exact h.elim
    · exact h.elim
  · rename_i t n ps hop
    obtain ⟨hn, h⟩ := h
    by_cases hm : (isMut mt o.dst || n == 0) = true
    · simp only [hm, if_true] at h
      exact AOp.buildSliceM _ hop hN hn h
    · simp only [hm, if_false, Bool.false_eq_true] at h
      exact AOp.buildSlice hop hN hn h
  · rename_i t x y hop
    split at h
    · rename_i e sz by' z l c hT hx hy
      split at h
      · rename_i Te hTe
        split at h
        · rename_i zs hz
          obtain ⟨h1, h2, h3, h4, h5⟩ := h
          exact AOp.makeSlice (k1 := .i64) (k2 := .i64) _ hop hN hT rfl hTe hz h1 hx hy h2 h3 h4 h5
        · exact h.elim
      · exact h.elim
    · exact h.elim
  · rename_i as ts hop
    split at h
    · rename_i x y t xt ha ht
      split at h
      · rename_i e sz by' z hx hy hT hex hey
        split at h
        · rename_i Te hTe
          obtain ⟨hz, h⟩ := h
          obtain ⟨n, cs, h, hb⟩ := abase_det h
          obtain ⟨m, ds, ⟨h1, h2, h3⟩, hs⟩ := asrc_det h
          have has : as = #[x, y] := Array.toList_inj.1 (by simpa using ha)
          have hts : ts = #[t, xt] := Array.toList_inj.1 (by simpa using ht)
          subst has hts
          exact AOp.append _ hop hN hT rfl hTe hz hex hey hb hs h1 h2 h3
        · exact h.elim
      · exact h.elim
    · exact h.elim
  · rename_i as ts hop
    split at h
    · rename_i x t ha ht
      split at h
      · rename_i e sz by' z id ver k off n hT hx
        split at h
        · rename_i Te ver' k' e' xs hTe hg
          split at h
          · rename_i z' hz
            obtain ⟨rfl, h1, h2⟩ := h
            have has : as = #[x] := Array.toList_inj.1 (by simpa using ha)
            have hts : ts = #[t] := Array.toList_inj.1 (by simpa using ht)
            subst has hts
            exact AOp.clear hop hN hT rfl hTe hz hx hg h1 h2
          · exact h.elim
        · exact h.elim
      · exact h.elim
    · exact h.elim
  · rename_i f as ts hop
    split at h
    · rename_i g fs cs hs hf ha
      exact AOp.call hop rfl hN hf ha h
    · rename_i id ver hs hf ha
      exact AOp.yield hop rfl hN hf ha h
    · exact h.elim
  · rename_i t ps hop
    exact AOp.build hop hN h
  · rename_i t hop
    exact AOp.makeMap _ hop hN h
  · rename_i t m x y hop
    split at h
    · rename_i kt et sz by' z id ver k hv hT hm hx hy
      split at h
      · rename_i sz2 by2 z2 ver' es hTk hg
        obtain ⟨rfl, h1, h2⟩ := h
        exact AOp.mapUpdate hop hN hT rfl hTk rfl hm hx hy hg h1 h2
      · exact h.elim
    · exact h.elim
  · rename_i t m x hop
    split at h
    · rename_i kt et sz by' z id ver k hT hm hx
      split at h
      · rename_i sz2 by2 z2 Te ver' es hTk hTe hg
        split at h
        · rename_i z3 hz
          obtain ⟨rfl, h2⟩ := h
          exact AOp.lookup hop hN hT rfl hTk rfl hTe hz hm hx hg h2
        · exact h.elim
      · exact h.elim
    · exact h.elim
  · rename_i t m hop
    split at h
    · rename_i kt et sz by' z mid mver hT hm
      split at h
      · rename_i mver' es hg
        obtain ⟨rfl, h1, h2⟩ := h
        exact AOp.range _ hop hN hT rfl hm hg h1 h2
      · exact h.elim
    · exact h.elim
  · rename_i x hop
    split at h
    · rename_i id ver hx
      split at h
      · rename_i ver' mid mver seen cur hg
        split at h
        · rename_i mver' es hgm
          obtain ⟨rfl, rfl, h1, h2⟩ := h
          exact AOp.next hop hN hx hg hgm h1 h2
        · exact h.elim
      · exact h.elim
    · exact h.elim
  · rename_i x hop
    split at h
    · rename_i id ver hx
      split at h
      · rename_i ver' mid mver k seen hg
        split at h
        · rename_i mver' es hgm
          obtain ⟨rfl, rfl, v, h1, h2⟩ := h
          exact AOp.entry hop hN hx hg hgm h1 h2
        · exact h.elim
      · exact h.elim
    · exact h.elim
  · exact AOp.pure hN (by simpa using h)

def AOps (P : Program) (ro : Option Nat) (N : Nat) (ops : Array Oper) (is : List Nat) (K : AS → Prop) (s : AS) : Prop :=
  ∀ (w0 : World) (μ0 μ : Mu) (a : Act) (w : World) (Q : Exit → Act → World → Prop), SRel ro N w0.heap.size μ s a w → Evo w0 μ0 w μ →
    (∀ μ' s' a' w', K s' → SRel ro N w0.heap.size μ' s' a' w' → Evo w0 μ0 w' μ' → Q .normal a' w') → wpOpsIn (fence ro) 0 P ops Q is a w

theorem AOps.nil {ops : Array Oper} {K : AS → Prop} (h : K s) : AOps P ro N ops [] K s := fun _ _ _ _ _ _ hs hE hK => hK _ _ _ _ h hs hE

theorem AOps.cons {ops : Array Oper} {K : AS → Prop} {i : Nat} {is : List Nat} {o : Oper} (ho : ops[i]? = some o) (hg : o.guard = none) (h : AOp P ro N o (AOps P ro N ops is K) s) : AOps P ro N ops (i :: is) K s := by
  intro w0 μ0 μ a w Q hs hE hK
  simp only [wpOpsIn, ho, Region.wanted, hg, if_true]
  exact h w0 μ0 μ a w _ _ hs hE fun μ' s' a' w' hk hs' hE' => hk w0 μ0 μ' a' w' Q hs' hE' hK

theorem SRel.same {B : Nat} {μ : Mu} {a : Act} {w : World} (hs : SRel ro N B μ s a w) {d : Nat} {h : HV} (hd : sget s.slots d = some h) : SRel ro N B μ (s.put (some d) h) a w :=
  ⟨hs.size, hs.sr, fun t hv ht => by
    simp only [AS.put, sget_sset] at ht
    split at ht
    · rename_i e; subst e; cases ht; exact hs.slot _ _ hd
    · exact hs.slot t hv ht, hs.marks, hs.ro⟩

theorem AOps.guard {ops : Array Oper} {K : AS → Prop} {i j d : Nat} {is : List Nat} {o oj : Oper} {want b : Bool} (ho : ops[i]? = some o) (hN : okd N o.dst = true) (hg : o.guard = some (j, want)) (hj : ops[j]? = some oj) (hd : oj.dst = some d)
    (hb : sget s.slots d = some (.bool b)) (h1 : b = want → AOp P ro N o (AOps P ro N ops is K) (s.put (some d) (.bool want)))
    (h2 : b = !want → AOps P ro N ops is K ((s.put (some d) (.bool !want)).put o.dst (.v undef))) : AOps P ro N ops (i :: is) K s := by
  intro w0 μ0 μ a w Q hs hE hK
  obtain ⟨hdN, hbv⟩ := hs.slot d _ hb
  have hy : yielded ops a.tmps j = some b := by
    have hlt : d < a.tmps.size := by rw [hs.size]; exact hdN
    have hv : a.tmps[d]? = some (.bool b) := by
      have hbv' : a.tmps.getD d undef = .bool b := hbv
      rw [Array.getD_eq_getD_getElem?, Array.getElem?_eq_getElem hlt] at hbv'
      rw [Array.getElem?_eq_getElem hlt]
      simpa using hbv'
    simp [yielded, hj, hd, hv]
  simp only [wpOpsIn, ho, Region.wanted, hg, hy]
  by_cases hw : b = want
  · subst hw
    simp only [beq_self_eq_true, if_true]
    exact h1 rfl w0 μ0 μ a w _ _ (hs.same hb) hE fun μ' s' a' w' hk hs' hE' => hk w0 μ0 μ' a' w' Q hs' hE' hK
  · have hbw : b = !want := by cases b <;> cases want <;> simp_all
    have : (some b == some want) = false := by simpa using hw
    simp only [this, Bool.false_eq_true, if_false]
    refine ⟨fun _ _ => trivial, ?_⟩
    rw [hbw] at hb
    have hru : Rep w μ (.v undef) undef := rfl
    have hs2 := (hs.same hb).put (Evo.refl w μ) hs.sr hN hru
    exact h2 hbw w0 μ0 μ _ w Q hs2 hE hK

/-- a region's operations, in the order of the text -/
def aops (P : Program) (fid : Nat) (mt : List Nat) (all : List Oper) : List Oper → (AS → Prop) → AS → Prop
  | [], K, s => K s
  | o :: rest, K, s => match o.guard with
    | none => aop P fid mt o (aops P fid mt all rest K) s
    | some (j, want) => match all[j]? with
      | some oj => match oj.dst with
        | some d => match sget s.slots d with
          | some (.bool b) => if b = want then aop P fid mt o (aops P fid mt all rest K) (s.put (some d) (.bool want))
              else aops P fid mt all rest K ((s.put (some d) (.bool !want)).put o.dst (.v undef))
          | _ => False
        | none => False
      | none => False

theorem aops_sound {ops : Array Oper} (hok : ops.toList.all (fun o => okd N o.dst) = true) {K : AS → Prop} : ∀ (l : List Oper) (i : Nat) (s : AS), (∀ k, l[k]? = ops[i + k]?) → aops P fid mt ops.toList l K s →
    AOps P ro N ops (List.range' i l.length) K s
  | [], i, s, _, h => AOps.nil h
  | o :: l, i, s, hl, h => by
    have ho : ops[i]? = some o := by have := hl 0; simpa using this.symm
    have hN : okd N o.dst = true := List.all_eq_true.1 hok o (by
      have := Array.getElem?_toList (xs := ops) (i := i)
      rw [ho] at this
      exact List.mem_of_getElem? this)
    have hl' : ∀ k, l[k]? = ops[i + 1 + k]? := fun k => by
      have := hl (k + 1)
      rw [List.getElem?_cons_succ] at this
      rw [this]; congr 1; omega
    have ih := fun s' => aops_sound (K := K) hok l (i + 1) s'
    rw [List.length_cons, List.range'_succ]
    simp only [aops] at h
    split at h
    · rename_i hg
      have hop := aop_sound (ro := ro) hN h
      refine AOps.cons ho hg ?_
      intro w0 μ0 μ a w next Q hs hE hK
      exact hop w0 μ0 μ a w next Q hs hE fun μ' s' a' w' hk hs' hE' => hK μ' s' a' w' (ih s' hl' hk) hs' hE'
    · rename_i j want hg
      split at h
      · rename_i oj hoj
        split at h
        · rename_i d hd
          split at h
          · rename_i b hb
            refine AOps.guard ho hN hg (by simpa using hoj) hd hb (fun e => ?_) (fun e => ih _ hl' (by rw [if_neg (by rw [e]; cases want <;> simp)] at h; exact h))
            have hop := aop_sound (ro := ro) hN (by rw [if_pos e] at h; exact h)
            intro w0 μ0 μ a w next Q hs hE hK
            exact hop w0 μ0 μ a w next Q hs hE fun μ' s' a' w' hk hs' hE' => hK μ' s' a' w' (ih s' hl' hk) hs' hE'
          · exact h.elim
        · exact h.elim
      · exact h.elim

/-- A REGION IN THE ORDER OF ITS TEXT. -/
theorem AW.region {id : Nat} {ops : Array Oper} {Q : Exit → AS → Prop} (ks : List Nat) (hok : ops.toList.all (fun o => okd N o.dst) = true)
    (h : ∀ K : AS → Prop, (∀ s', Q .normal s' → K s') → aops P fid mt ops.toList ops.toList (fun s' => K (s'.keep ks)) s) : AW P ro N (.region id ops false) Q s := by
  intro w0 μ0 μ a w hs hE
  have hso := aops_sound (ro := ro) hok ops.toList 0 s (fun k => by simp) (h (fun s' => Q .normal s') fun _ h => h)
  refine wpIn_region ?_
  rw [List.range_eq_range', ← Array.length_toList]
  refine hso w0 μ0 μ a w _ hs hE fun μ' s' a' w' hk hs' hE' => ?_
  exact ⟨(fun _ h => by cases h), (fun h => by cases h), _, _, hk, hs'.weaken (AS.le_keep s' ks), hE'.trans (Evo.cut w' μ' _)⟩
end
end Go.AW
