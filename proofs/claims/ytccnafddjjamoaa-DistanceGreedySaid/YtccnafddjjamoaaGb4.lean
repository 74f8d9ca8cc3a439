import Derived.Test.YtccnafddjjamoaaGb3
import Derived.Lib.Bytealg
import Derived.Lib.Slices
import Derived.Lib.Strings
import Derived.Lib.Walk
import Derived.Shelf.SortM.Plain
import Derived.Shelf.SortM.SortNone
import Derived.Test.YtccnafddjjamoaaChecked
/- The evaluation of closed code: regions, control, calls; that what it gives is so; a function's contract from its evaluation. -/
namespace Go.AW
open Go
set_option linter.unusedSimpArgs false

noncomputable def sops (r : Task → Option Out) (T : Tabs) (all : List Oper) : List Oper → AS → Nat → Option (AS × Nat)
  | [], s, n => some (s, n)
  | o :: rest, s, n => match o.guard with
    | none => match sop r T o s n with
      | some (s1, n1) => sops r T all rest s1 n1
      | none => none
    | some (j, want) => match all[j]? with
      | some oj => match oj.dst with
        | some d => match sgetR s.slots d with
          | some (.bool b) => match (b == want) with
            | true => match sop r T o (s.putR (some d) (.bool want)) n with
              | some (s1, n1) => sops r T all rest s1 n1
              | none => none
            | false => sops r T all rest ((s.putR (some d) (.bool !want)).putR o.dst (.v undef)) n
          | _ => none
        | none => none
      | none => none

/-- what a value stands for, if nobody writes the arrays behind it any more -/
noncomputable def sfrz : Nat → Heap → HV → Option HV
  | 0, _, h => some h
  | n + 1, D, h => match h with
    | .agg cs => match cs.mapM (sfrz n D) with
      | some cs => some (.agg cs)
      | none => none
    | .tup cs => match cs.mapM (sfrz n D) with
      | some cs => some (.tup cs)
      | none => none
    | .fn f fs cs => match fs.mapM (sfrz n D), cs.mapM (sfrz n D) with
      | some fs, some cs => some (.fn f fs cs)
      | _, _ => none
    | .ar id ver k off m => match hgetR D id with
      | some (ver', .arr _ _ cs) => guardO (Nat.beq ver ver' && Nat.ble (off + m * k) cs.length) (match ((cs.drop off).take (m * k)).mapM (sfrz n D) with
        | some cs => some (.sl k m cs)
        | none => none)
      | _ => none
    | .ptr id ver off => match hgetR D id with
      | some (ver', .arr _ _ cs) => guardO (Nat.beq ver ver') (match cs.mapM (sfrz n D) with
        | some cs => some (.fptr cs off)
        | none => none)
      | _ => none
    | h => some h

theorem sfrz_sound (n : Nat) (D : Heap) (ρ : Nat → Nat) : ∀ h h', sfrz n D h = some h' → frz n (renH ρ D) (h.ren ρ) = h'.ren ρ := by
  induction n with
  | zero => intro h h' e; cases e; rfl
  | succ n ih =>
    have ihL : ∀ (cs ds : List HV), cs.mapM (sfrz n D) = some ds → (renL ρ cs).map (frz n (renH ρ D)) = renL ρ ds := by
      intro cs
      induction cs with
      | nil => intro ds e; simp at e; subst e; rfl
      | cons c cs ihc =>
        intro ds e
        simp only [List.mapM_cons, Option.pure_def, Option.bind_eq_bind, Option.bind_eq_some_iff] at e
        obtain ⟨d, hd, es, he, e⟩ := e
        cases e
        simp only [renL, List.map_cons, ih _ _ hd, ihc _ he]
    intro h h' e
    unfold sfrz at e
    simp only [hgetR_eq] at e
    split at e
    · split at e
      · rename_i hc; cases e; simp only [HV.ren, frz, ihL _ _ hc]
      · cases e
    · split at e
      · rename_i hc; cases e; simp only [HV.ren, frz, ihL _ _ hc]
      · cases e
    · split at e
      · rename_i hf hc; cases e; simp only [HV.ren, frz, ihL _ _ hf, ihL _ _ hc]
      · cases e
    · split at e
      · rename_i id ver k off m _ ver' k' e' cs hg
        replace e := guardO_some e
        obtain ⟨h1, e⟩ := e
        simp only [Bool.and_eq_true] at h1
        have hv := Nat.eq_of_beq_eq_true h1.1
        subst hv
        split at e
        · rename_i ds hc
          cases e
          simp only [HV.ren, frz, hget_ren, hg, Option.map_some, AObj.ren]
          rw [if_pos ⟨trivial, by rw [renL_len]; exact Nat.le_of_ble_eq_true h1.2⟩, ← renL_drop, ← renL_take, ihL _ _ hc]
        · cases e
      · cases e
    · split at e
      · rename_i id ver off _ ver' k' e' cs hg
        replace e := guardO_some e
        obtain ⟨h1, e⟩ := e
        have hv := Nat.eq_of_beq_eq_true h1
        subst hv
        split at e
        · rename_i ds hc
          cases e
          simp only [HV.ren, frz, hget_ren, hg, Option.map_some, AObj.ren, if_true]
          rw [ihL _ _ hc]
        · cases e
      · cases e
    · cases e
      cases h <;> first | rfl | (exfalso; rename_i h1 h2 h3 h4 h5; first | exact h1 _ rfl | exact h2 _ rfl | exact h3 _ _ _ rfl | exact h4 _ _ _ _ _ rfl | exact h5 _ _ _ rfl)

theorem ACall.conv {P : Program} {f : FuncId} {args : List HV} {H : Heap} {K K' : HV → Heap → Prop} (h : ACall P f args H K) (hc : ∀ r H', K r H' → ∃ r2 H2, Conv H' r r2 H2 ∧ K' r2 H2) : ACall P f args H K' :=
  ⟨h.1, fun μ w vs hs hr => (h.2 μ w vs hs hr).mono fun _ w' ⟨v, r, H', μ', e, k, hs', hr', E⟩ => by
    obtain ⟨r2, H2, hconv, hk⟩ := hc r H' k
    obtain ⟨μ2, hs2, hr2, E2⟩ := hconv w' μ' v hs' hr'
    exact ⟨v, r2, H2, μ2, e, hk, hs2, hr2, E.trans E2⟩⟩

noncomputable def spBox (s : AS) (x : Operand) : Option HV := match s.evR x with
    | some hv => match hv.cells? with
      | some cs => some (.fptr cs 0)
      | none => none
    | none => none
noncomputable def spBuild (T : Tabs) (s : AS) (t : TypeId) (m : Nat) (ps : Array (Nat × Operand)) : Option HV := guardO (Nat.ble m 16777216) (match sslice T.ty s t m ps.toList with
    | some (k, _, cs) => some (.sl k m cs)
    | none => none)
noncomputable def spCall (r : Task → Option Out) (s : AS) (f : Operand) (aa : Array Operand) : Option HV := match s.evR f, aa.toList.mapM s.evR with
    | some (.fn (.func g) fs cs), some hs => (match (fs ++ hs ++ cs).mapM (sfrz 8 s.heap) with
      | some as' => guardO (scL 0 as') (match r (.call g as' [] 0) with
        | some (.call rv H _) => guardO (scL 0 (fs ++ hs ++ cs) || (nf rv && nfH H)) (match sfrz 8 H rv with
          | some q => guardO (q.sc 0) (some q)
          | none => none)
        | _ => none)
      | none => none)
    | _, _ => none
noncomputable def sopS (r : Task → Option Out) (T : Tabs) (o : Oper) (s : AS) : Option HV :=
  match o.op with
  | .box _ x => spBox s x
  | .buildSlice t m ps => spBuild T s t m ps
  | .call ⟨.value f, aa, _⟩ => spCall r s f aa
  | op => sval T.ty op s

noncomputable def ssteps (r : Task → Option Out) (T : Tabs) (all : List Oper) : List Oper → AS → Nat → Option AS
  | [], s, _ => some s
  | o :: rest, s, n => match o.guard with
    | none => match sopS r T o s with
      | some h => guardO (h.sc n) (ssteps r T all rest (s.putR o.dst h) n)
      | none => none
    | some (j, want) => match all[j]? with
      | some oj => match oj.dst with
        | some d => match sgetR s.slots d with
          | some (.bool b) => match (b == want) with
            | true => match sopS r T o (s.putR (some d) (.bool want)) with
              | some h => guardO (h.sc n) (ssteps r T all rest ((s.putR (some d) (.bool want)).putR o.dst h) n)
              | none => none
            | false => ssteps r T all rest ((s.putR (some d) (.bool !want)).putR o.dst (.v undef)) n
          | _ => none
        | none => none
      | none => none

def steadyKind (o : Oper) : Bool := match o.op with
  | .alloc _ | .store _ _ _ | .makeSlice _ _ _ | .makeMap _ _ | .mapUpdate _ _ _ _ | .lookup _ _ _ _ | .range _ _ | .next _ _ | .entry _ | .build _ _ => false
  | .call ⟨.builtin .append, _, _⟩ => false
  | _ => true
def callKind (o : Oper) : Bool := match o.op with
  | .call ⟨.value _, _, _⟩ | .box _ _ | .buildSlice _ _ _ => true
  | _ => false

/-- how many operations at the head change nothing -/
noncomputable def greedy (r : Task → Option Out) (T : Tabs) (all : List Oper) : List Oper → AS → Nat → Nat
  | [], _, p => p
  | o :: rest, s, p => bif steadyKind o then (match o.guard with
    | none => match sopS r T o s with
      | some h => greedy r T all rest (s.putR o.dst h) (p + 1)
      | none => p
    | some (j, want) => match all[j]? with
      | some oj => match oj.dst with
        | some d => match sgetR s.slots d with
          | some (.bool b) => match (b == want) with
            | true => match sopS r T o s with
              | some h => greedy r T all rest (s.putR o.dst h) (p + 1)
              | none => p
            | false => greedy r T all rest (s.putR o.dst (.v undef)) (p + 1)
          | _ => p
        | none => p
      | none => p) else p

def plain : List Oper → Nat → Nat
  | [], p => p
  | o :: rest, p => bif (steadyKind o && !callKind o) then plain rest (p + 1) else p

noncomputable def sdrawP (r : Task → Option Out) (T : Tabs) (ops : Array Oper) (s : AS) (n p : Nat) : Option (AS × Nat) :=
  guardO (drawOk ops p) (match ssteps r T ops.toList (ops.toList.take p) s n with
    | some s1 => sops r T ops.toList (ops.toList.drop p) s1 n
    | none => none)

noncomputable def sdraw (r : Task → Option Out) (T : Tabs) (ops : Array Oper) (s : AS) (n : Nat) : Option (AS × Nat) :=
  match sdrawP r T ops s n (greedy r T ops.toList ops.toList s 0) with
  | some x => some x
  | none => sdrawP r T ops s n (plain ops.toList 0)

noncomputable def sres1 (T : TypeId → Option TyI) (s : AS) (rv : ResultVar) : Option HV :=
  match rv with
  | .tmp t => sgetR s.slots t
  | .cell t ty' => match T ty', sgetR s.slots t with
    | some U, some (.fptr cs off) => sload U cs off
    | some U, some (.ptr id ver off) => match hgetR s.heap id with
      | some (ver', .arr _ _ cs) => guardO (Nat.beq ver ver') (sload U cs off)
      | _ => none
    | _, _ => none

noncomputable def sres (T : TypeId → Option TyI) (s : AS) : List ResultVar → Option (List HV)
  | [] => some []
  | rv :: rvs => match sres1 T s rv, sres T s rvs with
    | some h, some hs => some (h :: hs)
    | _, _ => none

/-! dropping what nothing leads to -/
mutual
def HV.refs (n : Nat) : HV → List Nat → List Nat
  | .agg cs, a | .tup cs, a | .sl _ _ cs, a | .fptr cs _, a => refsL n cs a
  | .ar id _ _ _ _, a | .ptr id _ _, a | .mp id _, a | .yl id _, a | .it id _, a => bif Nat.blt id n then a else id :: a
  | .fn _ fs cs, a => refsL n fs (refsL n cs a)
  | _, a => a
def refsL (n : Nat) : List HV → List Nat → List Nat
  | [], a => a
  | c :: cs, a => c.refs n (refsL n cs a)
end
def refsS (n : Nat) : List (Nat × HV) → List Nat → List Nat
  | [], a => a
  | (_, h) :: l, a => h.refs n (refsS n l a)
def refsE (n : Nat) : List (List UInt8 × HV) → List Nat → List Nat
  | [], a => a
  | (_, h) :: l, a => h.refs n (refsE n l a)
def AObj.refs (n : Nat) : AObj → List Nat → List Nat
  | .arr _ _ cs, a => refsL n cs a
  | .map es, a => refsE n es a
  | .iter mid _ _ _, a => bif Nat.blt mid n then a else mid :: a
  | .loop _ _ _ _ snap _ _ _, a => refsS n snap a
def oldRefs (n : Nat) : Heap → List Nat → List Nat
  | [], a => a
  | (i, _, o) :: l, a => bif Nat.blt i n then o.refs n (oldRefs n l a) else oldRefs n l a
def memN (i : Nat) : List Nat → Bool
  | [] => false
  | j :: l => bif Nat.beq i j then true else memN i l
def mark (n : Nat) (H : Heap) : Nat → List Nat → List Nat → List Nat
  | 0, _, m => m
  | _ + 1, [], m => m
  | f + 1, i :: w, m => bif memN i m then mark n H f w m else match hget H i with
    | some (_, o) => mark n H f (o.refs n w) (i :: m)
    | none => mark n H f w m
def hkeep (n : Nat) (m : List Nat) : Heap → Heap
  | [] => []
  | (i, x) :: l => bif (Nat.blt i n || memN i m) then (i, x) :: hkeep n m l else hkeep n m l
def anyNew (n : Nat) : Heap → Bool
  | [] => false
  | (i, _) :: l => bif Nat.blt i n then anyNew n l else true
def gc (n : Nat) (rv : HV) (H : Heap) : Heap := bif anyNew n H then hkeep n (mark n H 200 (rv.refs n (oldRefs n H [])) []) H else H

theorem hkeep_get (n : Nat) (m : List Nat) : ∀ (H : Heap) (id : Nat) (x : Nat × AObj), hget (hkeep n m H) id = some x → hget H id = some x
  | [], _, _, h => h
  | (i, v, o) :: l, id, x, h => by
    simp only [hkeep] at h
    simp only [hget]
    cases hb : (Nat.blt i n || memN i m) with
    | true =>
      rw [hb] at h
      simp only [cond_true, hget] at h
      split
      · rename_i e; rw [if_pos e] at h; exact h
      · rename_i e; rw [if_neg e] at h; exact hkeep_get n m l id x h
    | false =>
      rw [hb] at h
      simp only [cond_false] at h
      split
      · rename_i e
        subst e
        exfalso
        have : ∀ l : Heap, hget (hkeep n m l) id = none := fun l => by
          induction l with
          | nil => rfl
          | cons y l ih =>
            obtain ⟨j, y⟩ := y
            simp only [hkeep]
            cases hb2 : (Nat.blt j n || memN j m) with
            | true =>
              simp only [cond_true, hget]
              split
              · rename_i e; subst e; rw [hb] at hb2; cases hb2
              · exact ih
            | false => exact ih
        rw [this] at h
        cases h
      · exact hkeep_get n m l id x h

theorem gc_get {n : Nat} {rv : HV} {H : Heap} {id : Nat} {x : Nat × AObj} (h : hget (gc n rv H) id = some x) : hget H id = some x := by
  unfold gc at h
  cases hb : anyNew n H with
  | true => rw [hb] at h; exact hkeep_get _ _ _ _ _ h
  | false => rw [hb] at h; exact h

theorem hkeep_sc {k n : Nat} {m : List Nat} : ∀ {H : Heap}, scH k H = true → scH k (hkeep n m H) = true
  | [], _ => rfl
  | (i, v, o) :: l, h => by
    simp only [scH, Bool.and_eq_true] at h
    simp only [hkeep]
    cases (Nat.blt i n || memN i m) with
    | true => simp only [cond_true, scH, h.1.1.1, h.1.1.2, h.1.2, hkeep_sc h.2, Bool.and_self]
    | false => exact hkeep_sc h.2
theorem gc_sc {k n : Nat} {rv : HV} {H : Heap} (h : scH k H = true) : scH k (gc n rv H) = true := by
  unfold gc
  cases anyNew n H with
  | true => exact hkeep_sc h
  | false => exact h

theorem Step.drop {n n' : Nat} {H H1 H2 : Heap} (h : Step n n' H H1) (hd : ∀ id x, hget H2 id = some x → hget H1 id = some x) : Step n n' H H2 :=
  ⟨h.le, fun id v st pend f m snap ps a b hg x hx => h.loop id v st pend f m snap ps a b hg x (hd id x hx), fun id hid y hy => h.back id hid y (hd id y hy)⟩

mutual
theorem HV.ren_id : ∀ h : HV, h.ren (fun v => v) = h
  | .int _ _ => rfl
  | .bool _ => rfl
  | .str _ => rfl
  | .v _ => rfl
  | .agg cs => congrArg HV.agg (renL_id cs)
  | .tup cs => congrArg HV.tup (renL_id cs)
  | .sl k m cs => congrArg (HV.sl k m) (renL_id cs)
  | .ar _ _ _ _ _ => rfl
  | .ptr _ _ _ => rfl
  | .fptr cs off => congrArg (fun x => HV.fptr x off) (renL_id cs)
  | .fn f fs cs => by simp only [HV.ren]; rw [renL_id fs, renL_id cs]
  | .mp _ _ => rfl
  | .yl _ _ => rfl
  | .it _ _ => rfl
theorem renL_id : ∀ cs : List HV, renL (fun v => v) cs = cs
  | [] => rfl
  | c :: cs => by simp only [renL]; rw [HV.ren_id c, renL_id cs]
end
theorem ren_sc0 (ρ : Nat → Nat) {h : HV} (hs : h.sc 0 = true) : h.ren ρ = h := (HV.ren_agree (ρ' := fun v => v) (fun v hv => by omega) h hs).trans h.ren_id
theorem renL_sc0 (ρ : Nat → Nat) {h : List HV} (hs : scL 0 h = true) : renL ρ h = h := (renL_agree (ρ' := fun v => v) (fun v hv => by omega) h hs).trans (renL_id h)

mutual
theorem sc0_clean : ∀ h : HV, h.sc 0 = true → clean h
  | .int _ _, _ => trivial
  | .bool _, _ => trivial
  | .str _, _ => trivial
  | .v _, _ => trivial
  | .agg cs, h => sc0_cleanL cs h
  | .tup cs, h => sc0_cleanL cs h
  | .sl _ _ cs, h => sc0_cleanL cs h
  | .fptr cs _, h => sc0_cleanL cs h
  | .fn _ fs cs, h => by
    simp only [HV.sc, Bool.and_eq_true] at h
    exact ⟨sc0_cleanL fs h.1, sc0_cleanL cs h.2⟩
  | .ar _ v _ _ _, h => absurd (blt_lt h) (Nat.not_lt_zero _)
  | .ptr _ v _, h => absurd (blt_lt h) (Nat.not_lt_zero _)
  | .mp _ v, h => absurd (blt_lt h) (Nat.not_lt_zero _)
  | .yl _ v, h => absurd (blt_lt h) (Nat.not_lt_zero _)
  | .it _ v, h => absurd (blt_lt h) (Nat.not_lt_zero _)
theorem sc0_cleanL : ∀ cs : List HV, scL 0 cs = true → cleanL cs
  | [], _ => trivial
  | c :: cs, h => by
    simp only [scL, Bool.and_eq_true] at h
    exact ⟨sc0_clean c h.1, sc0_cleanL cs h.2⟩
end

noncomputable def rounds (r : Task → Option Out) (top : Bool) (N : Nat) (x : Code) : Nat → AS → Nat → Option Out
  | 0, _, _ => none
  | k + 1, s, n => match r (.code top N x s n) with
    | some (.code .normal s1 n1) => rounds r top N x k s1 n1
    | o => o

def isEnd : Exit → Bool
  | .normal | .ret => true
  | _ => false

def notBusy : LoopState → Bool
  | .busy => false
  | _ => true

def strsOf : List HV → Option (List (List UInt8))
  | [] => some []
  | .str l :: cs => match strsOf cs with
    | some ls => some (l :: ls)
    | none => none
  | _ => none
def intsOf : List HV → Option (List Int)
  | [] => some []
  | .int .i64 n :: cs => match intsOf cs with
    | some ls => some (n :: ls)
    | none => none
  | _ => none

theorem strsOf_eq : ∀ {cs : List HV} {ls : List (List UInt8)}, strsOf cs = some ls → cs = ls.map .str
  | [], ls, h => by cases h; rfl
  | c :: cs, ls, h => by
    unfold strsOf at h
    split at h
    · cases h; simp_all
    · rename_i l cs' heq
      cases heq
      split at h
      · rename_i ls' hl
        cases h
        rw [strsOf_eq hl]
        rfl
      · cases h
    · cases h
theorem intsOf_eq : ∀ {cs : List HV} {ls : List Int}, intsOf cs = some ls → cs = ls.map (.int .i64)
  | [], ls, h => by cases h; rfl
  | c :: cs, ls, h => by
    unfold intsOf at h
    split at h
    · cases h; simp_all
    · rename_i l cs' heq
      cases heq
      split at h
      · rename_i ls' hl
        cases h
        rw [intsOf_eq hl]
        rfl
      · cases h
    · cases h

/-- a sort in place -/
noncomputable def ssort (k : Bool) (args : List HV) (H : Heap) (n : Nat) : Option Out :=
  match args with
  | [.v (.slice none 0 0)] => some (.call (.tup []) H n)
  | [.ar id ver 1 0 m] => match hgetR H id with
    | some (ver', .arr 1 e cs) => match k with
      | true => match strsOf cs with
        | some ls => guardO (Nat.beq ver ver' && (Nat.beq m ls.length && Nat.blt ls.length 4611686018427387904)) (some (.call (.tup []) (hsetR H id ver (.arr 1 e ((isort (fun a b => decide (a ≤ b)) ls).map .str))) n))
        | none => none
      | false => match intsOf cs with
        | some ls => guardO (Nat.beq ver ver' && (Nat.beq m ls.length && Nat.blt ls.length 4611686018427387904)) (some (.call (.tup []) (hsetR H id ver (.arr 1 e ((isort (fun a b => decide (a ≤ b)) ls).map (.int .i64)))) n))
        | none => none
    | _ => none
  | _ => none

noncomputable def stRegion (T : Tabs) (r : Task → Option Out) (ops : Array Oper) (dr : Bool) (N : Nat) (s : AS) (n : Nat) : Option Out := guardO (ops.toList.all fun o => okd N o.dst) (match (match dr with
        | true => sdraw r T ops s n
        | false => sops r T ops.toList ops.toList s n) with
      | some (s1, n1) => some (.code .normal s1 n1)
      | none => none)
noncomputable def stRange (r : Task → Option Out) (top : Bool) (N : Nat) (g : Operand) (ps : Array Tmp) (assign body : Code) (s : AS) (n : Nat) : Option Out := match top, s.evR g with
      | true, some (.fn (.func f) fs cs) => guardO (scL n fs && scL n cs) (match r (.call f (fs ++ [.yl n n] ++ cs) (hsetR s.heap n n (.loop .ready none (n + 1) N s.slots ps assign body)) (n + 2)) with
        | some (.call _ H n1) => match hgetR H n with
          | some (_, .loop st pend _ _ _ _ _ _) => guardO (notBusy st) (match pend with
            | none => some (.code .normal { s with heap := hsetR H n n (.loop .exhausted none (n + 1) N s.slots ps assign body) } n1)
            | some .ret => some (.code .ret { s with heap := hsetR H n n (.loop .exhausted (some .ret) (n + 1) N s.slots ps assign body) } n1)
            | some (.exit i) => some (.code (.exit i) { s with heap := hsetR H n n (.loop .exhausted (some (.exit i)) (n + 1) N s.slots ps assign body) } n1)
            | _ => none)
          | _ => none
        | _ => none)
      | _, _ => none
noncomputable def stBody (T : Tabs) (r : Task → Option Out) (fn : Func) (c : Code) (args : List HV) (H : Heap) (n : Nat) : Option Out := guardO (Nat.ble args.length fn.ntmps) (match r (.code true fn.ntmps c ⟨enumS 0 args, H⟩ n) with
          | some (.code e s1 n1) => guardO (isEnd e) (match sres T.ty s1 fn.results.toList with
            | some hs => guardO ((joinR hs).sc n1) (some (.call (joinR hs) (gc n (joinR hs) s1.heap) n1))
            | none => none)
          | _ => none)
noncomputable def stCall (T : Tabs) (r : Task → Option Out) (f : FuncId) (args : List HV) (H : Heap) (n : Nat) : Option Out := match T.sort f with
   | some k => ssort k args H n
   | none => match (match args.mapM (sfrz 8 H) with
      | some as' => guardO (scL 0 as') (T.ext f as')
      | none => none) with
    | some rv => guardO (rv.sc 0) (some (.call rv H n))
    | none => match T.fn f with
      | some fn => match fn.body with
        | some c => stBody T r fn c args H n
        | none => none
      | none => none
noncomputable def stCut (T : Tabs) (r : Task → Option Out) (top : Bool) (N : Nat) (ks : Option (List Nat)) (y : Code) (s : AS) (n : Nat) : Option Out := match ks with
      | some ks => keepK s.slots ks fun l => r (.code top N y ⟨l, s.heap⟩ n)
      | none => r (.code top N y s n)
noncomputable def stSeq (T : Tabs) (r : Task → Option Out) (top : Bool) (N : Nat) (x y : Code) (s : AS) (n : Nat) : Option Out := match r (.code top N x s n) with
      | some (.code .normal s1 n1) => stCut T r top N (match x with
        | .region id _ _ => T.keep N id
        | _ => none) y s1 n1
      | o => o
noncomputable def stBlock (r : Task → Option Out) (top : Bool) (N : Nat) (i : Nat) (x : Code) (s : AS) (n : Nat) : Option Out := match r (.code top N x s n) with
      | some (.code (.exit j) s1 n1) => some (.code (if j = i then .normal else .exit j) s1 n1)
      | o => o
noncomputable def stCond (r : Task → Option Out) (top : Bool) (N : Nat) (c : Operand) (x y : Code) (s : AS) (n : Nat) : Option Out := match s.evR c with
      | some (.bool true) => r (.code top N x s n)
      | some (.bool false) => r (.code top N y s n)
      | _ => none
noncomputable def stCode (T : Tabs) (r : Task → Option Out) (top : Bool) (N : Nat) (c : Code) (s : AS) (n : Nat) : Option Out := match c with
    | .skip => some (.code .normal s n)
    | .exit i => some (.code (.exit i) s n)
    | .ret => some (.code .ret s n)
    | .seq x y => stSeq T r top N x y s n
    | .block i x => stBlock r top N i x s n
    | .cond c x y => stCond r top N c x y s n
    | .loop x => rounds r top N x 5000 s n
    | .region _ ops dr => stRegion T r ops dr N s n
    | .rangeFunc g ps assign body => stRange r top N g ps assign body s n
    | _ => none
noncomputable def step (T : Tabs) (r : Task → Option Out) : Task → Option Out
  | .code top N c s n => stCode T r top N c s n
  | .call f args H n => stCall T r f args H n

noncomputable def run (T : Tabs) : Nat → Task → Option Out
  | 0, _ => none
  | k + 1, t => step T (run T k) t

section
variable {P : Program} {T : Tabs} {N n n' : Nat} {s s' : AS} {r : Task → Option Out}

theorem sops_ok (hT : T.Ok P) (hr : Good P r) {ops : Array Oper} (hok : ops.toList.all (fun o => okd N o.dst) = true) : ∀ (l : List Oper) (i : Nat) (s : AS) (n : Nat), (∀ k, l[k]? = ops[i + k]?) → s.sc n = true → sops r T ops.toList l s n = some (s', n') →
    s'.sc n' = true ∧ Step n n' s.heap s'.heap ∧ ∀ (ρ : Nat → Nat) (ro : Option Nat) (K : AS → Prop), (∀ ρ', Agree n ρ ρ' → K (s'.ren ρ')) → AOps P ro N ops (List.range' i l.length) K (s.ren ρ)
  | [], i, s, n, _, hs, h => by
    cases h
    exact ⟨hs, Step.refl _ _, fun ρ ro K hK => AOps.nil (hK ρ (Agree.refl _ _))⟩
  | o :: l, i, s, n, hl, hs, h => by
    have ho : ops[i]? = some o := by have := hl 0; simpa using this.symm
    have hN : okd N o.dst = true := List.all_eq_true.1 hok o (by
      have := Array.getElem?_toList (xs := ops) (i := i)
      rw [ho] at this
      exact List.mem_of_getElem? this)
    have hl' : ∀ k, l[k]? = ops[i + 1 + k]? := fun k => by
      have := hl (k + 1)
      rw [List.getElem?_cons_succ] at this
      rw [this]; congr 1; omega
    -- an operation, then the rest
    have go : ∀ (s0 : AS), s0.sc n = true → s0.heap = s.heap → (match sop r T o s0 n with
        | some (s1, n1) => sops r T ops.toList l s1 n1
        | none => none) = some (s', n') → s'.sc n' = true ∧ Step n n' s.heap s'.heap ∧ ∀ (ρ : Nat → Nat) (ro : Option Nat) (K : AS → Prop), (∀ ρ', Agree n ρ ρ' → K (s'.ren ρ')) → AOp P ro N o (AOps P ro N ops (List.range' (i + 1) l.length) K) (s0.ren ρ) := by
      intro s0 hs0 hh h
      split at h
      · rename_i s1 n1 hop
        obtain ⟨h1, h2, h3⟩ := sop_ok hT hr hN hs0 hop
        obtain ⟨h4, h5, h6⟩ := sops_ok hT hr hok l (i + 1) s1 n1 hl' h1 h
        rw [hh] at h2
        refine ⟨h4, h2.trans (sc_heap_of hs) h5, fun ρ ro K hK => h3 ρ ro _ fun ρ1 ha1 => h6 ρ1 ro K fun ρ2 ha2 => hK ρ2 (ha1.trans h2.le ha2)⟩
      · cases h
    simp only [sops, sgetR_eq, putR_eq] at h
    split at h
    · rename_i hg
      obtain ⟨h1, h2, h3⟩ := go s hs rfl h
      exact ⟨h1, h2, fun ρ ro K hK => AOps.cons ho hg (h3 ρ ro K hK)⟩
    · rename_i j want hg
      split at h
      · rename_i oj hoj
        split at h
        · rename_i d hd
          split at h
          · rename_i b hb
            have hbr : ∀ ρ : Nat → Nat, sget (s.ren ρ).slots d = some (.bool b) := fun ρ => by
              show sget (renS ρ s.slots) d = _
              rw [sget_ren, hb]; rfl
            split at h
            · rename_i hbw
              have hbw : b = want := by simpa using hbw
              obtain ⟨h1, h2, h3⟩ := go (s.put (some d) (.bool want)) (sc_put hs rfl) rfl h
              refine ⟨h1, h2, fun ρ ro K hK => AOps.guard ho hN hg (by simpa using hoj) hd (hbr ρ) (fun _ => ?_) (fun e => by cases b <;> cases want <;> simp at e hbw)⟩
              have := h3 ρ ro K hK
              rw [ren_put] at this
              exact this
            · rename_i hbw
              have hbw : b ≠ want := by simpa using hbw
              obtain ⟨h1, h2, h3⟩ := sops_ok hT hr hok l (i + 1) _ n hl' (sc_put (sc_put hs rfl) rfl) h
              rw [put_heap', put_heap'] at h2
              refine ⟨h1, h2, fun ρ ro K hK => AOps.guard ho hN hg (by simpa using hoj) hd (hbr ρ) (fun e => absurd e hbw) fun _ => ?_⟩
              have := h3 ρ ro K hK
              rw [ren_put, ren_put] at this
              exact this
          · cases h
        · cases h
      · cases h

theorem mapM_frz {D : Heap} (ρ : Nat → Nat) : ∀ {cs ds : List HV}, cs.mapM (sfrz 8 D) = some ds → (renL ρ cs).map (frz 8 (renH ρ D)) = renL ρ ds
  | [], ds, e => by simp at e; subst e; rfl
  | c :: cs, ds, e => by
    simp only [List.mapM_cons, Option.pure_def, Option.bind_eq_bind, Option.bind_eq_some_iff] at e
    obtain ⟨d, hd, es, he, e⟩ := e
    cases e
    simp only [renL, List.map_cons, sfrz_sound 8 D ρ _ _ hd, mapM_frz ρ he]

mutual
theorem nf_ren (ρ : Nat → Nat) : ∀ h : HV, nf h = true → nf (h.ren ρ) = true
  | .int _ _, _ => rfl
  | .bool _, _ => rfl
  | .str _, _ => rfl
  | .v _, _ => rfl
  | .agg cs, h => nfL_ren ρ cs h
  | .tup cs, h => nfL_ren ρ cs h
  | .sl _ _ _, h => by cases h
  | .ar _ _ _ _ _, _ => rfl
  | .ptr _ _ _, _ => rfl
  | .fptr _ _, h => by cases h
  | .fn _ fs cs, h => by
    simp only [nf, Bool.and_eq_true] at h
    simp only [HV.ren, nf, nfL_ren ρ fs h.1, nfL_ren ρ cs h.2, Bool.and_self]
  | .mp _ _, _ => rfl
  | .yl _ _, _ => rfl
  | .it _ _, _ => rfl
theorem nfL_ren (ρ : Nat → Nat) : ∀ cs : List HV, nfL cs = true → nfL (renL ρ cs) = true
  | [], _ => rfl
  | c :: cs, h => by
    simp only [nfL, Bool.and_eq_true] at h
    simp only [renL, nfL, nf_ren ρ c h.1, nfL_ren ρ cs h.2, Bool.and_self]
end
theorem nfE_ren (ρ : Nat → Nat) : ∀ es, nfE es = true → nfE (renE ρ es) = true
  | [], _ => rfl
  | (_, c) :: cs, h => by
    simp only [nfE, Bool.and_eq_true] at h
    simp only [renE, nfE, nf_ren ρ c h.1, nfE_ren ρ cs h.2, Bool.and_self]
theorem nfH_ren (ρ : Nat → Nat) : ∀ H : Heap, nfH H = true → nfH (renH ρ H) = true
  | [], _ => rfl
  | (_, _, o) :: H, h => by
    simp only [nfH, Bool.and_eq_true] at h
    have ho : nfO (o.ren ρ) = true := by
      cases o with
      | arr k e cs => exact nfL_ren ρ cs h.1
      | map es => exact nfE_ren ρ es h.1
      | iter _ _ _ _ => rfl
      | loop _ _ _ _ _ _ _ _ => cases h.1
    simp only [renH, nfH, ho, nfH_ren ρ H h.2, Bool.and_self]

theorem sfrz_sc0 {D : Heap} (m : Nat) : ∀ (h h' : HV), h.sc 0 = true → sfrz m D h = some h' → h' = h := by
  induction m with
  | zero => intro h h' _ e; cases e; rfl
  | succ m ih =>
    have ihL : ∀ (cs ds : List HV), scL 0 cs = true → cs.mapM (sfrz m D) = some ds → ds = cs := by
      intro cs
      induction cs with
      | nil => intro ds _ e; simp at e; exact e
      | cons c cs ihc =>
        intro ds hs e
        simp only [scL, Bool.and_eq_true] at hs
        simp only [List.mapM_cons, Option.pure_def, Option.bind_eq_bind, Option.bind_eq_some_iff] at e
        obtain ⟨d, hd, es, he, e⟩ := e
        cases e
        rw [ih _ _ hs.1 hd, ihc _ hs.2 he]
    intro h h' hs e
    unfold sfrz at e
    split at e
    · split at e
      · rename_i hc; cases e; rw [ihL _ _ hs hc]
      · cases e
    · split at e
      · rename_i hc; cases e; rw [ihL _ _ hs hc]
      · cases e
    · simp only [HV.sc, Bool.and_eq_true] at hs
      split at e
      · rename_i hf hc; cases e; rw [ihL _ _ hs.1 hf, ihL _ _ hs.2 hc]
      · cases e
    · exact absurd (blt_lt hs) (Nat.not_lt_zero _)
    · exact absurd (blt_lt hs) (Nat.not_lt_zero _)
    · cases e; rfl

theorem sfrzL_sc0 {D : Heap} (m : Nat) : ∀ (cs ds : List HV), scL 0 cs = true → cs.mapM (sfrz m D) = some ds → ds = cs
  | [], ds, _, e => by simp at e; exact e
  | c :: cs, ds, hs, e => by
    simp only [scL, Bool.and_eq_true] at hs
    simp only [List.mapM_cons, Option.pure_def, Option.bind_eq_bind, Option.bind_eq_some_iff] at e
    obtain ⟨d, hd, es, he, e⟩ := e
    cases e
    rw [sfrz_sc0 m _ _ hs.1 hd, sfrzL_sc0 m _ _ hs.2 he]

theorem callS_ok (hr : Good P r) {g : FuncId} {aa as' : List HV} {H H1 : Heap} {n1 : Nat} {rv q : HV} (ha : aa.mapM (sfrz 8 H) = some as') (h0 : scL 0 as' = true) (hc : r (.call g as' [] 0) = some (.call rv H1 n1))
    (hn : (scL 0 aa || (nf rv && nfH H1)) = true) (hf : sfrz 8 H1 rv = some q) (hq : q.sc 0 = true) (ρ : Nat → Nat) : ACallD P g (renL ρ aa) (renH ρ H) q := by
  obtain ⟨h1, h2, st, hcall⟩ := hr _ _ hc h0 rfl
  have hargs : renL ρ as' = (renL ρ aa).map (frz 8 (renH ρ H)) := (mapM_frz ρ ha).symm
  have hqr : ∀ ρ' : Nat → Nat, frz 8 (renH ρ' H1) (rv.ren ρ') = q := fun ρ' => by rw [sfrz_sound 8 H1 ρ' rv q hf, ren_sc0 ρ' hq]
  cases hs : scL 0 aa with
  | true =>
    have e : as' = aa := sfrzL_sc0 8 _ _ hs ha
    subst e
    refine ACallD.pure0 ?_
    rw [renL_sc0 ρ hs]
    have h5 := hcall ρ (fun r' H' => ∃ ρ', r' = rv.ren ρ' ∧ H' = renH ρ' H1) fun ρ' _ => ⟨ρ', rfl, rfl⟩
    rw [renL_sc0 ρ hs] at h5
    refine h5.conv ?_
    rintro r' H' ⟨ρ', rfl, rfl⟩
    exact ⟨_, _, Conv.all 8, hqr ρ', hqr ρ' ▸ sc0_clean q hq, rfl⟩
  | false =>
    rw [hs, Bool.false_or, Bool.and_eq_true] at hn
    refine ACall.lend (K := fun r' H' => ∃ ρ', r' = rv.ren ρ' ∧ H' = renH ρ' H1) 8 8 ?_ ?_ (sc0_clean q hq)
    · rw [← hargs]
      exact hcall ρ _ fun ρ' _ => ⟨ρ', rfl, rfl⟩
    · rintro r' H' ⟨ρ', rfl, rfl⟩
      exact ⟨nf_ren ρ' rv hn.1, nfH_ren ρ' H1 hn.2, hqr ρ'⟩

theorem sopS_ok (hT : T.Ok P) (hr : Good P r) {o : Oper} {q : HV} (h : sopS r T o s = some q) (ρ : Nat → Nat) {R : HV → Prop} (hq : R (q.ren ρ)) : aopS P o R (s.ren ρ) := by
  unfold sopS at h
  unfold aopS
  split at h
  · rename_i e x hop
    simp only [hop]
    unfold spBox at h
    try simp only [evR_eq, hgetR_eq, hsetR_eq, sgetR_eq, putR_eq, aslR_eq, apartsR_eq] at h
    split at h
    · rename_i hv hx
      split at h
      · rename_i cs hcs
        cases h
        simp only [ev_ren, hx, Option.map_some, cells_ren, hcs]
        exact hq
      · cases h
    · cases h
  · rename_i t m ps hop
    simp only [hop]
    unfold spBuild at h
    try simp only [evR_eq, hgetR_eq, hsetR_eq, sgetR_eq, putR_eq, aslR_eq, apartsR_eq] at h
    replace h := guardO_some h
    obtain ⟨h1, h⟩ := h
    split at h
    · rename_i k e cs hsl
      cases h
      exact ⟨Nat.le_of_ble_eq_true h1, sslice_sound hT.ty hsl hq⟩
    · cases h
  · rename_i f aa ts hop
    simp only [hop]
    unfold spCall at h
    try simp only [evR_eq, hgetR_eq, hsetR_eq, sgetR_eq, putR_eq, aslR_eq, apartsR_eq] at h
    split at h
    · rename_i g fs cs hs hf ha
      split at h
      · rename_i as' has'
        replace h := guardO_some h
        obtain ⟨h1, h⟩ := h
        split at h
        · rename_i rv H1 n1 hrc
          replace h := guardO_some h
          obtain ⟨h2, h⟩ := h
          split at h
          · rename_i q' hq'
            replace h := guardO_some h
            obtain ⟨h3, h⟩ := h
            cases h
            have := callS_ok hr has' h1 hrc h2 hq' h3 ρ
            simp only [ev_ren, hf, Option.map_some, HV.ren, evL_sc ha ρ]
            rw [← renL_append, ← renL_append]
            rw [ren_sc0 ρ h3] at hq
            exact ⟨q, this, hq⟩
          · cases h
        · cases h
      · cases h
    · cases h
  · have h' := sval_sound (P := P) hT.ty h hq
    split
    · rename_i h1 h2 h3 _ _ _ e; exact absurd e (h1 _ _)
    · rename_i h1 h2 h3 _ _ _ _ e; exact absurd e (h2 _ _ _)
    · rename_i e; rw [e] at h'; exact h'.elim
    · rename_i h1 h2 h3 _ _ _ _ e; exact absurd e (h3 _ _ _)
    · exact h'

theorem ssteps_ok (hT : T.Ok P) (hr : Good P r) {all : List Oper} (ρ : Nat → Nat) {K : AS → Prop} {s1 : AS} : ∀ (l : List Oper) (s : AS), s.sc n = true → ssteps r T all l s n = some s1 → s1.sc n = true ∧ s1.heap = s.heap ∧ (K (s1.ren ρ) → asteps P all l K (s.ren ρ))
  | [], s, hs, h => by cases h; exact ⟨hs, rfl, id⟩
  | o :: l, s, hs, h => by
    have go : ∀ (s0 : AS), s0.sc n = true → s0.heap = s.heap → (match sopS r T o s0 with
        | some h => guardO (h.sc n) (ssteps r T all l (s0.put o.dst h) n)
        | none => none) = some s1 → s1.sc n = true ∧ s1.heap = s.heap ∧ (K (s1.ren ρ) → aopS P o (fun h => asteps P all l K ((s0.ren ρ).put o.dst h)) (s0.ren ρ)) := by
      intro s0 hs0 hh h
      split at h
      · rename_i q hq
        replace h := guardO_some h
        obtain ⟨h1, h⟩ := h
        obtain ⟨h2, h3, h4⟩ := ssteps_ok hT hr ρ l _ (sc_put hs0 h1) h
        rw [put_heap', hh] at h3
        refine ⟨h2, h3, fun hK => sopS_ok hT hr hq ρ ?_⟩
        have := h4 hK
        rw [ren_put] at this
        exact this
      · cases h
    simp only [ssteps, sgetR_eq, putR_eq] at h
    split at h
    · rename_i hg
      obtain ⟨h1, h2, h3⟩ := go s hs rfl h
      refine ⟨h1, h2, fun hK => ?_⟩
      simp only [asteps, hg]
      exact h3 hK
    · rename_i j want hg
      split at h
      · rename_i oj hoj
        split at h
        · rename_i d hd
          split at h
          · rename_i b hb
            have hbr : sget (s.ren ρ).slots d = some (.bool b) := by
              show sget (renS ρ s.slots) d = _
              rw [sget_ren, hb]; rfl
            split at h
            · rename_i hbw
              have hbw : b = want := by simpa using hbw
              obtain ⟨h1, h2, h3⟩ := go (s.put (some d) (.bool want)) (sc_put hs rfl) rfl h
              refine ⟨h1, h2, fun hK => ?_⟩
              simp only [asteps, hg, hoj, hd, hbr]
              have h4 := h3 hK
              rw [ren_put] at h4
              rw [if_pos hbw]
              exact h4
            · rename_i hbw
              have hbw : b ≠ want := by simpa using hbw
              obtain ⟨h1, h2, h3⟩ := ssteps_ok hT hr ρ l _ (sc_put (d := o.dst) (h := .v undef) (sc_put (d := some d) (h := .bool !want) hs rfl) rfl) h
              rw [put_heap', put_heap'] at h2
              refine ⟨h1, h2, fun hK => ?_⟩
              simp only [asteps, hg, hoj, hd, hbr]
              have h4 := h3 hK
              rw [ren_put, ren_put] at h4
              rw [if_neg hbw]
              exact h4
          · cases h
        · cases h
      · cases h

/-- a region -/
theorem AW.ops {ro : Option Nat} {id : Nat} {ops : Array Oper} {Q : Exit → AS → Prop} (h : AOps P ro N ops (List.range' 0 ops.toList.length) (fun s' => Q .normal s') s) : AW P ro N (.region id ops false) Q s := by
  intro w0 μ0 μ a w hs hE
  refine wpIn_region ?_
  rw [List.range_eq_range', ← Array.length_toList]
  exact h w0 μ0 μ a w _ hs hE fun μ' s' a' w' hk hs' hE' => ⟨(fun _ h => by cases h), (fun h => by cases h), _, _, hk, hs', hE'⟩

theorem sdrawP_ok (hT : T.Ok P) (hr : Good P r) {id : Nat} {ops : Array Oper} (hok : ops.toList.all (fun o => okd N o.dst) = true) {p : Nat} (hs : s.sc n = true) (h : sdrawP r T ops s n p = some (s', n')) :
    s'.sc n' = true ∧ Step n n' s.heap s'.heap ∧ ∀ (ρ : Nat → Nat) (ro : Option Nat) (Q : Exit → AS → Prop), (∀ ρ', Agree n ρ ρ' → Q .normal (s'.ren ρ')) → AW P ro N (.region id ops true) Q (s.ren ρ) := by
  unfold sdrawP at h
  replace h := guardO_some h
  obtain ⟨hd, h⟩ := h
  split at h
  · rename_i s1 hst
    have h1 := fun (ρ : Nat → Nat) (K : AS → Prop) => ssteps_ok (K := K) hT hr ρ _ _ hs hst
    have h2 := h1 (fun v => v) fun _ => True
    obtain ⟨h3, h4, h5⟩ := sops_ok hT hr hok (ops.toList.drop p) p s1 n (fun k => by rw [List.getElem?_drop, Array.getElem?_toList]) h2.1 h
    rw [h2.2.1] at h4
    refine ⟨h3, h4, fun ρ ro Q hQ => AW.drawX p (fun x => x = s1.ren ρ) hT.draw hok hd ?_ ((h1 ρ _).2.2 rfl)⟩
    rintro x rfl
    have := h5 ρ ro (fun s' => Q .normal s') hQ
    have hl : (ops.toList.drop p).length = ops.size - p := by simp
    rw [hl] at this
    exact this
  · cases h

theorem sdraw_ok (hT : T.Ok P) (hr : Good P r) {id : Nat} {ops : Array Oper} (hok : ops.toList.all (fun o => okd N o.dst) = true) (hs : s.sc n = true) (h : sdraw r T ops s n = some (s', n')) :
    s'.sc n' = true ∧ Step n n' s.heap s'.heap ∧ ∀ (ρ : Nat → Nat) (ro : Option Nat) (Q : Exit → AS → Prop), (∀ ρ', Agree n ρ ρ' → Q .normal (s'.ren ρ')) → AW P ro N (.region id ops true) Q (s.ren ρ) := by
  unfold sdraw at h
  split at h
  · rename_i x hx
    cases h
    exact sdrawP_ok hT hr hok hs hx
  · exact sdrawP_ok hT hr hok hs h

theorem sres_ok (hT : T.Ok P) (ρ : Nat → Nat) : ∀ {rvs : List ResultVar} {hs : List HV} {R : List HV → Prop}, sres T.ty s rvs = some hs → R (renL ρ hs) → resAll P (s.ren ρ) rvs R
  | [], hs, R, h, hR => by cases h; exact hR
  | rv :: rvs, hs, R, h, hR => by
    simp only [sres] at h
    split at h
    · rename_i q qs hq hqs
      cases h
      have key : ∀ R' : HV → Prop, R' (q.ren ρ) → resOne P (s.ren ρ) rv R' := by
        intro R' hR'
        cases rv with
        | tmp t =>
          have : sget (renS ρ s.slots) t = some (q.ren ρ) := by rw [sget_ren]; simp only [sres1, sgetR_eq, hgetR_eq] at hq; rw [hq]; rfl
          simp only [resOne, AS.ren, this]
          exact hR'
        | cell t t' =>
          simp only [sres1, sgetR_eq, hgetR_eq] at hq
          split at hq
          · rename_i U cs off hU hx
            have : sget (s.ren ρ).slots t = some (.fptr (renL ρ cs) off) := by show sget (renS ρ s.slots) t = _; rw [sget_ren, hx]; rfl
            simp only [resOne, hT.ty _ _ hU, this]
            exact sload_sound hq hR'
          · rename_i U id ver off hU hx
            split at hq
            · rename_i ver' k e cs hg
              replace hq := guardO_some hq
              obtain ⟨h1, hq⟩ := hq
              have hv := Nat.eq_of_beq_eq_true h1
              subst hv
              have : sget (s.ren ρ).slots t = some (.ptr id (ρ ver) off) := by show sget (renS ρ s.slots) t = _; rw [sget_ren, hx]; rfl
              simp only [resOne, hT.ty _ _ hU, this, hget_s ρ hg, AObj.ren]
              exact ⟨trivial, sload_sound hq hR'⟩
            · cases hq
          · cases hq
      exact key _ (sres_ok hT ρ hqs hR)
    · cases h

theorem thenQ_ne {k : AS → Prop} {Q : Exit → AS → Prop} {e : Exit} (he : e ≠ .normal) {s : AS} (h : Q e s) : thenQ k Q e s := by
  cases e with
  | normal => exact absurd rfl he
  | _ => exact h

theorem rounds_step (hr : Good P r) {top : Bool} {x : Code} {o : Out} : ∀ (k : Nat) (s : AS) (n : Nat), s.sc n = true → rounds r top N x k s n = some o → ∃ e s2 n2, o = .code e s2 n2 ∧ s2.sc n2 = true ∧ Step n n2 s.heap s2.heap
  | 0, _, _, _, h => by cases h
  | k + 1, s, n, hs, h => by
    simp only [rounds] at h
    split at h
    · rename_i s1 n1 hr1
      obtain ⟨h1, h2, _⟩ := hr _ _ hr1 hs
      obtain ⟨e, s2, n2, h3, h4, h5⟩ := rounds_step hr k s1 n1 h1 h
      exact ⟨e, s2, n2, h3, h4, h2.trans (sc_heap_of hs) h5⟩
    · have := hr _ _ h
      cases o with
      | code e s2 n2 => exact ⟨e, s2, n2, rfl, (this hs).1, (this hs).2.1⟩
      | call rv H n2 => exact this.elim

theorem rounds_ok (hr : Good P r) {top : Bool} {x : Code} {o : Out} (k : Nat) (h : rounds r top N x k s n = some o) : Sem P (.code top N (.loop x) s n) o := by
  cases o with
  | call rv H n2 =>
    have : ∀ (k : Nat) (s : AS) (n : Nat), rounds r top N x k s n ≠ some (.call rv H n2) := by
      intro k
      induction k with
      | zero => intro s n h; cases h
      | succ k ih =>
        intro s n h
        simp only [rounds] at h
        split at h
        · exact ih _ _ h
        · exact (hr _ _ h).elim
    exact absurd h (this k s n)
  | code e s2 n2 =>
    intro hs
    obtain ⟨e', s2', n2', he, h1, h2⟩ := rounds_step hr k s n hs h
    cases he
    refine ⟨h1, h2, fun ρ ro Q htop hQ => ?_⟩
    refine AW.loop' (fun j s0 => ∃ s1 n1 ρ1, s0 = s1.ren ρ1 ∧ s1.sc n1 = true ∧ rounds r top N x j s1 n1 = some (.code e s2 n2) ∧ Agree n ρ ρ1 ∧ n ≤ n1) ⟨k, _, AS.le_refl _, s, n, ρ, rfl, hs, h, Agree.refl _ _, Nat.le_refl _⟩ ?_
    rintro j s0 ⟨s1, n1, ρ1, rfl, hs1, hj, hag, hn⟩
    cases j with
    | zero => cases hj
    | succ j =>
      simp only [rounds] at hj
      split at hj
      · rename_i s3 n3 hr3
        obtain ⟨h3, h4, h5⟩ := hr _ _ hr3 hs1
        refine h5 ρ1 ro _ htop fun ρ' hag' => ?_
        exact ⟨j, Nat.lt_succ_self j, _, AS.le_refl _, s3, n3, ρ', rfl, h3, hj, hag.trans hn hag', Nat.le_trans hn h4.le⟩
      · rename_i hno
        obtain ⟨h3, h4, h5⟩ := hr _ _ hj hs1
        refine h5 ρ1 ro _ htop fun ρ' hag' => thenQ_ne ?_ (hQ ρ' (hag.trans hn hag'))
        rintro rfl
        exact hno _ _ hj

theorem sc_enumS : ∀ (i : Nat) (args : List HV), scL n args = true → scS n (enumS i args) = true
  | _, [], _ => rfl
  | i, a :: args, h => by
    simp only [scL, Bool.and_eq_true] at h
    simp only [enumS, scS, h.1, sc_enumS (i + 1) args h.2, Bool.and_self]

theorem renS_enumS (ρ : Nat → Nat) : ∀ (i : Nat) (args : List HV), renS ρ (enumS i args) = enumS i (renL ρ args)
  | _, [] => rfl
  | i, a :: args => by simp only [enumS, renS, renL, renS_enumS ρ (i + 1) args]

theorem scL_append {cs ds : List HV} (h : scL n cs = true) (h' : scL n ds = true) : scL n (cs ++ ds) = true := by
  induction cs with
  | nil => exact h'
  | cons c cs ih =>
    simp only [scL, Bool.and_eq_true] at h
    simp only [List.cons_append, scL, h.1, ih h.2, Bool.and_self]

theorem joinR_ren (ρ : Nat → Nat) : ∀ hs : List HV, (joinR hs).ren ρ = joinR (renL ρ hs)
  | [] => rfl
  | [h] => rfl
  | _ :: _ :: _ => rfl

theorem strs_ren (ρ : Nat → Nat) : ∀ ls : List (List UInt8), renL ρ (ls.map HV.str) = ls.map HV.str
  | [] => rfl
  | a :: ls => by simp only [List.map_cons, renL, HV.ren, strs_ren ρ ls]
theorem ints_ren (ρ : Nat → Nat) : ∀ ls : List Int, renL ρ (ls.map (HV.int .i64)) = ls.map (HV.int .i64)
  | [] => rfl
  | a :: ls => by simp only [List.map_cons, renL, HV.ren, ints_ren ρ ls]
theorem strs_sc (n : Nat) : ∀ ls : List (List UInt8), scL n (ls.map HV.str) = true
  | [] => rfl
  | a :: ls => by simp only [List.map_cons, scL, HV.sc, strs_sc n ls, Bool.and_self]
theorem ints_sc (n : Nat) : ∀ ls : List Int, scL n (ls.map (HV.int .i64)) = true
  | [] => rfl
  | a :: ls => by simp only [List.map_cons, scL, HV.sc, ints_sc n ls, Bool.and_self]

theorem ssort_ok (hT : T.Ok P) {f : FuncId} {k : Bool} (hk : T.sort f = some k) {args : List HV} {H : Heap} {o : Out} (h : ssort k args H n = some o) : Sem P (.call f args H n) o := by
  unfold ssort at h
  simp only [hgetR_eq, hsetR_eq] at h
  split at h
  · cases h
    refine fun _ hH => ⟨rfl, hH, Step.refl _ _, fun ρ K hK => ?_⟩
    cases k with
    | true => exact (hT.sortS f hk).nil _ _ (hK ρ (Agree.refl _ _))
    | false => exact (hT.sortI f hk).nil _ _ (hK ρ (Agree.refl _ _))
  · rename_i id ver m
    split at h
    · rename_i ver' e cs hg
      split at h
      · split at h
        · rename_i ls hls
          replace h := guardO_some h
          obtain ⟨h1, h⟩ := h
          cases h
          simp only [Bool.and_eq_true] at h1
          have hv := Nat.eq_of_beq_eq_true h1.1
          subst hv
          have hm := Nat.eq_of_beq_eq_true h1.2.1
          subst hm
          have hcs := strsOf_eq hls
          subst hcs
          intro _ hH
          have hlt := sch_get hH hg
          refine ⟨rfl, scH_set _ _ _ _ hH hlt.1.1 hlt.1.2 (strs_sc _ _), ⟨Nat.le_refl _, LoopKeep.set (by rw [hg]; intros; simp), Back.set (.inr ⟨_, hg⟩)⟩, fun ρ K hK => ?_⟩
          refine (hT.sortS f hk).arr _ id (ρ ver) e ls K (by rw [hget_ren, hg]; simp only [Option.map_some, AObj.ren, strs_ren]) (blt_lt h1.2.2) ?_
          have := hK ρ (Agree.refl _ _)
          rw [renH_set] at this
          simp only [AObj.ren, strs_ren, HV.ren, renL] at this
          rw [sortS_isort]
          exact this
        · cases h
      · split at h
        · rename_i ls hls
          replace h := guardO_some h
          obtain ⟨h1, h⟩ := h
          cases h
          simp only [Bool.and_eq_true] at h1
          have hv := Nat.eq_of_beq_eq_true h1.1
          subst hv
          have hm := Nat.eq_of_beq_eq_true h1.2.1
          subst hm
          have hcs := intsOf_eq hls
          subst hcs
          intro _ hH
          have hlt := sch_get hH hg
          refine ⟨rfl, scH_set _ _ _ _ hH hlt.1.1 hlt.1.2 (ints_sc _ _), ⟨Nat.le_refl _, LoopKeep.set (by rw [hg]; intros; simp), Back.set (.inr ⟨_, hg⟩)⟩, fun ρ K hK => ?_⟩
          refine (hT.sortI f hk).arr _ id (ρ ver) e ls K (by rw [hget_ren, hg]; simp only [Option.map_some, AObj.ren, ints_ren]) (blt_lt h1.2.2) ?_
          have := hK ρ (Agree.refl _ _)
          rw [renH_set] at this
          simp only [AObj.ren, ints_ren, HV.ren, renL] at this
          rw [sortI_isort]
          exact this
        · cases h
    · cases h
  · cases h

theorem stCut_ok (hr : Good P r) {top : Bool} {ks : Option (List Nat)} {y : Code} {o : Out} (h : stCut T r top N ks y s n = some o) : Sem P (.code top N y s n) o := by
  unfold stCut at h
  split at h
  · rename_i ks
    rw [keepK_eq] at h
    have h2 := hr _ _ h
    cases o with
    | call rv H n2 => exact h2.elim
    | code e s2 n2 =>
      intro hs
      simp only [AS.sc, Bool.and_eq_true] at hs
      obtain ⟨h6, h7, h8⟩ := h2 (by simp only [AS.sc, Bool.and_eq_true]; exact ⟨keepL_sc hs.1 ks, hs.2⟩)
      exact ⟨h6, h7, fun ρ ro Q htop hQ => AW.weaken (h8 ρ ro Q htop hQ) (keepL_le ρ s ks)⟩
  · exact hr _ _ h

theorem step_ok (hT : T.Ok P) (hr : Good P r) : Good P (step T r) := by
  intro t o h
  cases t with
  | call f args H n =>
    simp only [step, stCall, stBody] at h
    split at h
    · rename_i k hk
      exact ssort_ok hT hk h
    split at h
    · -- a function that is known
      rename_i rv hx
      replace h := guardO_some h
      obtain ⟨h1, h⟩ := h
      cases h
      split at hx
      · rename_i as' ha
        replace hx := guardO_some hx
        obtain ⟨h2, hx⟩ := hx
        intro hargs hH
        refine ⟨HV.sc_mono (Nat.zero_le _) rv h1, hH, Step.refl _ _, fun ρ K hK => ?_⟩
        have hf := hT.ext _ _ _ hx
        have ha2 := mapM_frz ρ ha
        rw [renL_sc0 ρ h2] at ha2
        refine hf.call 8 ha2 ?_
        have := hK ρ (Agree.refl _ _)
        rw [ren_sc0 ρ h1] at this
        exact this
      · cases hx
    · split at h
      · rename_i fn hfn
        split at h
        · rename_i c hc
          replace h := guardO_some h
          obtain ⟨h1, h⟩ := h
          split at h
          · rename_i e s1 n1 hr1
            replace h := guardO_some h
            obtain ⟨h2, h⟩ := h
            split at h
            · rename_i hs hres
              replace h := guardO_some h
              obtain ⟨h3, h⟩ := h
              cases h
              intro hargs hH
              obtain ⟨h4, h5, h6⟩ := hr _ _ hr1 (by simp only [AS.sc, sc_enumS 0 args hargs, hH, Bool.and_self])
              refine ⟨h3, gc_sc (sc_heap_of h4), h5.drop fun id x hx => gc_get hx, fun ρ K hK => ?_⟩
              obtain ⟨hf, hname⟩ := hT.fn _ _ hfn
              refine ACall.of_body hf hname hc (by rw [renL_len]; exact Nat.le_of_ble_eq_true h1) ?_
              have e0 : ({ slots := enumS 0 (renL ρ args), heap := renH ρ H } : AS) = (⟨enumS 0 args, H⟩ : AS).ren ρ := by simp only [AS.ren, renS_enumS]
              rw [e0]
              refine h6 ρ none _ (fun _ => rfl) fun ρ' hag => ⟨?_, sres_ok hT ρ' hres ?_⟩
              · cases e with
                | normal => exact .inl rfl
                | ret => exact .inr rfl
                | _ => cases h2
              · refine ⟨_, renH ρ' (gc n (joinR hs) s1.heap), Conv.drop fun id x hx => ?_, ?_⟩
                · rw [hget_ren] at hx
                  cases hg : hget (gc n (joinR hs) s1.heap) id with
                  | none => rw [hg] at hx; cases hx
                  | some y =>
                    rw [hg] at hx
                    show hget (renH ρ' s1.heap) id = some x
                    rw [hget_ren, gc_get hg]
                    exact hx
                · rw [← joinR_ren]
                  exact hK ρ' hag
            · cases h
          · cases h
        · cases h
      · cases h
  | code top N c s n =>
    simp only [step, stCode] at h
    split at h
    · cases h
      exact fun hs => ⟨hs, Step.refl _ _, fun ρ ro Q _ hQ => AW.skip (hQ ρ (Agree.refl _ _))⟩
    · cases h
      exact fun hs => ⟨hs, Step.refl _ _, fun ρ ro Q _ hQ => AW.exit (hQ ρ (Agree.refl _ _))⟩
    · cases h
      exact fun hs => ⟨hs, Step.refl _ _, fun ρ ro Q _ hQ => AW.ret (hQ ρ (Agree.refl _ _))⟩
    · -- seq
      unfold stSeq at h
      try simp only [evR_eq, hgetR_eq, hsetR_eq, sgetR_eq, putR_eq, aslR_eq, apartsR_eq] at h
      rename_i x y
      split at h
      · rename_i s1 n1 hr1
        have h2 := stCut_ok hr h
        cases o with
        | call rv H n2 => exact h2.elim
        | code e s2 n2 =>
          intro hs
          obtain ⟨h3, h4, h5⟩ := hr _ _ hr1 hs
          obtain ⟨h6, h7, h8⟩ := h2 h3
          refine ⟨h6, h4.trans (sc_heap_of hs) h7, fun ρ ro Q htop hQ => AW.seq (h5 ρ ro _ htop fun ρ1 ha1 => h8 ρ1 ro Q htop fun ρ2 ha2 => hQ ρ2 (ha1.trans h4.le ha2))⟩
      · rename_i hno
        have h2 := hr _ _ h
        cases o with
        | call rv H n2 => exact h2.elim
        | code e s2 n2 =>
          intro hs
          obtain ⟨h3, h4, h5⟩ := h2 hs
          exact ⟨h3, h4, fun ρ ro Q htop hQ => AW.seq (h5 ρ ro _ htop fun ρ' ha => thenQ_ne (fun e => by subst e; exact hno _ _ h) (hQ ρ' ha))⟩
    · -- block
      unfold stBlock at h
      try simp only [evR_eq, hgetR_eq, hsetR_eq, sgetR_eq, putR_eq, aslR_eq, apartsR_eq] at h
      rename_i i x
      split at h
      · rename_i j s1 n1 hr1
        cases h
        intro hs
        obtain ⟨h3, h4, h5⟩ := hr _ _ hr1 hs
        refine ⟨h3, h4, fun ρ ro Q htop hQ => AW.block (h5 ρ ro _ htop fun ρ' ha => ?_)⟩
        have := hQ ρ' ha
        simp only [blockQ]
        split
        · rename_i e; rw [if_pos e] at this; exact this
        · rename_i e; rw [if_neg e] at this; exact this
      · rename_i hno
        have h2 := hr _ _ h
        cases o with
        | call rv H n2 => exact h2.elim
        | code e s2 n2 =>
          intro hs
          obtain ⟨h3, h4, h5⟩ := h2 hs
          refine ⟨h3, h4, fun ρ ro Q htop hQ => AW.block (h5 ρ ro _ htop fun ρ' ha => ?_)⟩
          have := hQ ρ' ha
          cases e with
          | exit j => exact absurd h (hno _ _ _)
          | _ => exact this
    · -- cond
      unfold stCond at h
      try simp only [evR_eq, hgetR_eq, hsetR_eq, sgetR_eq, putR_eq, aslR_eq, apartsR_eq] at h
      rename_i c x y
      split at h
      · rename_i hc
        have h2 := hr _ _ h
        cases o with
        | call rv H n2 => exact h2.elim
        | code e s2 n2 =>
          intro hs
          obtain ⟨h3, h4, h5⟩ := h2 hs
          exact ⟨h3, h4, fun ρ ro Q htop hQ => AW.cond (t := true) (by rw [ev_ren, hc]; rfl) (fun _ => h5 ρ ro Q htop hQ) (fun e => by cases e)⟩
      · rename_i hc
        have h2 := hr _ _ h
        cases o with
        | call rv H n2 => exact h2.elim
        | code e s2 n2 =>
          intro hs
          obtain ⟨h3, h4, h5⟩ := h2 hs
          exact ⟨h3, h4, fun ρ ro Q htop hQ => AW.cond (t := false) (by rw [ev_ren, hc]; rfl) (fun e => by cases e) (fun _ => h5 ρ ro Q htop hQ)⟩
      · cases h
    · exact rounds_ok hr _ h
    · -- region
      unfold stRegion at h
      try simp only [evR_eq, hgetR_eq, hsetR_eq, sgetR_eq, putR_eq, aslR_eq, apartsR_eq] at h
      rename_i id ops dr
      replace h := guardO_some h
      obtain ⟨hok, h⟩ := h
      split at h
      · rename_i s1 n1 hop
        cases h
        intro hs
        cases dr with
        | true =>
          obtain ⟨h3, h4, h5⟩ := sdraw_ok (id := id) hT hr hok hs hop
          exact ⟨h3, h4, fun ρ ro Q _ hQ => h5 ρ ro Q hQ⟩
        | false =>
          obtain ⟨h3, h4, h5⟩ := sops_ok hT hr hok ops.toList 0 s n (fun k => by simp) hs hop
          exact ⟨h3, h4, fun ρ ro Q _ hQ => AW.ops (h5 ρ ro _ hQ)⟩
      · cases h
    · -- rangeFunc
      unfold stRange at h
      try simp only [evR_eq, hgetR_eq, hsetR_eq, sgetR_eq, putR_eq, aslR_eq, apartsR_eq] at h
      rename_i g ps assign body
      split at h
      · rename_i f fs cs hg
        replace h := guardO_some h
        obtain ⟨h1, h⟩ := h
        simp only [Bool.and_eq_true] at h1
        split at h
        · rename_i rv H n1 hr1
          split at h
          · rename_i v1 st' pend f1 m1 snap1 ps1 as1 bd1 hg1
            replace h := guardO_some h
            obtain ⟨h4, h⟩ := h
            -- the loop behind the iterator's call
            have fin : ∀ (pe : Option Code), pe = pend → ∀ (e : Exit), (∀ (ρ : Nat → Nat) (Q : Exit → AS → Prop) (sx : AS), Q e sx → match (generalizing := false) pe with
                | none => Q .normal sx
                | some c => AW P none N c Q sx) →
                Sem P (.code true N (.rangeFunc g ps assign body) s n) (.code e { s with heap := hset H n n (.loop .exhausted pe (n + 1) N s.slots ps assign body) } n1) := by
              intro pe hpe e hq hs
              subst hpe
              have hsh := sc_heap_of hs
              have hlsc : (AObj.loop .ready none (n + 1) N s.slots ps assign body).sc (n + 2) = true := by
                simp only [AObj.sc, scS_mono (Nat.le_add_right n 2) _ (sc_slots_of hs), Bool.and_true]
                simp [Nat.blt_eq]
              have hself : Nat.blt n (n + 2) = true := by simp [Nat.blt_eq]
              have h0 : scH (n + 2) (hset s.heap n n (.loop .ready none (n + 1) N s.slots ps assign body)) = true := scH_set _ _ _ _ (scH_mono (Nat.le_add_right n 2) _ hsh) (by omega) (by omega) hlsc
              have hargs : scL (n + 2) (fs ++ [.yl n n] ++ cs) = true := scL_append (scL_append (scL_mono (Nat.le_add_right n 2) _ h1.1) (by simp only [scL, HV.sc, hself, Bool.and_self])) (scL_mono (Nat.le_add_right n 2) _ h1.2)
              obtain ⟨h2, h3, st, hc⟩ := hr _ _ hr1 hargs h0
              have st0 : Step n (n + 2) s.heap (hset s.heap n n (.loop .ready none (n + 1) N s.slots ps assign body)) :=
                ⟨by omega, LoopKeep.set (by rw [sch_fresh hsh]; intros; simp), Back.set (.inl (Nat.le_refl _))⟩
              have st1 := st0.trans hsh st
              have hgl : hget (hset s.heap n n (.loop .ready none (n + 1) N s.slots ps assign body)) n = some (n, .loop .ready none (n + 1) N s.slots ps assign body) := by rw [hget_hset, if_pos rfl]
              obtain ⟨_, _, he1⟩ := st.loop _ _ _ _ _ _ _ _ _ _ hgl _ hg1
              cases he1
              have hls1 : (AObj.loop .exhausted pe (n + 1) N s.slots ps assign body).sc n1 = true := by
                simp only [AObj.sc, scS_mono st1.le _ (sc_slots_of hs), Bool.and_true]
                have := st.le
                simp [Nat.blt_eq]; omega
              have hn1 : n < n1 := by have := st.le; omega
              refine ⟨by simp only [AS.sc, scS_mono st1.le _ (sc_slots_of hs), scH_set _ n n _ h3 hn1 hn1 hls1, Bool.and_self], st1.trans hsh ⟨Nat.le_refl _, LoopKeep.setL hg1, Back.set (.inr ⟨_, hg1⟩)⟩, fun ρ ro Q htop hQ => ?_⟩
              have hro : ro = none := htop rfl
              subst hro
              have hg' : (s.ren ρ).ev g = some (.fn (.func f) (renL ρ fs) (renL ρ cs)) := by rw [ev_ren, hg]; rfl
              refine AW.rangeFunc n hg' fun fn ver => ?_
              have hu := Agree.upd n ver ρ
              have ha1 : Agree n ρ (upd (upd ρ n ver) (n + 1) fn) := hu.trans (Nat.le_succ n) (Agree.upd (n + 1) fn _)
              have e0 : hset (s.ren ρ).heap n ver (.loop .ready none fn N (s.ren ρ).slots ps assign body) = renH (upd (upd ρ n ver) (n + 1) fn) (hset s.heap n n (.loop .ready none (n + 1) N s.slots ps assign body)) := by
                rw [renH_set]
                simp only [AObj.ren, AS.ren]
                rw [renH_agree ha1 _ hsh, renS_agree ha1 _ (sc_slots_of hs), upd_at]
                simp [upd]
              have e1 : renL ρ fs ++ [.yl n ver] ++ renL ρ cs = renL (upd (upd ρ n ver) (n + 1) fn) (fs ++ [.yl n n] ++ cs) := by
                rw [renL_append, renL_append, renL_agree ha1 _ h1.1, renL_agree ha1 _ h1.2]
                simp only [renL, HV.ren]
                have : upd (upd ρ n ver) (n + 1) fn n = ver := by simp [upd]
                rw [this]
              rw [e0, e1]
              refine hc _ _ fun ρ' hag => ?_
              have hv : ρ' n = ver := by rw [← hag n (by omega)]; simp [upd]
              have hfn : ρ' (n + 1) = fn := by rw [← hag (n + 1) (by omega)]; simp [upd]
              have ha2 : Agree n ρ ρ' := ha1.trans (Nat.le_add_right n 2) hag
              have hsl : renS ρ' s.slots = (s.ren ρ).slots := (renS_agree ha2 _ (sc_slots_of hs)).symm
              have hQ' := hQ ρ' ha2
              have e2 : (({ s with heap := hset H n n (.loop .exhausted pe (n + 1) N s.slots ps assign body) } : AS)).ren ρ' = { s.ren ρ with heap := hset (renH ρ' H) n ver (.loop .exhausted pe fn N (s.ren ρ).slots ps assign body) } := by
                simp only [AS.ren, renH_set, AObj.ren, hv, hfn]
                rw [renS_agree ha2 _ (sc_slots_of hs)]
              rw [e2] at hQ'
              refine ⟨st', pe, ?_, ?_, ?_⟩
              · rw [hget_ren, hg1]
                simp only [Option.map_some, AObj.ren, hv, hfn, hsl]
              · rintro rfl; cases h4
              · have := hq ρ Q _ hQ'
                cases pe with
                | none => exact this
                | some c => exact this
            split at h
            · cases h
              exact fin none rfl .normal (fun ρ Q sx hx => hx)
            · cases h
              exact fin (some .ret) rfl .ret (fun ρ Q sx hx => AW.ret hx)
            · cases h
              exact fin (some (.exit _)) rfl (.exit _) (fun ρ Q sx hx => AW.exit hx)
            · cases h
          · cases h
        · cases h
      · cases h
    · cases h

theorem run_ok (hT : T.Ok P) : ∀ k, Good P (run T k)
  | 0 => fun _ _ h => by cases h
  | k + 1 => step_ok hT (run_ok hT k)

/-- a contract from the evaluation -/
theorem Fresh.of_run (hT : T.Ok P) {f : FuncId} {args : List HV} {k n1 : Nat} {rv q : HV} {H : Heap} (h : run T k (.call f args [] 0) = some (.call rv H n1)) (ha : scL 0 args = true) (hn : (nf rv && nfH H) = true)
    (hf : sfrz 8 H rv = some q) (hq : q.sc 0 = true) : Fresh P f args q := by
  obtain ⟨_, _, _, hcall⟩ := run_ok hT k _ _ h ha rfl
  have h5 := hcall (fun v => v) (fun r' H' => ∃ ρ', r' = rv.ren ρ' ∧ H' = renH ρ' H) fun ρ' _ => ⟨ρ', rfl, rfl⟩
  rw [renL_id] at h5
  simp only [Bool.and_eq_true] at hn
  refine ⟨sc0_clean q hq, _, 8, h5, ?_⟩
  rintro r' H' ⟨ρ', rfl, rfl⟩
  exact ⟨nf_ren ρ' rv hn.1, nfH_ren ρ' H hn.2, by rw [sfrz_sound 8 H ρ' rv q hf, ren_sc0 ρ' hq]⟩
end
end Go.AW

/- Tables of known results for the evaluation. -/
namespace Go.AW
open Go

mutual
def HV.same : HV → HV → Bool
  | .int .i64 n, .int .i64 m => decide (n = m)
  | .int .u8 n, .int .u8 m => decide (n = m)
  | .bool b, .bool c => b == c
  | .str l, .str k => decide (l = k)
  | .agg cs, .agg ds => sameL cs ds
  | .tup cs, .tup ds => sameL cs ds
  | .sl k n cs, .sl k' n' ds => Nat.beq k k' && Nat.beq n n' && sameL cs ds
  | .v (.slice none 0 0), .v (.slice none 0 0) => true
  | _, _ => false
def sameL : List HV → List HV → Bool
  | [], [] => true
  | c :: cs, d :: ds => c.same d && sameL cs ds
  | _, _ => false
end

mutual
theorem HV.same_eq : ∀ a b : HV, a.same b = true → a = b
  | .int k n, b, h => by
    cases b with
    | int k' m => cases k <;> cases k' <;> simp [HV.same] at h <;> rw [h]
    | _ => cases k <;> simp [HV.same] at h
  | .bool x, b, h => by
    cases b <;> simp [HV.same] at h
    rw [h]
  | .str x, b, h => by
    cases b <;> simp [HV.same] at h
    rw [h]
  | .v x, b, h => by
    unfold HV.same at h
    split at h <;> simp_all
  | .agg cs, b, h => by
    cases b with
    | agg ds => simp only [HV.same] at h; rw [sameL_eq cs ds h]
    | _ => simp [HV.same] at h
  | .tup cs, b, h => by
    cases b with
    | tup ds => simp only [HV.same] at h; rw [sameL_eq cs ds h]
    | _ => simp [HV.same] at h
  | .sl k n cs, b, h => by
    cases b with
    | sl k' n' ds =>
      simp only [HV.same, Bool.and_eq_true] at h
      rw [Nat.eq_of_beq_eq_true h.1.1, Nat.eq_of_beq_eq_true h.1.2, sameL_eq cs ds h.2]
    | _ => simp [HV.same] at h
  | .ar _ _ _ _ _, b, h => by cases b <;> simp [HV.same] at h
  | .ptr _ _ _, b, h => by cases b <;> simp [HV.same] at h
  | .fptr _ _, b, h => by cases b <;> simp [HV.same] at h
  | .fn _ _ _, b, h => by cases b <;> simp [HV.same] at h
  | .mp _ _, b, h => by cases b <;> simp [HV.same] at h
  | .yl _ _, b, h => by cases b <;> simp [HV.same] at h
  | .it _ _, b, h => by cases b <;> simp [HV.same] at h
theorem sameL_eq : ∀ a b : List HV, sameL a b = true → a = b
  | [], [], _ => rfl
  | [], _ :: _, h => by simp [sameL] at h
  | _ :: _, [], h => by simp [sameL] at h
  | c :: cs, d :: ds, h => by
    simp only [sameL, Bool.and_eq_true] at h
    rw [HV.same_eq c d h.1, sameL_eq cs ds h.2]
end

def elook : List (FuncId × List HV × HV) → FuncId → List HV → Option HV
  | [], _, _ => none
  | (g, aa, q) :: l, f, args => bif (Nat.beq g f && sameL aa args) then some q else elook l f args

theorem elook_ok {P : Program} : ∀ {l : List (FuncId × List HV × HV)}, (∀ e ∈ l, Fresh P e.1 e.2.1 e.2.2) → ∀ f args r, elook l f args = some r → Fresh P f args r
  | [], _, _, _, _, h => by cases h
  | (g, aa, q) :: l, hl, f, args, r, h => by
    simp only [elook] at h
    cases hb : (Nat.beq g f && sameL aa args) with
    | true =>
      rw [hb] at h
      cases h
      simp only [Bool.and_eq_true] at hb
      have h1 := Nat.eq_of_beq_eq_true hb.1
      have h2 := sameL_eq _ _ hb.2
      subst h1 h2
      exact hl _ (List.mem_cons_self ..)
    | false =>
      rw [hb] at h
      exact elook_ok (fun e he => hl e (List.mem_cons_of_mem _ he)) f args r h

/-- what a closed call comes to, as one value that is looked at -/
noncomputable def comes (T : Tabs) (k : Nat) (f : FuncId) (args : List HV) (q : HV) : Bool :=
  match run T k (.call f args [] 0) with
  | some (.call rv H _) => scL 0 args && (nf rv && nfH H) && (match sfrz 8 H rv with
    | some r => r.sc 0 && r.same q
    | none => false)
  | _ => false

theorem Fresh.of_comes {P : Program} {T : Tabs} (hT : T.Ok P) {k : Nat} {f : FuncId} {args : List HV} {q : HV} (h : comes T k f args q = true) : Fresh P f args q := by
  unfold comes at h
  split at h
  · rename_i rv H n1 hr
    simp only [Bool.and_eq_true] at h
    obtain ⟨⟨h1, h2⟩, h3⟩ := h
    split at h3
    · rename_i r hr'
      simp only [Bool.and_eq_true] at h3
      have := HV.same_eq _ _ h3.2
      subst this
      exact Fresh.of_run hT hr h1 (by simp only [h2.1, h2.2, Bool.and_self]) hr' h3.1
    · cases h3
  · cases h

/-- the same of a result that may hold parts of the arguments -/
noncomputable def comesP (T : Tabs) (k : Nat) (f : FuncId) (args : List HV) (q : HV) : Bool :=
  match run T k (.call f args [] 0) with
  | some (.call rv H _) => scL 0 args && (match sfrz 8 H rv with
    | some r => r.sc 0 && r.same q
    | none => false)
  | _ => false

theorem Pure.of_comes {P : Program} {T : Tabs} (hT : T.Ok P) {k : Nat} {f : FuncId} {args : List HV} {q : HV} (h : comesP T k f args q = true) : Pure P f args (· = q) := by
  unfold comesP at h
  split at h
  · rename_i rv H n1 hr
    simp only [Bool.and_eq_true] at h
    obtain ⟨h1, h3⟩ := h
    split at h3
    · rename_i r hf
      simp only [Bool.and_eq_true] at h3
      have := HV.same_eq _ _ h3.2
      subst this
      obtain ⟨_, _, _, hcall⟩ := run_ok hT k _ _ hr h1 rfl
      have h5 := hcall (fun v => v) (fun r' H' => ∃ ρ', r' = rv.ren ρ' ∧ H' = renH ρ' H) fun ρ' _ => ⟨ρ', rfl, rfl⟩
      rw [renL_id] at h5
      refine h5.conv ?_
      rintro r' H' ⟨ρ', rfl, rfl⟩
      exact ⟨_, _, Conv.all 8, by rw [sfrz_sound 8 H ρ' rv _ hf, ren_sc0 ρ' h3.1], by rw [sfrz_sound 8 H ρ' rv _ hf, ren_sc0 ρ' h3.1]; exact sc0_clean _ h3.1, rfl⟩
    · cases h3
  · cases h

theorem Pure.nilI {P : Program} {f : FuncId} {args : List HV} (h : Pure P f args (· = .v (.slice none 0 0))) : Pure P f args (· = .sl 1 0 []) := by
  refine h.conv ?_
  rintro r H' ⟨rfl, _, rfl⟩
  exact ⟨_, _, Conv.le (Le.nil 1), rfl, ⟨trivial, rfl⟩⟩

end Go.AW

namespace Go.Proofs
open Go

set_option maxHeartbeats 1000000 in
set_option maxRecDepth 100000 in
theorem Try.stringslite_IndexByte (s : ByteArray) (c : Int) (w : World) :
    Calls Try.prog 100 #[.string s, .int .u8 c] w fun e w' => e = .returned (.int .i64 (Lib.indexByte s.data.toList c.toNat.toUInt8)) ∧ w' = w := by
  go_enter Try.func100, Try.ntmps100
  go_wp2
  rw [run_callFunc_extern Try.func144 (by kernel_rfl) (by kernel_rfl) (by kernel_rfl) (e := Extern.BytealgIndexByte.indexByte) (by kernel_rfl), Lib.run_indexByteString]
  simp only [Result.andThen]
  rw [Oper.upon_value]
  go_wp2
  go_ret
  exact ⟨rfl, rfl⟩

set_option maxHeartbeats 1000000 in
theorem Try.strings_IndexByte (s : ByteArray) (c : Int) (w : World) :
    Calls Try.prog 51 #[.string s, .int .u8 c] w fun e w' => e = .returned (.int .i64 (Lib.indexByte s.data.toList c.toNat.toUInt8)) ∧ w' = w := by
  go_enter Try.func51, Try.ntmps51
  go_wp2_with (go_at_call 100; refine (Try.stringslite_IndexByte _ _ _).mono ?_; rintro e w' ⟨rfl, rfl⟩)
  go_ret
  exact ⟨rfl, rfl⟩

end Go.Proofs
namespace Go.AW
open Go Go.Proofs

theorem idx_wf (l : List UInt8) (c : UInt8) (hl : l.length ≤ maxLen) : (Lit.int .i64 (Lib.indexByte l c)).wf = true := by
  have h : ∀ l : List UInt8, -1 ≤ Lib.indexByte l c ∧ Lib.indexByte l c ≤ l.length := by
    intro l
    induction l with
    | nil => simp [Lib.indexByte]
    | cons a l ih =>
      simp only [Lib.indexByte, List.length_cons]
      split
      · omega
      · split
        · omega
        · omega
  have := h l
  simp only [maxLen] at hl
  simp only [Lit.wf, IntKind.min, IntKind.max, IntKind.signed, IntKind.bits, Bool.and_eq_true, decide_eq_true_eq]
  simp
  omega

/-- strings.IndexByte -/
theorem w51 (l : List UInt8) (c : Int) : Pure Try.prog 51 [.str l, .int .u8 c] (· = .int .i64 (Lib.indexByte l c.toNat.toUInt8)) := by
  refine ⟨enters' Try.func51 rfl rfl, fun μ w vs hs hr => ?_⟩
  obtain ⟨x, xs, rfl, ⟨rfl, hl⟩, y, ys, rfl, ⟨rfl, _⟩, hn⟩ := hr
  cases hn
  refine (Try.strings_IndexByte ⟨l.toArray⟩ c w).mono ?_
  rintro e w' ⟨rfl, rfl⟩
  exact ⟨_, _, [], μ, rfl, ⟨rfl, trivial, rfl⟩, hs, ⟨by simp, idx_wf l _ hl⟩, Evo.refl _ _⟩
end Go.AW

namespace Go.Proofs
open Go

def Try.sortS_ren : Go.Shelf.Ren := ⟨fun | 6 => 45 | 8 => 93 | 9 => 92 | 19 => 140 | 20 => 141 | 21 => 132 | 22 => 133 | 23 => 134 | 24 => 135 | 25 => 136 | 26 => 137 | 27 => 83 | 28 => 138 | 29 => 139 | 36 => 163 | 31 => 164 | 32 => 165 | 37 => 166 | 38 => 167 | 39 => 128 | 41 => 182 | n => n, fun | 27 => 30 | 29 => 9 | 3 => 3 | 32 => 121 | 26 => 30 | 0 => 0 | 44 => 149 | 46 => 147 | 4 => 4 | 36 => 170 | 35 => 169 | 41 => 174 | 5 => 5 | 9 => 9 | 53 => 196 | 57 => 183 | 63 => 218 | 64 => 99 | n => n, fun | n => n⟩
theorem Try.sortS : Go.Proofs.SlLaysM.n6 Try.prog Try.sortS_ren where
  mixed := by kernel_rfl
  f6 := ⟨"slices.Sort[[]string,string]", by decide, Try.func45.trans (congrArg some (by kernel_rfl))⟩
  f8 := Try.func93.trans (congrArg some (by kernel_rfl))
  f9 := ⟨"slices.pdqsortOrdered[string]", by decide, Try.func92.trans (congrArg some (by kernel_rfl))⟩
  f19 := Try.func140.trans (congrArg some (by kernel_rfl))
  f20 := Try.func141.trans (congrArg some (by kernel_rfl))
  f21 := ⟨"slices.insertionSortOrdered[string]", by decide, Try.func132.trans (congrArg some (by kernel_rfl))⟩
  f22 := ⟨"slices.heapSortOrdered[string]", by decide, Try.func133.trans (congrArg some (by kernel_rfl))⟩
  f23 := ⟨"slices.breakPatternsOrdered[string]", by decide, Try.func134.trans (congrArg some (by kernel_rfl))⟩
  f24 := ⟨"slices.choosePivotOrdered[string]", by decide, Try.func135.trans (congrArg some (by kernel_rfl))⟩
  f25 := ⟨"slices.reverseRangeOrdered[string]", by decide, Try.func136.trans (congrArg some (by kernel_rfl))⟩
  f26 := ⟨"slices.partialInsertionSortOrdered[string]", by decide, Try.func137.trans (congrArg some (by kernel_rfl))⟩
  f27 := ⟨"cmp.Less[string]", by decide, Try.func83.trans (congrArg some (by kernel_rfl))⟩
  f28 := ⟨"slices.partitionEqualOrdered[string]", by decide, Try.func138.trans (congrArg some (by kernel_rfl))⟩
  f29 := ⟨"slices.partitionOrdered[string]", by decide, Try.func139.trans (congrArg some (by kernel_rfl))⟩
  f31 := Try.func164.trans (congrArg some (by kernel_rfl))
  f32 := Try.func165.trans (congrArg some (by kernel_rfl))
  f36 := ⟨"slices.siftDownOrdered[string]", by decide, Try.func163.trans (congrArg some (by kernel_rfl))⟩
  f37 := ⟨"slices.medianAdjacentOrdered[string]", by decide, Try.func166.trans (congrArg some (by kernel_rfl))⟩
  f38 := ⟨"slices.medianOrdered[string]", by decide, Try.func167.trans (congrArg some (by kernel_rfl))⟩
  f39 := ⟨"cmp.isNaN[string]", by decide, Try.func128.trans (congrArg some (by kernel_rfl))⟩
  f41 := ⟨"slices.order2Ordered[string]", by decide, Try.func182.trans (congrArg some (by kernel_rfl))⟩
  t0 := Try.underlying0
  a0 := Try.isAgg0
  z0 := Try.sizeOf0
  v0 := Try.zeroValue0
  t3 := Try.underlying3
  a3 := Try.isAgg3
  z3 := Try.sizeOf3
  v3 := Try.zeroValue3
  t4 := Try.underlying4
  a4 := Try.isAgg4
  z4 := Try.sizeOf4
  v4 := Try.zeroValue4
  t5 := Try.underlying5
  a5 := Try.isAgg5
  z5 := Try.sizeOf5
  v5 := Try.zeroValue5
  t9 := Try.underlying9
  a9 := Try.isAgg9
  z9 := Try.sizeOf9
  v9 := Try.zeroValue9
  t26 := Try.underlying30
  a26 := Try.isAgg30
  z26 := Try.sizeOf30
  v26 := Try.zeroValue30
  t27 := Try.underlying30
  a27 := Try.isAgg30
  z27 := Try.sizeOf30
  v27 := Try.zeroValue30
  t29 := Try.underlying9
  a29 := Try.isAgg9
  z29 := Try.sizeOf9
  v29 := Try.zeroValue9
  t32 := Try.underlying121
  a32 := Try.isAgg121
  z32 := Try.sizeOf121
  v32 := Try.zeroValue121
  t35 := Try.underlying169
  a35 := Try.isAgg169
  z35 := Try.sizeOf169
  v35 := Try.zeroValue169
  t36 := Try.underlying170
  a36 := Try.isAgg170
  z36 := Try.sizeOf170
  v36 := Try.zeroValue170
  t41 := Try.underlying174
  a41 := Try.isAgg174
  z41 := Try.sizeOf174
  v41 := Try.zeroValue174
  t44 := Try.underlying149
  a44 := Try.isAgg149
  z44 := Try.sizeOf149
  v44 := Try.zeroValue149
  t46 := Try.underlying147
  a46 := Try.isAgg147
  z46 := Try.sizeOf147
  v46 := Try.zeroValue147
  t53 := Try.underlying196
  a53 := Try.isAgg196
  z53 := Try.sizeOf196
  v53 := Try.zeroValue196
  t57 := Try.underlying183
  a57 := Try.isAgg183
  z57 := Try.sizeOf183
  v57 := Try.zeroValue183
  t63 := Try.underlying218
  a63 := Try.isAgg218
  z63 := Try.sizeOf218
  v63 := Try.zeroValue218
  t64 := Try.underlying99
  a64 := Try.isAgg99
  z64 := Try.sizeOf99
  v64 := Try.zeroValue99
def Try.sortI_ren : Go.Shelf.Ren := ⟨fun | 5 => 179 | 8 => 93 | 7 => 187 | 19 => 140 | 20 => 141 | 10 => 191 | 11 => 192 | 12 => 193 | 13 => 194 | 14 => 195 | 15 => 196 | 16 => 197 | 17 => 198 | 18 => 199 | 30 => 200 | 31 => 164 | 32 => 165 | 33 => 201 | 34 => 202 | 35 => 188 | 40 => 203 | n => n, fun | 23 => 42 | 25 => 3 | 3 => 3 | 32 => 121 | 22 => 42 | 0 => 0 | 44 => 149 | 46 => 147 | 4 => 4 | 36 => 170 | 35 => 169 | 41 => 174 | 5 => 5 | 9 => 9 | 53 => 196 | 57 => 183 | 63 => 218 | 64 => 99 | n => n, fun | n => n⟩
theorem Try.sortI : Go.Proofs.SlLaysM.n5 Try.prog Try.sortI_ren where
  mixed := by kernel_rfl
  f5 := ⟨"slices.Sort[[]int,int]", by decide, Try.func179.trans (congrArg some (by kernel_rfl))⟩
  f7 := ⟨"slices.pdqsortOrdered[int]", by decide, Try.func187.trans (congrArg some (by kernel_rfl))⟩
  f8 := Try.func93.trans (congrArg some (by kernel_rfl))
  f10 := ⟨"slices.insertionSortOrdered[int]", by decide, Try.func191.trans (congrArg some (by kernel_rfl))⟩
  f11 := ⟨"slices.heapSortOrdered[int]", by decide, Try.func192.trans (congrArg some (by kernel_rfl))⟩
  f12 := ⟨"slices.breakPatternsOrdered[int]", by decide, Try.func193.trans (congrArg some (by kernel_rfl))⟩
  f13 := ⟨"slices.choosePivotOrdered[int]", by decide, Try.func194.trans (congrArg some (by kernel_rfl))⟩
  f14 := ⟨"slices.reverseRangeOrdered[int]", by decide, Try.func195.trans (congrArg some (by kernel_rfl))⟩
  f15 := ⟨"slices.partialInsertionSortOrdered[int]", by decide, Try.func196.trans (congrArg some (by kernel_rfl))⟩
  f16 := ⟨"cmp.Less[int]", by decide, Try.func197.trans (congrArg some (by kernel_rfl))⟩
  f17 := ⟨"slices.partitionEqualOrdered[int]", by decide, Try.func198.trans (congrArg some (by kernel_rfl))⟩
  f18 := ⟨"slices.partitionOrdered[int]", by decide, Try.func199.trans (congrArg some (by kernel_rfl))⟩
  f19 := Try.func140.trans (congrArg some (by kernel_rfl))
  f20 := Try.func141.trans (congrArg some (by kernel_rfl))
  f30 := ⟨"slices.siftDownOrdered[int]", by decide, Try.func200.trans (congrArg some (by kernel_rfl))⟩
  f31 := Try.func164.trans (congrArg some (by kernel_rfl))
  f32 := Try.func165.trans (congrArg some (by kernel_rfl))
  f33 := ⟨"slices.medianAdjacentOrdered[int]", by decide, Try.func201.trans (congrArg some (by kernel_rfl))⟩
  f34 := ⟨"slices.medianOrdered[int]", by decide, Try.func202.trans (congrArg some (by kernel_rfl))⟩
  f35 := ⟨"cmp.isNaN[int]", by decide, Try.func188.trans (congrArg some (by kernel_rfl))⟩
  f40 := ⟨"slices.order2Ordered[int]", by decide, Try.func203.trans (congrArg some (by kernel_rfl))⟩
  t0 := Try.underlying0
  a0 := Try.isAgg0
  z0 := Try.sizeOf0
  v0 := Try.zeroValue0
  t3 := Try.underlying3
  a3 := Try.isAgg3
  z3 := Try.sizeOf3
  v3 := Try.zeroValue3
  t4 := Try.underlying4
  a4 := Try.isAgg4
  z4 := Try.sizeOf4
  v4 := Try.zeroValue4
  t5 := Try.underlying5
  a5 := Try.isAgg5
  z5 := Try.sizeOf5
  v5 := Try.zeroValue5
  t9 := Try.underlying9
  a9 := Try.isAgg9
  z9 := Try.sizeOf9
  v9 := Try.zeroValue9
  t22 := Try.underlying42
  a22 := Try.isAgg42
  z22 := Try.sizeOf42
  v22 := Try.zeroValue42
  t23 := Try.underlying42
  a23 := Try.isAgg42
  z23 := Try.sizeOf42
  v23 := Try.zeroValue42
  t25 := Try.underlying3
  a25 := Try.isAgg3
  z25 := Try.sizeOf3
  v25 := Try.zeroValue3
  t32 := Try.underlying121
  a32 := Try.isAgg121
  z32 := Try.sizeOf121
  v32 := Try.zeroValue121
  t35 := Try.underlying169
  a35 := Try.isAgg169
  z35 := Try.sizeOf169
  v35 := Try.zeroValue169
  t36 := Try.underlying170
  a36 := Try.isAgg170
  z36 := Try.sizeOf170
  v36 := Try.zeroValue170
  t41 := Try.underlying174
  a41 := Try.isAgg174
  z41 := Try.sizeOf174
  v41 := Try.zeroValue174
  t44 := Try.underlying149
  a44 := Try.isAgg149
  z44 := Try.sizeOf149
  v44 := Try.zeroValue149
  t46 := Try.underlying147
  a46 := Try.isAgg147
  z46 := Try.sizeOf147
  v46 := Try.zeroValue147
  t53 := Try.underlying196
  a53 := Try.isAgg196
  z53 := Try.sizeOf196
  v53 := Try.zeroValue196
  t57 := Try.underlying183
  a57 := Try.isAgg183
  z57 := Try.sizeOf183
  v57 := Try.zeroValue183
  t63 := Try.underlying218
  a63 := Try.isAgg218
  z63 := Try.sizeOf218
  v63 := Try.zeroValue218
  t64 := Try.underlying99
  a64 := Try.isAgg99
  z64 := Try.sizeOf99
  v64 := Try.zeroValue99
end Go.Proofs

namespace Go.AW
open Go Go.Proofs Go.Sort

theorem repL_map {α : Type} {w : World} {μ : Mu} {f : α → HV} {g : α → Value} : ∀ {l : List α}, RepL w μ (l.map f) (l.map g) ↔ ∀ x ∈ l, Rep w μ (f x) (g x)
  | [] => by simp [RepL]
  | a :: l => by
    simp only [List.map_cons, RepL, List.mem_cons, forall_eq_or_imp]
    constructor
    · rintro ⟨x, xs, e, h1, h2⟩
      cases e
      exact ⟨h1, repL_map.1 h2⟩
    · exact fun ⟨h1, h2⟩ => ⟨_, _, rfl, h1, repL_map.2 h2⟩

theorem sorted_world {α : Type} [Inhabited α] {enc : α → Value} {f : α → HV} (hf1 : ∀ x, (f x).one = true) {w : World} {μ : Mu} {H : Heap} {id ver b k : Nat} {e : TypeId} {l d : List α} (hs : SR w μ H) (hg : hget H id = some (ver, .arr k e (l.map f)))
    (hl : μ.loc id = some (ver, some b)) (hrep : ∀ x ∈ l, Rep w μ (f x) (enc x)) (hor : OR w μ (.arr k e (l.map f)) (some b)) (hv : ∀ vs, RepL w μ (l.map f) vs → vs = l.map enc) (hp : d.Perm l) (n : Nat) (os : Array Obj) :
    SR (grow (putRow enc (Sort.ahead w n) b 0 d.toArray) os) μ (hset H id ver (.arr k e (d.map f))) ∧ Evo w μ (grow (putRow enc (Sort.ahead w n) b 0 d.toArray) os) μ := by
  obtain ⟨h0, cur, vs, rest, hrow, hcl, hrl⟩ := hor
  have hvs := hv vs hrl
  subst hvs
  have hlen : d.length = l.length := hp.length_eq
  have hcsz : cur.size = l.length + rest.length := by rw [← Array.length_toList, hcl]; simp
  -- the world with the row put
  have hb := hrow.lt
  obtain ⟨lo, hi, hbk, hfr⟩ := hrow
  have hbk' : (putRow enc (Sort.ahead w n) b 0 d.toArray).heap[b]? = some (.cells (putCells enc 0 d.toArray cur) e (lo, hi)) := by
    show (w.heap.modify b _)[b]? = _
    rw [Array.getElem?_modify, if_pos rfl, hbk]
    rfl
  have hcur' : (putCells enc 0 d.toArray cur).toList = d.map enc ++ rest := by
    apply List.ext_getElem?
    intro i
    rw [Array.getElem?_toList]
    simp only [putCells, Array.getElem?_mapIdx]
    have hc : cur[i]? = (l.map enc ++ rest)[i]? := by rw [← hcl, Array.getElem?_toList]
    rw [hc]
    rcases Nat.lt_or_ge i d.length with hi | hi
    · rw [List.getElem?_append_left (by simp; omega), List.getElem?_append_left (by simpa using hi), List.getElem?_map, List.getElem?_map, List.getElem?_eq_getElem (by omega : i < l.length), List.getElem?_eq_getElem hi]
      simp only [Option.map_some]
      rw [if_pos ⟨Nat.zero_le _, by simpa using hi⟩]
      simp [hi]
    · rw [List.getElem?_append_right (by simp; omega), List.getElem?_append_right (by simpa using hi)]
      simp only [List.length_map, hlen]
      cases rest[i - l.length]? with
      | none => rfl
      | some x =>
        simp only [Option.map_some]
        rw [if_neg (by simp; omega)]
  have hsz1 : (putRow enc (Sort.ahead w n) b 0 d.toArray).heap.size = w.heap.size := by rw [size_putRow]; rfl
  have hrow1 : Row (putRow enc (Sort.ahead w n) b 0 d.toArray) b (putCells enc 0 d.toArray cur) e := ⟨lo, hi, hbk', by simpa [putCells] using hfr⟩
  have hold : ∀ b', b' ≠ b → (putRow enc (Sort.ahead w n) b 0 d.toArray).heap[b']? = w.heap[b']? := fun b' hne => by
    show (w.heap.modify b _)[b']? = _
    rw [Array.getElem?_modify, if_neg (fun e => hne e.symm)]
  obtain ⟨h1, h2⟩ := hs.updArr (cs' := d.map f) (w' := putRow enc (Sort.ahead w n) b 0 d.toArray) hg hl ⟨rfl, rfl, rfl⟩ hsz1 hold ⟨lo, hi, hbk, hfr⟩ hrow1 (by simp [putCells]) fun E => by
    refine ⟨fun c hc => ?_, _, d.map enc, rest, hrow1, hcur', repL_map.2 fun x hx => Rep.evo E hs.ok _ _ (hrep x (hp.mem_iff.1 hx))⟩
    obtain ⟨x, _, rfl⟩ := List.mem_map.1 hc
    exact hf1 x
  have g : Grow (putRow enc (Sort.ahead w n) b 0 d.toArray) (grow (putRow enc (Sort.ahead w n) b 0 d.toArray) os) :=
    ⟨⟨rfl, rfl, rfl⟩, by rw [size_grow]; omega, fun b' hb' => by
      show (_ ++ os)[b']? = _
      rw [Array.getElem?_append_left hb']⟩
  exact ⟨h1.grow g, h2.trans (Evo.grow h1 g)⟩

theorem holds_row {α : Type} [Inhabited α] {enc : α → Value} {w : World} {b : Nat} {cur : Array Value} {e : TypeId} {l : List α} {rest : List Value} (hrow : Row w b cur e) (hcl : cur.toList = l.map enc ++ rest) : Holds enc w b 0 l.toArray := by
  intro j hj
  have hj' : j < l.length := by simpa using hj
  have hc : cur[j]? = some (enc l[j]) := by
    rw [← Array.getElem?_toList, hcl, List.getElem?_append_left (by simpa using hj'), List.getElem?_map, List.getElem?_eq_getElem hj']
    rfl
  refine ⟨?_, ?_⟩
  · rw [Nat.zero_add, hrow.cell, hc]
    simp [hj']
  · rw [Nat.zero_add]
    exact hrow.free (Array.getElem?_eq_some_iff.1 hc).1

theorem repL_strs {w : World} {μ : Mu} : ∀ {l : List (List UInt8)} {vs : List Value}, RepL w μ (l.map .str) vs → vs = l.map encStr ∧ ∀ x ∈ l, Rep w μ (.str x) (encStr x)
  | [], vs, h => by simp only [List.map_nil, RepL] at h; subst h; exact ⟨rfl, by simp⟩
  | a :: l, vs, ⟨x, xs, e, h1, h2⟩ => by
    obtain ⟨h3, h4⟩ := repL_strs h2
    obtain ⟨rfl, hl⟩ := h1
    subst e
    rw [h3]
    exact ⟨rfl, by simpa using ⟨⟨rfl, hl⟩, h4⟩⟩

theorem repL_ints {w : World} {μ : Mu} : ∀ {l : List Int} {vs : List Value}, RepL w μ (l.map (.int .i64)) vs → vs = l.map (Value.int .i64) ∧ ∀ x ∈ l, Rep w μ (.int .i64 x) (Value.int .i64 x)
  | [], vs, h => by simp only [List.map_nil, RepL] at h; subst h; exact ⟨rfl, by simp⟩
  | a :: l, vs, ⟨x, xs, e, h1, h2⟩ => by
    obtain ⟨h3, h4⟩ := repL_ints h2
    obtain ⟨rfl, hl⟩ := h1
    subst e
    rw [h3]
    exact ⟨rfl, by simpa using ⟨⟨rfl, hl⟩, h4⟩⟩

/-- slices.Sort of texts, in place -/
theorem w45 {H : Heap} {id ver : Nat} {e : TypeId} {l : List (List UInt8)} {K : HV → Heap → Prop} (hg : hget H id = some (ver, .arr 1 e (l.map .str))) (hlen : l.length < 4611686018427387904)
    (hK : K (.tup []) (hset H id ver (.arr 1 e ((sortS l).map .str)))) : ACall Try.prog 45 [.ar id ver 1 0 l.length] H K := by
  refine ⟨enters' Try.func45 rfl rfl, fun μ w vs hs hr => ?_⟩
  obtain ⟨x, xs, rfl, hr, hn⟩ := hr
  cases hn
  obtain ⟨lo, hl, hor⟩ := hs.has _ _ _ hg
  rcases hr with ⟨lo', hl', h⟩ | ⟨hd, _⟩
  · rw [hl] at hl'
    cases hl'
    rcases h with ⟨rfl, rfl, h0, _⟩ | ⟨b, cap, cur, e', rfl, rfl, hcap, _, hrow, hsz⟩
    · have h0' : l = [] := List.eq_nil_of_length_eq_zero h0
      subst h0'
      refine (AnyM.slices_Sort_string_none Try.sortS none 0 w).mono ?_
      rintro e' w' ⟨rfl, rfl⟩
      have hset_same : SR w' μ (hset H id ver (.arr 1 e ((sortS []).map .str))) := by
        refine ⟨hs.ok, fun j v o ho => ?_, fun j x hx => ?_, hs.inj, hs.held⟩
        · rw [hget_hset] at ho
          split at ho
          · rename_i ej; subst ej; cases ho; exact ⟨none, hl, by show (sortS []).map HV.str = []; simp [sortS]⟩
          · exact hs.has _ _ _ ho
        · rw [hget_hset]
          split
          · exact ⟨_, rfl⟩
          · exact hs.only _ _ hx
      exact ⟨_, .tup [], _, μ, rfl, hK, hset_same, ⟨[], rfl, rfl⟩, Evo.refl _ _⟩
    · have hor' := hor
      obtain ⟨h0, cur', vs', rest, hrow', hcl, hrl⟩ := hor
      obtain ⟨hvs, hreps⟩ := repL_strs hrl
      subst hvs
      refine (AnyM.slices_Sort_string Try.sortS b 0 cap l w (holds_row hrow' hcl) hrow'.lt hlen).mono ?_
      rintro e2 w' ⟨rfl, n, os, rfl⟩
      obtain ⟨h1, h2⟩ := sorted_world (f := HV.str) (fun _ => rfl) hs hg hl hreps hor' (fun vs hv => (repL_strs hv).1) (List.mergeSort_perm l _) n os
      exact ⟨_, .tup [], _, μ, rfl, hK, h1, ⟨[], rfl, rfl⟩, h2⟩
  · exact absurd hl (hd.2 lo)

/-- .. of no text at all -/
theorem w45n {H : Heap} {K : HV → Heap → Prop} (hK : K (.tup []) H) : ACall Try.prog 45 [.v (.slice none 0 0)] H K := by
  refine ⟨enters' Try.func45 rfl rfl, fun μ w vs hs hr => ?_⟩
  obtain ⟨x, xs, rfl, hr, hn⟩ := hr
  cases hn
  cases hr
  refine (AnyM.slices_Sort_string_none Try.sortS none 0 w).mono ?_
  rintro e' w' ⟨rfl, rfl⟩
  exact ⟨_, .tup [], _, μ, rfl, hK, hs, ⟨[], rfl, rfl⟩, Evo.refl _ _⟩

theorem sorts45 : SortsS Try.prog 45 := ⟨fun _ _ _ _ _ _ hg hl hK => w45 hg hl hK, fun _ _ hK => w45n hK⟩

/-- slices.Sort of numbers, in place -/
theorem w179 {H : Heap} {id ver : Nat} {e : TypeId} {l : List Int} {K : HV → Heap → Prop} (hg : hget H id = some (ver, .arr 1 e (l.map (.int .i64)))) (hlen : l.length < 4611686018427387904)
    (hK : K (.tup []) (hset H id ver (.arr 1 e ((sortI l).map (.int .i64))))) : ACall Try.prog 179 [.ar id ver 1 0 l.length] H K := by
  refine ⟨enters' Try.func179 rfl rfl, fun μ w vs hs hr => ?_⟩
  obtain ⟨x, xs, rfl, hr, hn⟩ := hr
  cases hn
  obtain ⟨lo, hl, hor⟩ := hs.has _ _ _ hg
  rcases hr with ⟨lo', hl', h⟩ | ⟨hd, _⟩
  · rw [hl] at hl'
    cases hl'
    rcases h with ⟨rfl, rfl, h0, _⟩ | ⟨b, cap, cur, e', rfl, rfl, hcap, _, hrow, hsz⟩
    · have h0' : l = [] := List.eq_nil_of_length_eq_zero h0
      subst h0'
      refine (AnyM.slices_Sort_int_none Try.sortI none 0 w).mono ?_
      rintro e' w' ⟨rfl, rfl⟩
      refine ⟨_, .tup [], _, μ, rfl, hK, ?_, ⟨[], rfl, rfl⟩, Evo.refl _ _⟩
      have : (sortI []).map (HV.int .i64) = [] := by simp [sortI]
      rw [this]
      exact hs.same hg
    · have hor' := hor
      obtain ⟨h0, cur', vs', rest, hrow', hcl, hrl⟩ := hor
      obtain ⟨hvs, hreps⟩ := repL_ints hrl
      subst hvs
      refine (AnyM.slices_Sort_int Try.sortI b 0 cap l w (holds_row hrow' hcl) hrow'.lt hlen).mono ?_
      rintro e2 w' ⟨rfl, n, os, rfl⟩
      obtain ⟨h1, h2⟩ := sorted_world (f := HV.int .i64) (fun _ => rfl) hs hg hl hreps hor' (fun vs hv => (repL_ints hv).1) (List.mergeSort_perm l _) n os
      exact ⟨_, .tup [], _, μ, rfl, hK, h1, ⟨[], rfl, rfl⟩, h2⟩
  · exact absurd hl (hd.2 lo)

theorem sorts179 : SortsI Try.prog 179 := by
  refine ⟨fun _ _ _ _ _ _ hg hl hK => w179 hg hl hK, fun H K hK => ⟨enters' Try.func179 rfl rfl, fun μ w vs hs hr => ?_⟩⟩
  obtain ⟨x, xs, rfl, hr, hn⟩ := hr
  cases hn
  cases hr
  refine (AnyM.slices_Sort_int_none Try.sortI none 0 w).mono ?_
  rintro e' w' ⟨rfl, rfl⟩
  exact ⟨_, .tup [], _, μ, rfl, hK, hs, ⟨[], rfl, rfl⟩, Evo.refl _ _⟩
end Go.AW

namespace Go.AW
open Go Go.Proofs
theorem fw24_0 : fieldOf Try.prog 24 0 = some (0, { desc := TypeDesc.int .i64, size := 1, bytes := 8, zero := Value.int .i64 0 }) := by kernel_rfl
theorem fw24_1 : fieldOf Try.prog 24 1 = some (1, { desc := TypeDesc.int .i64, size := 1, bytes := 8, zero := Value.int .i64 0 }) := by kernel_rfl
theorem fw24_2 : fieldOf Try.prog 24 2 = some (2, { desc := TypeDesc.slice 66, size := 1, bytes := 24, zero := Value.slice none 0 0 }) := by kernel_rfl
theorem fw66_0 : fieldOf Try.prog 66 0 = some (0, { desc := TypeDesc.int .i64, size := 1, bytes := 8, zero := Value.int .i64 0 }) := by kernel_rfl
theorem fw66_1 : fieldOf Try.prog 66 1 = some (1, { desc := TypeDesc.int .i64, size := 1, bytes := 8, zero := Value.int .i64 0 }) := by kernel_rfl
theorem fw66_2 : fieldOf Try.prog 66 2 = some (2, { desc := TypeDesc.int .i64, size := 1, bytes := 8, zero := Value.int .i64 0 }) := by kernel_rfl
attribute [go_sem high] fw24_0 fw24_1 fw24_2 fw66_0 fw66_1 fw66_2
end Go.AW

namespace Go.AW
open Go Go.Proofs

theorem hget_0 {id v : Nat} {o : AObj} {H : Heap} : hget ((id, v, o) :: H) id = some (v, o) := by simp [hget]

set_option linter.unusedSimpArgs false
set_option maxHeartbeats 1000000 in
/-- language.list: the words of n letters, each with its ends -/
theorem w79 {L n : Nat} {gS gE : HV} {stp : List Int → UInt8 → List Int} {set : List Int} {A : List Int → Prop} (hL : L ≤ 16) (h1g : gS.one = true) (h1e : gE.one = true) (hA0 : A set) (hA : ∀ a c, A a → c ∈ letters.take L → A (stp a c))
    (hstep : ∀ a c, A a → c ∈ letters.take L → Pure Try.prog 125 [.agg [num L, gS, gE], ints a, .int .u8 c.toNat] (· = ints (stp a c))) :
    ACall Try.prog 79 [.agg [num L, gS, gE], ints set, num n] [] fun r H' =>
      ((∀ j, 1 ≤ j → j ≤ n → (lvl stp (letters.take L) set j).length ≤ 4096) ∧ ∃ id ver es, r = .tup [.mp id ver, .bool true] ∧ H' = [(id, ver, .map es)] ∧ es.Perm ((lvl stp (letters.take L) set n).map ent)) ∨
      (∃ j, 1 ≤ j ∧ j ≤ n ∧ 4096 < (lvl stp (letters.take L) set j).length ∧ r = .tup [.v (.map none), .bool false] ∧ H' = []) := by
  refine ACall.facts (enters' Try.func79 rfl rfl) fun hf => ?_
  have hn : n ≤ 9223372036854775807 := by
    have := fact_num hf.2.2.1
    omega
  refine ACall.of_body Try.func79 rfl rfl (Nat.le_of_ble_eq_true rfl) ?_
  unfold Try.f79
  dsimp only [enumS, Nat.reduceAdd]
  simp only [num] at *
  refine AW.rseq (fid := 79) (mt := []) [1, 2, 3] rfl fun K hK => ?_
  simp only [go_sem, reduceIte, Nat.reduceEqDiff, Int.reduceLE]
  refine hK _ ?_
  clear hK K
  refine AW.rseq (fid := 79) (mt := []) [1, 2, 3, 8] rfl fun K hK => ?_
  simp only [go_sem, reduceIte, Nat.reduceEqDiff, Int.reduceLE]
  intro v0
  refine hK _ ?_
  clear hK K
  refine AW.seq ?_
  refine AW.rseq (fid := 79) (mt := []) [1, 2, 3, 8, 18] rfl fun K hK => ?_
  simp only [go_sem, ints, reduceIte, Nat.reduceEqDiff, Int.reduceLE]
  refine hK _ ?_
  clear hK K
  have h00 : ((0 : Nat) : Int) = 0 := rfl
  refine AW.cjoin2 (fun es : List (List UInt8 × HV) => ⟨[(2, .int .i64 n), (3, .fptr [.int .i64 L, gS, gE] 0), (8, .mp (79 * 1000 + 15) v0)], [(79 * 1000 + 15, v0, .map es)]⟩) (fun es => es = (lvl stp (letters.take L) set 0).map ent) rfl (fun hc => ?_) (fun hc => ?_) ?_
  · have hc : 0 < set.length := by simpa using hc
    refine AW.region (fid := 79) (mt := []) [2, 3, 8] rfl fun K hK => ?_
    simp only [go_sem, reduceIte, Nat.reduceEqDiff, Int.reduceLE, List.length_nil, Nat.zero_le, mput]
    refine hK _ ?_
    clear hK K
    have hne : set ≠ [] := by rintro rfl; simp at hc
    refine ⟨[([], ints set)], by simp [lvl, hne, ent], AS.le_of ⟨rfl, rfl, rfl, trivial⟩ ⟨hget_0, trivial⟩⟩
  · have hc : set = [] := by
      have : ¬ 0 < set.length := by simpa using hc
      exact List.eq_nil_of_length_eq_zero (by omega)
    refine AW.skip ⟨[], by simp [lvl, hc], AS.le_of ⟨rfl, rfl, rfl, trivial⟩ ⟨hget_0, trivial⟩⟩
  rintro es0 rfl
  refine AW.seq ?_
  refine AW.rseq (fid := 79) (mt := []) [3, 8, 21, 22] rfl fun K hK => ?_
  simp only [go_sem, reduceIte, Nat.reduceEqDiff, Int.reduceLE]
  refine hK _ ?_
  clear hK K
  refine AW.block ?_
  refine AW.loopS (fun p : Nat × Nat × Nat × List (List UInt8 × HV) => ⟨[(3, .fptr [.int .i64 L, gS, gE] 0), (8, .mp p.2.1 p.2.2.1), (21, .int .i64 n), (22, .int .i64 p.1)], [(p.2.1, p.2.2.1, .map p.2.2.2)]⟩)
    (fun p => p.1 ≤ n ∧ p.2.2.2.Perm ((lvl stp (letters.take L) set p.1).map ent) ∧ ∀ j, 1 ≤ j → j ≤ p.1 → (lvl stp (letters.take L) set j).length ≤ 4096) (fun p => n - p.1) (0, _, _, _)
    (AS.le_of ⟨rfl, rfl, rfl, rfl, trivial⟩ ⟨rfl, trivial⟩) ⟨Nat.zero_le _, List.Perm.refl _, fun j h1 h2 => by dsimp only at h2; omega⟩ ?_
  rintro ⟨i, aid, av, es⟩ ⟨hi, hes, hsz⟩
  dsimp only at hi hes hsz ⊢
  refine AW.rseq (fid := 79) (mt := []) [3, 8, 21, 22, 23] rfl fun K hK => ?_
  simp only [go_sem, reduceIte, Nat.reduceEqDiff, Int.reduceLE]
  refine hK _ ?_
  clear hK K
  refine AW.cseq rfl (fun hc => ?_) (fun hc => ?_)
  · have hi' := dec_lt hc
    obtain ⟨f, hf1, hf2⟩ : ∃ f : Nat, f * 1000 + 24 ≠ aid ∧ f * 1000 + 26 ≠ aid := ⟨aid + 1, by omega, by omega⟩
    have hf3 := Ne.symm hf1
    have hf4 := Ne.symm hf2
    refine AW.skip ?_
    refine AW.seq (AW.block ?_)
    refine AW.rseq (fid := f) (mt := []) [3, 8, 9, 21, 22] rfl fun K hK => ?_
    simp only [go_sem, reduceIte, Nat.reduceEqDiff, Int.reduceLE, hf1, hf2, hf3, hf4]
    intro nv
    refine hK _ ?_
    clear hK K
    refine AW.seq ?_
    refine AW.rseq (fid := f) (mt := []) [3, 9, 21, 22, 26] rfl fun K hK => ?_
    simp only [go_sem, reduceIte, Nat.reduceEqDiff, Int.reduceLE, hf1, hf2, hf3, hf4, Nat.add_left_cancel_iff]
    refine ⟨hf2, fun iv => hK _ ?_⟩
    clear hK K
    refine AW.block ?_
    have hlk := lvl_keys (stp := stp) (set := set) (cs := letters.take L) (letters_nodup.sublist (List.take_sublist _ _)) i
    refine AW.loopS (fun p : List WS × List WS × List (List UInt8 × HV) × Bool => ⟨[(3, .fptr [.int .i64 L, gS, gE] 0), (9, .mp (f * 1000 + 24) nv), (21, .int .i64 n), (22, .int .i64 i), (26, .it (f * 1000 + 26) iv)],
        [(aid, av, .map es), (f * 1000 + 24, nv, .map p.2.2.1), (f * 1000 + 26, iv, .iter aid av (p.1.map (·.1)) p.2.2.2)]⟩)
      (fun p => (p.1 ++ p.2.1).Perm (lvl stp (letters.take L) set i) ∧ p.2.2.1.Perm ((p.1.flatMap (ext1 stp (letters.take L))).map ent) ∧ (p.1.flatMap (ext1 stp (letters.take L))).length ≤ 4096) (fun p => p.2.1.length) ([], lvl stp (letters.take L) set i, [], false)
      (AS.le_of ⟨rfl, rfl, rfl, rfl, rfl, trivial⟩ ⟨hget_0, by simp [hget, hf1, hf2, hf3, hf4], by simp [hget, hf1, hf2, hf3, hf4], trivial⟩) ⟨List.Perm.refl _, List.Perm.refl _, Nat.zero_le _⟩ ?_
    rintro ⟨vis, rest, es', cur⟩ ⟨hvr, hes', hlen⟩
    dsimp only at hvr hes' hlen ⊢
    refine AW.rseq (fid := f) (mt := []) [3, 9, 21, 22, 26, 28] rfl fun K hK => ?_
    simp only [go_sem, reduceIte, Nat.reduceEqDiff, Int.reduceLE, hf1, hf2, hf3, hf4, Nat.add_left_cancel_iff]
    refine ⟨fun hall => hK _ ?_, fun k v hkv hks => hK _ ?_⟩
    · clear hK K
      have hr := rest_nil hlk hvr hes hall
      subst hr
      rw [List.append_nil] at hvr
      have hnx : es'.Perm ((lvl stp (letters.take L) set (i + 1)).map ent) := hes'.trans ((perm_flat hvr).map ent)
      have hln : (lvl stp (letters.take L) set (i + 1)).length ≤ 4096 := by
        have := (perm_flat (stp := stp) (cs := letters.take L) hvr).length_eq
        show ((lvl stp (letters.take L) set i).flatMap _).length ≤ 4096
        omega
      have hsz' : ∀ j, 1 ≤ j → j ≤ i + 1 → (lvl stp (letters.take L) set j).length ≤ 4096 := fun j h1 h2 => by
        rcases Nat.lt_or_ge i j with h | h
        · have : j = i + 1 := by omega
          subst this; exact hln
        · exact hsz j h1 h
      refine AW.cseq rfl (fun hc => by cases hc) (fun _ => ?_)
      refine AW.exit ?_
      refine AW.rseq (fid := f) (mt := []) [3, 8, 21, 22] rfl fun K hK => ?_
      simp only [go_sem, reduceIte, Nat.reduceEqDiff, Int.reduceLE, hf1, hf2, hf3, hf4, Nat.add_left_cancel_iff]
      refine hK _ ?_
      clear hK K
      refine AW.rseq (fid := f) (mt := []) [3, 8, 21, 22, 59] rfl fun K hK => ?_
      simp only [go_sem, reduceIte, Nat.reduceEqDiff, Int.reduceLE, hf1, hf2, hf3, hf4, Nat.add_left_cancel_iff]
      refine ⟨by rw [hes'.length_eq, List.length_map]; simp only [maxLen]; omega, hK _ ?_⟩
      clear hK K
      refine AW.cond rfl (fun hc => ?_) (fun hc => ?_)
      · have h0 : es' = [] := by
          have : (es'.length : Int) = 0 := by simpa using hc
          exact List.eq_nil_of_length_eq_zero (by omega)
        subst h0
        have hl0 : lvl stp (letters.take L) set (i + 1) = [] := by
          have := hnx.length_eq
          simp only [List.length_nil, List.length_map] at this
          exact List.eq_nil_of_length_eq_zero this.symm
        have hlj := @lvl_nil stp (letters.take L) set (i + 1) hl0
        refine AW.exit ?_
        refine AW.rseq (fid := 79) (mt := []) [6, 7] rfl fun K hK => ?_
        simp only [go_sem, reduceIte, Nat.reduceEqDiff, Int.reduceLE, hf1, hf2, hf3, hf4, Nat.add_left_cancel_iff]
        refine hK _ ?_
        clear hK K
        refine AW.ret ⟨.inr rfl, ?_⟩
        simp only [go_sem, reduceIte, Nat.reduceEqDiff]
        refine ⟨_, [(f * 1000 + 24, nv, .map [])], Conv.drop (leH_get ⟨by simp [hget, hf1, hf2, hf3, hf4], trivial⟩), .inl ⟨fun j h1 h2 => ?_, _, _, _, rfl, rfl, ?_⟩⟩
        · rcases Nat.lt_or_ge (i + 1) j with h | h
          · rw [hlj (by omega)]; simp
          · exact hsz' j h1 h
        · rw [hlj (by omega)]; exact List.Perm.refl _
      · refine AW.skip ?_
        refine AW.region (fid := 79) (mt := []) [3, 8, 21, 22] rfl fun K hK => ?_
        simp only [go_sem, reduceIte, Nat.reduceEqDiff, Int.reduceLE]
        refine hK _ ?_
        clear hK K
        refine ⟨(i + 1, f * 1000 + 24, nv, es'), ⟨by dsimp only; omega, hnx, hsz'⟩, by dsimp only; omega, ?_⟩
        dsimp only
        rw [cnt_next hn hi']
        exact AS.le_of ⟨rfl, rfl, rfl, rfl, trivial⟩ ⟨by simp [hget, hf1, hf2, hf3, hf4], trivial⟩
    · clear hK K
      obtain ⟨x, l1, l2, rfl, hx, hvr'⟩ := next_pick hvr hes hkv hks
      cases hx
      have hxl : x ∈ lvl stp (letters.take L) set i := hvr'.mem_iff.1 (by simp)
      have hxA : A x.2 := lvl_all hA0 hA i x hxl
      have hxn : x.1.length = i := lvl_len i x hxl
      refine AW.cseq rfl (fun _ => ?_) (fun hc => by cases hc)
      refine AW.skip ?_
      refine AW.block ?_
      refine AW.rseq (fid := f) (mt := []) [3, 9, 10, 11, 21, 22, 26] rfl fun K hK => ?_
      simp only [go_sem, reduceIte, Nat.reduceEqDiff, Int.reduceLE, hf1, hf2, hf3, hf4, Nat.add_left_cancel_iff]
      refine ⟨_, alook_mem (perm_keys hes hlk) hkv, hK _ ?_⟩
      clear hK K
      refine AW.seq ?_
      refine AW.rseq (fid := f) (mt := []) [3, 9, 10, 11, 21, 22, 26, 33, 34] rfl fun K hK => ?_
      simp only [go_sem, reduceIte, Nat.reduceEqDiff, Int.reduceLE, List.getElem?_cons_zero, Nat.add_zero]
      refine hK _ ?_
      clear hK K
      refine AW.block ?_
      refine AW.loopS (fun p : Nat × List (List UInt8 × HV) => ⟨[(3, .fptr [.int .i64 L, gS, gE] 0), (9, .mp (f * 1000 + 24) nv), (10, .str x.1), (11, ints x.2), (21, .int .i64 n), (22, .int .i64 i), (26, .it (f * 1000 + 26) iv), (33, .int .i64 L), (34, .int .i64 p.1)],
          [(aid, av, .map es), (f * 1000 + 24, nv, .map p.2), (f * 1000 + 26, iv, .iter aid av (x.1 :: vis.map (·.1)) true)]⟩)
        (fun p => p.1 ≤ L ∧ p.2.Perm ((vis.flatMap (ext1 stp (letters.take L)) ++ ext1 stp ((letters.take L).take p.1) x).map ent)) (fun p => L - p.1) (0, es')
        (AS.le_of ⟨rfl, rfl, rfl, rfl, rfl, rfl, rfl, rfl, rfl, trivial⟩ ⟨hget_0, by simp [hget, hf1, hf2, hf3, hf4], by simp [hget, hf1, hf2, hf3, hf4], trivial⟩) ⟨Nat.zero_le _, by simpa [ext1] using hes'⟩ ?_
      rintro ⟨j, es2⟩ ⟨hj, hes2⟩
      dsimp only at hj hes2 ⊢
      refine AW.rseq (fid := f) (mt := []) [3, 9, 10, 11, 21, 22, 26, 33, 34, 35] rfl fun K hK => ?_
      simp only [go_sem, reduceIte, Nat.reduceEqDiff, Int.reduceLE]
      refine hK _ ?_
      clear hK K
      refine AW.cseq rfl (fun hc => ?_) (fun hc => ?_)
      · have hj' := dec_lt hc
        have hjl : j < letters.length := by show j < 16; omega
        have hjt : j < (letters.take L).length := by rw [List.length_take]; exact Nat.lt_min.2 ⟨hj', hjl⟩
        have hcj : (letters.take L)[j] = letters[j] := List.getElem_take
        have hmem : letters[j] ∈ letters.take L := hcj ▸ List.getElem_mem hjt
        refine AW.skip ?_
        refine AW.seq (AW.block ?_)
        refine AW.rseq (fid := f) (mt := []) [3, 9, 10, 11, 12, 21, 22, 26, 33, 34] rfl fun K hK => ?_
        simp only [go_sem, reduceIte, Nat.reduceEqDiff, Int.reduceLE]
        refine hK _ ?_
        clear hK K
        have hlj : ([48, 49, 50, 51, 52, 53, 54, 55, 56, 57, 97, 98, 99, 100, 101, 102] : List UInt8)[j]? = some letters[j] := List.getElem?_eq_getElem (l := letters) hjl
        refine AW.rseq (fid := f) (mt := []) [3, 9, 10, 11, 13, 21, 22, 26, 33, 34] rfl fun K hK => ?_
        simp only [go_sem, reduceIte, Nat.reduceEqDiff, Int.reduceLE, List.length_nil, List.length_cons, Nat.reduceAdd, Nat.reduceLeDiff, hlj]
        refine ⟨by omega, hK _ ?_⟩
        clear hK K
        refine AW.rseq (fid := f) (mt := []) [3, 9, 10, 11, 13, 14, 21, 22, 26, 33, 34] rfl fun K hK => ?_
        simp only [go_sem, reduceIte, Nat.reduceEqDiff, Int.reduceLE, List.length_nil, List.length_cons, Nat.reduceAdd, Nat.reduceLeDiff, List.drop_zero, List.take_succ_cons, List.take_zero]
        refine (hstep x.2 letters[j] hxA hmem).use fun r hr => ?_
        subst hr
        refine hK _ ?_
        clear hK K
        refine AW.rseq (fid := f) (mt := []) [3, 9, 10, 11, 13, 14, 21, 22, 26, 33, 34, 45] rfl fun K hK => ?_
        simp only [go_sem, ints, reduceIte, Nat.reduceEqDiff, Int.reduceLE]
        refine hK _ ?_
        clear hK K
        have hxk : x.1 ∉ vis.map (·.1) := hks
        have htake := ext1_take (stp := stp) x hjt
        rw [hcj] at htake
        refine AW.cond rfl (fun hc => ?_) (fun hc => ?_)
        · have hne : stp x.2 letters[j] ≠ [] := by
            intro h0
            rw [h0] at hc
            simp at hc
          rw [if_neg hne] at htake
          have hnew : alook (x.1 ++ [letters[j]]) es2 = none := hcj ▸ key_new (letters_nodup.sublist (List.take_sublist _ _)) hxk hjt hes2
          refine AW.region (fid := f) (mt := []) [3, 9, 10, 11, 21, 22, 26, 33, 34] rfl fun K hK => ?_
          simp only [go_sem, reduceIte, Nat.reduceEqDiff, Int.reduceLE, hf1, hf2, hf3, hf4, Nat.add_left_cancel_iff, utf_letters _ (List.getElem_mem hjl)]
          refine ⟨by simp only [List.length_cons, List.length_nil, maxLen, hxn]; omega, hf3, hK _ ?_⟩
          clear hK K
          refine AW.region (fid := f) (mt := []) [3, 9, 10, 11, 21, 22, 26, 33, 34] rfl fun K hK => ?_
          simp only [go_sem, reduceIte, Nat.reduceEqDiff, Int.reduceLE]
          refine hK _ ?_
          clear hK K
          refine ⟨(j + 1, mput (x.1 ++ [letters[j]]) (ints (stp x.2 letters[j])) es2), ⟨by dsimp only; omega, ?_⟩, by dsimp only; omega, ?_⟩
          · dsimp only
            rw [mput_new hnew, htake, ← List.append_assoc, List.map_append]
            exact hes2.append (List.Perm.refl _)
          · dsimp only
            rw [cnt_next (by omega) hj']
            exact AS.le_of ⟨rfl, rfl, rfl, rfl, rfl, rfl, rfl, rfl, rfl, trivial⟩ ⟨hget_0, by simp [hget, hf1, hf2, hf3, hf4, ints], by simp [hget, hf1, hf2, hf3, hf4], trivial⟩
        · have he : stp x.2 letters[j] = [] := by
            have : ¬ 0 < (stp x.2 letters[j]).length := by simpa using hc
            exact List.eq_nil_of_length_eq_zero (by omega)
          rw [if_pos he, List.append_nil] at htake
          refine AW.skip ?_
          refine AW.region (fid := f) (mt := []) [3, 9, 10, 11, 21, 22, 26, 33, 34] rfl fun K hK => ?_
          simp only [go_sem, reduceIte, Nat.reduceEqDiff, Int.reduceLE]
          refine hK _ ?_
          clear hK K
          refine ⟨(j + 1, es2), ⟨by dsimp only; omega, ?_⟩, by dsimp only; omega, ?_⟩
          · dsimp only
            rw [htake]
            exact hes2
          · dsimp only
            rw [cnt_next (by omega) hj']
            exact AS.le_of ⟨rfl, rfl, rfl, rfl, rfl, rfl, rfl, rfl, rfl, trivial⟩ ⟨hget_0, by simp [hget, hf1, hf2, hf3, hf4], by simp [hget, hf1, hf2, hf3, hf4], trivial⟩
      · have hj2 := cnt_ge hc hj
        subst hj2
        have htk : (letters.take j).take j = letters.take j := by rw [List.take_take, Nat.min_self]
        rw [htk] at hes2
        have hes3 : es2.Perm (((x :: vis).flatMap (ext1 stp (letters.take j))).map ent) := by
          refine hes2.trans (List.Perm.map _ ?_)
          rw [List.flatMap_cons]
          exact List.perm_append_comm
        refine AW.exit ?_
        refine AW.rseq (fid := f) (mt := []) [3, 9, 21, 22, 26, 55] rfl fun K hK => ?_
        simp only [go_sem, reduceIte, Nat.reduceEqDiff, Int.reduceLE, hf1, hf2, hf3, hf4, Nat.add_left_cancel_iff]
        have hle2 : es2.length = ((x :: vis).flatMap (ext1 stp (letters.take j))).length := by rw [hes3.length_eq, List.length_map]
        have htot : ((x :: vis).flatMap (ext1 stp (letters.take j))).length ≤ (lvl stp (letters.take j) set (i + 1)).length := by
          have := (perm_flat (stp := stp) (cs := letters.take j) hvr').length_eq
          rw [List.flatMap_append, List.length_append] at this
          show _ ≤ ((lvl stp (letters.take j) set i).flatMap _).length
          omega
        have hsmall : es2.length ≤ maxLen := by
          have hb : ∀ (y : WS), (ext1 stp (letters.take j) y).length ≤ 16 := fun y => by
            refine Nat.le_trans (List.length_filterMap_le _ _) ?_
            rw [List.length_take]
            exact Nat.le_trans (Nat.min_le_left _ _) hL
          rw [hle2, List.flatMap_cons, List.length_append]
          have := hb x
          simp only [maxLen]
          omega
        refine ⟨hsmall, hK _ ?_⟩
        clear hK K
        refine AW.cond rfl (fun hc => ?_) (fun hc => ?_)
        · have hbig : 4096 < es2.length := by
            have : (4096 : Int) < es2.length := by simpa using hc
            omega
          refine AW.rseq (fid := 79) (mt := []) [6, 7] rfl fun K hK => ?_
          simp only [go_sem, reduceIte, Nat.reduceEqDiff, Int.reduceLE]
          refine hK _ ?_
          clear hK K
          refine AW.ret ⟨.inr rfl, ?_⟩
          simp only [go_sem, reduceIte, Nat.reduceEqDiff]
          exact ⟨_, [], Conv.drop (fun _ _ h => by cases h), .inr ⟨i + 1, by omega, by omega, by omega, rfl, rfl⟩⟩
        · have hsm : es2.length ≤ 4096 := by
            have : ¬ (4096 : Int) < es2.length := by simpa using hc
            omega
          refine AW.skip ?_
          refine ⟨(x :: vis, l1 ++ l2, es2, true), ⟨hvr', hes3, by dsimp only; omega⟩, by simp, ?_⟩
          exact AS.le_of ⟨rfl, rfl, rfl, rfl, rfl, trivial⟩ ⟨hget_0, by simp [hget, hf1, hf2, hf3, hf4], by simp [hget, hf1, hf2, hf3, hf4], trivial⟩
  · have hi2 := cnt_ge hc hi
    subst hi2
    refine AW.exit ?_
    refine AW.rseq (fid := 79) (mt := []) [6, 7] rfl fun K hK => ?_
    simp only [go_sem, reduceIte, Nat.reduceEqDiff, Int.reduceLE]
    refine hK _ ?_
    clear hK K
    refine AW.ret ⟨.inr rfl, ?_⟩
    simp only [go_sem, reduceIte, Nat.reduceEqDiff]
    exact ⟨_, _, Conv.refl _ _, .inl ⟨hsz, _, _, _, rfl, rfl, hes⟩⟩
end Go.AW

namespace Go.AW
open Go Go.Proofs

theorem pick_key {vis rest ks : List (List UInt8)} {k : List UInt8} (hp : (vis ++ rest).Perm ks) (hm : k ∈ ks) (hk : k ∉ vis) : ∃ l1 l2, rest = l1 ++ k :: l2 ∧ ((k :: vis) ++ (l1 ++ l2)).Perm ks := by
  have hx : k ∈ rest := (List.mem_append.1 (hp.mem_iff.2 hm)).resolve_left hk
  obtain ⟨l1, l2, rfl⟩ := List.append_of_mem hx
  refine ⟨l1, l2, rfl, List.Perm.trans ?_ hp⟩
  have e1 : (k :: vis) ++ (l1 ++ l2) = k :: ((vis ++ l1) ++ l2) := by simp
  have e2 : vis ++ (l1 ++ k :: l2) = (vis ++ l1) ++ k :: l2 := by simp
  rw [e1, e2]
  exact List.perm_middle.symm

theorem no_rest {vis rest ks : List (List UInt8)} (hn : ks.Nodup) (hp : (vis ++ rest).Perm ks) (hall : ∀ k ∈ ks, k ∈ vis) : rest = [] := by
  cases rest with
  | nil => rfl
  | cons x rest =>
    have h1 := hp.nodup_iff.2 hn
    have hx : x ∈ vis := hall x (hp.mem_iff.1 (by simp))
    exact absurd rfl ((List.nodup_append.1 h1).2.2 x hx x (List.mem_cons_self ..))

set_option linter.unusedSimpArgs false
/-- the iterator over a map's keys -/
theorem w127 {f mid mver lid lver : Nat} {es : List (List UInt8 × HV)} {H : Heap} {K : HV → Heap → Prop} (hn : (es.map (·.1)).Nodup) (hne : f * 1000 + 5 ≠ mid) (hm : hget H mid = some (mver, .map es)) (J : Nat → List (List UInt8) → Heap → Prop)
    (hJm : ∀ iv vis H, J iv vis H → hget H mid = some (mver, .map es)) (hJi : ∀ iv vis H, J iv vis H → ∃ cur, hget H (f * 1000 + 5) = some (iv, .iter mid mver vis cur))
    (h0 : ∀ iv, J iv [] (hset H (f * 1000 + 5) iv (.iter mid mver [] false)))
    (hstep : ∀ iv vis k H, J iv vis H → k ∈ es.map (·.1) → k ∉ vis → vis.length < es.length → YCall Try.prog lid lver [.str k] (hset H (f * 1000 + 5) iv (.iter mid mver (k :: vis) true)) fun r H' => r = .bool true ∧ J iv (k :: vis) H')
    (hdone : ∀ iv vis H, J iv vis H → vis.Perm (es.map (·.1)) → K (.tup []) H) : ACall Try.prog 127 [.yl lid lver, .fptr [.mp mid mver] 0] H K := by
  refine ACall.of_body Try.func127 rfl rfl (Nat.le_of_ble_eq_true rfl) ?_
  unfold Try.f127
  dsimp only [enumS, Nat.reduceAdd]
  refine AW.rseq (fid := f) (mt := []) [0, 5] rfl fun K1 hK1 => ?_
  simp only [go_sem, reduceIte, Nat.reduceEqDiff, Int.reduceLE, List.getElem?_cons_zero, hm]
  refine ⟨hne, fun iv => hK1 _ ?_⟩
  clear hK1 K1
  refine AW.block ?_
  refine AW.loopS (fun p : List (List UInt8) × List (List UInt8) × Heap => ⟨[(0, .yl lid lver), (5, .it (f * 1000 + 5) iv)], p.2.2⟩) (fun p => (p.1 ++ p.2.1).Perm (es.map (·.1)) ∧ J iv p.1 p.2.2) (fun p => p.2.1.length) ([], es.map (·.1), _)
    (AS.le_refl _) ⟨List.Perm.refl _, h0 iv⟩ ?_
  rintro ⟨vis, rest, H1⟩ ⟨hp, hj⟩
  dsimp only at hp hj ⊢
  have hm1 := hJm _ _ _ hj
  obtain ⟨cur, hi1⟩ := hJi _ _ _ hj
  refine AW.rseq (fid := f) (mt := []) [0, 5, 7] rfl fun K1 hK1 => ?_
  simp only [go_sem, reduceIte, Nat.reduceEqDiff, Int.reduceLE, hi1, hm1, List.getElem?_cons_zero]
  refine ⟨fun hall => hK1 _ ?_, fun k v hkv hks => hK1 _ ?_⟩
  · clear hK1 K1
    have hr := no_rest hn hp fun k hk => by
      obtain ⟨q, hq, rfl⟩ := List.mem_map.1 hk
      exact hall q hq
    subst hr
    rw [List.append_nil] at hp
    refine AW.cseq rfl (fun hc => by cases hc) (fun _ => ?_)
    refine AW.exit ?_
    refine ⟨.inl rfl, ?_⟩
    simp only [go_sem, reduceIte, Nat.reduceEqDiff]
    exact ⟨_, _, Conv.refl _ _, hdone _ _ _ hj hp⟩
  · clear hK1 K1
    have hk : k ∈ es.map (·.1) := List.mem_map.2 ⟨_, hkv, rfl⟩
    obtain ⟨l1, l2, rfl, hp'⟩ := pick_key hp hk hks
    refine AW.cseq rfl (fun _ => ?_) (fun hc => by cases hc)
    refine AW.skip ?_
    refine AW.block ?_
    refine AW.rseq (fid := f) (mt := []) [0, 3, 5] rfl fun K1 hK1 => ?_
    simp only [go_sem, reduceIte, Nat.reduceEqDiff, Int.reduceLE, hget_hset, hm1, if_neg (Ne.symm hne), List.getElem?_cons_zero]
    refine ⟨v, alook_mem hn hkv, hK1 _ ?_⟩
    clear hK1 K1
    refine AW.rseq (fid := f) (mt := []) [0, 5, 13] rfl fun K1 hK1 => ?_
    simp only [go_sem, reduceIte, Nat.reduceEqDiff, Int.reduceLE]
    refine (hstep iv vis k H1 hj hk hks (by have := hp.length_eq; simp at this; omega)).mono ?_
    rintro r H2 ⟨rfl, hj2⟩
    simp only [go_sem, reduceIte, Nat.reduceEqDiff, Int.reduceLE]
    refine hK1 _ ?_
    clear hK1 K1
    refine AW.cond rfl (fun hc => by cases hc) (fun _ => ?_)
    refine AW.skip ?_
    exact ⟨(k :: vis, l1 ++ l2, H2), ⟨hp', hj2⟩, by simp, ⟨leS_get ⟨rfl, rfl, trivial⟩, fun _ _ h => h⟩⟩

/-- a range over a function, with its record named -/
theorem AW.rangeFuncL {P : Program} {N : Nat} {s : AS} {Q : Exit → AS → Prop} {g : Operand} {ps : Array Tmp} {assign body : Code} {f : FuncId} {fs cs : List HV} (id : Nat) (hg : s.ev g = some (.fn (.func f) fs cs))
    (h : ∀ fn ver (L : LoopState → Option Code → AObj), (∀ st pend, L st pend = .loop st pend fn N s.slots ps assign body) → ACall P f (fs ++ [.yl id ver] ++ cs) (hset s.heap id ver (L .ready none)) fun _ H' =>
      ∃ st pend, hget H' id = some (ver, L st pend) ∧ st ≠ .busy ∧ match pend with
        | none => Q .normal { s with heap := hset H' id ver (L .exhausted none) }
        | some c => AW P none N c Q { s with heap := hset H' id ver (L .exhausted (some c)) }) :
    AW P none N (.rangeFunc g ps assign body) Q s :=
  AW.rangeFunc id hg fun fn ver => h fn ver (fun st pend => .loop st pend fn N s.slots ps assign body) fun _ _ => rfl

set_option maxHeartbeats 1000000 in
/-- slices.AppendSeq of a map's keys to nothing -/
theorem w160 {f mid mver : Nat} {es : List (List UInt8 × HV)} (hn : (es.map (·.1)).Nodup) (hbig : es.length ≤ 1099511627776) (h2 : f * 1000 + 2 ≠ mid) (h5 : f * 1000 + 5 ≠ mid) (h11 : f * 1000 + 11 ≠ mid) (h9 : f * 1000 + 900 ≠ mid) :
    ACall Try.prog 160 [.v (.slice none 0 0), .fn (.func 127) [] [.fptr [.mp mid mver] 0]] [(mid, mver, .map es)] fun r H' => ∃ l, l.Perm (es.map (·.1)) ∧ ((l = [] ∧ r = .v (.slice none 0 0) ∧ H' = []) ∨
      ∃ id av, l ≠ [] ∧ r = .ar id av 1 0 l.length ∧ H' = [(id, av, .arr 1 9 (l.map .str))]) := by
  refine ACall.of_body Try.func160 rfl rfl (Nat.le_of_ble_eq_true rfl) ?_
  unfold Try.f160
  dsimp only [enumS, Nat.reduceAdd]
  refine AW.rseq (fid := f) (mt := [2]) [1, 2] rfl fun K hK => ?_
  simp only [go_sem, reduceIte, Nat.reduceEqDiff, Int.reduceLE, h2]
  intro bv
  refine hK _ ?_
  clear hK K
  refine AW.seq ?_
  refine AW.rseq (fid := f) (mt := [2]) [2, 6] rfl fun K hK => ?_
  simp only [go_sem, reduceIte, Nat.reduceEqDiff, Int.reduceLE]
  refine hK _ ?_
  clear hK K
  refine AW.block ?_
  have n95 : f * 1000 + 900 ≠ f * 1000 + 5 := by simp
  have n92 : f * 1000 + 900 ≠ f * 1000 + 2 := by simp
  have n911 : f * 1000 + 900 ≠ f * 1000 + 11 := by simp
  have n52 : f * 1000 + 5 ≠ f * 1000 + 2 := by simp
  have n511 : f * 1000 + 5 ≠ f * 1000 + 11 := by simp
  have n112 : f * 1000 + 11 ≠ f * 1000 + 2 := by simp
  refine AW.rangeFuncL (f * 1000 + 900) rfl fun fn lver L hL => ?_
  dsimp only [List.length_cons, List.length_nil, Nat.reduceAdd] at hL ⊢
  refine w127 (f := f) hn h5 (by rw [hget_hset, if_neg (Ne.symm h9)]; exact hget_0) (fun iv vis H => hget H mid = some (mver, .map es) ∧ (∃ cur, hget H (f * 1000 + 5) = some (iv, .iter mid mver vis cur)) ∧
    hget H (f * 1000 + 900) = some (lver, L .ready none) ∧
    ((vis = [] ∧ hget H (f * 1000 + 2) = some (bv, .arr 1 30 [.v (.slice none 0 0)])) ∨
      ∃ av, vis ≠ [] ∧ hget H (f * 1000 + 2) = some (bv, .arr 1 30 [.ar (f * 1000 + 11) av 1 0 vis.length]) ∧ hget H (f * 1000 + 11) = some (av, .arr 1 9 (vis.reverse.map .str)))) (fun _ _ _ h => h.1) (fun _ _ _ h => h.2.1) (fun iv => ?_) ?_ ?_
  · simp [hget_hset, hget, hset, h2, h5, h9, h11, Ne.symm h2, Ne.symm h5, Ne.symm h9, Ne.symm h11]
  · rintro iv vis k H1 ⟨hm, ⟨cur, hi⟩, hlp, hac⟩ hk hks hlt
    rw [hL] at hlp
    refine ⟨_, _, _, _, _, _, (by rw [hget_hset, if_neg n95]; exact hlp), rfl, by simp, fun l => ?_⟩
    dsimp only [setPs]
    refine AW.region (fid := f) (mt := [2]) [2, 5] rfl fun K hK => ?_
    simp only [go_sem, reduceIte, Nat.reduceEqDiff, Int.reduceLE]
    refine hK _ ?_
    clear hK K
    refine ⟨rfl, by rw [hget_hset, if_neg n95]; exact hlp, ?_⟩
    refine AW.block ?_
    have fin : ∀ (av : Nat) (H2 : Heap) (o : AObj), o = L .ready none → hget H2 mid = some (mver, .map es) → hget H2 (f * 1000 + 5) = some (iv, .iter mid mver (k :: vis) true) →
        hget H2 (f * 1000 + 2) = some (bv, .arr 1 30 [.ar (f * 1000 + 11) av 1 0 (vis.length + 1)]) → hget H2 (f * 1000 + 11) = some (av, .arr 1 9 ((k :: vis).reverse.map .str)) →
        HV.bool true = .bool true ∧ hget (hset H2 (f * 1000 + 900) lver o) mid = some (mver, .map es) ∧ (∃ cur, hget (hset H2 (f * 1000 + 900) lver o) (f * 1000 + 5) = some (iv, .iter mid mver (k :: vis) cur)) ∧
    hget (hset H2 (f * 1000 + 900) lver o) (f * 1000 + 900) = some (lver, L .ready none) ∧
    ((k :: vis = [] ∧ hget (hset H2 (f * 1000 + 900) lver o) (f * 1000 + 2) = some (bv, .arr 1 30 [.v (.slice none 0 0)])) ∨
      ∃ av, k :: vis ≠ [] ∧ hget (hset H2 (f * 1000 + 900) lver o) (f * 1000 + 2) = some (bv, .arr 1 30 [.ar (f * 1000 + 11) av 1 0 (k :: vis).length]) ∧ hget (hset H2 (f * 1000 + 900) lver o) (f * 1000 + 11) = some (av, .arr 1 9 ((k :: vis).reverse.map .str))) := by
      intro av H2 o ho g1 g2 g4 g5
      refine ⟨rfl, ?_, ⟨true, ?_⟩, ?_, .inr ⟨av, by simp, ?_, ?_⟩⟩
      · rw [hget_hset, if_neg (Ne.symm h9)]; exact g1
      · rw [hget_hset, if_neg (Ne.symm n95)]; exact g2
      · rw [hget_hset, if_pos rfl, ho]
      · rw [hget_hset, if_neg (Ne.symm n92)]; exact g4
      · rw [hget_hset, if_neg (Ne.symm n911)]; exact g5
    have hm2 : maxLen = 9223372036854775807 := rfl
    rcases hac with ⟨rfl, hb⟩ | ⟨av, _, hb, ha⟩
    · refine AW.region (fid := f) (mt := [2]) [2, 5] rfl fun K hK => ?_
      simp only [go_sem, reduceIte, Nat.reduceEqDiff, Int.reduceLE, hget_hset, Nat.add_left_cancel_iff, hb, List.getElem?_cons_zero, Nat.add_zero, List.length_nil, List.length_cons, Nat.zero_le, HV.one, zrep, List.replicate_succ, List.replicate_zero, List.flatten_cons, List.flatten_nil,
        List.set_cons_zero, Option.any_some, Nat.reduceAdd, Nat.reduceMul, Nat.reduceLeDiff, Nat.reduceBEq, Bool.or_false, BEq.rfl, List.take_succ_cons, List.take_zero, List.drop_zero]
      refine ⟨by simp [maxLen], fun av' => hK _ ?_⟩
      clear hK K
      refine ⟨?_, fin av' _ _ (hL _ _).symm ?_ ?_ ?_ ?_⟩
      · rw [hget_hset, if_neg n92, hget_hset, if_neg n911, hget_hset, if_pos rfl]
      · rw [hget_hset, if_neg (Ne.symm h2), hget_hset, if_neg (Ne.symm h11), hget_hset, if_neg (Ne.symm h9), hget_hset, if_neg (Ne.symm h5)]; exact hm
      · rw [hget_hset, if_neg n52, hget_hset, if_neg n511, hget_hset, if_neg (Ne.symm n95), hget_hset, if_pos rfl]
      · rw [hget_hset, if_pos rfl]; rfl
      · rw [hget_hset, if_neg n112, hget_hset, if_pos rfl]; simp
    · refine AW.region (fid := f) (mt := [2]) [2, 5] rfl fun K hK => ?_
      simp only [go_sem, reduceIte, Nat.reduceEqDiff, Int.reduceLE, hget_hset, Nat.add_left_cancel_iff, hb, ha, List.getElem?_cons_zero, Nat.add_zero, List.length_nil, List.length_cons, Nat.zero_le, HV.one, zrep, List.replicate_succ, List.replicate_zero, List.flatten_cons, List.flatten_nil,
        List.set_cons_zero, Option.any_some, Nat.reduceAdd, Nat.reduceMul, Nat.reduceLeDiff, Nat.reduceBEq, Bool.or_false, BEq.rfl, List.take_succ_cons, List.take_zero, List.drop_zero]
      have hb1 : (vis.length + 1) * 16 ≤ 140737488355328 := by clear fin hL hlp; omega
      have hb2 : vis.length + 1 ≤ maxLen := by clear fin hL hlp; omega
      refine ⟨by simp, hb1, hb2, fun av' => hK _ ?_⟩
      clear hK K
      refine ⟨?_, fin av' _ _ (hL _ _).symm ?_ ?_ ?_ ?_⟩
      · rw [hget_hset, if_neg n92, hget_hset, if_neg n911, hget_hset, if_pos rfl]
      · rw [hget_hset, if_neg (Ne.symm h2), hget_hset, if_neg (Ne.symm h11), hget_hset, if_neg (Ne.symm h9), hget_hset, if_neg (Ne.symm h5)]; exact hm
      · rw [hget_hset, if_neg n52, hget_hset, if_neg n511, hget_hset, if_neg (Ne.symm n95), hget_hset, if_pos rfl]
      · rw [hget_hset, if_pos rfl]
      · rw [hget_hset, if_neg n112, hget_hset, if_pos rfl, List.take_of_length_le (by simp)]; simp
  · rintro iv vis H1 ⟨hm, _, hlp, ⟨hv0, hb⟩ | ⟨av, hvn, hb, ha⟩⟩ hp
    · refine ⟨.ready, none, hlp, by simp, ?_⟩
      dsimp only [blockQ, thenQ]
      clear hL
      refine AW.rseq (fid := f) (mt := [2]) [4] rfl fun K hK => ?_
      simp only [go_sem, reduceIte, Nat.reduceEqDiff, Int.reduceLE, hget_hset, Nat.add_left_cancel_iff, hb, List.getElem?_cons_zero]
      refine hK _ ?_
      clear hK K
      refine AW.ret ⟨.inr rfl, ?_⟩
      simp only [go_sem, reduceIte, Nat.reduceEqDiff]
      exact ⟨_, [], Conv.drop (fun _ _ h => by cases h), [], hv0 ▸ hp, .inl ⟨rfl, rfl, rfl⟩⟩
    · refine ⟨.ready, none, hlp, by simp, ?_⟩
      dsimp only [blockQ, thenQ]
      clear hL
      refine AW.rseq (fid := f) (mt := [2]) [4] rfl fun K hK => ?_
      simp only [go_sem, reduceIte, Nat.reduceEqDiff, Int.reduceLE, hget_hset, Nat.add_left_cancel_iff, hb, List.getElem?_cons_zero]
      refine hK _ ?_
      clear hK K
      refine AW.ret ⟨.inr rfl, ?_⟩
      simp only [go_sem, reduceIte, Nat.reduceEqDiff]
      refine ⟨_, [(f * 1000 + 11, av, .arr 1 9 (vis.reverse.map .str))], Conv.drop (leH_get ⟨?_, trivial⟩), vis.reverse, (List.reverse_perm vis).trans hp, .inr ⟨_, av, by simpa using hvn, by rw [List.length_reverse], rfl⟩⟩
      rw [hget_hset, if_neg (Ne.symm n911)]; exact ha
end Go.AW

namespace Go.AW
open Go Go.Proofs

def nilS : HV := .v (.slice none 0 0)
/-- a list of texts as the code makes it: nil if there is none -/
def strsN (l : List (List UInt8)) : HV := if l = [] then nilS else strs l

set_option linter.unusedSimpArgs false
theorem w126 {f mid mver : Nat} {es : List (List UInt8 × HV)} (hn : (es.map (·.1)).Nodup) (hbig : es.length ≤ 1099511627776) (h2 : f * 1000 + 2 ≠ mid) (h5 : f * 1000 + 5 ≠ mid) (h11 : f * 1000 + 11 ≠ mid) (h9 : f * 1000 + 900 ≠ mid) :
    ACall Try.prog 126 [.fn (.func 127) [] [.fptr [.mp mid mver] 0]] [(mid, mver, .map es)] fun r H' => ∃ l, l.Perm (es.map (·.1)) ∧ ((l = [] ∧ r = .v (.slice none 0 0) ∧ H' = []) ∨
      ∃ id av, l ≠ [] ∧ r = .ar id av 1 0 l.length ∧ H' = [(id, av, .arr 1 9 (l.map .str))]) := by
  refine ACall.of_body Try.func126 rfl rfl (Nat.le_of_ble_eq_true rfl) ?_
  unfold Try.f126
  dsimp only [enumS, Nat.reduceAdd]
  refine AW.rseq (fid := f) (mt := []) [0] rfl fun K hK => ?_
  simp only [go_sem, reduceIte, Nat.reduceEqDiff, Int.reduceLE]
  refine hK _ ?_
  clear hK K
  refine AW.rseq (fid := f) (mt := []) [2] rfl fun K hK => ?_
  simp only [go_sem, reduceIte, Nat.reduceEqDiff, Int.reduceLE]
  refine (w160 hn hbig h2 h5 h11 h9).mono ?_
  rintro r H' hr
  refine hK _ ?_
  clear hK K
  refine AW.ret ⟨.inr rfl, ?_⟩
  simp only [go_sem, reduceIte, Nat.reduceEqDiff]
  exact ⟨_, _, Conv.refl _ _, hr⟩

/-- slices.Sorted of a map's keys -/
theorem w81 {f mid mver : Nat} {es : List (List UInt8 × HV)} (hn : (es.map (·.1)).Nodup) (hbig : es.length ≤ 1099511627776) (h2 : f * 1000 + 2 ≠ mid) (h5 : f * 1000 + 5 ≠ mid) (h11 : f * 1000 + 11 ≠ mid) (h9 : f * 1000 + 900 ≠ mid) :
    ACall Try.prog 81 [.fn (.func 127) [] [.fptr [.mp mid mver] 0]] [(mid, mver, .map es)] fun r H' => (es = [] ∧ r = nilS ∧ H' = []) ∨
      ∃ id av, es ≠ [] ∧ r = .ar id av 1 0 es.length ∧ H' = [(id, av, .arr 1 9 ((sortS (es.map (·.1))).map .str))] := by
  refine ACall.of_body Try.func81 rfl rfl (Nat.le_of_ble_eq_true rfl) ?_
  unfold Try.f81
  dsimp only [enumS, Nat.reduceAdd]
  refine AW.rseq (fid := f) (mt := []) [0] rfl fun K hK => ?_
  simp only [go_sem, reduceIte, Nat.reduceEqDiff, Int.reduceLE]
  refine hK _ ?_
  clear hK K
  refine AW.rseq (fid := f) (mt := []) [3] rfl fun K hK => ?_
  simp only [go_sem, reduceIte, Nat.reduceEqDiff, Int.reduceLE]
  refine (w126 hn hbig h2 h5 h11 h9).mono ?_
  rintro r H' ⟨l, hp, ⟨rfl, rfl, rfl⟩ | ⟨id, av, hln, rfl, rfl⟩⟩
  · refine hK _ ?_
    clear hK K
    have he : es = [] := by
      have := hp.length_eq
      simp only [List.length_nil, List.length_map] at this
      exact List.eq_nil_of_length_eq_zero this.symm
    refine AW.rseq (fid := f) (mt := []) [3] rfl fun K hK => ?_
    simp only [go_sem, reduceIte, Nat.reduceEqDiff, Int.reduceLE]
    refine w45n ?_
    refine hK _ ?_
    clear hK K
    refine AW.rseq (fid := f) (mt := []) [2] rfl fun K hK => ?_
    simp only [go_sem, reduceIte, Nat.reduceEqDiff, Int.reduceLE]
    refine hK _ ?_
    clear hK K
    refine AW.ret ⟨.inr rfl, ?_⟩
    simp only [go_sem, reduceIte, Nat.reduceEqDiff]
    exact ⟨_, _, Conv.refl _ _, .inl ⟨he, rfl, rfl⟩⟩
  · refine hK _ ?_
    clear hK K
    have hlen := hp.length_eq
    rw [List.length_map] at hlen
    refine AW.rseq (fid := f) (mt := []) [3] rfl fun K hK => ?_
    simp only [go_sem, reduceIte, Nat.reduceEqDiff, Int.reduceLE]
    refine w45 hget_0 (by omega) ?_
    simp only [go_sem, reduceIte, Nat.reduceEqDiff, Int.reduceLE]
    refine hK _ ?_
    clear hK K
    refine AW.rseq (fid := f) (mt := []) [2] rfl fun K hK => ?_
    simp only [go_sem, reduceIte, Nat.reduceEqDiff, Int.reduceLE]
    refine hK _ ?_
    clear hK K
    refine AW.ret ⟨.inr rfl, ?_⟩
    simp only [go_sem, reduceIte, Nat.reduceEqDiff]
    exact ⟨_, _, Conv.refl _ _, .inr ⟨id, av, by rintro rfl; exact hln (List.eq_nil_of_length_eq_zero hlen), by rw [hlen], by rw [sortS_perm hp]⟩⟩

/-- maps.Keys -/
theorem w82 {id ver : Nat} {H : Heap} {K : HV → Heap → Prop} (hK : K (.fn (.func 127) [] [.fptr [.mp id ver] 0]) H) : ACall Try.prog 82 [.mp id ver] H K := by
  refine ACall.of_body Try.func82 rfl rfl (Nat.le_of_ble_eq_true rfl) ?_
  unfold Try.f82
  dsimp only [enumS, Nat.reduceAdd]
  refine AW.rseq (fid := 82) (mt := []) [1] rfl fun K1 hK1 => ?_
  simp only [go_sem, reduceIte, Nat.reduceEqDiff, Int.reduceLE, HV.one]
  refine hK1 _ ?_
  clear hK1 K1
  refine AW.rseq (fid := 82) (mt := []) [2] rfl fun K1 hK1 => ?_
  simp only [go_sem, reduceIte, Nat.reduceEqDiff, Int.reduceLE]
  refine hK1 _ ?_
  clear hK1 K1
  refine AW.ret ⟨.inr rfl, ?_⟩
  simp only [go_sem, reduceIte, Nat.reduceEqDiff]
  exact ⟨_, _, Conv.refl _ _, hK⟩

def wordsR (stp : List Int → UInt8 → List Int) (cs : List UInt8) (set : List Int) (n : Nat) : HV :=
  if okLvl stp cs set n = true then .tup [strsN (sortS ((lvl stp cs set n).map (·.1))), .int .i64 0] else .tup [nilS, .int .i64 4]

theorem clean_wordsR (stp : List Int → UInt8 → List Int) (cs : List UInt8) (set : List Int) (n : Nat) : clean (wordsR stp cs set n) := by
  unfold wordsR strsN
  split
  · split
    · exact ⟨trivial, trivial, trivial⟩
    · exact ⟨clean_strs _, trivial, trivial⟩
  · exact ⟨trivial, trivial, trivial⟩

set_option maxHeartbeats 1000000 in
/-- language.Words -/
theorem w36 {L n : Nat} {gS gE : HV} {stp : List Int → UInt8 → List Int} {set : List Int} {A : List Int → Prop} (hL : L ≤ 16) (h1g : gS.one = true) (h1e : gE.one = true) (hA0 : A set) (hA : ∀ a c, A a → c ∈ letters.take L → A (stp a c))
    (hstep : ∀ a c, A a → c ∈ letters.take L → Pure Try.prog 125 [.agg [num L, gS, gE], ints a, .int .u8 c.toNat] (· = ints (stp a c))) (h78 : Pure Try.prog 78 [.agg [num L, gS, gE], num n] (· = .int .i64 0)) (h80 : Pure Try.prog 80 [.agg [num L, gS, gE]] (· = ints set)) :
    Fresh Try.prog 36 [.agg [num L, gS, gE], num n] (wordsR stp (letters.take L) set n) := by
  refine Fresh.of_body 2 Try.func36 rfl rfl (Nat.le_of_ble_eq_true rfl) (clean_wordsR _ _ _ _) fun hf => ?_
  have h79 := w79 (n := n) hL h1g h1e hA0 hA hstep
  unfold Try.f36
  dsimp only [enumS, Nat.reduceAdd]
  simp only [num] at h78 h80 h79 ⊢
  refine AW.rseq (fid := 36) (mt := []) [1, 2] rfl fun K hK => ?_
  simp only [go_sem, reduceIte, Nat.reduceEqDiff, Int.reduceLE]
  refine hK _ ?_
  clear hK K
  refine AW.seq ?_
  refine AW.rseq (fid := 36) (mt := []) [1, 2, 6] rfl fun K hK => ?_
  simp only [go_sem, reduceIte, Nat.reduceEqDiff, Int.reduceLE, List.length_nil, List.length_cons, Nat.reduceAdd, Nat.reduceLeDiff, List.drop_zero, List.take_succ_cons, List.take_zero]
  refine h78.use fun r hr => ?_
  subst hr
  refine hK _ ?_
  clear hK K
  refine AW.rseq (fid := 36) (mt := []) [1, 2, 6, 13] rfl fun K hK => ?_
  simp only [go_sem, reduceIte, Nat.reduceEqDiff, Int.reduceLE]
  refine hK _ ?_
  clear hK K
  refine AW.cond rfl (fun hc => by simp at hc) (fun _ => ?_)
  refine AW.skip ?_
  refine AW.seq (AW.any follows ?_)
  refine AnyAt.steady (q := 0) 4 (AnyAt _ _ _ _ _ 4) rfl rfl (by decide) (by decide) rfl rfl (fun _ h => h) ?_
  dsimp only [List.take, List.drop, Nat.sub_zero]
  simp only [go_sem, reduceIte, Nat.reduceEqDiff, Int.reduceLE, List.length_nil, List.length_cons, Nat.reduceAdd, Nat.reduceLeDiff, List.drop_zero, List.take_succ_cons, List.take_zero]
  refine ⟨_, ACallD.pure0 h80, ?_⟩
  refine AnyAt.op rfl (by decide) rfl (AOpI.plain rfl rfl (aop_sound (fid := 36) (mt := []) rfl ?_))
  dsimp only [List.getElem_toArray, List.getElem_cons_succ, List.getElem_cons_zero]
  simp only [go_sem, ints, reduceIte, Nat.reduceEqDiff, Int.reduceLE, List.length_nil, List.length_cons, Nat.reduceAdd, Nat.reduceLeDiff, List.drop_zero, List.take_succ_cons, List.take_zero, List.getElem?_cons_zero, List.getElem?_cons_succ]
  simp only [ints] at h79
  refine h79.mono ?_
  rintro r H' (⟨hok, id, ver, es, rfl, rfl, hes⟩ | ⟨j, h1, h2, h3, rfl, rfl⟩)
  · have hok' := okLvl_iff.2 hok
    refine AnyAt.steady (q := 5) 10 (AnyAt _ _ _ _ _ 10) rfl rfl (by decide) (by decide) rfl rfl (fun _ h => h) ?_
    dsimp only [Nat.reduceSub, List.take, List.drop]
    simp only [go_sem, reduceIte, Nat.reduceEqDiff, Int.reduceLE, Nat.reduceSub, List.length_nil, List.length_cons, Nat.reduceAdd, Nat.reduceLeDiff, List.drop_zero, List.take_succ_cons, List.take_zero, List.getElem?_cons_zero, List.getElem?_cons_succ]
    refine AnyAt.done rfl ?_
    refine AW.seq ?_
    refine AW.rseq (fid := 36) (mt := []) [7, 24] rfl fun K hK => ?_
    simp only [go_sem, reduceIte, Nat.reduceEqDiff, Int.reduceLE]
    refine hK _ ?_
    clear hK K
    refine AW.cond rfl (fun hc => by simp at hc) (fun _ => ?_)
    refine AW.skip ?_
    refine AW.rseq (fid := 36) (mt := []) [4, 5] rfl fun K hK => ?_
    simp only [go_sem, reduceIte, Nat.reduceEqDiff, Int.reduceLE]
    refine w82 ?_
    have hkn : (es.map (·.1)).Nodup := perm_keys hes (lvl_keys (letters_nodup.sublist (List.take_sublist _ _)) n)
    have hlen : es.length = (lvl stp (letters.take L) set n).length := by rw [hes.length_eq, List.length_map]
    have hbig : es.length ≤ 1099511627776 := by
      rw [hlen]
      cases n with
      | zero => simp only [lvl]; split <;> simp
      | succ n => have := hok (n + 1) (by omega) (Nat.le_refl _); omega
    have hsk : sortS (es.map (·.1)) = sortS ((lvl stp (letters.take L) set n).map (·.1)) := by
      refine sortS_perm ?_
      have := hes.map (·.1)
      rw [List.map_map] at this
      exact this
    refine (w81 (f := id + 1) hkn hbig (by omega) (by omega) (by omega) (by omega)).mono ?_
    rintro r H' (⟨he, rfl, rfl⟩ | ⟨id', av, hen, rfl, rfl⟩)
    · refine hK _ ?_
      clear hK K
      refine AW.ret ⟨.inr rfl, ?_⟩
      simp only [go_sem, reduceIte, Nat.reduceEqDiff]
      have hl0 : lvl stp (letters.take L) set n = [] := List.eq_nil_of_length_eq_zero (by rw [← hlen, he]; rfl)
      refine ⟨_, _, Conv.refl _ _, rfl, rfl, ?_⟩
      simp only [wordsR, hok', if_true, hl0, List.map_nil, sortS, List.mergeSort_nil, strsN, frz, List.map_cons]
      rfl
    · refine hK _ ?_
      clear hK K
      refine AW.ret ⟨.inr rfl, ?_⟩
      simp only [go_sem, reduceIte, Nat.reduceEqDiff]
      refine ⟨_, _, Conv.refl _ _, rfl, ?_, ?_⟩
      · simp only [nfH, nfO, Bool.and_true]
        have : ∀ l : List (List UInt8), nfL (l.map HV.str) = true := fun l => by
          induction l with
          | nil => rfl
          | cons a l ih => simp only [List.map_cons, nfL, nf, ih, Bool.and_self]
        exact this _
      · have hne : sortS ((lvl stp (letters.take L) set n).map (·.1)) ≠ [] := by
          intro h0
          have h1 := congrArg List.length h0
          rw [sortS_len, List.length_map, ← hlen] at h1
          exact hen (List.eq_nil_of_length_eq_zero h1)
        have hll : (sortS (es.map (·.1))).length = es.length := by rw [sortS_len, List.length_map]
        have hfr : frz 2 [(id', av, AObj.arr 1 9 ((sortS (es.map (·.1))).map HV.str))] (.tup [.ar id' av 1 0 es.length, .int .i64 0]) = .tup [.sl 1 es.length ((sortS (es.map (·.1))).map HV.str), .int .i64 0] := by
          have h5 : ((sortS (es.map (·.1))).map HV.str).length = es.length := by rw [List.length_map, hll]
          simp only [frz, List.map_cons, List.map_nil, hget_0, Nat.zero_add, Nat.mul_one, h5, Nat.le_refl, and_self, if_true, List.drop_zero]
          rw [← h5, List.take_length]
          rw [List.map_id']
        refine hfr.trans ?_
        rw [hsk] at hll ⊢
        simp only [wordsR, hok', if_true, strsN, if_neg hne, strs]
        rw [hll]
  · have hok' : ¬ okLvl stp (letters.take L) set n = true := fun h => by
      have := okLvl_iff.1 h j h1 h2
      omega
    refine AnyAt.steady (q := 5) 10 (AnyAt _ _ _ _ _ 10) rfl rfl (by decide) (by decide) rfl rfl (fun _ h => h) ?_
    dsimp only [Nat.reduceSub, List.take, List.drop]
    simp only [go_sem, reduceIte, Nat.reduceEqDiff, Int.reduceLE, Nat.reduceSub, List.length_nil, List.length_cons, Nat.reduceAdd, Nat.reduceLeDiff, List.drop_zero, List.take_succ_cons, List.take_zero, List.getElem?_cons_zero, List.getElem?_cons_succ]
    refine AnyAt.done rfl ?_
    refine AW.seq ?_
    refine AW.rseq (fid := 36) (mt := []) [7, 24] rfl fun K hK => ?_
    simp only [go_sem, reduceIte, Nat.reduceEqDiff, Int.reduceLE]
    refine hK _ ?_
    clear hK K
    refine AW.cond rfl (fun _ => ?_) (fun hc => by simp at hc)
    refine AW.rseq (fid := 36) (mt := []) [4, 5] rfl fun K hK => ?_
    simp only [go_sem, reduceIte, Nat.reduceEqDiff, Int.reduceLE]
    refine hK _ ?_
    clear hK K
    refine AW.ret ⟨.inr rfl, ?_⟩
    simp only [go_sem, reduceIte, Nat.reduceEqDiff]
    refine ⟨_, _, Conv.refl _ _, rfl, rfl, ?_⟩
    simp only [wordsR, if_neg hok', frz, List.map_cons]
    rfl
end Go.AW

namespace Go.AW
open Go Go.Proofs

theorem names_ok : Try.prog.funcs.toList.all (fun x => !(x.name == "runtime.NumGoroutine")) = true := by kernel_rfl

theorem fn_ok (f : FuncId) (x : Func) (h : Try.prog.funcs[f]? = some x) : Try.prog.funcs[f]? = some x ∧ (x.name == "runtime.NumGoroutine") = false := by
  refine ⟨h, ?_⟩
  have := List.all_eq_true.1 names_ok x (by
    rw [← Array.getElem?_toList] at h
    exact List.mem_of_getElem? h)
  simpa using this

def idxExt (f : FuncId) (args : List HV) : Option HV :=
  match f, args with
  | 51, [.str l, .int .u8 c] => some (.int .i64 (Lib.indexByte l c.toNat.toUInt8))
  | _, _ => none

theorem idxExt_ok (f : FuncId) (args : List HV) (r : HV) (h : idxExt f args = some r) : Fresh Try.prog f args r := by
  unfold idxExt at h
  split at h
  · cases h
    exact (w51 _ _).fresh trivial rfl
  · cases h

def trySort (f : FuncId) : Option Bool := match f with
  | 45 => some true
  | 179 => some false
  | _ => none

/-- the tables of this seat, with results that are known -/
def tabsOf (P : Program) (l : List (FuncId × List HV × HV)) : Tabs where
  ty := ty P
  fn := fun f => P.funcs[f]?
  ext := fun f args => match idxExt f args with
    | some r => some r
    | none => elook l f args
  sort := trySort
  keep := fun _ _ => none

theorem tabsOf_ok {P : Program} {l : List (FuncId × List HV × HV)} (hn : ∀ (f : FuncId) (x : Func), P.funcs[f]? = some x → (x.name == "runtime.NumGoroutine") = false) (hi : ∀ f args r, idxExt f args = some r → Fresh P f args r) (h1 : SortsS P 45) (h2 : SortsI P 179)
    (hd : P.follows .mixedOrders = true) (hl : ∀ e ∈ l, Fresh P e.1 e.2.1 e.2.2) : (tabsOf P l).Ok P where
  ty := fun _ _ h => h
  fn := fun f x h => ⟨h, hn f x h⟩
  ext := fun f args r h => by
    simp only [tabsOf] at h
    split at h
    · rename_i hx; cases h; exact hi _ _ _ hx
    · exact elook_ok hl f args r h
  sortS := fun f h => by
    simp only [tabsOf, trySort] at h
    split at h
    · exact h1
    · cases h
    · cases h
  sortI := fun f h => by
    simp only [tabsOf, trySort] at h
    split at h
    · cases h
    · exact h2
    · cases h
  draw := hd

theorem tabs_ok {l : List (FuncId × List HV × HV)} (hl : ∀ e ∈ l, Fresh Try.prog e.1 e.2.1 e.2.2) : (tabsOf Try.prog l).Ok Try.prog :=
  tabsOf_ok (fun f x h => (fn_ok f x h).2) idxExt_ok sorts45 sorts179 follows hl

/-- the graph of the chapter's examples -/
def gE : HV := .sl 3 3 [num 0, num 0, num 0, num 0, num 1, num 1, num 1, num 0, num 0]
def gA : HV := .agg [num 2, num 2, gE]

theorem a86 : Fresh Try.prog 86 [gA] (num 0) := Fresh.of_comes (T := tabsOf Try.prog []) (k := 1000) (tabs_ok (fun _ h => by cases h)) (by kernel_rfl)

def k86 : List (FuncId × List HV × HV) := [(86, [gA], num 0)]
theorem k86_ok : (tabsOf Try.prog k86).Ok Try.prog := tabs_ok fun e h => by
  simp only [k86, List.mem_singleton] at h
  subst h
  exact a86

theorem a78 : Fresh Try.prog 78 [gA, num 3] (num 0) := Fresh.of_comes (k := 1000) k86_ok (by kernel_rfl)
theorem a80 : Fresh Try.prog 80 [gA] (ints [0, 1]) := Fresh.of_comes (k := 1000) k86_ok (by kernel_rfl)

/-- the steps of the graph's sets -/
def stpA (a : List Int) (c : UInt8) : List Int := if c = 48 then (if a = [] then [] else [0]) else if a = [0, 1] ∨ a = [0] then [1] else []
def setsA (a : List Int) : Prop := a = [0, 1] ∨ a = [0] ∨ a = [1] ∨ a = []

theorem a125 : ∀ a c, setsA a → c ∈ letters.take 2 → Pure Try.prog 125 [gA, ints a, .int .u8 c.toNat] (· = ints (stpA a c)) := by
  intro a c ha hc
  have hc : c = 48 ∨ c = 49 := by simpa [letters] using hc
  rcases ha with rfl | rfl | rfl | rfl <;> rcases hc with rfl | rfl
  · exact Pure.of_comes (k := 1000) k86_ok (by kernel_rfl)
  · exact Pure.of_comes (k := 1000) k86_ok (by kernel_rfl)
  · exact Pure.of_comes (k := 1000) k86_ok (by kernel_rfl)
  · exact Pure.of_comes (k := 1000) k86_ok (by kernel_rfl)
  · exact Pure.of_comes (k := 1000) k86_ok (by kernel_rfl)
  · exact Pure.nilI (Pure.of_comes (k := 1000) k86_ok (by kernel_rfl))
  · exact Pure.nilI (Pure.of_comes (k := 1000) k86_ok (by kernel_rfl))
  · exact Pure.nilI (Pure.of_comes (k := 1000) k86_ok (by kernel_rfl))

def wordsA : List (List UInt8) := [[48, 48, 48], [48, 48, 49], [48, 49, 48], [49, 48, 48], [49, 48, 49]]

theorem a36 : Fresh Try.prog 36 [gA, num 3] (.tup [strs wordsA, .int .i64 0]) := by
  have h := w36 (L := 2) (n := 3) (gS := num 2) (gE := gE) (stp := stpA) (set := [0, 1]) (A := setsA) (by decide) rfl rfl (.inl rfl) (fun a c ha hc => ?_) a125 a78.pure a80.pure
  · have hw : wordsR stpA (letters.take 2) [0, 1] 3 = .tup [strs wordsA, .int .i64 0] := by
      have h1 : okLvl stpA (letters.take 2) [0, 1] 3 = true := by decide
      have h2 : sortS ((lvl stpA (letters.take 2) [0, 1] 3).map (·.1)) = wordsA := sortS_eq (by decide) (by decide)
      simp only [wordsR, h1, if_true, h2]
      rfl
    rw [← hw]
    exact h
  · have hc : c = 48 ∨ c = 49 := by simpa [letters] using hc
    rcases ha with rfl | rfl | rfl | rfl <;> rcases hc with rfl | rfl <;> (unfold setsA; decide)

def k36 : List (FuncId × List HV × HV) := [(36, [gA, num 3], .tup [strs wordsA, .int .i64 0])]
theorem k36_ok : (tabsOf Try.prog k36).Ok Try.prog := tabs_ok fun e h => by
  simp only [k36, List.mem_singleton] at h
  subst h
  exact a36

/-- the anchor of chapter 46 -/
theorem w15 : Fresh Try.prog 15 [] (.bool true) := Fresh.of_comes (k := 3000) k36_ok (by kernel_rfl)
end Go.AW

namespace Go.AW
open Go Go.Proofs

/-- the anchor of chapter 46 -/
noncomputable def m_law46_awake : Option Bool := some true
theorem w_law46_awake {r : Bool} (h : m_law46_awake = some r) : Pure Try.prog 15 [] (· = HV.bool r) := by
  cases h
  exact w15.pure

def uni (p : List (List UInt8)) : Bool := p.all fun u => p.all fun v => decide (u.length = v.length)
/-- what pairs yields -/
def y_distance_pairs (p : List (List UInt8)) : Option (List Int) := if uni p = true ∧ p.length ≤ 9223372036854775807 then some (pairsL p) else none

theorem iy_distance_pairs {p : List (List UInt8)} {L : List Int} (h : y_distance_pairs p = some L) : Yields Try.prog 123 [] [HV.fptr [slE eStr p] 0] (L.map fun x => [HV.int .i64 x]) := by
  unfold y_distance_pairs at h
  split at h
  · rename_i hc
    cases h
    have hl : ∀ u ∈ p, ∀ v ∈ p, u.length = v.length := fun u hu v hv => of_decide_eq_true (List.all_eq_true.1 (List.all_eq_true.1 hc.1 u hu) v hv)
    intro id ver H J Stop K _ h0 hstep hdone hstop
    refine w123 hc.2 hl (fun pre H => J pre.length H) Stop h0 (fun pre x rest H hx hj => ?_) (fun H hj => hdone H (by rw [List.length_map]; exact hj)) hstop
    refine (hstep pre.length [HV.int .i64 x] H ?_ hj).mono fun r H' ⟨b, hb, h1, h2⟩ => ⟨b, hb, fun e => by rw [List.length_append]; exact h1 e, h2⟩
    rw [hx, List.getElem?_map, List.getElem?_append_right (Nat.le_refl _), Nat.sub_self]
    rfl
  · cases h
end Go.AW

namespace Go.AW
open Go Go.Proofs
set_option linter.unusedVariables false
/-- groove/distance.hamming -/
noncomputable def m_distance_hamming (p0 : List UInt8) (p1 : List UInt8) : Option (Int) :=
  (loopW (S := Int × Int) (X := Int) (fun a1 =>
      if a1.2 < ((p0).length : Int) then
        jp (fun (a5 : Int) =>
          some (Stp.next (a5, IntKind.wrap .i64 (a1.2 + 1))))
          fun k7 =>
          (idx p0 a1.2).bind fun x8 =>
          (idx p1 a1.2).bind fun x10 =>
          if (x8.toNat : Int) ≠ (x10.toNat : Int) then
            k7 (IntKind.wrap .i64 (a1.1 + 1))
          else
            k7 a1.1
      else
        some (Stp.exit a1.1)) (0, 0)).bind fun a12 =>
  some a12

set_option maxHeartbeats 8000000 in
set_option maxRecDepth 100000 in
theorem w_distance_hamming {p0 : List UInt8} {p1 : List UInt8} {r : Int} (h : m_distance_hamming p0 p1 = some r) : Pure Try.prog 69 [HV.str p0, HV.str p1] (· = HV.int .i64 r) := by
  unfold m_distance_hamming at h
  refine Pure.of_body Try.func69 rfl rfl (Nat.le_of_ble_eq_true rfl) fun hf => ?_
  unfold Try.f69
  dsimp only [enumS, Nat.reduceAdd]
  refine AW.rgs rfl fun K hK => ?_
  refine mv rfl rfl ?_
  refine b_nil (hK _ (AW.to (to_le (s' := ⟨[(0, HV.str p0), (1, HV.str p1)], []⟩) (AS.le_of ⟨rfl, rfl, trivial⟩ trivial) ?_)))
  clear hK K
  refine AW.rgs rfl fun K hK => ?_
  refine mv rfl rfl ?_
  refine b_nil (hK _ (AW.to (to_le (s' := ⟨[(0, HV.str p0), (1, HV.str p1), (5, HV.int .i64 0)], []⟩) (AS.le_of ⟨rfl, rfl, rfl, trivial⟩ trivial) ?_)))
  clear hK K
  refine AW.seq ?_
  refine AW.rgs rfl fun K hK => ?_
  refine mv rfl rfl ?_
  refine bv rfl (v_lenS rfl rfl ty9 rfl) ?_
  refine mv rfl rfl ?_
  refine b_nil (hK _ (AW.to (to_le (s' := ⟨[(0, HV.str p0), (1, HV.str p1), (5, HV.int .i64 0), (8, HV.int .i64 ((p0).length : Int)), (9, HV.int .i64 0)], []⟩) (AS.le_of ⟨rfl, rfl, rfl, rfl, rfl, trivial⟩ trivial) ?_)))
  clear hK K
  refine AW.lpX h (by first | exact up_then | exact up_to) (S := Int × Int) (V := Unit) (fun a v => ⟨[(0, HV.str p0), (1, HV.str p1), (5, HV.int .i64 a.1), (8, HV.int .i64 ((p0).length : Int)), (9, HV.int .i64 a.2)], []⟩) ?_ (X := Int) (W := Unit) (fun a v => ⟨[(5, HV.int .i64 a)], []⟩) (fun a12 w13 h => ?_) (fun a1 w2 st3 h => ?_)
  · exact to_le (s' := ⟨[(0, HV.str p0), (1, HV.str p1), (5, HV.int .i64 0), (8, HV.int .i64 ((p0).length : Int)), (9, HV.int .i64 0)], []⟩) (AS.le_of ⟨rfl, rfl, rfl, rfl, rfl, trivial⟩ trivial) ⟨(), rfl⟩
  · refine AW.rgs rfl fun K hK => ?_
    refine mv rfl rfl ?_
    refine mv rfl rfl ?_
    refine b_nil (hK _ (AW.to (to_le (s' := ⟨[(4, HV.int .i64 a12)], []⟩) (AS.le_of ⟨rfl, trivial⟩ trivial) ?_)))
    clear hK K
    refine AW.ret ?_
    have h := Option.some.inj h
    subst h
    exact ret_pure (hs := [HV.int .i64 a12]) (q := HV.int .i64 a12) (.inr rfl) (resT rfl rfl) rfl trivial
  · refine AW.rgs rfl fun K hK => ?_
    refine bv rfl (v_bin rfl rfl b_lss) ?_
    refine b_nil (hK _ (AW.to (to_le (s' := ⟨[(0, HV.str p0), (1, HV.str p1), (5, HV.int .i64 a1.1), (8, HV.int .i64 ((p0).length : Int)), (9, HV.int .i64 a1.2), (10, HV.bool (decide (a1.2 < ((p0).length : Int))))], []⟩) (AS.le_of ⟨rfl, rfl, rfl, rfl, rfl, rfl, trivial⟩ trivial) ?_)))
    clear hK K
    refine AW.cseq rfl (fun hc => ?_) (fun hc => ?_)
    · have hc := of_decide_eq_true hc
      have h := ifT hc h
      refine AW.skip ?_
      refine AW.seqJ h (S := Int) (V := Unit) (fun a v => ⟨[(0, HV.str p0), (1, HV.str p1), (5, HV.int .i64 a), (8, HV.int .i64 ((p0).length : Int)), (9, HV.int .i64 a1.2)], []⟩) (fun a5 w6 h => ?_) (fun k7 h => ?_)
      · refine AW.rg rfl fun K hK => ?_
        refine bv rfl (v_bin rfl rfl b_add) ?_
        refine mv rfl rfl ?_
        refine b_nil (hK _ ?_)
        clear hK K
        exact to_le (s' := ⟨[(0, HV.str p0), (1, HV.str p1), (5, HV.int .i64 a5), (8, HV.int .i64 ((p0).length : Int)), (9, HV.int .i64 (IntKind.wrap .i64 (a1.2 + 1)))], []⟩) (AS.le_of ⟨rfl, rfl, rfl, rfl, rfl, trivial⟩ trivial) ⟨(a5, IntKind.wrap .i64 (a1.2 + 1)), (), h, rfl⟩
      · refine AW.block ?_
        refine AW.rgs rfl fun K hK => ?_
        refine mv rfl rfl ?_
        refine mv rfl rfl ?_
        refine b_nil (hK _ (AW.to (to_le (s' := ⟨[(0, HV.str p0), (1, HV.str p1), (5, HV.int .i64 a1.1), (6, HV.int .i64 a1.2), (8, HV.int .i64 ((p0).length : Int)), (9, HV.int .i64 a1.2)], []⟩) (AS.le_of ⟨rfl, rfl, rfl, rfl, rfl, rfl, trivial⟩ trivial) ?_)))
        clear hK K
        refine AW.dgs 7 follows rfl rfl fun K hK => ?_
        refine sm rfl rfl ?_
        refine sm rfl rfl ?_
        obtain ⟨x8, h9, h⟩ := bS h
        refine sv rfl (v_idxS ty9 rfl rfl h9) ?_
        refine sm rfl rfl ?_
        refine sm rfl rfl ?_
        obtain ⟨x10, h11, h⟩ := bS h
        refine sv rfl (v_idxS ty9 rfl rfl h11) ?_
        refine sv rfl (v_bin rfl rfl b_neq) ?_
        refine s_nil ?_
        refine b_nil (hK _ (AW.to (to_le (s' := ⟨[(0, HV.str p0), (1, HV.str p1), (5, HV.int .i64 a1.1), (8, HV.int .i64 ((p0).length : Int)), (9, HV.int .i64 a1.2), (18, HV.bool (decide ((x8.toNat : Int) ≠ (x10.toNat : Int))))], []⟩) (AS.le_of ⟨rfl, rfl, rfl, rfl, rfl, rfl, trivial⟩ trivial) ?_)))
        clear hK K
        refine AW.cond rfl (fun hc => ?_) (fun hc => ?_)
        · have hc := of_decide_eq_true hc
          have h := ifT hc h
          refine AW.rg rfl fun K hK => ?_
          refine mv rfl rfl ?_
          refine bv rfl (v_bin rfl rfl b_add) ?_
          refine mv rfl rfl ?_
          refine b_nil (hK _ ?_)
          clear hK K
          exact to_le (s' := ⟨[(0, HV.str p0), (1, HV.str p1), (5, HV.int .i64 (IntKind.wrap .i64 (a1.1 + 1))), (8, HV.int .i64 ((p0).length : Int)), (9, HV.int .i64 a1.2)], []⟩) (AS.le_of ⟨rfl, rfl, rfl, rfl, rfl, trivial⟩ trivial) ⟨IntKind.wrap .i64 (a1.1 + 1), (), h, rfl⟩
        · have hc := of_decide_eq_false hc
          have h := ifF hc h
          refine AW.skip ?_
          exact to_le (s' := ⟨[(0, HV.str p0), (1, HV.str p1), (5, HV.int .i64 a1.1), (8, HV.int .i64 ((p0).length : Int)), (9, HV.int .i64 a1.2)], []⟩) (AS.le_of ⟨rfl, rfl, rfl, rfl, rfl, trivial⟩ trivial) ⟨a1.1, (), h, rfl⟩
    · have hc := of_decide_eq_false hc
      have h := ifF hc h
      refine AW.exit ?_
      exact to_le (s' := ⟨[(5, HV.int .i64 a1.1)], []⟩) (AS.le_of ⟨rfl, trivial⟩ trivial) ⟨a1.1, (), h, rfl⟩

/-- groove/distance.Hamming -/
noncomputable def m_distance_Hamming (p0 : List UInt8) (p1 : List UInt8) : Option (Int × Int) :=
  if ((p0).length : Int) ≠ ((p1).length : Int) then
    some (0, 11)
  else
    (m_distance_hamming p0 p1).bind fun x1 =>
    some (x1, 0)

/-- groove/grooveref46.Great -/
noncomputable def m_ref46_Great (p0 : List (List UInt8)) : Option (Bool) :=
  lpO (loopW (S := Int × Int) (X := Ou (Int) (Bool)) (fun a1 =>
      if a1.2 < ((p0).length : Int) then
        (idx p0 a1.2).bind fun x5 =>
        (idx p0 a1.2).bind fun x7 =>
        if 20 < ((x7).length : Int) then
          some (Stp.exit (Ou.ret true))
        else
          some (Stp.next (IntKind.wrap .i64 (a1.1 + ((x5).length : Int)), IntKind.wrap .i64 (a1.2 + 1)))
      else
        some (Stp.exit (Ou.go a1.1))) (0, 0)) (fun a9 =>
      jp (fun (a11 : Bool) =>
        some a11)
        fun k13 =>
        if 12 < ((p0).length : Int) then
          if ((p0).length : Int) ≤ 4096 then
            k13 true
          else
            if 0 < a9 then
              k13 true
            else
              k13 (decide (4099 < ((p0).length : Int)))
        else
          k13 (decide (4099 < ((p0).length : Int)))) some

/-- groove/distance.listed -/
noncomputable def m_distance_listed (p0 : List (List UInt8)) : Option (Int) :=
  if 4096 < ((p0).length : Int) then
    some 4
  else
    lpO (loopW (S := Int) (X := Ou (Unit) (Int)) (fun a1 =>
        if a1 < ((p0).length : Int) then
          (idx p0 a1).bind fun x5 =>
          (idx p0 0).bind fun x7 =>
          if ((x5).length : Int) ≠ ((x7).length : Int) then
            some (Stp.exit (Ou.ret 11))
          else
            some (Stp.next (IntKind.wrap .i64 (a1 + 1)))
        else
          some (Stp.exit (Ou.go ()))) 0) (fun a9 =>
        some 0) some

set_option maxHeartbeats 8000000 in
set_option maxRecDepth 100000 in
theorem w_distance_listed {p0 : List (List UInt8)} {r : Int} (h : m_distance_listed p0 = some r) : Pure Try.prog 71 [slE eStr p0] (· = HV.int .i64 r) := by
  unfold m_distance_listed at h
  refine Pure.of_body Try.func71 rfl rfl (Nat.le_of_ble_eq_true rfl) fun hf => ?_
  unfold Try.f71
  dsimp only [enumS, Nat.reduceAdd]
  refine AW.rgs rfl fun K hK => ?_
  refine mv rfl rfl ?_
  refine b_nil (hK _ (AW.to (to_le (s' := ⟨[(0, slE eStr p0)], []⟩) (AS.le_of ⟨rfl, trivial⟩ trivial) ?_)))
  clear hK K
  refine AW.seq ?_
  refine AW.rgs rfl fun K hK => ?_
  refine mv rfl rfl ?_
  refine bv rfl (v_lenF rfl rfl ty30 rfl) ?_
  refine bv rfl (v_bin rfl rfl b_gtr) ?_
  refine b_nil (hK _ (AW.to (to_le (s' := ⟨[(0, slE eStr p0), (7, HV.bool (decide (4096 < ((p0).length : Int))))], []⟩) (AS.le_of ⟨rfl, rfl, trivial⟩ trivial) ?_)))
  clear hK K
  refine AW.cond rfl (fun hc => ?_) (fun hc => ?_)
  · have hc := of_decide_eq_true hc
    have h := ifT hc h
    refine AW.rgs rfl fun K hK => ?_
    refine mv rfl rfl ?_
    refine b_nil (hK _ (AW.to (to_le (s' := ⟨[(2, HV.int .i64 4)], []⟩) (AS.le_of ⟨rfl, trivial⟩ trivial) ?_)))
    clear hK K
    refine AW.ret ?_
    have h := Option.some.inj h
    subst h
    exact ret_pure (hs := [HV.int .i64 4]) (q := HV.int .i64 4) (.inr rfl) (resT rfl rfl) rfl trivial
  · have hc := of_decide_eq_false hc
    have h := ifF hc h
    refine AW.skip ?_
    refine AW.seq ?_
    refine AW.rgs rfl fun K hK => ?_
    refine mv rfl rfl ?_
    refine bv rfl (v_lenF rfl rfl ty30 rfl) ?_
    refine mv rfl rfl ?_
    refine b_nil (hK _ (AW.to (to_le (s' := ⟨[(0, slE eStr p0), (8, slE eStr p0), (9, HV.int .i64 ((p0).length : Int)), (10, HV.int .i64 0)], []⟩) (AS.le_of ⟨rfl, rfl, rfl, rfl, trivial⟩ trivial) ?_)))
    clear hK K
    refine AW.lpR h (by first | exact up_then | exact up_to) (S := Int) (V := Unit) (fun a v => ⟨[(0, slE eStr p0), (8, slE eStr p0), (9, HV.int .i64 ((p0).length : Int)), (10, HV.int .i64 a)], []⟩) ?_ (X := Unit) (W := Unit) (fun a v => ⟨[], []⟩) (fun a9 w10 h => ?_) (fun a1 w2 st3 h hr4=> ?_)
    · exact to_le (s' := ⟨[(0, slE eStr p0), (8, slE eStr p0), (9, HV.int .i64 ((p0).length : Int)), (10, HV.int .i64 0)], []⟩) (AS.le_of ⟨rfl, rfl, rfl, rfl, trivial⟩ trivial) ⟨(), rfl⟩
    · refine AW.rgs rfl fun K hK => ?_
      refine mv rfl rfl ?_
      refine b_nil (hK _ (AW.to (to_le (s' := ⟨[(2, HV.int .i64 0)], []⟩) (AS.le_of ⟨rfl, trivial⟩ trivial) ?_)))
      clear hK K
      refine AW.ret ?_
      have h := Option.some.inj h
      subst h
      exact ret_pure (hs := [HV.int .i64 0]) (q := HV.int .i64 0) (.inr rfl) (resT rfl rfl) rfl trivial
    · refine AW.rgs rfl fun K hK => ?_
      refine bv rfl (v_bin rfl rfl b_lss) ?_
      refine b_nil (hK _ (AW.to (to_le (s' := ⟨[(0, slE eStr p0), (8, slE eStr p0), (9, HV.int .i64 ((p0).length : Int)), (10, HV.int .i64 a1), (11, HV.bool (decide (a1 < ((p0).length : Int))))], []⟩) (AS.le_of ⟨rfl, rfl, rfl, rfl, rfl, trivial⟩ trivial) ?_)))
      clear hK K
      refine AW.cseq rfl (fun hc => ?_) (fun hc => ?_)
      · have hc := of_decide_eq_true hc
        have h := ifT hc h
        refine AW.skip ?_
        refine AW.seq (AW.block ?_)
        refine AW.rgs rfl fun K hK => ?_
        obtain ⟨x5, h6, h⟩ := bS h
        refine bv rfl (v_idxF ty30 es30 rfl rfl (idx_lt h6)) ?_
        refine bv rfl (v_loadF ty9 rfl (l_cell eStr h6 (o := 0) rfl rfl)) ?_
        refine mv rfl rfl ?_
        refine b_nil (hK _ (AW.to (to_le (s' := ⟨[(0, slE eStr p0), (4, HV.str x5), (8, slE eStr p0), (9, HV.int .i64 ((p0).length : Int)), (10, HV.int .i64 a1)], []⟩) (AS.le_of ⟨rfl, rfl, rfl, rfl, rfl, trivial⟩ trivial) ?_)))
        clear hK K
        refine AW.rgs rfl fun K hK => ?_
        refine mv rfl rfl ?_
        refine bv rfl (v_lenS rfl rfl ty9 rfl) ?_
        refine mv rfl rfl ?_
        obtain ⟨x7, h8, h⟩ := bS h
        refine bv rfl (v_idxF ty30 es30 rfl rfl (idx_lt h8)) ?_
        refine bv rfl (v_loadF ty9 rfl (l_cell eStr h8 (o := 0) rfl rfl)) ?_
        refine bv rfl (v_lenS rfl rfl ty9 rfl) ?_
        refine bv rfl (v_bin rfl rfl b_neq) ?_
        refine b_nil (hK _ (AW.to (to_le (s' := ⟨[(0, slE eStr p0), (8, slE eStr p0), (9, HV.int .i64 ((p0).length : Int)), (10, HV.int .i64 a1), (20, HV.bool (decide (((x5).length : Int) ≠ ((x7).length : Int))))], []⟩) (AS.le_of ⟨rfl, rfl, rfl, rfl, rfl, trivial⟩ trivial) ?_)))
        clear hK K
        refine AW.cond rfl (fun hc => ?_) (fun hc => ?_)
        · have hc := of_decide_eq_true hc
          have h := ifT hc h
          refine AW.rgs rfl fun K hK => ?_
          refine mv rfl rfl ?_
          refine b_nil (hK _ (AW.to (to_le (s' := ⟨[(2, HV.int .i64 11)], []⟩) (AS.le_of ⟨rfl, trivial⟩ trivial) ?_)))
          clear hK K
          have h := hr4 _ h
          refine AW.ret ?_
          have h := Option.some.inj h
          subst h
          exact ret_pure (hs := [HV.int .i64 11]) (q := HV.int .i64 11) (.inr rfl) (resT rfl rfl) rfl trivial
        · have hc := of_decide_eq_false hc
          have h := ifF hc h
          refine AW.skip ?_
          refine AW.rg rfl fun K hK => ?_
          refine bv rfl (v_bin rfl rfl b_add) ?_
          refine mv rfl rfl ?_
          refine b_nil (hK _ ?_)
          clear hK K
          exact to_le (s' := ⟨[(0, slE eStr p0), (8, slE eStr p0), (9, HV.int .i64 ((p0).length : Int)), (10, HV.int .i64 (IntKind.wrap .i64 (a1 + 1)))], []⟩) (AS.le_of ⟨rfl, rfl, rfl, rfl, trivial⟩ trivial) ⟨IntKind.wrap .i64 (a1 + 1), (), h, rfl⟩
      · have hc := of_decide_eq_false hc
        have h := ifF hc h
        refine AW.exit ?_
        exact to_le (s' := ⟨[], []⟩) (AS.le_of trivial trivial) ⟨(), (), h, rfl⟩

set_option maxHeartbeats 8000000 in
set_option maxRecDepth 100000 in
theorem w_distance_pairs (p0 : List (List UInt8)) : Pure Try.prog 74 [slE eStr p0] (· = HV.fn (.func 123) [] [HV.fptr [slE eStr p0] 0]) := by
  refine Pure.of_body Try.func74 rfl rfl (Nat.le_of_ble_eq_true rfl) fun hf => ?_
  unfold Try.f74
  dsimp only [enumS, Nat.reduceAdd]
  refine AW.rgs rfl fun K hK => ?_
  refine b_op rfl (o_box rfl rfl rfl ?_)
  refine mv rfl rfl ?_
  refine b_nil (hK _ (AW.to (to_le (s' := ⟨[(1, HV.fptr [slE eStr p0] 0)], []⟩) (AS.le_of ⟨rfl, trivial⟩ trivial) ?_)))
  clear hK K
  refine AW.rgs rfl fun K hK => ?_
  refine bv rfl (v_func rfl rfl) ?_
  refine mv rfl rfl ?_
  refine b_nil (hK _ (AW.to (to_le (s' := ⟨[(2, HV.fn (.func 123) [] [HV.fptr [slE eStr p0] 0])], []⟩) (AS.le_of ⟨rfl, trivial⟩ trivial) ?_)))
  clear hK K
  refine AW.ret ?_
  exact ret_pure (hs := [HV.fn (.func 123) [] [HV.fptr [slE eStr p0] 0]]) (q := HV.fn (.func 123) [] [HV.fptr [slE eStr p0] 0]) (.inr rfl) (resT rfl rfl) rfl ⟨trivial, ⟨⟨(clean_slE fun _ _ => ⟨trivial, trivial⟩), trivial⟩, trivial⟩⟩

/-- groove/distance.least -/
noncomputable def m_distance_least (p0 : List (List UInt8)) : Option (Int) :=
  (idx p0 0).bind fun x1 =>
  (y_distance_pairs p0).bind fun L4 =>
  lpO (forL (S := Int) (X := Unit) (fun a6 (x8 : Int) =>
      some (Stp.next (min a6 x8))) L4 ((x1).length : Int)) (fun a12 =>
      some a12) fun a14 =>
      none

/-- groove/distance.Least -/
noncomputable def m_distance_Least (p0 : List (List UInt8)) : Option (Int × Int) :=
  (m_distance_listed p0).bind fun x1 =>
  if x1 ≠ 0 then
    some (0, x1)
  else
    if ((p0).length : Int) < 2 then
      some (0, 5)
    else
      (m_distance_least p0).bind fun x3 =>
      some (x3, 0)

/-- groove/grooveref46.hamming -/
noncomputable def m_ref46_hamming (p0 : List UInt8) (p1 : List UInt8) : Option (Int) :=
  (loopW (S := Int × Int) (X := Int) (fun a1 =>
      if a1.2 < ((p0).length : Int) then
        jp (fun (a5 : Int) =>
          some (Stp.next (a5, IntKind.wrap .i64 (a1.2 + 1))))
          fun k7 =>
          (idx p0 a1.2).bind fun x8 =>
          (idx p1 a1.2).bind fun x10 =>
          if (x8.toNat : Int) ≠ (x10.toNat : Int) then
            k7 (IntKind.wrap .i64 (a1.1 + 1))
          else
            k7 a1.1
      else
        some (Stp.exit a1.1)) (0, 0)).bind fun a12 =>
  some a12

/-- groove/grooveref46.Hamming -/
noncomputable def m_ref46_Hamming (p0 : List UInt8) (p1 : List UInt8) : Option (Int × Int) :=
  if ((p0).length : Int) ≠ ((p1).length : Int) then
    some (0, 11)
  else
    (m_ref46_hamming p0 p1).bind fun x1 =>
    some (x1, 0)

/-- groove/grooveref46.checkList -/
noncomputable def m_ref46_checkList (p0 : List (List UInt8)) : Option (Int) :=
  if 4096 < ((p0).length : Int) then
    some 4
  else
    lpO (loopW (S := Int) (X := Ou (Unit) (Int)) (fun a1 =>
        if a1 < ((p0).length : Int) then
          (idx p0 a1).bind fun x5 =>
          (idx p0 0).bind fun x7 =>
          if ((x5).length : Int) ≠ ((x7).length : Int) then
            some (Stp.exit (Ou.ret 11))
          else
            some (Stp.next (IntKind.wrap .i64 (a1 + 1)))
        else
          some (Stp.exit (Ou.go ()))) 0) (fun a9 =>
        some 0) some

/-- groove/grooveref46.Least -/
noncomputable def m_ref46_Least (p0 : List (List UInt8)) : Option (Int × Int) :=
  (m_ref46_checkList p0).bind fun x1 =>
  if x1 ≠ 0 then
    some (0, x1)
  else
    if ((p0).length : Int) < 2 then
      some (0, 5)
    else
      (idx p0 0).bind fun x3 =>
      (loopW (S := Int × Int) (X := Int) (fun a5 =>
          if a5.2 < ((p0).length : Int) then
            (loopW (S := Int × Int) (X := Int × Int) (fun a9 =>
                if a9.2 < a5.2 then
                  (idx p0 a5.2).bind fun x13 =>
                  (idx p0 a9.2).bind fun x15 =>
                  (m_ref46_hamming x13 x15).bind fun x17 =>
                  some (Stp.next (min a9.1 x17, IntKind.wrap .i64 (a9.2 + 1)))
                else
                  some (Stp.exit (a9.1, a5.2))) (a5.1, 0)).bind fun a19 =>
            some (Stp.next (a19.1, IntKind.wrap .i64 (a19.2 + 1)))
          else
            some (Stp.exit a5.1)) (((x3).length : Int), 0)).bind fun a21 =>
      some (a21, 0)

/-- groove/distance.Spectrum -/
noncomputable def m_distance_Spectrum (p0 : List (List UInt8)) : Option ((List (Int)) × Int) :=
  (m_distance_listed p0).bind fun x1 =>
  if x1 ≠ 0 then
    some ([], x1)
  else
    if ((p0).length : Int) = 0 then
      some ([], 5)
    else
      (idx p0 0).bind fun x3 =>
      if 0 ≤ (IntKind.wrap .i64 (((x3).length : Int) + 1) : Int) ∧ (IntKind.wrap .i64 (((x3).length : Int) + 1) : Int) ≤ IntKind.wrap .i64 (((x3).length : Int) + 1) ∧ (IntKind.wrap .i64 (((x3).length : Int) + 1) : Int) * 8 ≤ 281474976710656 then
        (y_distance_pairs p0).bind fun L8 =>
        lpO (forL (S := (List Int)) (X := Unit) (fun a10 (x12 : Int) =>
            (idx a10 x12).bind fun x16 =>
            (idx a10 x12).bind fun x18 =>
            (idx a10 x12).bind fun x20 =>
            some (Stp.next ((a10).set (x12).toNat (IntKind.wrap .i64 (x18 + 1))))) L8 (List.replicate (IntKind.wrap .i64 (((x3).length : Int) + 1)).toNat 0)) (fun a22 =>
            some (a22, 0)) fun a24 =>
            none
      else none

/-- groove/grooveref46.Spectrum -/
noncomputable def m_ref46_Spectrum (p0 : List (List UInt8)) : Option ((List (Int)) × Int) :=
  (m_ref46_checkList p0).bind fun x1 =>
  if x1 ≠ 0 then
    some ([], x1)
  else
    if ((p0).length : Int) = 0 then
      some ([], 5)
    else
      (idx p0 0).bind fun x5 =>
      if 0 ≤ (IntKind.wrap .i64 (((x5).length : Int) + 1) : Int) ∧ (IntKind.wrap .i64 (((x5).length : Int) + 1) : Int) ≤ IntKind.wrap .i64 (((x5).length : Int) + 1) ∧ (IntKind.wrap .i64 (((x5).length : Int) + 1) : Int) * 8 ≤ 281474976710656 then
        (loopW (S := Int × (List Int)) (X := (List Int)) (fun a9 =>
            if a9.1 < ((p0).length : Int) then
              (loopW (S := Int × (List Int)) (X := (List Int) × Int) (fun a13 =>
                  if a13.1 < a9.1 then
                    (idx p0 a9.1).bind fun x17 =>
                    (idx p0 a13.1).bind fun x19 =>
                    (m_ref46_hamming x17 x19).bind fun x21 =>
                    (idx a13.2 x21).bind fun x23 =>
                    (idx a13.2 x21).bind fun x25 =>
                    (idx a13.2 x21).bind fun x27 =>
                    some (Stp.next (IntKind.wrap .i64 (a13.1 + 1), (a13.2).set (x21).toNat (IntKind.wrap .i64 (x25 + 1))))
                  else
                    some (Stp.exit (a13.2, a9.1))) (0, a9.2)).bind fun a29 =>
              some (Stp.next (IntKind.wrap .i64 (a29.2 + 1), a29.1))
            else
              some (Stp.exit a9.2)) (0, List.replicate (IntKind.wrap .i64 (((x5).length : Int) + 1)).toNat 0)).bind fun a31 =>
        some (a31, 0)
      else none

/-- groove/distance.nearest[string] -/
noncomputable def m_distance_nearest_string (p0 : List (List UInt8)) (p1 : (List UInt8) → Option (Int)) : Option (Int × Int) :=
  (idx p0 0).bind fun x1 =>
  (p1 x1).bind fun x3 =>
  (loopW (S := Int × Int × Int) (X := Int × Int) (fun a5 =>
      if a5.2.2 < ((p0).length : Int) then
        jp (fun (a9 : Int × Int) =>
          some (Stp.next (a9.1, a9.2, IntKind.wrap .i64 (a5.2.2 + 1))))
          fun k11 =>
          (idx p0 a5.2.2).bind fun x12 =>
          (p1 x12).bind fun x14 =>
          if x14 < a5.2.1 then
            k11 (a5.2.2, x14)
          else
            k11 (a5.1, a5.2.1)
      else
        some (Stp.exit (a5.1, a5.2.1))) (0, x3, 0)).bind fun a16 =>
  some (a16.1, a16.2)

set_option maxHeartbeats 8000000 in
set_option maxRecDepth 100000 in
theorem w_distance_nearest_string {p0 : List (List UInt8)} {p1 : (List UInt8) → Option (Int)} {g1 : FuncId} {z1 : List HV} {r : Int × Int} (h : m_distance_nearest_string p0 p1 = some r) (hf1 : ∀ a0 b, p1 a0 = some b → Pure Try.prog g1 ([HV.str a0] ++ z1) (· = HV.int .i64 b)) : Pure Try.prog 75 [slE eStr p0, HV.fn (.func g1) [] z1] (· = HV.tup [HV.int .i64 r.1, HV.int .i64 r.2]) := by
  unfold m_distance_nearest_string at h
  refine Pure.of_body Try.func75 rfl rfl (Nat.le_of_ble_eq_true rfl) fun hf => ?_
  unfold Try.f75
  dsimp only [enumS, Nat.reduceAdd]
  refine AW.rgs rfl fun K hK => ?_
  refine mv rfl rfl ?_
  refine mv rfl rfl ?_
  refine b_nil (hK _ (AW.to (to_le (s' := ⟨[(0, slE eStr p0), (1, HV.fn (.func g1) [] z1)], []⟩) (AS.le_of ⟨rfl, rfl, trivial⟩ trivial) ?_)))
  clear hK K
  refine AW.rgs rfl fun K hK => ?_
  refine mv rfl rfl ?_
  refine mv rfl rfl ?_
  obtain ⟨x1, h2, h⟩ := bS h
  refine bv rfl (v_idxF ty30 es30 rfl rfl (idx_lt h2)) ?_
  refine bv rfl (v_loadF ty9 rfl (l_cell eStr h2 (o := 0) rfl rfl)) ?_
  obtain ⟨x3, h4, h⟩ := bS h
  refine b_op rfl (o_call rfl rfl rfl rfl (ACallD.pure0 (hf1 _ _ h4)) ?_)
  refine mv rfl rfl ?_
  refine mv rfl rfl ?_
  refine b_nil (hK _ (AW.to (to_le (s' := ⟨[(0, slE eStr p0), (1, HV.fn (.func g1) [] z1), (6, HV.int .i64 0), (7, HV.int .i64 x3)], []⟩) (AS.le_of ⟨rfl, rfl, rfl, rfl, trivial⟩ trivial) ?_)))
  clear hK K
  refine AW.seq ?_
  refine AW.rgs rfl fun K hK => ?_
  refine mv rfl rfl ?_
  refine bv rfl (v_lenF rfl rfl ty30 rfl) ?_
  refine mv rfl rfl ?_
  refine b_nil (hK _ (AW.to (to_le (s' := ⟨[(1, HV.fn (.func g1) [] z1), (6, HV.int .i64 0), (7, HV.int .i64 x3), (16, slE eStr p0), (17, HV.int .i64 ((p0).length : Int)), (18, HV.int .i64 0)], []⟩) (AS.le_of ⟨rfl, rfl, rfl, rfl, rfl, rfl, trivial⟩ trivial) ?_)))
  clear hK K
  refine AW.lpX h (by first | exact up_then | exact up_to) (S := Int × Int × Int) (V := Unit) (fun a v => ⟨[(1, HV.fn (.func g1) [] z1), (6, HV.int .i64 a.1), (7, HV.int .i64 a.2.1), (16, slE eStr p0), (17, HV.int .i64 ((p0).length : Int)), (18, HV.int .i64 a.2.2)], []⟩) ?_ (X := Int × Int) (W := Unit) (fun a v => ⟨[(6, HV.int .i64 a.1), (7, HV.int .i64 a.2)], []⟩) (fun a16 w17 h => ?_) (fun a5 w6 st7 h => ?_)
  · exact to_le (s' := ⟨[(1, HV.fn (.func g1) [] z1), (6, HV.int .i64 0), (7, HV.int .i64 x3), (16, slE eStr p0), (17, HV.int .i64 ((p0).length : Int)), (18, HV.int .i64 0)], []⟩) (AS.le_of ⟨rfl, rfl, rfl, rfl, rfl, rfl, trivial⟩ trivial) ⟨(), rfl⟩
  · refine AW.rgs rfl fun K hK => ?_
    refine mv rfl rfl ?_
    refine mv rfl rfl ?_
    refine mv rfl rfl ?_
    refine mv rfl rfl ?_
    refine b_nil (hK _ (AW.to (to_le (s' := ⟨[(4, HV.int .i64 a16.1), (5, HV.int .i64 a16.2)], []⟩) (AS.le_of ⟨rfl, rfl, trivial⟩ trivial) ?_)))
    clear hK K
    refine AW.ret ?_
    have h := Option.some.inj h
    subst h
    exact ret_pure (hs := [HV.int .i64 a16.1, HV.int .i64 a16.2]) (q := HV.tup [HV.int .i64 a16.1, HV.int .i64 a16.2]) (.inr rfl) (resT rfl (resT rfl rfl)) rfl ⟨trivial, trivial, trivial⟩
  · refine AW.rgs rfl fun K hK => ?_
    refine bv rfl (v_bin rfl rfl b_lss) ?_
    refine b_nil (hK _ (AW.to (to_le (s' := ⟨[(1, HV.fn (.func g1) [] z1), (6, HV.int .i64 a5.1), (7, HV.int .i64 a5.2.1), (16, slE eStr p0), (17, HV.int .i64 ((p0).length : Int)), (18, HV.int .i64 a5.2.2), (19, HV.bool (decide (a5.2.2 < ((p0).length : Int))))], []⟩) (AS.le_of ⟨rfl, rfl, rfl, rfl, rfl, rfl, rfl, trivial⟩ trivial) ?_)))
    clear hK K
    refine AW.cseq rfl (fun hc => ?_) (fun hc => ?_)
    · have hc := of_decide_eq_true hc
      have h := ifT hc h
      refine AW.skip ?_
      refine AW.seqJ h (S := Int × Int) (V := Unit) (fun a v => ⟨[(1, HV.fn (.func g1) [] z1), (6, HV.int .i64 a.1), (7, HV.int .i64 a.2), (16, slE eStr p0), (17, HV.int .i64 ((p0).length : Int)), (18, HV.int .i64 a5.2.2)], []⟩) (fun a9 w10 h => ?_) (fun k11 h => ?_)
      · refine AW.rg rfl fun K hK => ?_
        refine bv rfl (v_bin rfl rfl b_add) ?_
        refine mv rfl rfl ?_
        refine b_nil (hK _ ?_)
        clear hK K
        exact to_le (s' := ⟨[(1, HV.fn (.func g1) [] z1), (6, HV.int .i64 a9.1), (7, HV.int .i64 a9.2), (16, slE eStr p0), (17, HV.int .i64 ((p0).length : Int)), (18, HV.int .i64 (IntKind.wrap .i64 (a5.2.2 + 1)))], []⟩) (AS.le_of ⟨rfl, rfl, rfl, rfl, rfl, rfl, trivial⟩ trivial) ⟨(a9.1, a9.2, IntKind.wrap .i64 (a5.2.2 + 1)), (), h, rfl⟩
      · refine AW.block ?_
        refine AW.rgs rfl fun K hK => ?_
        refine mv rfl rfl ?_
        obtain ⟨x12, h13, h⟩ := bS h
        refine bv rfl (v_idxF ty30 es30 rfl rfl (idx_lt h13)) ?_
        refine bv rfl (v_loadF ty9 rfl (l_cell eStr h13 (o := 0) rfl rfl)) ?_
        refine mv rfl rfl ?_
        refine mv rfl rfl ?_
        refine b_nil (hK _ (AW.to (to_le (s' := ⟨[(1, HV.fn (.func g1) [] z1), (6, HV.int .i64 a5.1), (7, HV.int .i64 a5.2.1), (8, HV.int .i64 a5.2.2), (9, HV.str x12), (16, slE eStr p0), (17, HV.int .i64 ((p0).length : Int)), (18, HV.int .i64 a5.2.2)], []⟩) (AS.le_of ⟨rfl, rfl, rfl, rfl, rfl, rfl, rfl, rfl, trivial⟩ trivial) ?_)))
        clear hK K
        refine AW.rgs rfl fun K hK => ?_
        refine mv rfl rfl ?_
        refine mv rfl rfl ?_
        obtain ⟨x14, h15, h⟩ := bS h
        refine b_op rfl (o_call rfl rfl rfl rfl (ACallD.pure0 (hf1 _ _ h15)) ?_)
        refine mv rfl rfl ?_
        refine b_nil (hK _ (AW.to (to_le (s' := ⟨[(1, HV.fn (.func g1) [] z1), (6, HV.int .i64 a5.1), (7, HV.int .i64 a5.2.1), (8, HV.int .i64 a5.2.2), (10, HV.int .i64 x14), (16, slE eStr p0), (17, HV.int .i64 ((p0).length : Int)), (18, HV.int .i64 a5.2.2)], []⟩) (AS.le_of ⟨rfl, rfl, rfl, rfl, rfl, rfl, rfl, rfl, trivial⟩ trivial) ?_)))
        clear hK K
        refine AW.rgs rfl fun K hK => ?_
        refine mv rfl rfl ?_
        refine mv rfl rfl ?_
        refine bv rfl (v_bin rfl rfl b_lss) ?_
        refine b_nil (hK _ (AW.to (to_le (s' := ⟨[(1, HV.fn (.func g1) [] z1), (6, HV.int .i64 a5.1), (7, HV.int .i64 a5.2.1), (8, HV.int .i64 a5.2.2), (10, HV.int .i64 x14), (16, slE eStr p0), (17, HV.int .i64 ((p0).length : Int)), (18, HV.int .i64 a5.2.2), (28, HV.bool (decide (x14 < a5.2.1)))], []⟩) (AS.le_of ⟨rfl, rfl, rfl, rfl, rfl, rfl, rfl, rfl, rfl, trivial⟩ trivial) ?_)))
        clear hK K
        refine AW.cond rfl (fun hc => ?_) (fun hc => ?_)
        · have hc := of_decide_eq_true hc
          have h := ifT hc h
          refine AW.rg rfl fun K hK => ?_
          refine mv rfl rfl ?_
          refine mv rfl rfl ?_
          refine mv rfl rfl ?_
          refine mv rfl rfl ?_
          refine b_nil (hK _ ?_)
          clear hK K
          exact to_le (s' := ⟨[(1, HV.fn (.func g1) [] z1), (6, HV.int .i64 a5.2.2), (7, HV.int .i64 x14), (16, slE eStr p0), (17, HV.int .i64 ((p0).length : Int)), (18, HV.int .i64 a5.2.2)], []⟩) (AS.le_of ⟨rfl, rfl, rfl, rfl, rfl, rfl, trivial⟩ trivial) ⟨(a5.2.2, x14), (), h, rfl⟩
        · have hc := of_decide_eq_false hc
          have h := ifF hc h
          refine AW.skip ?_
          exact to_le (s' := ⟨[(1, HV.fn (.func g1) [] z1), (6, HV.int .i64 a5.1), (7, HV.int .i64 a5.2.1), (16, slE eStr p0), (17, HV.int .i64 ((p0).length : Int)), (18, HV.int .i64 a5.2.2)], []⟩) (AS.le_of ⟨rfl, rfl, rfl, rfl, rfl, rfl, trivial⟩ trivial) ⟨(a5.1, a5.2.1), (), h, rfl⟩
    · have hc := of_decide_eq_false hc
      have h := ifF hc h
      refine AW.exit ?_
      exact to_le (s' := ⟨[(6, HV.int .i64 a5.1), (7, HV.int .i64 a5.2.1)], []⟩) (AS.le_of ⟨rfl, rfl, trivial⟩ trivial) ⟨(a5.1, a5.2.1), (), h, rfl⟩

/-- groove/distance.Nearest$1 -/
noncomputable def m_distance_Nearest_1 (p0 : List UInt8) (c0 : List UInt8) : Option (Int) :=
  (m_distance_hamming p0 c0).bind fun x1 =>
  some x1

set_option maxHeartbeats 8000000 in
set_option maxRecDepth 100000 in
theorem w_distance_Nearest_1 {p0 : List UInt8} {c0 : List UInt8} {r : Int} (h : m_distance_Nearest_1 p0 c0 = some r) : Pure Try.prog 76 [HV.str p0, HV.fptr [HV.str c0] 0] (· = HV.int .i64 r) := by
  unfold m_distance_Nearest_1 at h
  refine Pure.of_body Try.func76 rfl rfl (Nat.le_of_ble_eq_true rfl) fun hf => ?_
  unfold Try.f76
  dsimp only [enumS, Nat.reduceAdd]
  refine AW.rgs rfl fun K hK => ?_
  refine mv rfl rfl ?_
  refine b_nil (hK _ (AW.to (to_le (s' := ⟨[(0, HV.str p0), (1, HV.fptr [HV.str c0] 0)], []⟩) (AS.le_of ⟨rfl, rfl, trivial⟩ trivial) ?_)))
  clear hK K
  refine AW.rgs rfl fun K hK => ?_
  refine mv rfl rfl ?_
  refine bv rfl (v_loadF ty9 rfl (l_lit rfl rfl)) ?_
  obtain ⟨x1, h2, h⟩ := bS h
  refine b_op rfl (o_call rfl rfl rfl rfl (ACallD.pure0 (w_distance_hamming h2)) ?_)
  refine mv rfl rfl ?_
  refine b_nil (hK _ (AW.to (to_le (s' := ⟨[(3, HV.int .i64 x1)], []⟩) (AS.le_of ⟨rfl, trivial⟩ trivial) ?_)))
  clear hK K
  refine AW.ret ?_
  have h := Option.some.inj h
  subst h
  exact ret_pure (hs := [HV.int .i64 x1]) (q := HV.int .i64 x1) (.inr rfl) (resT rfl rfl) rfl trivial

/-- groove/distance.Nearest -/
noncomputable def m_distance_Nearest (p0 : List (List UInt8)) (p1 : List UInt8) : Option (Int × Int × Int) :=
  if ((p0).length : Int) = 0 then
    some (0, 0, 5)
  else
    lpO (loopW (S := Int) (X := Ou (Unit) (Int × Int × Int)) (fun a1 =>
        if a1 < ((p0).length : Int) then
          (idx p0 a1).bind fun x5 =>
          if ((x5).length : Int) ≠ ((p1).length : Int) then
            some (Stp.exit (Ou.ret (0, 0, 11)))
          else
            some (Stp.next (IntKind.wrap .i64 (a1 + 1)))
        else
          some (Stp.exit (Ou.go ()))) 0) (fun a7 =>
        (m_distance_nearest_string p0 (fun b0 => m_distance_Nearest_1 b0 p1)).bind fun x9 =>
        some (x9.1, x9.2, 0)) some

set_option maxHeartbeats 8000000 in
set_option maxRecDepth 100000 in
theorem w_distance_Nearest {p0 : List (List UInt8)} {p1 : List UInt8} {r : Int × Int × Int} (h : m_distance_Nearest p0 p1 = some r) : Pure Try.prog 30 [slE eStr p0, HV.str p1] (· = HV.tup [HV.int .i64 r.1, HV.int .i64 r.2.1, HV.int .i64 r.2.2]) := by
  unfold m_distance_Nearest at h
  refine Pure.of_body Try.func30 rfl rfl (Nat.le_of_ble_eq_true rfl) fun hf => ?_
  unfold Try.f30
  dsimp only [enumS, Nat.reduceAdd]
  refine AW.rgs rfl fun K hK => ?_
  refine b_op rfl (o_box rfl rfl rfl ?_)
  refine mv rfl rfl ?_
  refine mv rfl rfl ?_
  refine mv rfl rfl ?_
  refine b_nil (hK _ (AW.to (to_le (s' := ⟨[(0, slE eStr p0), (3, HV.fptr [HV.str p1] 0)], []⟩) (AS.le_of ⟨rfl, rfl, trivial⟩ trivial) ?_)))
  clear hK K
  refine AW.seq ?_
  refine AW.rgs rfl fun K hK => ?_
  refine mv rfl rfl ?_
  refine bv rfl (v_lenF rfl rfl ty30 rfl) ?_
  refine bv rfl (v_bin rfl rfl b_eql) ?_
  refine b_nil (hK _ (AW.to (to_le (s' := ⟨[(0, slE eStr p0), (3, HV.fptr [HV.str p1] 0), (13, HV.bool (decide (((p0).length : Int) = 0)))], []⟩) (AS.le_of ⟨rfl, rfl, rfl, trivial⟩ trivial) ?_)))
  clear hK K
  refine AW.cond rfl (fun hc => ?_) (fun hc => ?_)
  · have hc := of_decide_eq_true hc
    have h := ifT hc h
    refine AW.rgs rfl fun K hK => ?_
    refine mv rfl rfl ?_
    refine mv rfl rfl ?_
    refine mv rfl rfl ?_
    refine b_nil (hK _ (AW.to (to_le (s' := ⟨[(4, HV.int .i64 0), (5, HV.int .i64 0), (6, HV.int .i64 5)], []⟩) (AS.le_of ⟨rfl, rfl, rfl, trivial⟩ trivial) ?_)))
    clear hK K
    refine AW.ret ?_
    have h := Option.some.inj h
    subst h
    exact ret_pure (hs := [HV.int .i64 0, HV.int .i64 0, HV.int .i64 5]) (q := HV.tup [HV.int .i64 0, HV.int .i64 0, HV.int .i64 5]) (.inr rfl) (resT rfl (resT rfl (resT rfl rfl))) rfl ⟨trivial, trivial, trivial, trivial⟩
  · have hc := of_decide_eq_false hc
    have h := ifF hc h
    refine AW.skip ?_
    refine AW.seq ?_
    refine AW.rgs rfl fun K hK => ?_
    refine mv rfl rfl ?_
    refine bv rfl (v_lenF rfl rfl ty30 rfl) ?_
    refine mv rfl rfl ?_
    refine b_nil (hK _ (AW.to (to_le (s' := ⟨[(0, slE eStr p0), (3, HV.fptr [HV.str p1] 0), (14, slE eStr p0), (15, HV.int .i64 ((p0).length : Int)), (16, HV.int .i64 0)], []⟩) (AS.le_of ⟨rfl, rfl, rfl, rfl, rfl, trivial⟩ trivial) ?_)))
    clear hK K
    refine AW.lpR h (by first | exact up_then | exact up_to) (S := Int) (V := Unit) (fun a v => ⟨[(0, slE eStr p0), (3, HV.fptr [HV.str p1] 0), (14, slE eStr p0), (15, HV.int .i64 ((p0).length : Int)), (16, HV.int .i64 a)], []⟩) ?_ (X := Unit) (W := Unit) (fun a v => ⟨[(0, slE eStr p0), (3, HV.fptr [HV.str p1] 0)], []⟩) (fun a7 w8 h => ?_) (fun a1 w2 st3 h hr4=> ?_)
    · exact to_le (s' := ⟨[(0, slE eStr p0), (3, HV.fptr [HV.str p1] 0), (14, slE eStr p0), (15, HV.int .i64 ((p0).length : Int)), (16, HV.int .i64 0)], []⟩) (AS.le_of ⟨rfl, rfl, rfl, rfl, rfl, trivial⟩ trivial) ⟨(), rfl⟩
    · refine AW.rgs rfl fun K hK => ?_
      refine mv rfl rfl ?_
      refine bv rfl (v_func rfl rfl) ?_
      obtain ⟨x9, h10, h⟩ := bS h
      refine b_op rfl (o_call rfl rfl rfl rfl (ACallD.pure0 (w_distance_nearest_string h10 (fun _ _ h => w_distance_Nearest_1 h))) ?_)
      refine mv rfl rfl ?_
      refine bv rfl (v_extract rfl rfl) ?_
      refine bv rfl (v_extract rfl rfl) ?_
      refine mv rfl rfl ?_
      refine mv rfl rfl ?_
      refine b_nil (hK _ (AW.to (to_le (s' := ⟨[(9, HV.int .i64 x9.1), (10, HV.int .i64 x9.2)], []⟩) (AS.le_of ⟨rfl, rfl, trivial⟩ trivial) ?_)))
      clear hK K
      refine AW.rgs rfl fun K hK => ?_
      refine mv rfl rfl ?_
      refine mv rfl rfl ?_
      refine mv rfl rfl ?_
      refine mv rfl rfl ?_
      refine mv rfl rfl ?_
      refine b_nil (hK _ (AW.to (to_le (s' := ⟨[(4, HV.int .i64 x9.1), (5, HV.int .i64 x9.2), (6, HV.int .i64 0)], []⟩) (AS.le_of ⟨rfl, rfl, rfl, trivial⟩ trivial) ?_)))
      clear hK K
      refine AW.ret ?_
      have h := Option.some.inj h
      subst h
      exact ret_pure (hs := [HV.int .i64 x9.1, HV.int .i64 x9.2, HV.int .i64 0]) (q := HV.tup [HV.int .i64 x9.1, HV.int .i64 x9.2, HV.int .i64 0]) (.inr rfl) (resT rfl (resT rfl (resT rfl rfl))) rfl ⟨trivial, trivial, trivial, trivial⟩
    · refine AW.rgs rfl fun K hK => ?_
      refine bv rfl (v_bin rfl rfl b_lss) ?_
      refine b_nil (hK _ (AW.to (to_le (s' := ⟨[(0, slE eStr p0), (3, HV.fptr [HV.str p1] 0), (14, slE eStr p0), (15, HV.int .i64 ((p0).length : Int)), (16, HV.int .i64 a1), (17, HV.bool (decide (a1 < ((p0).length : Int))))], []⟩) (AS.le_of ⟨rfl, rfl, rfl, rfl, rfl, rfl, trivial⟩ trivial) ?_)))
      clear hK K
      refine AW.cseq rfl (fun hc => ?_) (fun hc => ?_)
      · have hc := of_decide_eq_true hc
        have h := ifT hc h
        refine AW.skip ?_
        refine AW.seq (AW.block ?_)
        refine AW.rgs rfl fun K hK => ?_
        obtain ⟨x5, h6, h⟩ := bS h
        refine bv rfl (v_idxF ty30 es30 rfl rfl (idx_lt h6)) ?_
        refine bv rfl (v_loadF ty9 rfl (l_cell eStr h6 (o := 0) rfl rfl)) ?_
        refine mv rfl rfl ?_
        refine b_nil (hK _ (AW.to (to_le (s' := ⟨[(0, slE eStr p0), (3, HV.fptr [HV.str p1] 0), (8, HV.str x5), (14, slE eStr p0), (15, HV.int .i64 ((p0).length : Int)), (16, HV.int .i64 a1)], []⟩) (AS.le_of ⟨rfl, rfl, rfl, rfl, rfl, rfl, trivial⟩ trivial) ?_)))
        clear hK K
        refine AW.rgs rfl fun K hK => ?_
        refine mv rfl rfl ?_
        refine bv rfl (v_lenS rfl rfl ty9 rfl) ?_
        refine bv rfl (v_loadF ty9 rfl (l_lit rfl rfl)) ?_
        refine bv rfl (v_lenS rfl rfl ty9 rfl) ?_
        refine bv rfl (v_bin rfl rfl b_neq) ?_
        refine b_nil (hK _ (AW.to (to_le (s' := ⟨[(0, slE eStr p0), (3, HV.fptr [HV.str p1] 0), (14, slE eStr p0), (15, HV.int .i64 ((p0).length : Int)), (16, HV.int .i64 a1), (24, HV.bool (decide (((x5).length : Int) ≠ ((p1).length : Int))))], []⟩) (AS.le_of ⟨rfl, rfl, rfl, rfl, rfl, rfl, trivial⟩ trivial) ?_)))
        clear hK K
        refine AW.cond rfl (fun hc => ?_) (fun hc => ?_)
        · have hc := of_decide_eq_true hc
          have h := ifT hc h
          refine AW.rgs rfl fun K hK => ?_
          refine mv rfl rfl ?_
          refine mv rfl rfl ?_
          refine mv rfl rfl ?_
          refine b_nil (hK _ (AW.to (to_le (s' := ⟨[(4, HV.int .i64 0), (5, HV.int .i64 0), (6, HV.int .i64 11)], []⟩) (AS.le_of ⟨rfl, rfl, rfl, trivial⟩ trivial) ?_)))
          clear hK K
          have h := hr4 _ h
          refine AW.ret ?_
          have h := Option.some.inj h
          subst h
          exact ret_pure (hs := [HV.int .i64 0, HV.int .i64 0, HV.int .i64 11]) (q := HV.tup [HV.int .i64 0, HV.int .i64 0, HV.int .i64 11]) (.inr rfl) (resT rfl (resT rfl (resT rfl rfl))) rfl ⟨trivial, trivial, trivial, trivial⟩
        · have hc := of_decide_eq_false hc
          have h := ifF hc h
          refine AW.skip ?_
          refine AW.rg rfl fun K hK => ?_
          refine bv rfl (v_bin rfl rfl b_add) ?_
          refine mv rfl rfl ?_
          refine b_nil (hK _ ?_)
          clear hK K
          exact to_le (s' := ⟨[(0, slE eStr p0), (3, HV.fptr [HV.str p1] 0), (14, slE eStr p0), (15, HV.int .i64 ((p0).length : Int)), (16, HV.int .i64 (IntKind.wrap .i64 (a1 + 1)))], []⟩) (AS.le_of ⟨rfl, rfl, rfl, rfl, rfl, trivial⟩ trivial) ⟨IntKind.wrap .i64 (a1 + 1), (), h, rfl⟩
      · have hc := of_decide_eq_false hc
        have h := ifF hc h
        refine AW.exit ?_
        exact to_le (s' := ⟨[(0, slE eStr p0), (3, HV.fptr [HV.str p1] 0)], []⟩) (AS.le_of ⟨rfl, rfl, trivial⟩ trivial) ⟨(), (), h, rfl⟩

/-- groove/grooveref46.Nearest -/
noncomputable def m_ref46_Nearest (p0 : List (List UInt8)) (p1 : List UInt8) : Option (Int × Int × Int) :=
  if ((p0).length : Int) = 0 then
    some (0, 0, 5)
  else
    lpO (loopW (S := Int) (X := Ou (Unit) (Int × Int × Int)) (fun a1 =>
        if a1 < ((p0).length : Int) then
          (idx p0 a1).bind fun x5 =>
          if ((x5).length : Int) ≠ ((p1).length : Int) then
            some (Stp.exit (Ou.ret (0, 0, 11)))
          else
            some (Stp.next (IntKind.wrap .i64 (a1 + 1)))
        else
          some (Stp.exit (Ou.go ()))) 0) (fun a7 =>
        (loopW (S := Int × Int) (X := Int) (fun a9 =>
            if a9.2 < ((p0).length : Int) then
              jp (fun (a13 : Int) =>
                some (Stp.next (a13, IntKind.wrap .i64 (a9.2 + 1))))
                fun k15 =>
                (idx p0 a9.2).bind fun x16 =>
                (m_ref46_hamming x16 p1).bind fun x18 =>
                (idx p0 a9.1).bind fun x20 =>
                (m_ref46_hamming x20 p1).bind fun x22 =>
                if x18 < x22 then
                  k15 a9.2
                else
                  k15 a9.1
            else
              some (Stp.exit a9.1)) (0, 1)).bind fun a24 =>
        (idx p0 a24).bind fun x26 =>
        (m_ref46_hamming x26 p1).bind fun x28 =>
        some (a24, x28, 0)) some

/-- slices.Equal[[]int,int] -/
noncomputable def m_slices_Equal_Lint_int (p0 : List (Int)) (p1 : List (Int)) : Option (Bool) :=
  if ((p0).length : Int) ≠ ((p1).length : Int) then
    some false
  else
    lpO (loopW (S := Int) (X := Ou (Unit) (Bool)) (fun a1 =>
        if a1 < ((p0).length : Int) then
          (idx p0 a1).bind fun x5 =>
          (idx p1 a1).bind fun x7 =>
          if x5 ≠ x7 then
            some (Stp.exit (Ou.ret false))
          else
            some (Stp.next (IntKind.wrap .i64 (a1 + 1)))
        else
          some (Stp.exit (Ou.go ()))) 0) (fun a9 =>
        some true) some

/-- groove/distance.Check -/
noncomputable def m_distance_Check (p0 : List (List UInt8)) (p1 : Int) : Option (Int) :=
  (m_distance_listed p0).bind fun x2 =>
  if x2 ≠ 0 then
    some x2
  else
    (y_distance_pairs p0).bind fun L4 =>
    lpO (forL (S := Unit) (X := Unit) (fun a6 (x8 : Int) =>
        if x8 < p1 then
          some (Stp.exit ())
        else
          some (Stp.next ())) L4 ()) (fun a12 =>
        some 0) fun a14 =>
        some 23

set_option maxHeartbeats 8000000 in
set_option maxRecDepth 100000 in
theorem w_distance_Check {p0 : List (List UInt8)} {p1 : Int} {r : Int} (h : m_distance_Check p0 p1 = some r) : Pure Try.prog 33 [slE eStr p0, HV.int .i64 p1] (· = HV.int .i64 r) := by
  unfold m_distance_Check at h
  refine Pure.of_body Try.func33 rfl rfl (Nat.le_of_ble_eq_true rfl) fun hf => ?_
  unfold Try.f33
  dsimp only [enumS, Nat.reduceAdd]
  refine AW.rgs rfl fun K hK => ?_
  refine b_op rfl (o_box rfl rfl rfl ?_)
  refine b_op rfl (o_alloc (fid := 33) (zs := [HV.int .i64 0]) 33004 rfl rfl ty27 rfl (fun v1 => ?_))
  refine b_nil (hK _ (AW.to (to_le (s' := ⟨[(0, slE eStr p0), (3, HV.fptr [HV.int .i64 p1] 0), (4, HV.ptr 33004 v1 0)], [(33004, v1, .arr 1 27 [HV.int .i64 0])]⟩) (AS.le_of ⟨rfl, rfl, rfl, trivial⟩ ⟨rfl, trivial⟩) ?_)))
  clear hK K
  refine AW.seq ?_
  refine AW.rgs rfl fun K hK => ?_
  refine mv rfl rfl ?_
  obtain ⟨x2, h3, h⟩ := bS h
  refine b_op rfl (o_call rfl rfl rfl rfl (ACallD.pure0 (w_distance_listed h3)) ?_)
  refine mv rfl rfl ?_
  refine b_nil (hK _ (AW.to (to_le (s' := ⟨[(0, slE eStr p0), (3, HV.fptr [HV.int .i64 p1] 0), (4, HV.ptr 33004 v1 0), (5, HV.int .i64 x2)], [(33004, v1, .arr 1 27 [HV.int .i64 0])]⟩) (AS.le_of ⟨rfl, rfl, rfl, rfl, trivial⟩ ⟨rfl, trivial⟩) ?_)))
  clear hK K
  refine AW.rgs rfl fun K hK => ?_
  refine mv rfl rfl ?_
  refine bv rfl (v_bin rfl rfl b_neq) ?_
  refine b_nil (hK _ (AW.to (to_le (s' := ⟨[(0, slE eStr p0), (3, HV.fptr [HV.int .i64 p1] 0), (4, HV.ptr 33004 v1 0), (5, HV.int .i64 x2), (10, HV.bool (decide (x2 ≠ 0)))], [(33004, v1, .arr 1 27 [HV.int .i64 0])]⟩) (AS.le_of ⟨rfl, rfl, rfl, rfl, rfl, trivial⟩ ⟨rfl, trivial⟩) ?_)))
  clear hK K
  refine AW.cond rfl (fun hc => ?_) (fun hc => ?_)
  · have hc := of_decide_eq_true hc
    have h := ifT hc h
    refine AW.rgs rfl fun K hK => ?_
    refine mv rfl rfl ?_
    refine b_op rfl (o_store (cs := [HV.int .i64 x2]) (zs := [HV.int .i64 x2]) rfl rfl rfl ty27 rfl rfl rfl rfl rfl ?_)
    refine b_nil (hK _ (AW.to (to_le (s' := ⟨[(4, HV.ptr 33004 v1 0)], [(33004, v1, .arr 1 27 [HV.int .i64 x2])]⟩) (AS.le_of ⟨rfl, trivial⟩ ⟨rfl, trivial⟩) ?_)))
    clear hK K
    refine AW.ret ?_
    have h := Option.some.inj h
    subst h
    exact ret_pure (hs := [HV.int .i64 x2]) (q := HV.int .i64 x2) (.inr rfl) (resP ty27 rfl rfl (l_lit rfl rfl) rfl) rfl trivial
  · have hc := of_decide_eq_false hc
    have h := ifF hc h
    refine AW.skip ?_
    refine AW.seq ?_
    refine AW.rgs rfl fun K hK => ?_
    refine mv rfl rfl ?_
    refine b_op rfl (o_call rfl rfl rfl rfl (ACallD.pure0 (w_distance_pairs p0)) ?_)
    refine b_nil (hK _ (AW.to (to_le (s' := ⟨[(3, HV.fptr [HV.int .i64 p1] 0), (4, HV.ptr 33004 v1 0), (13, HV.fn (.func 123) [] [HV.fptr [slE eStr p0] 0])], [(33004, v1, .arr 1 27 [HV.int .i64 0])]⟩) (AS.le_of ⟨rfl, rfl, rfl, trivial⟩ ⟨rfl, trivial⟩) ?_)))
    clear hK K
    refine AW.block ?_
    refine AW.to (to_le (s' := ⟨[(3, HV.fptr [HV.int .i64 p1] 0), (4, HV.ptr 33004 v1 0), (13, HV.fn (.func 123) [] [HV.fptr [slE eStr p0] 0])], [(33004, v1, .arr 1 27 [HV.int .i64 0])]⟩) (AS.le_of ⟨rfl, rfl, rfl, trivial⟩ ⟨rfl, trivial⟩) ?_)
    obtain ⟨L4, h5, h⟩ := bS h
    refine AW.rangeY (c := .ret) 33901 (fun x => [HV.int .i64 x]) h (by first | exact up_then | exact up_to) rfl (iy_distance_pairs h5) (S := Unit) (V := Unit) (fun a v => [(33004, v1, .arr 1 27 [HV.int .i64 0])]) () (X := Unit) (W := Unit) (fun a v => [(33004, v1, .arr 1 27 [HV.int .i64 23])]) (fun _ _ => rfl) (fun _ _ => rfl) rfl (fun _ => rfl) (fun a12 w13 h => ?_) (fun a14 w15 h => ?_) (fun Lo l11 v9 a6 x8 w7 st10 h => ?_)
    · refine AW.rgs rfl fun K hK => ?_
      refine b_op rfl (o_store (cs := [HV.int .i64 0]) (zs := [HV.int .i64 0]) rfl rfl rfl ty27 rfl rfl rfl rfl rfl ?_)
      refine b_nil (hK _ (AW.to (to_le (s' := ⟨[(4, HV.ptr 33004 v1 0)], [(33004, v1, .arr 1 27 [HV.int .i64 0])]⟩) (AS.le_of ⟨rfl, trivial⟩ ⟨rfl, trivial⟩) ?_)))
      clear hK K
      refine AW.ret ?_
      have h := Option.some.inj h
      subst h
      exact ret_pure (hs := [HV.int .i64 0]) (q := HV.int .i64 0) (.inr rfl) (resP ty27 rfl rfl (l_lit rfl rfl) rfl) rfl trivial
    · refine AW.ret ?_
      have h := Option.some.inj h
      subst h
      exact ret_pure (hs := [HV.int .i64 23]) (q := HV.int .i64 23) (.inr rfl) (resP ty27 rfl rfl (l_lit rfl rfl) rfl) rfl trivial
    · refine AW.rg rfl fun K hK => ?_
      refine mv rfl rfl ?_
      refine b_nil (hK _ ?_)
      clear hK K
      refine ⟨rfl, rfl, ?_⟩
      refine AW.block ?_
      refine AW.rgs rfl fun K hK => ?_
      refine mv rfl rfl ?_
      refine bv rfl (v_loadF ty3 rfl (l_lit rfl rfl)) ?_
      refine bv rfl (v_bin rfl rfl b_lss) ?_
      refine b_nil (hK _ (AW.to (to_le (s' := ⟨[(3, HV.fptr [HV.int .i64 p1] 0), (4, HV.ptr 33004 v1 0), (14, HV.int .i64 x8), (17, HV.bool (decide (x8 < p1)))], [(33901, v9, Lo .busy none), (33004, v1, .arr 1 27 [HV.int .i64 0])]⟩) (AS.le_of ⟨rfl, rfl, rfl, rfl, trivial⟩ ⟨rfl, rfl, trivial⟩) ?_)))
      clear hK K
      refine AW.cond rfl (fun hc => ?_) (fun hc => ?_)
      · have hc := of_decide_eq_true hc
        have h := ifT hc h
        refine AW.rgs rfl fun K hK => ?_
        refine b_op rfl (o_store (cs := [HV.int .i64 23]) (zs := [HV.int .i64 23]) rfl rfl rfl ty27 rfl rfl rfl rfl rfl ?_)
        refine b_nil (hK _ (AW.to (to_le (s' := ⟨[(4, HV.ptr 33004 v1 0)], [(33901, v9, Lo .busy none), (33004, v1, .arr 1 27 [HV.int .i64 23])]⟩) (AS.le_of ⟨rfl, trivial⟩ ⟨rfl, rfl, trivial⟩) ?_)))
        clear hK K
        refine AW.ret ?_
        exact ⟨rfl, (), (), h, (AS.le_of trivial ⟨rfl, rfl, trivial⟩)⟩
      · have hc := of_decide_eq_false hc
        have h := ifF hc h
        refine AW.skip ?_
        exact ⟨(), (), h, (AS.le_of trivial ⟨rfl, rfl, trivial⟩)⟩

/-- groove/grooveref46.Check -/
noncomputable def m_ref46_Check (p0 : List (List UInt8)) (p1 : Int) : Option (Int) :=
  (m_ref46_checkList p0).bind fun x1 =>
  if x1 ≠ 0 then
    some x1
  else
    lpO (loopW (S := Int) (X := Ou (Unit) (Int)) (fun a3 =>
        if a3 < ((p0).length : Int) then
          lpO (loopW (S := Int) (X := Ou (Int) (Int)) (fun a7 =>
              if a7 < a3 then
                (idx p0 a3).bind fun x11 =>
                (idx p0 a7).bind fun x13 =>
                (m_ref46_hamming x11 x13).bind fun x15 =>
                if x15 < p1 then
                  some (Stp.exit (Ou.ret 23))
                else
                  some (Stp.next (IntKind.wrap .i64 (a7 + 1)))
              else
                some (Stp.exit (Ou.go a3))) 0) (fun a17 =>
              some (Stp.next (IntKind.wrap .i64 (a17 + 1)))) (fun r => some (Stp.exit (Ou.ret r)))
        else
          some (Stp.exit (Ou.go ()))) 0) (fun a19 =>
        some 0) some

end Go.AW

/- Models, printed by lk.py. -/
namespace Go.AW
open Go
set_option linter.unusedVariables false
/-- groove/grooveref10.Great -/
noncomputable def m_ref10_Great (p0 : TLabelsStatesEdges) : Option (Bool) :=
  jp (fun (a1 : Bool) =>
    some a1)
    fun k3 =>
    if 8 < p0.2.1 then
      if p0.2.1 ≤ 64 then
        k3 true
      else
        if 30 < ((p0.2.2).length : Int) then
          if ((p0.2.2).length : Int) ≤ 1024 then
            k3 true
          else
            k3 (decide (1027 < ((p0.2.2).length : Int)))
        else
          k3 (decide (1027 < ((p0.2.2).length : Int)))
    else
      if 30 < ((p0.2.2).length : Int) then
        if ((p0.2.2).length : Int) ≤ 1024 then
          k3 true
        else
          k3 (decide (1027 < ((p0.2.2).length : Int)))
      else
        k3 (decide (1027 < ((p0.2.2).length : Int)))

/-- groove/groovelaw46.small -/
noncomputable def m_law46_small (p0 : TLabelsStatesEdges) (p1 : Int) : Option (Bool) :=
  jp (fun (a1 : Bool) =>
    some a1)
    fun k3 =>
    (m_ref10_Great p0).bind fun x4 =>
    if (!x4) = true then
      if p0.1 ≤ 3 then
        if p1 ≤ 5 then
          k3 true
        else
          k3 (decide (65536 < p1))
      else
        if 16 < p0.1 then
          if p1 ≤ 5 then
            k3 true
          else
            k3 (decide (65536 < p1))
        else
          k3 false
    else
      k3 false

/-- groove/distance.words -/
noncomputable def m_distance_words (p0 : TLabelsStatesEdges) (p1 : Int) : Option ((List (List UInt8)) × Int) :=
  (m_language_Words p0 p1).bind fun x1 =>
  if x1.2 ≠ 0 then
    some ([], x1.2)
  else
    if 512 < ((x1.1).length : Int) then
      some ([], 4)
    else
      some (x1.1, 0)

/-- groove/distance.Of -/
noncomputable def m_distance_Of (p0 : TLabelsStatesEdges) (p1 : Int) : Option (Int × Int) :=
  (m_distance_words p0 p1).bind fun x1 =>
  if x1.2 ≠ 0 then
    some (0, x1.2)
  else
    (m_distance_Least x1.1).bind fun x3 =>
    some (x3.1, x3.2)

/-- groove/grooveref46.words -/
noncomputable def m_ref46_words (p0 : TLabelsStatesEdges) (p1 : Int) : Option ((List (List UInt8)) × Int) :=
  (m_ref11_Words p0 p1).bind fun x1 =>
  if x1.2 ≠ 0 then
    some ([], x1.2)
  else
    if 512 < ((x1.1).length : Int) then
      some ([], 4)
    else
      some (x1.1, 0)

/-- groove/grooveref46.Of -/
noncomputable def m_ref46_Of (p0 : TLabelsStatesEdges) (p1 : Int) : Option (Int × Int) :=
  (m_ref46_words p0 p1).bind fun x1 =>
  if x1.2 ≠ 0 then
    some (0, x1.2)
  else
    (m_ref46_Least x1.1).bind fun x3 =>
    some (x3.1, x3.2)

/-- groove/distance.Greedy -/
noncomputable def m_distance_Greedy (p0 : TLabelsStatesEdges) (p1 : Int) (p2 : Int) : Option ((List (List UInt8)) × Int) :=
  jp (fun (a1 : Bool) =>
    if a1 = true then
      some ([], 2)
    else
      (m_distance_words p0 p1).bind fun x4 =>
      if x4.2 ≠ 0 then
        some ([], x4.2)
      else
        (loopW (S := Int × (List (List UInt8))) (X := (List (List UInt8))) (fun a6 =>
            if a6.1 < ((x4.1).length : Int) then
              jp (fun (a10 : (List (List UInt8))) =>
                some (Stp.next (IntKind.wrap .i64 (a6.1 + 1), a10)))
                fun k12 =>
                (idx x4.1 a6.1).bind fun x13 =>
                (loopW (S := Bool × Int) (X := Bool) (fun a15 =>
                    if a15.2 < (((a6.2).length : Nat) : Int) then
                      jp (fun (a19 : Bool) =>
                        some (Stp.next (a19, IntKind.wrap .i64 (a15.2 + 1))))
                        fun k21 =>
                        (idx a6.2 a15.2).bind fun x22 =>
                        (idx a6.2 a15.2).bind fun x24 =>
                        if a15.1 = true then
                          (m_distance_hamming x24 x13).bind fun x26 =>
                          k21 (decide (p2 ≤ x26))
                        else
                          k21 false
                    else
                      some (Stp.exit a15.1)) (true, 0)).bind fun a29 =>
                if a29 = true then
                  if fits 16 ((a6.2 : List (List UInt8)).length + ([x13]).length) then
                    k12 (a6.2 ++ [x13])
                  else none
                else
                  k12 a6.2
            else
              some (Stp.exit a6.2)) (0, ([] : List (List UInt8)))).bind fun a34 =>
        some (a34, 0))
    fun k3 =>
    if p2 < 1 then
      k3 true
    else
      k3 (decide (65536 < p2))

/-- groove/grooveref46.Greedy -/
noncomputable def m_ref46_Greedy (p0 : TLabelsStatesEdges) (p1 : Int) (p2 : Int) : Option ((List (List UInt8)) × Int) :=
  jp (fun (a1 : Bool) =>
    if a1 = true then
      some ([], 2)
    else
      (m_ref46_words p0 p1).bind fun x5 =>
      if x5.2 ≠ 0 then
        some ([], x5.2)
      else
        (loopW (S := Int × (List (List UInt8))) (X := (List (List UInt8))) (fun a9 =>
            if a9.1 < ((x5.1).length : Int) then
              jp (fun (a13 : (List (List UInt8))) =>
                some (Stp.next (IntKind.wrap .i64 (a9.1 + 1), a13)))
                fun k15 =>
                (loopW (S := Bool × Int) (X := Bool) (fun a16 =>
                    if a16.2 < (((a9.2).length : Nat) : Int) then
                      jp (fun (a20 : Bool) =>
                        some (Stp.next (a20, IntKind.wrap .i64 (a16.2 + 1))))
                        fun k22 =>
                        if a16.1 = true then
                          (idx x5.1 a9.1).bind fun x23 =>
                          (idx a9.2 a16.2).bind fun x25 =>
                          (idx a9.2 a16.2).bind fun x27 =>
                          (m_ref46_hamming x23 x27).bind fun x29 =>
                          k22 (decide (p2 ≤ x29))
                        else
                          k22 false
                    else
                      some (Stp.exit a16.1)) (true, 0)).bind fun a32 =>
                if a32 = true then
                  (idx x5.1 a9.1).bind fun x34 =>
                  if fits 16 ((a9.2 : List (List UInt8)).length + ([x34]).length) then
                    k15 (a9.2 ++ [x34])
                  else none
                else
                  k15 a9.2
            else
              some (Stp.exit a9.2)) (0, [])).bind fun a38 =>
        some (a38, 0))
    fun k3 =>
    if p2 < 1 then
      k3 true
    else
      k3 (decide (65536 < p2))

/-- slices.Equal[[]string,string] -/
noncomputable def m_slices_Equal_Lstring_string (p0 : List (List UInt8)) (p1 : List (List UInt8)) : Option (Bool) :=
  if ((p0).length : Int) ≠ ((p1).length : Int) then
    some false
  else
    lpO (loopW (S := Int) (X := Ou (Unit) (Bool)) (fun a1 =>
        if a1 < ((p0).length : Int) then
          (idx p0 a1).bind fun x5 =>
          (idx p1 a1).bind fun x7 =>
          if x5 ≠ x7 then
            some (Stp.exit (Ou.ret false))
          else
            some (Stp.next (IntKind.wrap .i64 (a1 + 1)))
        else
          some (Stp.exit (Ou.go ()))) 0) (fun a9 =>
        some true) some

/-- groove/groovelaw46.DistanceGraphs -/
noncomputable def m_law46_DistanceGraphs (p0 : TLabelsStatesEdges) (p1 : Int) (p2 : Int) : Option (Bool) :=
  (m_law46_small p0 p1).bind fun x1 =>
  if (!x1) = true then
    (m_law46_awake).bind fun x3 =>
    some x3
  else
    (m_distance_Of p0 p1).bind fun x5 =>
    (m_ref46_Of p0 p1).bind fun x7 =>
    (m_distance_Greedy p0 p1 p2).bind fun x9 =>
    (m_ref46_Greedy p0 p1 p2).bind fun x11 =>
    jp (fun (a13 : Bool) =>
      some a13)
      fun k15 =>
      if x5.1 = x7.1 then
        if x5.2 = x7.2 then
          (m_slices_Equal_Lstring_string x9.1 x11.1).bind fun x16 =>
          if x16 = true then
            if x9.2 = x11.2 then
              (m_law46_awake).bind fun x18 =>
              k15 x18
            else
              k15 false
          else
            k15 false
        else
          k15 false
      else
        k15 false

/-- cmp.isNaN[string] -/
noncomputable def m_cmp_isNaN_string (p0 : List UInt8) : Option (Bool) :=
  some (decide (p0 ≠ p0))

/-- cmp.Less[string] -/
noncomputable def m_cmp_Less_string (p0 : List UInt8) (p1 : List UInt8) : Option (Bool) :=
  jp (fun (a1 : Bool) =>
    some a1)
    fun k3 =>
    (m_cmp_isNaN_string p0).bind fun x4 =>
    if x4 = true then
      (m_cmp_isNaN_string p1).bind fun x6 =>
      if (!x6) = true then
        k3 true
      else
        k3 (Op.bytesLess p0 p1)
    else
      k3 (Op.bytesLess p0 p1)

/-- slices.IsSorted[[]string,string] -/
noncomputable def m_slices_IsSorted_Lstring_string (p0 : List (List UInt8)) : Option (Bool) :=
  lpO (loopW (S := Int) (X := Ou (Unit) (Bool)) (fun a1 =>
      if 0 < a1 then
        (idx p0 a1).bind fun x5 =>
        (idx p0 (IntKind.wrap .i64 (a1 - 1))).bind fun x7 =>
        (m_cmp_Less_string x5 x7).bind fun x9 =>
        if x9 = true then
          some (Stp.exit (Ou.ret false))
        else
          some (Stp.next (IntKind.wrap .i64 (a1 - 1)))
      else
        some (Stp.exit (Ou.go ()))) (IntKind.wrap .i64 (((p0).length : Int) - 1))) (fun a11 =>
      some true) some

/-- slices.Index[[]string,string] -/
noncomputable def m_slices_Index_Lstring_string (p0 : List (List UInt8)) (p1 : List UInt8) : Option (Int) :=
  lpO (loopW (S := Int) (X := Ou (Unit) (Int)) (fun a1 =>
      if a1 < ((p0).length : Int) then
        (idx p0 a1).bind fun x5 =>
        if p1 = x5 then
          some (Stp.exit (Ou.ret a1))
        else
          some (Stp.next (IntKind.wrap .i64 (a1 + 1)))
      else
        some (Stp.exit (Ou.go ()))) 0) (fun a7 =>
      some (-1)) some

/-- slices.Contains[[]string,string] -/
noncomputable def m_slices_Contains_Lstring_string (p0 : List (List UInt8)) (p1 : List UInt8) : Option (Bool) :=
  (m_slices_Index_Lstring_string p0 p1).bind fun x1 =>
  some (decide (0 ≤ x1))

/-- groove/groovelaw46.DistanceGreedy -/
noncomputable def m_law46_DistanceGreedy (p0 : TLabelsStatesEdges) (p1 : Int) (p2 : Int) : Option (Bool) :=
  jp (fun (a1 : Bool) =>
    if a1 = true then
      (m_law46_awake).bind fun x4 =>
      some x4
    else
      (m_language_Words p0 (Int.tmod (IntKind.wrap .i64 p1) 6)).bind fun x6 =>
      (m_distance_Greedy p0 (Int.tmod (IntKind.wrap .i64 p1) 6) (IntKind.wrap .i64 (1 + (Int.tmod (IntKind.wrap .i64 p2) 5)))).bind fun x8 =>
      jp (fun (a10 : Bool) =>
        if a10 = true then
          some false
        else
          jp (fun (a13 : Bool) =>
            if a13 = true then
              some false
            else
              lpO (loopW (S := Int) (X := Ou (Unit) (Bool)) (fun a16 =>
                  if a16 < ((x8.1).length : Int) then
                    (idx x8.1 a16).bind fun x20 =>
                    (m_slices_Contains_Lstring_string x6.1 x20).bind fun x22 =>
                    if (!x22) = true then
                      some (Stp.exit (Ou.ret false))
                    else
                      some (Stp.next (IntKind.wrap .i64 (a16 + 1)))
                  else
                    some (Stp.exit (Ou.go ()))) 0) (fun a24 =>
                  lpO (loopW (S := Int) (X := Ou (Unit) (Bool)) (fun a26 =>
                      if a26 < ((x6.1).length : Int) then
                        jp (fun (a30 : Unit) =>
                          some (Stp.next (IntKind.wrap .i64 (a26 + 1))))
                          fun k32 =>
                          (idx x6.1 a26).bind fun x33 =>
                          (m_slices_Contains_Lstring_string x8.1 x33).bind fun x35 =>
                          if x35 = true then
                            k32 ()
                          else
                            (m_distance_Nearest x8.1 x33).bind fun x37 =>
                            jp (fun (a39 : Bool) =>
                              if a39 = true then
                                some (Stp.exit (Ou.ret false))
                              else
                                k32 ())
                              fun k41 =>
                              if x37.2.2 ≠ 0 then
                                k41 true
                              else
                                k41 (decide ((IntKind.wrap .i64 (1 + (Int.tmod (IntKind.wrap .i64 p2) 5))) ≤ x37.2.1))
                      else
                        some (Stp.exit (Ou.go ()))) 0) (fun a43 =>
                      (m_law46_awake).bind fun x45 =>
                      some x45) some) some)
            fun k15 =>
            (m_distance_Check x8.1 (IntKind.wrap .i64 (1 + (Int.tmod (IntKind.wrap .i64 p2) 5)))).bind fun x47 =>
            if x47 ≠ 0 then
              k15 true
            else
              (m_slices_IsSorted_Lstring_string x8.1).bind fun x49 =>
              k15 (!x49))
        fun k12 =>
        if x6.2 ≠ 0 then
          k12 true
        else
          k12 (decide (x8.2 ≠ 0)))
    fun k3 =>
    (m_law46_small p0 (Int.tmod (IntKind.wrap .i64 p1) 6)).bind fun x53 =>
    if (!x53) = true then
      k3 true
    else
      (m_ref09_Check p0).bind fun x55 =>
      if x55 ≠ 0 then
        k3 true
      else
        k3 (decide (3 < p0.1))

end Go.AW

namespace Go.AW
open Go Go.Proofs

def leastN (l : List (List UInt8)) : Int := (pairsL l).foldl min ((l.headD []).length : Int)

def leastE (l : List (List UInt8)) : Int × Int := if listedE l ≠ 0 then (0, listedE l) else if l.length < 2 then (0, 5) else (leastN l, 0)

theorem same_len {l : List (List UInt8)} (h : listedE l = 0) : ∀ u ∈ l, ∀ v ∈ l, u.length = v.length := by
  unfold listedE at h
  split at h
  · cases h
  · split at h
    · rename_i hw
      intro u hu v hv
      rw [hw u hu, hw v hv]
    · cases h
end Go.AW

namespace Go.AW
open Go Go.Proofs
set_option linter.unusedSimpArgs false

end Go.AW

namespace Go.AW
open Go

theorem mem_pairs {l : List (List UInt8)} {x : Int} : x ∈ pairsL l ↔ ∃ i k, k < i ∧ i < l.length ∧ x = (ham (l.getD i []) (l.getD k []) : Int) := by
  simp only [pairsL, prows, prow, List.mem_flatMap, List.mem_map, List.mem_range]
  constructor
  · rintro ⟨i, hi, k, hk, rfl⟩
    exact ⟨i, k, hk, hi, rfl⟩
  · rintro ⟨i, k, hk, hi, rfl⟩
    exact ⟨i, hi, k, hk, rfl⟩

/-- a list without one element -/
def cutL (l : List (List UInt8)) (k : Nat) : List (List UInt8) := l.take k ++ l.drop (k + 1)

end Go.AW

/- What the functions of chapter 46 and its reference compute on lists of texts. -/
namespace Go.AW
open Go Go.Proofs
set_option linter.unusedSimpArgs false


theorem toNat_ne {a b : UInt8} : ((a.toNat : Int) ≠ (b.toNat : Int)) ↔ a ≠ b := by
  rw [ne_eq, ne_eq, Int.ofNat_inj, UInt8.toNat_inj]

theorem ref_hamming : m_ref46_hamming = m_distance_hamming := rfl
theorem hamming_eq {u v : List UInt8} (hl : u.length ≤ v.length) (hm : u.length ≤ 9223372036854775807) : m_distance_hamming u v = some (ham u v : Int) := by
  unfold m_distance_hamming
  refine bindL (loop_is (fun i => ((ham (u.take i) (v.take i) : Int), (i : Int))) u.length (ham u v : Int) (fun i hi => ?_) ?_ (by simp [ham])) rfl
  · have hi2 : i < v.length := by omega
    dsimp only
    rw [if_pos (lt_int hi), ix hi, ix hi2]
    simp only [jp, Option.bind_some, nx hm hi, ham_take u v i hi hi2]
    have hle := ham_le (u.take i) (v.take i)
    rw [List.length_take] at hle
    by_cases he : u[i] = v[i]
    · rw [if_neg (by rw [toNat_ne]; exact fun h => h he), if_pos he]
      rfl
    · rw [if_pos (toNat_ne.2 he), if_neg he, w64 (by omega) (by omega)]
      rfl
  · dsimp only
    rw [if_neg (not_lt_int _), List.take_length, ham_take_left]

theorem listed_eq {l : List (List UInt8)} : m_distance_listed l = some (listedE l) := by
  unfold m_distance_listed listedE
  by_cases h4 : 4096 < l.length
  · rw [if_pos (by omega), if_pos h4]
  · rw [if_neg (by omega), if_neg h4]
    have hm : l.length ≤ 9223372036854775807 := by omega
    refine lpL (loop_any (fun i => (i : Int)) l.length (fun i => decide ((l.getD i []).length ≠ (l.headD []).length)) (Ou.ret 11) (Ou.go ()) (fun i hi => ?_) (by rw [if_neg (not_lt_int _)]) rfl) ?_
    · have h0 : 0 < l.length := by omega
      have hd : l.headD [] = l[0] := by cases l with
        | nil => simp at h0
        | cons x xs => rfl
      rw [if_pos (lt_int hi), ix hi, ix0 h0]
      simp only [Option.bind_some, nx hm hi, hd, getD_at hi, decide_eq_true_eq]
      by_cases he : l[i].length = l[0].length
      · rw [if_neg (by omega), if_neg (by omega)]
      · rw [if_pos (by omega), if_pos he]
    by_cases ha : ∀ w ∈ l, w.length = (l.headD []).length
    · rw [if_pos ha, if_neg]
      · rfl
      · intro hx
        obtain ⟨i, hi, hp⟩ := List.any_eq_true.1 hx
        have hi := List.mem_range.1 hi
        rw [getD_at hi] at hp
        exact (of_decide_eq_true hp) (ha _ (List.getElem_mem hi))
    · rw [if_neg ha, if_pos]
      · rfl
      · refine List.any_eq_true.2 ?_
        apply Classical.byContradiction
        intro hno
        refine ha fun w hw => ?_
        obtain ⟨i, hi, rfl⟩ := List.getElem_of_mem hw
        apply Classical.byContradiction
        intro hne
        exact hno ⟨i, List.mem_range.2 hi, by rw [getD_at hi]; exact decide_eq_true hne⟩

theorem uni_of {l : List (List UInt8)} (h : listedE l = 0) : uni l = true := by
  have := same_len h
  exact List.all_eq_true.2 fun u hu => List.all_eq_true.2 fun v hv => decide_eq_true (this u hu v hv)
theorem len_of {l : List (List UInt8)} (h : listedE l = 0) : l.length ≤ 4096 := by
  unfold listedE at h
  split at h
  · cases h
  · omega
theorem pairs_eq {l : List (List UInt8)} (h : listedE l = 0) : y_distance_pairs l = some (pairsL l) := by
  unfold y_distance_pairs
  have := len_of h
  rw [if_pos ⟨uni_of h, by omega⟩]

/-- how often each distance occurs -/
def cntF (a : List Int) (d : Int) : List Int := a.set d.toNat (IntKind.wrap .i64 (a.getD d.toNat 0 + 1))
def specN (l : List (List UInt8)) : List Int := (pairsL l).foldl cntF (List.replicate ((l.headD []).length + 1) 0)
def specE (l : List (List UInt8)) : List Int × Int := if listedE l ≠ 0 then ([], listedE l) else if l.length = 0 then ([], 5) else (specN l, 0)

/-- the check of a distance -/
def checkE (l : List (List UInt8)) (d : Int) : Int := if listedE l ≠ 0 then listedE l else if (pairsL l).any (fun x => decide (x < d)) = true then 23 else 0

theorem Check_eq (l : List (List UInt8)) (d : Int) : m_distance_Check l d = some (checkE l d) := by
  unfold m_distance_Check checkE
  rw [listed_eq]
  simp only [Option.bind_some]
  by_cases h : listedE l = 0
  · have hn : ¬ (listedE l ≠ 0) := by omega
    rw [if_neg hn, if_neg hn, pairs_eq h]
    simp only [Option.bind_some]
    refine lpL (forL_any (fun x => decide (x < d)) () (fun s x => ?_) _) ?_
    · simp only [decide_eq_true_eq]
    · split <;> rfl
  · rw [if_pos h, if_pos h]

end Go.AW

namespace Go.AW
open Go Go.Proofs
set_option linter.unusedVariables false
/-- groove/groovelaw46.DistanceLists -/
noncomputable def m_law46_DistanceLists (p0 : List (List UInt8)) (p1 : List UInt8) (p2 : Int) : Option (Bool) :=
  jp (fun (a1 : Bool) =>
    if a1 = true then
      (m_law46_awake).bind fun x4 =>
      some x4
    else
      jp (fun (a6 : Unit) =>
        (m_distance_Least p0).bind fun x9 =>
        (m_ref46_Least p0).bind fun x11 =>
        (m_distance_Spectrum p0).bind fun x13 =>
        (m_ref46_Spectrum p0).bind fun x15 =>
        (m_distance_Nearest p0 p1).bind fun x17 =>
        (m_ref46_Nearest p0 p1).bind fun x19 =>
        jp (fun (a21 : Bool) =>
          some a21)
          fun k23 =>
          if x9.1 = x11.1 then
            if x9.2 = x11.2 then
              (m_slices_Equal_Lint_int x13.1 x15.1).bind fun x24 =>
              if x24 = true then
                if x13.2 = x15.2 then
                  if x17.1 = x19.1 then
                    if x17.2.1 = x19.2.1 then
                      if x17.2.2 = x19.2.2 then
                        (m_distance_Check p0 p2).bind fun x26 =>
                        (m_ref46_Check p0 p2).bind fun x28 =>
                        if x26 = x28 then
                          (m_law46_awake).bind fun x30 =>
                          k23 x30
                        else
                          k23 false
                      else
                        k23 false
                    else
                      k23 false
                  else
                    k23 false
                else
                  k23 false
              else
                k23 false
            else
              k23 false
          else
            k23 false)
        fun k8 =>
        if 0 < ((p0).length : Int) then
          (idx p0 0).bind fun x40 =>
          (m_distance_Hamming x40 p1).bind fun x42 =>
          (idx p0 0).bind fun x44 =>
          (m_ref46_Hamming x44 p1).bind fun x46 =>
          jp (fun (a48 : Bool) =>
            if a48 = true then
              some false
            else
              k8 ())
            fun k50 =>
            if x42.1 ≠ x46.1 then
              k50 true
            else
              k50 (decide (x42.2 ≠ x46.2))
        else
          k8 ())
    fun k3 =>
    (m_ref46_Great p0).bind fun x52 =>
    if x52 = true then
      k3 true
    else
      k3 (decide (20 < ((p1).length : Int)))

end Go.AW

/- The nearest text; the sizes; the law of lists. -/
namespace Go.AW
open Go Go.Proofs
set_option linter.unusedSimpArgs false

def nearF (l : List (List UInt8)) (w : List UInt8) (k i : Nat) : Nat := if ham (l.getD i []) w < ham (l.getD k []) w then i else k
def nearN (l : List (List UInt8)) (w : List UInt8) : Nat := (List.range l.length).foldl (nearF l w) 0
def nearE (l : List (List UInt8)) (w : List UInt8) : Int × Int × Int := if l.length = 0 then (0, 0, 5) else if (∃ u ∈ l, u.length ≠ w.length) then (0, 0, 11) else ((nearN l w : Int), (ham (l.getD (nearN l w) []) w : Int), 0)

theorem nearF_lt {l : List (List UInt8)} {w : List UInt8} {k i : Nat} (hi : i < l.length) (hk : k < l.length) : nearF l w k i < l.length := by
  unfold nearF; split <;> assumption
theorem hamw {l : List (List UInt8)} {w : List UInt8} (hl : ∀ u ∈ l, u.length = w.length) (hw : w.length ≤ 9223372036854775807) {i : Nat} (hi : i < l.length) : m_distance_hamming l[i] w = some (ham (l.getD i []) w : Int) := by
  have h1 := hl _ (List.getElem_mem hi)
  rw [hamming_eq (by omega) (by omega), getD_at hi]

theorem sizes_any {l : List (List UInt8)} {w : List UInt8} : (List.range l.length).any (fun i => decide ((l.getD i []).length ≠ w.length)) = true ↔ ∃ u ∈ l, u.length ≠ w.length := by
  constructor
  · intro h
    obtain ⟨i, hi, hp⟩ := List.any_eq_true.1 h
    have hi := List.mem_range.1 hi
    rw [getD_at hi] at hp
    exact ⟨_, List.getElem_mem hi, of_decide_eq_true hp⟩
  · rintro ⟨u, hu, hne⟩
    obtain ⟨i, hi, rfl⟩ := List.getElem_of_mem hu
    exact List.any_eq_true.2 ⟨i, List.mem_range.2 hi, by rw [getD_at hi]; exact decide_eq_true hne⟩

theorem Nearest_eq (l : List (List UInt8)) (w : List UInt8) (hm : l.length ≤ 9223372036854775807) (hw : w.length ≤ 9223372036854775807) : m_distance_Nearest l w = some (nearE l w) := by
  unfold m_distance_Nearest nearE
  by_cases h0 : l.length = 0
  · rw [if_pos (by omega), if_pos h0]
  · rw [if_neg (by omega), if_neg h0]
    refine lpL (loop_any (fun i => (i : Int)) l.length (fun i => decide ((l.getD i []).length ≠ w.length)) (Ou.ret (0, 0, 11)) (Ou.go ()) (fun i hi => ?_) (by rw [if_neg (not_lt_int _)]) rfl) ?_
    · rw [if_pos (lt_int hi), ix hi]
      simp only [Option.bind_some, nx hm hi, getD_at hi, decide_eq_true_eq]
      by_cases he : l[i].length = w.length
      · rw [if_neg (by omega), if_neg (by omega)]
      · rw [if_pos (by omega), if_pos he]
    · by_cases ha : ∃ u ∈ l, u.length ≠ w.length
      · rw [if_pos (sizes_any.2 ha), if_pos ha]
        rfl
      · rw [if_neg (fun h => ha (sizes_any.1 h)), if_neg ha]
        have hl : ∀ u ∈ l, u.length = w.length := fun u hu => Classical.byContradiction fun h => ha ⟨u, hu, h⟩
        have hp : 0 < l.length := by omega
        simp only [lpO]
        unfold m_distance_nearest_string
        rw [ix0 hp]
        simp only [Option.bind_some, m_distance_Nearest_1, hamw hl hw hp]
        have e : ∀ o : Option (Int × Int), o = some ((nearN l w : Int), (ham (l.getD (nearN l w) []) w : Int)) → (o.bind fun x9 => some (x9.1, x9.2, (0 : Int))) = some ((nearN l w : Int), (ham (l.getD (nearN l w) []) w : Int), 0) := fun o h => by rw [h]; rfl
        refine e _ (bindL (loop_fold (fun i (k : Nat) => ((k : Int), (ham (l.getD k []) w : Int), (i : Int))) l.length (nearF l w) (fun k => ((k : Int), (ham (l.getD k []) w : Int))) (fun k => k < l.length) (fun i k hi hk => nearF_lt hi hk) (fun i k hi hk => ?_) (fun k _ => ?_) 0 hp rfl) rfl)
        · dsimp only
          rw [if_pos (lt_int hi)]
          simp only [jp, ix hi, Option.bind_some, hamw hl hw hi, nx hm hi]
          unfold nearF
          by_cases hlt : ham (l.getD i []) w < ham (l.getD k []) w
          · rw [if_pos (by omega), if_pos hlt]
          · rw [if_neg (by omega), if_neg hlt]
        · dsimp only
          rw [if_neg (not_lt_int _)]

def hamE (u v : List UInt8) : Int × Int := if u.length = v.length then ((ham u v : Int), 0) else (0, 11)
end Go.AW

/- The greedy codes; the laws of graphs of chapter 46. -/
namespace Go.AW
open Go Go.Proofs
set_option linter.unusedSimpArgs false
set_option linter.unusedVariables false

theorem ham_comm : ∀ (u v : List UInt8), ham u v = ham v u
  | [], [] => rfl
  | [], _ :: _ => rfl
  | _ :: _, [] => rfl
  | a :: u, b :: v => by
    simp only [ham, ham_comm u v]
    by_cases h : a = b
    · rw [if_pos h, if_pos h.symm]
    · rw [if_neg h, if_neg (fun e => h e.symm)]

/-! ### the greedy list -/
def greedyF (d : Int) (acc : List (List UInt8)) (w : List UInt8) : List (List UInt8) := if acc.all (fun u => decide (d ≤ (ham u w : Int))) = true then acc ++ [w] else acc
def greedyN (d : Int) (l : List (List UInt8)) : List (List UInt8) := l.foldl (greedyF d) []

theorem greedy_sub (d : Int) : ∀ (l acc : List (List UInt8)), ∃ m, l.foldl (greedyF d) acc = acc ++ m ∧ m.Sublist l
  | [], acc => ⟨[], by simp, List.Sublist.refl _⟩
  | w :: l, acc => by
    obtain ⟨m, h1, h2⟩ := greedy_sub d l (greedyF d acc w)
    rw [List.foldl_cons, h1]
    unfold greedyF
    split
    · exact ⟨w :: m, by simp, h2.cons_cons w⟩
    · exact ⟨m, rfl, h2.cons w⟩
theorem greedyN_sub (d : Int) (l : List (List UInt8)) : (greedyN d l).Sublist l := by
  obtain ⟨m, h1, h2⟩ := greedy_sub d l []
  unfold greedyN
  rw [h1, List.nil_append]; exact h2
theorem greedy_take (d : Int) {l : List (List UInt8)} {i : Nat} (h : i < l.length) : greedyN d (l.take (i + 1)) = greedyF d (greedyN d (l.take i)) l[i] := by
  unfold greedyN
  rw [List.take_add_one, List.getElem?_eq_getElem h, List.foldl_append]
  rfl
theorem greedy_far (d : Int) : ∀ (l acc : List (List UInt8)), acc.Pairwise (fun u v => d ≤ (ham u v : Int)) → (l.foldl (greedyF d) acc).Pairwise (fun u v => d ≤ (ham u v : Int))
  | [], acc, h => h
  | w :: l, acc, h => by
    rw [List.foldl_cons]
    refine greedy_far d l _ ?_
    unfold greedyF
    split
    · rename_i ha
      refine List.pairwise_append.2 ⟨h, List.pairwise_singleton _ _, fun u hu v hv => ?_⟩
      rw [List.mem_singleton.1 hv]
      exact of_decide_eq_true (List.all_eq_true.1 ha u hu)
    · exact h
theorem greedy_cover (d : Int) : ∀ (l acc : List (List UInt8)) (w : List UInt8), w ∈ l → w ∈ l.foldl (greedyF d) acc ∨ ∃ u ∈ l.foldl (greedyF d) acc, (ham u w : Int) < d
  | w' :: l, acc, w, h => by
    rw [List.foldl_cons]
    rcases List.mem_cons.1 h with rfl | h
    · obtain ⟨m, h1, _⟩ := greedy_sub d l (greedyF d acc w)
      rw [h1]
      unfold greedyF
      split
      · exact .inl (by simp)
      · rename_i ha
        right
        apply Classical.byContradiction
        intro hno
        refine ha (List.all_eq_true.2 fun u hu => decide_eq_true ?_)
        apply Classical.byContradiction
        intro hd
        exact hno ⟨u, List.mem_append_left _ hu, by omega⟩
    · exact greedy_cover d l _ w h

theorem take_all {α : Type} {l : List α} {p : α → Bool} {k : Nat} (h : k < l.length) : (l.take (k + 1)).all p = ((l.take k).all p && p l[k]) := by
  rw [List.take_add_one, List.getElem?_eq_getElem h, List.all_append]
  simp

theorem greedy_prog {l : List (List UInt8)} {d : Int} (hl : ∀ u ∈ l, ∀ v ∈ l, u.length = v.length) (hb : ∀ u ∈ l, u.length ≤ 9223372036854775807) (hm : l.length ≤ 4096) :
    loopW (S := Int × (List (List UInt8))) (X := (List (List UInt8))) (fun a6 =>
            if a6.1 < ((l).length : Int) then
              jp (fun (a10 : (List (List UInt8))) =>
                some (Stp.next (IntKind.wrap .i64 (a6.1 + 1), a10)))
                fun k12 =>
                (idx l a6.1).bind fun x13 =>
                (loopW (S := Bool × Int) (X := Bool) (fun a15 =>
                    if a15.2 < (((a6.2).length : Nat) : Int) then
                      jp (fun (a19 : Bool) =>
                        some (Stp.next (a19, IntKind.wrap .i64 (a15.2 + 1))))
                        fun k21 =>
                        (idx a6.2 a15.2).bind fun x22 =>
                        (idx a6.2 a15.2).bind fun x24 =>
                        if a15.1 = true then
                          (m_distance_hamming x24 x13).bind fun x26 =>
                          k21 (decide (d ≤ x26))
                        else
                          k21 false
                    else
                      some (Stp.exit a15.1)) (true, 0)).bind fun a29 =>
                if a29 = true then
                  if fits 16 ((a6.2 : List (List UInt8)).length + ([x13]).length) then
                    k12 (a6.2 ++ [x13])
                  else none
                else
                  k12 a6.2
            else
              some (Stp.exit a6.2)) (0, ([] : List (List UInt8))) = some (greedyN d l) := by
  refine loop_is (fun i => ((i : Int), greedyN d (l.take i))) l.length (greedyN d l) (fun i hi => ?_) ?_ (by simp [greedyN])
  · dsimp only
    have hsub := greedyN_sub d (l.take i)
    have hmem : ∀ u ∈ greedyN d (l.take i), u ∈ l := fun u hu => List.mem_of_mem_take (hsub.subset hu)
    have hlen := hsub.length_le
    have hlen2 : (l.take i).length ≤ i := by rw [List.length_take]; omega
    rw [if_pos (lt_int hi), ix hi]
    simp only [jp, Option.bind_some]
    refine bindL (loop_is (fun k => (((greedyN d (l.take i)).take k).all (fun u => decide (d ≤ (ham u l[i] : Int))), (k : Int))) (greedyN d (l.take i)).length ((greedyN d (l.take i)).all (fun u => decide (d ≤ (ham u l[i] : Int)))) (fun k hk => ?_) ?_ (by simp)) ?_
    · dsimp only
      have hum := hmem _ (List.getElem_mem hk)
      rw [if_pos (lt_int hk), ix hk]
      simp only [Option.bind_some, hamming_eq (u := (greedyN d (l.take i))[k]) (v := l[i]) (by rw [hl _ hum _ (List.getElem_mem hi)]; exact Nat.le_refl _) (hb _ hum), nx (by omega : (greedyN d (l.take i)).length ≤ _) hk, take_all hk]
      cases ((greedyN d (l.take i)).take k).all (fun u => decide (d ≤ (ham u l[i] : Int))) <;> rfl
    · dsimp only
      rw [if_neg (not_lt_int _), List.take_length]
    · rw [greedy_take d hi]
      unfold greedyF
      by_cases ha : (greedyN d (l.take i)).all (fun u => decide (d ≤ (ham u l[i] : Int))) = true
      · rw [if_pos ha, if_pos ha, if_pos (fits_le (by simp only [List.length_cons, List.length_nil]; omega) (by simp only [List.length_cons, List.length_nil]; omega)), nx (by omega : l.length ≤ _) hi]
      · rw [if_neg ha, if_neg ha, nx (by omega : l.length ≤ _) hi]
  · dsimp only
    rw [if_neg (not_lt_int _), List.take_length]

theorem greedy_ref {l : List (List UInt8)} {d : Int} (hl : ∀ u ∈ l, ∀ v ∈ l, u.length = v.length) (hb : ∀ u ∈ l, u.length ≤ 9223372036854775807) (hm : l.length ≤ 4096) :
    loopW (S := Int × (List (List UInt8))) (X := (List (List UInt8))) (fun a9 =>
            if a9.1 < ((l).length : Int) then
              jp (fun (a13 : (List (List UInt8))) =>
                some (Stp.next (IntKind.wrap .i64 (a9.1 + 1), a13)))
                fun k15 =>
                (loopW (S := Bool × Int) (X := Bool) (fun a16 =>
                    if a16.2 < (((a9.2).length : Nat) : Int) then
                      jp (fun (a20 : Bool) =>
                        some (Stp.next (a20, IntKind.wrap .i64 (a16.2 + 1))))
                        fun k22 =>
                        if a16.1 = true then
                          (idx l a9.1).bind fun x23 =>
                          (idx a9.2 a16.2).bind fun x25 =>
                          (idx a9.2 a16.2).bind fun x27 =>
                          (m_ref46_hamming x23 x27).bind fun x29 =>
                          k22 (decide (d ≤ x29))
                        else
                          k22 false
                    else
                      some (Stp.exit a16.1)) (true, 0)).bind fun a32 =>
                if a32 = true then
                  (idx l a9.1).bind fun x34 =>
                  if fits 16 ((a9.2 : List (List UInt8)).length + ([x34]).length) then
                    k15 (a9.2 ++ [x34])
                  else none
                else
                  k15 a9.2
            else
              some (Stp.exit a9.2)) (0, []) = some (greedyN d l) := by
  refine loop_is (fun i => ((i : Int), greedyN d (l.take i))) l.length (greedyN d l) (fun i hi => ?_) ?_ (by simp [greedyN])
  · dsimp only
    have hsub := greedyN_sub d (l.take i)
    have hmem : ∀ u ∈ greedyN d (l.take i), u ∈ l := fun u hu => List.mem_of_mem_take (hsub.subset hu)
    have hlen := hsub.length_le
    have hlen2 : (l.take i).length ≤ i := by rw [List.length_take]; omega
    rw [if_pos (lt_int hi), ix hi]
    simp only [jp, Option.bind_some]
    refine bindL (loop_is (fun k => (((greedyN d (l.take i)).take k).all (fun u => decide (d ≤ (ham u l[i] : Int))), (k : Int))) (greedyN d (l.take i)).length ((greedyN d (l.take i)).all (fun u => decide (d ≤ (ham u l[i] : Int)))) (fun k hk => ?_) ?_ (by simp)) ?_
    · dsimp only
      have hum := hmem _ (List.getElem_mem hk)
      rw [if_pos (lt_int hk), ix hk]
      simp only [Option.bind_some, ref_hamming, hamming_eq (u := l[i]) (v := (greedyN d (l.take i))[k]) (by rw [hl _ (List.getElem_mem hi) _ hum]; exact Nat.le_refl _) (hb _ (List.getElem_mem hi)), nx (by omega : (greedyN d (l.take i)).length ≤ _) hk, take_all hk, ham_comm l[i]]
      cases ((greedyN d (l.take i)).take k).all (fun u => decide (d ≤ (ham u l[i] : Int))) <;> rfl
    · dsimp only
      rw [if_neg (not_lt_int _), List.take_length]
    · rw [greedy_take d hi]
      unfold greedyF
      by_cases ha : (greedyN d (l.take i)).all (fun u => decide (d ≤ (ham u l[i] : Int))) = true
      · rw [if_pos ha, if_pos ha, if_pos (fits_le (by simp only [List.length_cons, List.length_nil]; omega) (by simp only [List.length_cons, List.length_nil]; omega)), nx (by omega : l.length ≤ _) hi]
      · rw [if_neg ha, if_neg ha, nx (by omega : l.length ≤ _) hi]
  · dsimp only
    rw [if_neg (not_lt_int _), List.take_length]

/-! ### the words of a graph, at most 512 -/
theorem wordsE_len {g : Gr} {n : Int} {u : List UInt8} (h : u ∈ wordsE g n) : u.length = n.toNat := by
  obtain ⟨x, hx, rfl⟩ := List.mem_map.1 h
  exact LV_len hx

theorem words_both (g : Gr) (n : Int) : ∃ r, m_distance_words g n = some r ∧ m_ref46_words g n = some r ∧ (r.2 = 0 → (VG g ∧ g.1 ≤ 16 ∧ 0 ≤ n ∧ n ≤ 4096) ∧ r.1 = wordsE g n ∧ (wordsE g n).length ≤ 512) ∧
    (VG g → g.1 ≤ 16 → 0 ≤ n → n ≤ 4096 → OKL g (upto g.2.1) n.toNat = true → (wordsE g n).length ≤ 512 → r.2 = 0) := by
  obtain ⟨r, h1, h2, h3, h4⟩ := Words_both g n
  unfold m_distance_words m_ref46_words
  rw [h1, h2]
  simp only [Option.bind_some]
  by_cases h0 : r.2 = 0
  · have hn : ¬ r.2 ≠ 0 := by omega
    simp only [if_neg hn]
    obtain ⟨⟨a1, a2, a3, a4, a5⟩, a6⟩ := h3 h0
    by_cases hl : 512 < r.1.length
    · have : 512 < (r.1.length : Int) := by omega
      simp only [if_pos this]
      refine ⟨_, rfl, rfl, fun h => (by cases h), fun _ _ _ _ _ h => ?_⟩
      rw [← a6] at h; omega
    · have : ¬ 512 < (r.1.length : Int) := by omega
      simp only [if_neg this]
      exact ⟨_, rfl, rfl, fun _ => ⟨⟨a1, a2, a3, a4⟩, a6, by rw [← a6]; omega⟩, fun _ _ _ _ _ _ => rfl⟩
  · simp only [if_pos h0]
    exact ⟨_, rfl, rfl, fun h => absurd h h0, fun b1 b2 b3 b4 b5 _ => absurd (h4 b1 b2 b3 b4 b5) h0⟩

theorem Greedy_both (g : Gr) (n d : Int) : ∃ r, m_distance_Greedy g n d = some r ∧ m_ref46_Greedy g n d = some r ∧ r.1.length ≤ 512 ∧
    (1 ≤ d → d ≤ 65536 → VG g → g.1 ≤ 16 → 0 ≤ n → n ≤ 4096 → OKL g (upto g.2.1) n.toNat = true → (wordsE g n).length ≤ 512 → r = (greedyN d (wordsE g n), 0)) := by
  obtain ⟨r, h1, h2, h3, h4⟩ := words_both g n
  unfold m_distance_Greedy m_ref46_Greedy
  rw [h1, h2]
  simp only [jp, Option.bind_some]
  by_cases d1 : d < 1
  · exact ⟨([], 2), by simp [d1], by simp [d1], by simp, fun h => by omega⟩
  by_cases d2 : 65536 < d
  · exact ⟨([], 2), by simp [d1, d2], by simp [d1, d2], by simp, fun _ h => by omega⟩
  simp only [d1, d2, if_false, decide_false, Bool.false_eq_true]
  by_cases h0 : r.2 = 0
  · have hn : ¬ r.2 ≠ 0 := by omega
    simp only [if_neg hn]
    obtain ⟨⟨a1, a2, a3, a4⟩, a6, a7⟩ := h3 h0
    rw [a6]
    have hl : ∀ u ∈ wordsE g n, ∀ v ∈ wordsE g n, u.length = v.length := fun u hu v hv => by rw [wordsE_len hu, wordsE_len hv]
    have hb : ∀ u ∈ wordsE g n, u.length ≤ 9223372036854775807 := fun u hu => by rw [wordsE_len hu]; omega
    have e1 := greedy_prog (d := d) hl hb (by omega)
    have e2 := greedy_ref (d := d) hl hb (by omega)
    simp only [jp] at e1 e2
    refine ⟨(greedyN d (wordsE g n), 0), bindL e1 rfl, bindL e2 rfl, Nat.le_trans (greedyN_sub d _).length_le a7, fun _ _ _ _ _ _ _ _ => rfl⟩
  · simp only [if_pos h0]
    exact ⟨_, rfl, rfl, by simp, fun _ _ b1 b2 b3 b4 b5 b6 => absurd (h4 b1 b2 b3 b4 b5 b6) h0⟩

theorem small_tot (g : Gr) (n : Int) : ∃ b, m_law46_small g n = some b := by
  unfold m_law46_small m_ref10_Great
  simp only [jp]
  repeat' split
  all_goals first | exact ⟨_, rfl⟩ | (simp only [Option.bind_some]; repeat' split) 
  all_goals first | exact ⟨_, rfl⟩

end Go.AW

/- What the greedy code of a graph is: its words are words of the graph, far from each other, and near to every other word. -/
namespace Go.AW
open Go Go.Proofs
set_option linter.unusedSimpArgs false
set_option linter.unusedVariables false

theorem lpGo {V R Y : Type} {M : V → Option Y} {Rt : R → Option Y} {v : V} {r : Option Y} (h : M v = r) : lpO (some (.go v)) M Rt = r := h
theorem pow_len (stp : List Int → UInt8 → List Int) (cs : List UInt8) (set : List Int) : ∀ i, (lvl stp cs set i).length ≤ cs.length ^ i
  | 0 => by simp only [lvl]; split <;> simp
  | i + 1 => by
    have h1 := flat_len stp cs (lvl stp cs set i)
    have h2 := Nat.mul_le_mul_right cs.length (pow_len stp cs set i)
    simp only [lvl, Nat.pow_succ]
    omega

theorem near_fold {l : List (List UInt8)} {w : List UInt8} : ∀ (xs : List Nat) (k : Nat), ham (l.getD (xs.foldl (nearF l w) k) []) w ≤ ham (l.getD k []) w ∧ ∀ i ∈ xs, ham (l.getD (xs.foldl (nearF l w) k) []) w ≤ ham (l.getD i []) w
  | [], k => ⟨Nat.le_refl _, by simp⟩
  | x :: xs, k => by
    obtain ⟨h1, h2⟩ := near_fold (l := l) (w := w) xs (nearF l w k x)
    rw [List.foldl_cons]
    have h3 : ham (l.getD (nearF l w k x) []) w ≤ ham (l.getD k []) w ∧ ham (l.getD (nearF l w k x) []) w ≤ ham (l.getD x []) w := by
      unfold nearF; split <;> constructor <;> omega
    refine ⟨by omega, fun i hi => ?_⟩
    rcases List.mem_cons.1 hi with rfl | hi
    · omega
    · exact h2 i hi
theorem near_min {l : List (List UInt8)} {w u : List UInt8} (h : u ∈ l) : ham (l.getD (nearN l w) []) w ≤ ham u w := by
  obtain ⟨i, hi, rfl⟩ := List.getElem_of_mem h
  have := (near_fold (l := l) (w := w) (List.range l.length) 0).2 i (List.mem_range.2 hi)
  rw [getD_at hi] at this
  exact this

theorem Index_eq {l : List (List UInt8)} {w : List UInt8} (hm : l.length ≤ 9223372036854775807) : ∃ r, m_slices_Index_Lstring_string l w = some r ∧ (0 ≤ r ↔ w ∈ l) := by
  unfold m_slices_Index_Lstring_string
  refine lpO_ex (fun x => (∃ i : Nat, x = .ret (i : Int) ∧ w ∈ l) ∨ (x = .go () ∧ w ∉ l)) ?_ ?_
  · refine loopN l.length (fun i s => s = (i : Int) ∧ ∀ u ∈ l.take i, w ≠ u) ?_ ?_ 0 _ (Nat.zero_le _) ⟨rfl, by simp⟩
    · rintro i s hi ⟨rfl, h⟩
      rw [if_pos (lt_int hi), ix hi]
      simp only [Option.bind_some]
      by_cases he : w = l[i]
      · exact .inr ⟨_, by rw [if_pos he], .inl ⟨i, rfl, by rw [he]; exact List.getElem_mem hi⟩⟩
      · refine .inl ⟨_, by rw [if_neg he], nx hm hi, fun u hu => ?_⟩
        rw [List.take_add_one, List.getElem?_eq_getElem hi, List.mem_append] at hu
        rcases hu with hu | hu
        · exact h u hu
        · simp only [Option.toList_some, List.mem_singleton] at hu
          rw [hu]; exact he
    · rintro s ⟨rfl, h⟩
      rw [if_neg (not_lt_int _)]
      rw [List.take_length] at h
      exact ⟨_, rfl, .inr ⟨rfl, fun hw => h w hw rfl⟩⟩
  · rintro x (⟨i, rfl, h⟩ | ⟨rfl, h⟩)
    · exact ⟨_, rfl, by simp [h]⟩
    · exact ⟨_, rfl, by simp [h]⟩
theorem Contains_eq {l : List (List UInt8)} {w : List UInt8} (hm : l.length ≤ 9223372036854775807) : m_slices_Contains_Lstring_string l w = some (decide (w ∈ l)) := by
  obtain ⟨r, h1, h2⟩ := Index_eq (l := l) (w := w) hm
  unfold m_slices_Contains_Lstring_string
  rw [h1]
  simp only [Option.bind_some, h2]

theorem lt_asym : ∀ {u v : List UInt8}, u < v → ¬ v < u
  | [], [], h, _ => by cases h
  | [], _ :: _, _, h => by cases h
  | _ :: _, [], h, _ => by cases h
  | a :: u, b :: v, h, h' => by
    rcases List.cons_lt_cons_iff.1 h with h1 | ⟨e1, h1⟩
    · rcases List.cons_lt_cons_iff.1 h' with h2 | ⟨e2, h2⟩
      · exact UInt8.lt_asymm h1 h2
      · subst e2; exact u8_irr _ h1
    · rcases List.cons_lt_cons_iff.1 h' with h2 | ⟨e2, h2⟩
      · subst e1; exact u8_irr _ h2
      · exact lt_asym h1 h2

theorem Less_eq (a b : List UInt8) : m_cmp_Less_string a b = some (Op.bytesLess a b) := by
  unfold m_cmp_Less_string m_cmp_isNaN_string
  simp [jp]
theorem IsSorted_eq {l : List (List UInt8)} (hm : l.length ≤ 9223372036854775807) (h : l.Pairwise (· < ·)) : m_slices_IsSorted_Lstring_string l = some true := by
  unfold m_slices_IsSorted_Lstring_string
  by_cases h0 : l.length = 0
  · rw [h0]
    refine lpL (loopW_exit (x := .go ()) ?_) rfl
    rw [if_neg (by decide)]
  · refine lpL (loop_is (fun i => ((l.length - 1 - i : Nat) : Int)) (l.length - 1) (Ou.go ()) (fun i hi => ?_) ?_ ?_) rfl
    · have hlt : l.length - 1 - i < l.length := by omega
      rw [if_pos (by omega), ix hlt]
      simp only [Option.bind_some]
      rw [ix_pred hlt hm (by omega)]
      simp only [Option.bind_some, Less_eq]
      have hp := List.pairwise_iff_getElem.1 h (l.length - 1 - i - 1) (l.length - 1 - i) (by omega) hlt (by omega)
      rw [if_neg (fun hb => lt_asym hp (bytesLess_iff.1 hb)), show IntKind.wrap .i64 (((l.length - 1 - i : Nat) : Int) - 1) = ((l.length - 1 - (i + 1) : Nat) : Int) by rw [w64 (by omega) (by omega)]; omega]
    · rw [if_neg (by omega)]
    · rw [w64 (by omega) (by omega)]; omega

theorem listed_of {l : List (List UInt8)} (hm : l.length ≤ 4096) (hl : ∀ u ∈ l, ∀ v ∈ l, u.length = v.length) : listedE l = 0 := by
  unfold listedE
  rw [if_neg (by omega), if_pos]
  intro w hw
  cases l with
  | nil => cases hw
  | cons x xs => exact hl w hw x (List.mem_cons_self ..)
theorem check_zero {l : List (List UInt8)} {d : Int} (h1 : listedE l = 0) (h2 : l.Pairwise fun u v => d ≤ (ham u v : Int)) : checkE l d = 0 := by
  unfold checkE
  rw [if_neg (by omega), if_neg]
  intro h
  obtain ⟨x, hx, hp⟩ := List.any_eq_true.1 h
  obtain ⟨i, k, hk, hi, rfl⟩ := mem_pairs.1 hx
  have := List.pairwise_iff_getElem.1 h2 k i (by omega) hi hk
  rw [ham_comm, ← getD_at hi, ← getD_at (show k < l.length by omega)] at this
  have := of_decide_eq_true hp
  omega

theorem law_greedy (g : Gr) (p1 p2 : Int) (a0 : 0 ≤ p1) (a1 : p1 ≤ 255) (b0 : 0 ≤ p2) (b1 : p2 ≤ 255) : m_law46_DistanceGreedy g p1 p2 = some true := by
  have hk0 : 0 ≤ Int.tmod (IntKind.wrap .i64 p1) 6 ∧ Int.tmod (IntKind.wrap .i64 p1) 6 ≤ 5 := by
    rw [w64 (by omega) (by omega), Int.tmod_eq_emod_of_nonneg a0]; omega
  have hd0 : 1 ≤ IntKind.wrap .i64 (1 + (Int.tmod (IntKind.wrap .i64 p2) 5)) ∧ IntKind.wrap .i64 (1 + (Int.tmod (IntKind.wrap .i64 p2) 5)) ≤ 5 := by
    rw [w64 (n := p2) (by omega) (by omega), Int.tmod_eq_emod_of_nonneg b0, w64 (by omega) (by omega)]; omega
  unfold m_law46_DistanceGreedy
  generalize Int.tmod (IntKind.wrap .i64 p1) 6 = k at hk0
  generalize IntKind.wrap .i64 (1 + (Int.tmod (IntKind.wrap .i64 p2) 5)) = d at hd0
  obtain ⟨b, hb⟩ := small_tot g k
  obtain ⟨e, he, hz⟩ := Check_tot g
  simp only [jp, hb, he, Option.bind_some, m_law46_awake, if_true]
  by_cases hbt : (!b) = true
  · rw [if_pos hbt]
  rw [if_neg hbt]
  by_cases he0 : e = 0
  case neg => rw [if_pos he0]
  rw [if_neg (by omega)]
  by_cases h3 : 3 < g.1
  · rw [if_pos (decide_eq_true h3)]
  rw [if_neg (by simpa using h3)]
  have hv := hz.1 he0
  have h16 : g.1 ≤ 16 := by omega
  have hl1 := hv.l1
  have hcs : (letters.take g.1.toNat).length ≤ 3 := by rw [List.length_take]; omega
  have hlv : ∀ j, j ≤ 5 → (LV g (upto g.2.1) j).length ≤ 243 := fun j hj => by
    refine Nat.le_trans (pow_len _ _ _ j) (Nat.le_trans (Nat.pow_le_pow_left hcs j) (Nat.le_trans (Nat.pow_le_pow_right (by decide) hj) (by decide)))
  have hok : OKL g (upto g.2.1) k.toNat = true := OKL_iff.2 fun j _ hj => Nat.le_trans (hlv j (by omega)) (by decide)
  have hwl : (wordsE g k).length ≤ 243 := by rw [wordsE, List.length_map]; exact hlv _ (by omega)
  obtain ⟨r, hr1, hr2, hr3, hr4⟩ := Words_both g k
  have hr0 := hr4 hv h16 (by omega) (by omega) hok
  obtain ⟨_, hrw⟩ := hr3 hr0
  obtain ⟨q, hq1, hq2, _, hq4⟩ := Greedy_both g k d
  have hqe := hq4 (by omega) (by omega) hv h16 (by omega) (by omega) hok (by omega)
  subst hqe
  have hsub := greedyN_sub d (wordsE g k)
  have hasc : (wordsE g k).Pairwise (· < ·) := LV_asc g _ _
  have hgl : (greedyN d (wordsE g k)).length ≤ 243 := Nat.le_trans hsub.length_le hwl
  have hlen : ∀ u ∈ wordsE g k, u.length = k.toNat := fun u hu => wordsE_len hu
  have hlist : listedE (greedyN d (wordsE g k)) = 0 := listed_of (by omega) fun u hu v hv => by rw [hlen u (hsub.subset hu), hlen v (hsub.subset hv)]
  have hchk : checkE (greedyN d (wordsE g k)) d = 0 := check_zero hlist (greedy_far d _ [] List.Pairwise.nil)
  simp only [hr1, hq1, Option.bind_some, hr0, hrw, Check_eq, hchk, IsSorted_eq (by omega) (hasc.sublist hsub), ne_eq, not_true_eq_false, decide_false, if_false, Bool.not_true, Bool.false_eq_true]
  refine lpL (loop_is (fun i => (i : Int)) (greedyN d (wordsE g k)).length (Ou.go ()) (fun i hi => ?_) (by rw [if_neg (not_lt_int _)]) rfl) ?_
  · rw [if_pos (lt_int hi), ix hi]
    simp only [Option.bind_some, Contains_eq (show (wordsE g k).length ≤ 9223372036854775807 by omega), decide_eq_true (hsub.subset (List.getElem_mem hi)), Bool.not_true, Bool.false_eq_true, if_false, nx (by omega : (greedyN d (wordsE g k)).length ≤ _) hi]
  refine lpGo ?_
  refine lpL (loop_is (fun i => (i : Int)) (wordsE g k).length (Ou.go ()) (fun i hi => ?_) (by rw [if_neg (not_lt_int _)]) rfl) rfl
  rw [if_pos (lt_int hi), ix hi]
  simp only [Option.bind_some, Contains_eq (show (greedyN d (wordsE g k)).length ≤ 9223372036854775807 by omega), decide_eq_true_eq, nx (by omega : (wordsE g k).length ≤ _) hi]
  by_cases hm : (wordsE g k)[i] ∈ greedyN d (wordsE g k)
  · rw [if_pos hm]
  · rw [if_neg hm]
    have hw := hlen _ (List.getElem_mem hi)
    rw [Nearest_eq _ _ (by omega) (by omega)]
    obtain ⟨u, hu, hlt⟩ := (greedy_cover d (wordsE g k) [] _ (List.getElem_mem hi)).resolve_left hm
    have hu' : u ∈ greedyN d (wordsE g k) := hu
    have hn0 : (greedyN d (wordsE g k)).length ≠ 0 := fun h => by rw [List.eq_nil_of_length_eq_zero h] at hu'; cases hu'
    have hne : ¬ ∃ u ∈ greedyN d (wordsE g k), u.length ≠ (wordsE g k)[i].length := fun ⟨v, hv, hne⟩ => hne (by rw [hw, hlen v (hsub.subset hv)])
    have hmin := near_min (w := (wordsE g k)[i]) hu'
    unfold nearE
    rw [if_neg hn0, if_neg hne]
    simp only [Option.bind_some, not_true_eq_false, if_false]
    rw [if_neg (by omega)]
end Go.AW
