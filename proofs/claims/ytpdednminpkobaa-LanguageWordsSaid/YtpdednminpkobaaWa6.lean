/- LanguageWords: for every input the law's function returns true, and the input reads as it did. -/
import Derived.Test.YtpdednminpkobaaWa5
import Derived.ChangeMaps5
import Derived.OpenShut
import Derived.ProofKit
import Derived.Shelf.Strings.Repeat
import Derived.SliceStrings
import Derived.Test.YtpdednminpkobaaChecked
import Derived.Test.YtpdednminpkobaaRows
import Derived.WalkKit
import Derived.WideKeyArgs
/- The evaluation of closed code: regions, control, calls; that what it gives is so; a function's contract from its evaluation. -/
namespace Go.AW
open Go
set_option linter.unusedSimpArgs false

noncomputable def sops (r : Task → Option Out) (T : Tabs) (all : List Oper) : List Oper → AS → Nat → Option (AS × Nat)
  | [], s, n => some (s, n)
  | o :: rest, s, n => match o.guard with
    | none => match sop r T o s n with
      | some (s1, n1) => sops r T all rest s1 n1
      | none => none
    | some (j, want) => match all[j]? with
      | some oj => match oj.dst with
        | some d => match sgetR s.slots d with
          | some (.bool b) => match (b == want) with
            | true => match sop r T o (s.putR (some d) (.bool want)) n with
              | some (s1, n1) => sops r T all rest s1 n1
              | none => none
            | false => sops r T all rest ((s.putR (some d) (.bool !want)).putR o.dst (.v undef)) n
          | _ => none
        | none => none
      | none => none

/-- what a value stands for, if nobody writes the arrays behind it any more -/
noncomputable def sfrz : Nat → Heap → HV → Option HV
  | 0, _, h => some h
  | n + 1, D, h => match h with
    | .agg cs => match cs.mapM (sfrz n D) with
      | some cs => some (.agg cs)
      | none => none
    | .tup cs => match cs.mapM (sfrz n D) with
      | some cs => some (.tup cs)
      | none => none
    | .fn f fs cs => match fs.mapM (sfrz n D), cs.mapM (sfrz n D) with
      | some fs, some cs => some (.fn f fs cs)
      | _, _ => none
    | .ar id ver k off m => match hgetR D id with
      | some (ver', .arr _ _ cs) => guardO (Nat.beq ver ver' && Nat.ble (off + m * k) cs.length) (match ((cs.drop off).take (m * k)).mapM (sfrz n D) with
        | some cs => some (.sl k m cs)
        | none => none)
      | _ => none
    | .ptr id ver off => match hgetR D id with
      | some (ver', .arr _ _ cs) => guardO (Nat.beq ver ver') (match cs.mapM (sfrz n D) with
        | some cs => some (.fptr cs off)
        | none => none)
      | _ => none
    | h => some h

theorem sfrz_sound (n : Nat) (D : Heap) (ρ : Nat → Nat) : ∀ h h', sfrz n D h = some h' → frz n (renH ρ D) (h.ren ρ) = h'.ren ρ := by
  induction n with
  | zero => intro h h' e; cases e; rfl
  | succ n ih =>
    have ihL : ∀ (cs ds : List HV), cs.mapM (sfrz n D) = some ds → (renL ρ cs).map (frz n (renH ρ D)) = renL ρ ds := by
      intro cs
      induction cs with
      | nil => intro ds e; simp at e; subst e; rfl
      | cons c cs ihc =>
        intro ds e
        simp only [List.mapM_cons, Option.pure_def, Option.bind_eq_bind, Option.bind_eq_some_iff] at e
        obtain ⟨d, hd, es, he, e⟩ := e
        cases e
        simp only [renL, List.map_cons, ih _ _ hd, ihc _ he]
    intro h h' e
    unfold sfrz at e
    simp only [hgetR_eq] at e
    split at e
    · split at e
      · rename_i hc; cases e; simp only [HV.ren, frz, ihL _ _ hc]
      · cases e
    · split at e
      · rename_i hc; cases e; simp only [HV.ren, frz, ihL _ _ hc]
      · cases e
    · split at e
      · rename_i hf hc; cases e; simp only [HV.ren, frz, ihL _ _ hf, ihL _ _ hc]
      · cases e
    · split at e
      · rename_i id ver k off m _ ver' k' e' cs hg
        replace e := guardO_some e
        obtain ⟨h1, e⟩ := e
        simp only [Bool.and_eq_true] at h1
        have hv := Nat.eq_of_beq_eq_true h1.1
        subst hv
        split at e
        · rename_i ds hc
          cases e
          simp only [HV.ren, frz, hget_ren, hg, Option.map_some, AObj.ren]
          rw [if_pos ⟨trivial, by rw [renL_len]; exact Nat.le_of_ble_eq_true h1.2⟩, ← renL_drop, ← renL_take, ihL _ _ hc]
        · cases e
      · cases e
    · split at e
      · rename_i id ver off _ ver' k' e' cs hg
        replace e := guardO_some e
        obtain ⟨h1, e⟩ := e
        have hv := Nat.eq_of_beq_eq_true h1
        subst hv
        split at e
        · rename_i ds hc
          cases e
          simp only [HV.ren, frz, hget_ren, hg, Option.map_some, AObj.ren, if_true]
          rw [ihL _ _ hc]
        · cases e
      · cases e
    · cases e
      cases h <;> first | rfl | (exfalso; rename_i h1 h2 h3 h4 h5; first | exact h1 _ rfl | exact h2 _ rfl | exact h3 _ _ _ rfl | exact h4 _ _ _ _ _ rfl | exact h5 _ _ _ rfl)

theorem ACall.conv {P : Program} {f : FuncId} {args : List HV} {H : Heap} {K K' : HV → Heap → Prop} (h : ACall P f args H K) (hc : ∀ r H', K r H' → ∃ r2 H2, Conv H' r r2 H2 ∧ K' r2 H2) : ACall P f args H K' :=
  ⟨h.1, fun μ w vs hs hr => (h.2 μ w vs hs hr).mono fun _ w' ⟨v, r, H', μ', e, k, hs', hr', E⟩ => by
    obtain ⟨r2, H2, hconv, hk⟩ := hc r H' k
    obtain ⟨μ2, hs2, hr2, E2⟩ := hconv w' μ' v hs' hr'
    exact ⟨v, r2, H2, μ2, e, hk, hs2, hr2, E.trans E2⟩⟩

noncomputable def spBox (s : AS) (x : Operand) : Option HV := match s.evR x with
    | some hv => match hv.cells? with
      | some cs => some (.fptr cs 0)
      | none => none
    | none => none
noncomputable def spBuild (T : Tabs) (s : AS) (t : TypeId) (m : Nat) (ps : Array (Nat × Operand)) : Option HV := guardO (Nat.ble m 16777216) (match sslice T.ty s t m ps.toList with
    | some (k, _, cs) => some (.sl k m cs)
    | none => none)
noncomputable def spCall (r : Task → Option Out) (s : AS) (f : Operand) (aa : Array Operand) : Option HV := match s.evR f, aa.toList.mapM s.evR with
    | some (.fn (.func g) fs cs), some hs => (match (fs ++ hs ++ cs).mapM (sfrz 8 s.heap) with
      | some as' => guardO (scL 0 as') (match r (.call g as' [] 0) with
        | some (.call rv H _) => guardO (scL 0 (fs ++ hs ++ cs) || (nf rv && nfH H)) (match sfrz 8 H rv with
          | some q => guardO (q.sc 0) (some q)
          | none => none)
        | _ => none)
      | none => none)
    | _, _ => none
noncomputable def sopS (r : Task → Option Out) (T : Tabs) (o : Oper) (s : AS) : Option HV :=
  match o.op with
  | .box _ x => spBox s x
  | .buildSlice t m ps => spBuild T s t m ps
  | .call ⟨.value f, aa, _⟩ => spCall r s f aa
  | op => sval T.ty op s

noncomputable def ssteps (r : Task → Option Out) (T : Tabs) (all : List Oper) : List Oper → AS → Nat → Option AS
  | [], s, _ => some s
  | o :: rest, s, n => match o.guard with
    | none => match sopS r T o s with
      | some h => guardO (h.sc n) (ssteps r T all rest (s.putR o.dst h) n)
      | none => none
    | some (j, want) => match all[j]? with
      | some oj => match oj.dst with
        | some d => match sgetR s.slots d with
          | some (.bool b) => match (b == want) with
            | true => match sopS r T o (s.putR (some d) (.bool want)) with
              | some h => guardO (h.sc n) (ssteps r T all rest ((s.putR (some d) (.bool want)).putR o.dst h) n)
              | none => none
            | false => ssteps r T all rest ((s.putR (some d) (.bool !want)).putR o.dst (.v undef)) n
          | _ => none
        | none => none
      | none => none

def steadyKind (o : Oper) : Bool := match o.op with
  | .alloc _ | .store _ _ _ | .makeSlice _ _ _ | .makeMap _ _ | .mapUpdate _ _ _ _ | .insert _ _ _ _ | .lookup _ _ _ _ | .range _ _ | .next _ _ | .entry _ | .build _ _ => false
  | .call ⟨.builtin .append, _, _⟩ => false
  | _ => true
def callKind (o : Oper) : Bool := match o.op with
  | .call ⟨.value _, _, _⟩ | .box _ _ | .buildSlice _ _ _ => true
  | _ => false

/-- how many operations at the head change nothing -/
noncomputable def greedy (r : Task → Option Out) (T : Tabs) (all : List Oper) : List Oper → AS → Nat → Nat
  | [], _, p => p
  | o :: rest, s, p => bif steadyKind o then (match o.guard with
    | none => match sopS r T o s with
      | some h => greedy r T all rest (s.putR o.dst h) (p + 1)
      | none => p
    | some (j, want) => match all[j]? with
      | some oj => match oj.dst with
        | some d => match sgetR s.slots d with
          | some (.bool b) => match (b == want) with
            | true => match sopS r T o s with
              | some h => greedy r T all rest (s.putR o.dst h) (p + 1)
              | none => p
            | false => greedy r T all rest (s.putR o.dst (.v undef)) (p + 1)
          | _ => p
        | none => p
      | none => p) else p

def plain : List Oper → Nat → Nat
  | [], p => p
  | o :: rest, p => bif (steadyKind o && !callKind o) then plain rest (p + 1) else p

noncomputable def sdrawP (r : Task → Option Out) (T : Tabs) (ops : Array Oper) (s : AS) (n p : Nat) : Option (AS × Nat) :=
  guardO (drawOk ops p) (match ssteps r T ops.toList (ops.toList.take p) s n with
    | some s1 => sops r T ops.toList (ops.toList.drop p) s1 n
    | none => none)

noncomputable def sdraw (r : Task → Option Out) (T : Tabs) (ops : Array Oper) (s : AS) (n : Nat) : Option (AS × Nat) :=
  match sdrawP r T ops s n (greedy r T ops.toList ops.toList s 0) with
  | some x => some x
  | none => sdrawP r T ops s n (plain ops.toList 0)

noncomputable def sres1 (T : TypeId → Option TyI) (s : AS) (rv : ResultVar) : Option HV :=
  match rv with
  | .tmp t => sgetR s.slots t
  | .cell t ty' => match T ty', sgetR s.slots t with
    | some U, some (.fptr cs off) => sload U cs off
    | some U, some (.ptr id ver off) => match hgetR s.heap id with
      | some (ver', .arr _ _ cs) => guardO (Nat.beq ver ver') (sload U cs off)
      | _ => none
    | _, _ => none

noncomputable def sres (T : TypeId → Option TyI) (s : AS) : List ResultVar → Option (List HV)
  | [] => some []
  | rv :: rvs => match sres1 T s rv, sres T s rvs with
    | some h, some hs => some (h :: hs)
    | _, _ => none

/-! dropping what nothing leads to -/
mutual
def HV.refs (n : Nat) : HV → List Nat → List Nat
  | .agg cs, a | .tup cs, a | .sl _ _ cs, a | .fptr cs _, a => refsL n cs a
  | .ar id _ _ _ _, a | .ptr id _ _, a | .mp id _, a | .yl id _, a | .it id _, a => bif Nat.blt id n then a else id :: a
  | .fn _ fs cs, a => refsL n fs (refsL n cs a)
  | _, a => a
def refsL (n : Nat) : List HV → List Nat → List Nat
  | [], a => a
  | c :: cs, a => c.refs n (refsL n cs a)
end
def refsS (n : Nat) : List (Nat × HV) → List Nat → List Nat
  | [], a => a
  | (_, h) :: l, a => h.refs n (refsS n l a)
def refsE (n : Nat) : List (List UInt8 × HV) → List Nat → List Nat
  | [], a => a
  | (_, h) :: l, a => h.refs n (refsE n l a)
def AObj.refs (n : Nat) : AObj → List Nat → List Nat
  | .arr _ _ cs, a => refsL n cs a
  | .map es, a => refsE n es a
  | .iter mid _ _ _, a => bif Nat.blt mid n then a else mid :: a
  | .loop _ _ _ _ snap _ _ _, a => refsS n snap a
def oldRefs (n : Nat) : Heap → List Nat → List Nat
  | [], a => a
  | (i, _, o) :: l, a => bif Nat.blt i n then o.refs n (oldRefs n l a) else oldRefs n l a
def memN (i : Nat) : List Nat → Bool
  | [] => false
  | j :: l => bif Nat.beq i j then true else memN i l
def mark (n : Nat) (H : Heap) : Nat → List Nat → List Nat → List Nat
  | 0, _, m => m
  | _ + 1, [], m => m
  | f + 1, i :: w, m => bif memN i m then mark n H f w m else match hget H i with
    | some (_, o) => mark n H f (o.refs n w) (i :: m)
    | none => mark n H f w m
def hkeep (n : Nat) (m : List Nat) : Heap → Heap
  | [] => []
  | (i, x) :: l => bif (Nat.blt i n || memN i m) then (i, x) :: hkeep n m l else hkeep n m l
def anyNew (n : Nat) : Heap → Bool
  | [] => false
  | (i, _) :: l => bif Nat.blt i n then anyNew n l else true
def gc (n : Nat) (rv : HV) (H : Heap) : Heap := bif anyNew n H then hkeep n (mark n H 200 (rv.refs n (oldRefs n H [])) []) H else H

theorem hkeep_get (n : Nat) (m : List Nat) : ∀ (H : Heap) (id : Nat) (x : Nat × AObj), hget (hkeep n m H) id = some x → hget H id = some x
  | [], _, _, h => h
  | (i, v, o) :: l, id, x, h => by
    simp only [hkeep] at h
    simp only [hget]
    cases hb : (Nat.blt i n || memN i m) with
    | true =>
      rw [hb] at h
      simp only [cond_true, hget] at h
      split
      · rename_i e; rw [if_pos e] at h; exact h
      · rename_i e; rw [if_neg e] at h; exact hkeep_get n m l id x h
    | false =>
      rw [hb] at h
      simp only [cond_false] at h
      split
      · rename_i e
        subst e
        exfalso
        have : ∀ l : Heap, hget (hkeep n m l) id = none := fun l => by
          induction l with
          | nil => rfl
          | cons y l ih =>
            obtain ⟨j, y⟩ := y
            simp only [hkeep]
            cases hb2 : (Nat.blt j n || memN j m) with
            | true =>
              simp only [cond_true, hget]
              split
              · rename_i e; subst e; rw [hb] at hb2; cases hb2
              · exact ih
            | false => exact ih
        rw [this] at h
        cases h
      · exact hkeep_get n m l id x h

theorem gc_get {n : Nat} {rv : HV} {H : Heap} {id : Nat} {x : Nat × AObj} (h : hget (gc n rv H) id = some x) : hget H id = some x := by
  unfold gc at h
  cases hb : anyNew n H with
  | true => rw [hb] at h; exact hkeep_get _ _ _ _ _ h
  | false => rw [hb] at h; exact h

theorem hkeep_sc {k n : Nat} {m : List Nat} : ∀ {H : Heap}, scH k H = true → scH k (hkeep n m H) = true
  | [], _ => rfl
  | (i, v, o) :: l, h => by
    simp only [scH, Bool.and_eq_true] at h
    simp only [hkeep]
    cases (Nat.blt i n || memN i m) with
    | true => simp only [cond_true, scH, h.1.1.1, h.1.1.2, h.1.2, hkeep_sc h.2, Bool.and_self]
    | false => exact hkeep_sc h.2
theorem gc_sc {k n : Nat} {rv : HV} {H : Heap} (h : scH k H = true) : scH k (gc n rv H) = true := by
  unfold gc
  cases anyNew n H with
  | true => exact hkeep_sc h
  | false => exact h

theorem Step.drop {n n' : Nat} {H H1 H2 : Heap} (h : Step n n' H H1) (hd : ∀ id x, hget H2 id = some x → hget H1 id = some x) : Step n n' H H2 :=
  ⟨h.le, fun id v st pend f m snap ps a b hg x hx => h.loop id v st pend f m snap ps a b hg x (hd id x hx), fun id hid y hy => h.back id hid y (hd id y hy)⟩

mutual
theorem HV.ren_id : ∀ h : HV, h.ren (fun v => v) = h
  | .int _ _ => rfl
  | .bool _ => rfl
  | .str _ => rfl
  | .v _ => rfl
  | .agg cs => congrArg HV.agg (renL_id cs)
  | .tup cs => congrArg HV.tup (renL_id cs)
  | .sl k m cs => congrArg (HV.sl k m) (renL_id cs)
  | .ar _ _ _ _ _ => rfl
  | .ptr _ _ _ => rfl
  | .fptr cs off => congrArg (fun x => HV.fptr x off) (renL_id cs)
  | .fn f fs cs => by simp only [HV.ren]; rw [renL_id fs, renL_id cs]
  | .mp _ _ => rfl
  | .yl _ _ => rfl
  | .it _ _ => rfl
theorem renL_id : ∀ cs : List HV, renL (fun v => v) cs = cs
  | [] => rfl
  | c :: cs => by simp only [renL]; rw [HV.ren_id c, renL_id cs]
end
theorem ren_sc0 (ρ : Nat → Nat) {h : HV} (hs : h.sc 0 = true) : h.ren ρ = h := (HV.ren_agree (ρ' := fun v => v) (fun v hv => by omega) h hs).trans h.ren_id
theorem renL_sc0 (ρ : Nat → Nat) {h : List HV} (hs : scL 0 h = true) : renL ρ h = h := (renL_agree (ρ' := fun v => v) (fun v hv => by omega) h hs).trans (renL_id h)

mutual
theorem sc0_clean : ∀ h : HV, h.sc 0 = true → clean h
  | .int _ _, _ => trivial
  | .bool _, _ => trivial
  | .str _, _ => trivial
  | .v _, _ => trivial
  | .agg cs, h => sc0_cleanL cs h
  | .tup cs, h => sc0_cleanL cs h
  | .sl _ _ cs, h => sc0_cleanL cs h
  | .fptr cs _, h => sc0_cleanL cs h
  | .fn _ fs cs, h => by
    simp only [HV.sc, Bool.and_eq_true] at h
    exact ⟨sc0_cleanL fs h.1, sc0_cleanL cs h.2⟩
  | .ar _ v _ _ _, h => absurd (blt_lt h) (Nat.not_lt_zero _)
  | .ptr _ v _, h => absurd (blt_lt h) (Nat.not_lt_zero _)
  | .mp _ v, h => absurd (blt_lt h) (Nat.not_lt_zero _)
  | .yl _ v, h => absurd (blt_lt h) (Nat.not_lt_zero _)
  | .it _ v, h => absurd (blt_lt h) (Nat.not_lt_zero _)
theorem sc0_cleanL : ∀ cs : List HV, scL 0 cs = true → cleanL cs
  | [], _ => trivial
  | c :: cs, h => by
    simp only [scL, Bool.and_eq_true] at h
    exact ⟨sc0_clean c h.1, sc0_cleanL cs h.2⟩
end

noncomputable def rounds (r : Task → Option Out) (top : Bool) (N : Nat) (x : Code) : Nat → AS → Nat → Option Out
  | 0, _, _ => none
  | k + 1, s, n => match r (.code top N x s n) with
    | some (.code .normal s1 n1) => rounds r top N x k s1 n1
    | o => o

def isEnd : Exit → Bool
  | .normal | .ret => true
  | _ => false

def notBusy : LoopState → Bool
  | .busy => false
  | _ => true

def strsOf : List HV → Option (List (List UInt8))
  | [] => some []
  | .str l :: cs => match strsOf cs with
    | some ls => some (l :: ls)
    | none => none
  | _ => none
def intsOf : List HV → Option (List Int)
  | [] => some []
  | .int .i64 n :: cs => match intsOf cs with
    | some ls => some (n :: ls)
    | none => none
  | _ => none

theorem strsOf_eq : ∀ {cs : List HV} {ls : List (List UInt8)}, strsOf cs = some ls → cs = ls.map .str
  | [], ls, h => by cases h; rfl
  | c :: cs, ls, h => by
    unfold strsOf at h
    split at h
    · cases h; simp_all
    · rename_i l cs' heq
      cases heq
      split at h
      · rename_i ls' hl
        cases h
        rw [strsOf_eq hl]
        rfl
      · cases h
    · cases h
theorem intsOf_eq : ∀ {cs : List HV} {ls : List Int}, intsOf cs = some ls → cs = ls.map (.int .i64)
  | [], ls, h => by cases h; rfl
  | c :: cs, ls, h => by
    unfold intsOf at h
    split at h
    · cases h; simp_all
    · rename_i l cs' heq
      cases heq
      split at h
      · rename_i ls' hl
        cases h
        rw [intsOf_eq hl]
        rfl
      · cases h
    · cases h

/-- a sort in place -/
noncomputable def ssort (k : Bool) (args : List HV) (H : Heap) (n : Nat) : Option Out :=
  match args with
  | [.v (.slice none 0 0)] => some (.call (.tup []) H n)
  | [.ar id ver 1 0 m] => match hgetR H id with
    | some (ver', .arr 1 e cs) => match k with
      | true => match strsOf cs with
        | some ls => guardO (Nat.beq ver ver' && (Nat.beq m ls.length && Nat.blt ls.length 4611686018427387904)) (some (.call (.tup []) (hsetR H id ver (.arr 1 e ((isort (fun a b => decide (a ≤ b)) ls).map .str))) n))
        | none => none
      | false => match intsOf cs with
        | some ls => guardO (Nat.beq ver ver' && (Nat.beq m ls.length && Nat.blt ls.length 4611686018427387904)) (some (.call (.tup []) (hsetR H id ver (.arr 1 e ((isort (fun a b => decide (a ≤ b)) ls).map (.int .i64)))) n))
        | none => none
    | _ => none
  | _ => none

noncomputable def stRegion (T : Tabs) (r : Task → Option Out) (ops : Array Oper) (dr : Bool) (N : Nat) (s : AS) (n : Nat) : Option Out := guardO (ops.toList.all fun o => okd N o.dst) (match (match dr with
        | true => sdraw r T ops s n
        | false => sops r T ops.toList ops.toList s n) with
      | some (s1, n1) => some (.code .normal s1 n1)
      | none => none)
noncomputable def stRange (r : Task → Option Out) (top : Bool) (N : Nat) (g : Operand) (ps : Array Tmp) (assign body : Code) (s : AS) (n : Nat) : Option Out := match top, s.evR g with
      | true, some (.fn (.func f) fs cs) => guardO (scL n fs && scL n cs) (match r (.call f (fs ++ [.yl n n] ++ cs) (hsetR s.heap n n (.loop .ready none (n + 1) N s.slots ps assign body)) (n + 2)) with
        | some (.call _ H n1) => match hgetR H n with
          | some (_, .loop st pend _ _ _ _ _ _) => guardO (notBusy st) (match pend with
            | none => some (.code .normal { s with heap := hsetR H n n (.loop .exhausted none (n + 1) N s.slots ps assign body) } n1)
            | some .ret => some (.code .ret { s with heap := hsetR H n n (.loop .exhausted (some .ret) (n + 1) N s.slots ps assign body) } n1)
            | some (.exit i) => some (.code (.exit i) { s with heap := hsetR H n n (.loop .exhausted (some (.exit i)) (n + 1) N s.slots ps assign body) } n1)
            | _ => none)
          | _ => none
        | _ => none)
      | _, _ => none
noncomputable def stBody (T : Tabs) (r : Task → Option Out) (fn : Func) (c : Code) (args : List HV) (H : Heap) (n : Nat) : Option Out := guardO (Nat.ble args.length fn.ntmps) (match r (.code true fn.ntmps c ⟨enumS 0 args, H⟩ n) with
          | some (.code e s1 n1) => guardO (isEnd e) (match sres T.ty s1 fn.results.toList with
            | some hs => guardO ((joinR hs).sc n1) (some (.call (joinR hs) (gc n (joinR hs) s1.heap) n1))
            | none => none)
          | _ => none)
noncomputable def stCall (T : Tabs) (r : Task → Option Out) (f : FuncId) (args : List HV) (H : Heap) (n : Nat) : Option Out := match T.sort f with
   | some k => ssort k args H n
   | none => match (match args.mapM (sfrz 8 H) with
      | some as' => guardO (scL 0 as') (T.ext f as')
      | none => none) with
    | some rv => guardO (rv.sc 0) (some (.call rv H n))
    | none => match T.fn f with
      | some fn => match fn.body with
        | some c => stBody T r fn c args H n
        | none => none
      | none => none
noncomputable def stCut (T : Tabs) (r : Task → Option Out) (top : Bool) (N : Nat) (ks : Option (List Nat)) (y : Code) (s : AS) (n : Nat) : Option Out := match ks with
      | some ks => keepK s.slots ks fun l => r (.code top N y ⟨l, s.heap⟩ n)
      | none => r (.code top N y s n)
noncomputable def stSeq (T : Tabs) (r : Task → Option Out) (top : Bool) (N : Nat) (x y : Code) (s : AS) (n : Nat) : Option Out := match r (.code top N x s n) with
      | some (.code .normal s1 n1) => stCut T r top N (match x with
        | .region id _ _ => T.keep N id
        | _ => none) y s1 n1
      | o => o
noncomputable def stBlock (r : Task → Option Out) (top : Bool) (N : Nat) (i : Nat) (x : Code) (s : AS) (n : Nat) : Option Out := match r (.code top N x s n) with
      | some (.code (.exit j) s1 n1) => some (.code (if j = i then .normal else .exit j) s1 n1)
      | o => o
noncomputable def stCond (r : Task → Option Out) (top : Bool) (N : Nat) (c : Operand) (x y : Code) (s : AS) (n : Nat) : Option Out := match s.evR c with
      | some (.bool true) => r (.code top N x s n)
      | some (.bool false) => r (.code top N y s n)
      | _ => none
noncomputable def stCode (T : Tabs) (r : Task → Option Out) (top : Bool) (N : Nat) (c : Code) (s : AS) (n : Nat) : Option Out := match c with
    | .skip => some (.code .normal s n)
    | .exit i => some (.code (.exit i) s n)
    | .ret => some (.code .ret s n)
    | .seq x y => stSeq T r top N x y s n
    | .block i x => stBlock r top N i x s n
    | .cond c x y => stCond r top N c x y s n
    | .loop x => rounds r top N x 5000 s n
    | .region _ ops dr => stRegion T r ops dr N s n
    | .rangeFunc g ps assign body => stRange r top N g ps assign body s n
    | _ => none
noncomputable def step (T : Tabs) (r : Task → Option Out) : Task → Option Out
  | .code top N c s n => stCode T r top N c s n
  | .call f args H n => stCall T r f args H n

noncomputable def run (T : Tabs) : Nat → Task → Option Out
  | 0, _ => none
  | k + 1, t => step T (run T k) t

section
variable {P : Program} {T : Tabs} {N n n' : Nat} {s s' : AS} {r : Task → Option Out}

theorem sops_ok (hT : T.Ok P) (hr : Good P r) {ops : Array Oper} (hok : ops.toList.all (fun o => okd N o.dst) = true) : ∀ (l : List Oper) (i : Nat) (s : AS) (n : Nat), (∀ k, l[k]? = ops[i + k]?) → s.sc n = true → sops r T ops.toList l s n = some (s', n') →
    s'.sc n' = true ∧ Step n n' s.heap s'.heap ∧ ∀ (ρ : Nat → Nat) (ro : Option Nat) (K : AS → Prop), (∀ ρ', Agree n ρ ρ' → K (s'.ren ρ')) → AOps P ro N ops (List.range' i l.length) K (s.ren ρ)
  | [], i, s, n, _, hs, h => by
    cases h
    exact ⟨hs, Step.refl _ _, fun ρ ro K hK => AOps.nil (hK ρ (Agree.refl _ _))⟩
  | o :: l, i, s, n, hl, hs, h => by
    have ho : ops[i]? = some o := by have := hl 0; simpa using this.symm
    have hN : okd N o.dst = true := List.all_eq_true.1 hok o (by
      have := Array.getElem?_toList (xs := ops) (i := i)
      rw [ho] at this
      exact List.mem_of_getElem? this)
    have hl' : ∀ k, l[k]? = ops[i + 1 + k]? := fun k => by
      have := hl (k + 1)
      rw [List.getElem?_cons_succ] at this
      rw [this]; congr 1; omega
    -- an operation, then the rest
    have go : ∀ (s0 : AS), s0.sc n = true → s0.heap = s.heap → (match sop r T o s0 n with
        | some (s1, n1) => sops r T ops.toList l s1 n1
        | none => none) = some (s', n') → s'.sc n' = true ∧ Step n n' s.heap s'.heap ∧ ∀ (ρ : Nat → Nat) (ro : Option Nat) (K : AS → Prop), (∀ ρ', Agree n ρ ρ' → K (s'.ren ρ')) → AOp P ro N o (AOps P ro N ops (List.range' (i + 1) l.length) K) (s0.ren ρ) := by
      intro s0 hs0 hh h
      split at h
      · rename_i s1 n1 hop
        obtain ⟨h1, h2, h3⟩ := sop_ok hT hr hN hs0 hop
        obtain ⟨h4, h5, h6⟩ := sops_ok hT hr hok l (i + 1) s1 n1 hl' h1 h
        rw [hh] at h2
        refine ⟨h4, h2.trans (sc_heap_of hs) h5, fun ρ ro K hK => h3 ρ ro _ fun ρ1 ha1 => h6 ρ1 ro K fun ρ2 ha2 => hK ρ2 (ha1.trans h2.le ha2)⟩
      · cases h
    simp only [sops, sgetR_eq, putR_eq] at h
    split at h
    · rename_i hg
      obtain ⟨h1, h2, h3⟩ := go s hs rfl h
      exact ⟨h1, h2, fun ρ ro K hK => AOps.cons ho hg (h3 ρ ro K hK)⟩
    · rename_i j want hg
      split at h
      · rename_i oj hoj
        split at h
        · rename_i d hd
          split at h
          · rename_i b hb
            have hbr : ∀ ρ : Nat → Nat, sget (s.ren ρ).slots d = some (.bool b) := fun ρ => by
              show sget (renS ρ s.slots) d = _
              rw [sget_ren, hb]; rfl
            split at h
            · rename_i hbw
              have hbw : b = want := by simpa using hbw
              obtain ⟨h1, h2, h3⟩ := go (s.put (some d) (.bool want)) (sc_put hs rfl) rfl h
              refine ⟨h1, h2, fun ρ ro K hK => AOps.guard ho hN hg (by simpa using hoj) hd (hbr ρ) (fun _ => ?_) (fun e => by cases b <;> cases want <;> simp at e hbw)⟩
              have := h3 ρ ro K hK
              rw [ren_put] at this
              exact this
            · rename_i hbw
              have hbw : b ≠ want := by simpa using hbw
              obtain ⟨h1, h2, h3⟩ := sops_ok hT hr hok l (i + 1) _ n hl' (sc_put (sc_put hs rfl) rfl) h
              rw [put_heap', put_heap'] at h2
              refine ⟨h1, h2, fun ρ ro K hK => AOps.guard ho hN hg (by simpa using hoj) hd (hbr ρ) (fun e => absurd e hbw) fun _ => ?_⟩
              have := h3 ρ ro K hK
              rw [ren_put, ren_put] at this
              exact this
          · cases h
        · cases h
      · cases h

theorem mapM_frz {D : Heap} (ρ : Nat → Nat) : ∀ {cs ds : List HV}, cs.mapM (sfrz 8 D) = some ds → (renL ρ cs).map (frz 8 (renH ρ D)) = renL ρ ds
  | [], ds, e => by simp at e; subst e; rfl
  | c :: cs, ds, e => by
    simp only [List.mapM_cons, Option.pure_def, Option.bind_eq_bind, Option.bind_eq_some_iff] at e
    obtain ⟨d, hd, es, he, e⟩ := e
    cases e
    simp only [renL, List.map_cons, sfrz_sound 8 D ρ _ _ hd, mapM_frz ρ he]

mutual
theorem nf_ren (ρ : Nat → Nat) : ∀ h : HV, nf h = true → nf (h.ren ρ) = true
  | .int _ _, _ => rfl
  | .bool _, _ => rfl
  | .str _, _ => rfl
  | .v _, _ => rfl
  | .agg cs, h => nfL_ren ρ cs h
  | .tup cs, h => nfL_ren ρ cs h
  | .sl _ _ _, h => by cases h
  | .ar _ _ _ _ _, _ => rfl
  | .ptr _ _ _, _ => rfl
  | .fptr _ _, h => by cases h
  | .fn _ fs cs, h => by
    simp only [nf, Bool.and_eq_true] at h
    simp only [HV.ren, nf, nfL_ren ρ fs h.1, nfL_ren ρ cs h.2, Bool.and_self]
  | .mp _ _, _ => rfl
  | .yl _ _, _ => rfl
  | .it _ _, _ => rfl
theorem nfL_ren (ρ : Nat → Nat) : ∀ cs : List HV, nfL cs = true → nfL (renL ρ cs) = true
  | [], _ => rfl
  | c :: cs, h => by
    simp only [nfL, Bool.and_eq_true] at h
    simp only [renL, nfL, nf_ren ρ c h.1, nfL_ren ρ cs h.2, Bool.and_self]
end
theorem nfE_ren (ρ : Nat → Nat) : ∀ es, nfE es = true → nfE (renE ρ es) = true
  | [], _ => rfl
  | (_, c) :: cs, h => by
    simp only [nfE, Bool.and_eq_true] at h
    simp only [renE, nfE, nf_ren ρ c h.1, nfE_ren ρ cs h.2, Bool.and_self]
theorem nfH_ren (ρ : Nat → Nat) : ∀ H : Heap, nfH H = true → nfH (renH ρ H) = true
  | [], _ => rfl
  | (_, _, o) :: H, h => by
    simp only [nfH, Bool.and_eq_true] at h
    have ho : nfO (o.ren ρ) = true := by
      cases o with
      | arr k e cs => exact nfL_ren ρ cs h.1
      | map es => exact nfE_ren ρ es h.1
      | iter _ _ _ _ => rfl
      | loop _ _ _ _ _ _ _ _ => cases h.1
    simp only [renH, nfH, ho, nfH_ren ρ H h.2, Bool.and_self]

theorem sfrz_sc0 {D : Heap} (m : Nat) : ∀ (h h' : HV), h.sc 0 = true → sfrz m D h = some h' → h' = h := by
  induction m with
  | zero => intro h h' _ e; cases e; rfl
  | succ m ih =>
    have ihL : ∀ (cs ds : List HV), scL 0 cs = true → cs.mapM (sfrz m D) = some ds → ds = cs := by
      intro cs
      induction cs with
      | nil => intro ds _ e; simp at e; exact e
      | cons c cs ihc =>
        intro ds hs e
        simp only [scL, Bool.and_eq_true] at hs
        simp only [List.mapM_cons, Option.pure_def, Option.bind_eq_bind, Option.bind_eq_some_iff] at e
        obtain ⟨d, hd, es, he, e⟩ := e
        cases e
        rw [ih _ _ hs.1 hd, ihc _ hs.2 he]
    intro h h' hs e
    unfold sfrz at e
    split at e
    · split at e
      · rename_i hc; cases e; rw [ihL _ _ hs hc]
      · cases e
    · split at e
      · rename_i hc; cases e; rw [ihL _ _ hs hc]
      · cases e
    · simp only [HV.sc, Bool.and_eq_true] at hs
      split at e
      · rename_i hf hc; cases e; rw [ihL _ _ hs.1 hf, ihL _ _ hs.2 hc]
      · cases e
    · exact absurd (blt_lt hs) (Nat.not_lt_zero _)
    · exact absurd (blt_lt hs) (Nat.not_lt_zero _)
    · cases e; rfl

theorem sfrzL_sc0 {D : Heap} (m : Nat) : ∀ (cs ds : List HV), scL 0 cs = true → cs.mapM (sfrz m D) = some ds → ds = cs
  | [], ds, _, e => by simp at e; exact e
  | c :: cs, ds, hs, e => by
    simp only [scL, Bool.and_eq_true] at hs
    simp only [List.mapM_cons, Option.pure_def, Option.bind_eq_bind, Option.bind_eq_some_iff] at e
    obtain ⟨d, hd, es, he, e⟩ := e
    cases e
    rw [sfrz_sc0 m _ _ hs.1 hd, sfrzL_sc0 m _ _ hs.2 he]

theorem callS_ok (hr : Good P r) {g : FuncId} {aa as' : List HV} {H H1 : Heap} {n1 : Nat} {rv q : HV} (ha : aa.mapM (sfrz 8 H) = some as') (h0 : scL 0 as' = true) (hc : r (.call g as' [] 0) = some (.call rv H1 n1))
    (hn : (scL 0 aa || (nf rv && nfH H1)) = true) (hf : sfrz 8 H1 rv = some q) (hq : q.sc 0 = true) (ρ : Nat → Nat) : ACallD P g (renL ρ aa) (renH ρ H) q := by
  obtain ⟨h1, h2, st, hcall⟩ := hr _ _ hc h0 rfl
  have hargs : renL ρ as' = (renL ρ aa).map (frz 8 (renH ρ H)) := (mapM_frz ρ ha).symm
  have hqr : ∀ ρ' : Nat → Nat, frz 8 (renH ρ' H1) (rv.ren ρ') = q := fun ρ' => by rw [sfrz_sound 8 H1 ρ' rv q hf, ren_sc0 ρ' hq]
  cases hs : scL 0 aa with
  | true =>
    have e : as' = aa := sfrzL_sc0 8 _ _ hs ha
    subst e
    refine ACallD.pure0 ?_
    rw [renL_sc0 ρ hs]
    have h5 := hcall ρ (fun r' H' => ∃ ρ', r' = rv.ren ρ' ∧ H' = renH ρ' H1) fun ρ' _ => ⟨ρ', rfl, rfl⟩
    rw [renL_sc0 ρ hs] at h5
    refine h5.conv ?_
    rintro r' H' ⟨ρ', rfl, rfl⟩
    exact ⟨_, _, Conv.all 8, hqr ρ', hqr ρ' ▸ sc0_clean q hq, rfl⟩
  | false =>
    rw [hs, Bool.false_or, Bool.and_eq_true] at hn
    refine ACall.lend (K := fun r' H' => ∃ ρ', r' = rv.ren ρ' ∧ H' = renH ρ' H1) 8 8 ?_ ?_ (sc0_clean q hq)
    · rw [← hargs]
      exact hcall ρ _ fun ρ' _ => ⟨ρ', rfl, rfl⟩
    · rintro r' H' ⟨ρ', rfl, rfl⟩
      exact ⟨nf_ren ρ' rv hn.1, nfH_ren ρ' H1 hn.2, hqr ρ'⟩

theorem sopS_ok (hT : T.Ok P) (hr : Good P r) {o : Oper} {q : HV} (h : sopS r T o s = some q) (ρ : Nat → Nat) {R : HV → Prop} (hq : R (q.ren ρ)) : aopS P o R (s.ren ρ) := by
  unfold sopS at h
  unfold aopS
  split at h
  · rename_i e x hop
    simp only [hop]
    unfold spBox at h
    try simp only [evR_eq, hgetR_eq, hsetR_eq, sgetR_eq, putR_eq, aslR_eq, apartsR_eq] at h
    split at h
    · rename_i hv hx
      split at h
      · rename_i cs hcs
        cases h
        simp only [ev_ren, hx, Option.map_some, cells_ren, hcs]
        exact hq
      · cases h
    · cases h
  · rename_i t m ps hop
    simp only [hop]
    unfold spBuild at h
    try simp only [evR_eq, hgetR_eq, hsetR_eq, sgetR_eq, putR_eq, aslR_eq, apartsR_eq] at h
    replace h := guardO_some h
    obtain ⟨h1, h⟩ := h
    split at h
    · rename_i k e cs hsl
      cases h
      exact ⟨Nat.le_of_ble_eq_true h1, sslice_sound hT.ty hsl hq⟩
    · cases h
  · rename_i f aa ts hop
    simp only [hop]
    unfold spCall at h
    try simp only [evR_eq, hgetR_eq, hsetR_eq, sgetR_eq, putR_eq, aslR_eq, apartsR_eq] at h
    split at h
    · rename_i g fs cs hs hf ha
      split at h
      · rename_i as' has'
        replace h := guardO_some h
        obtain ⟨h1, h⟩ := h
        split at h
        · rename_i rv H1 n1 hrc
          replace h := guardO_some h
          obtain ⟨h2, h⟩ := h
          split at h
          · rename_i q' hq'
            replace h := guardO_some h
            obtain ⟨h3, h⟩ := h
            cases h
            have := callS_ok hr has' h1 hrc h2 hq' h3 ρ
            simp only [ev_ren, hf, Option.map_some, HV.ren, evL_sc ha ρ]
            rw [← renL_append, ← renL_append]
            rw [ren_sc0 ρ h3] at hq
            exact ⟨q, this, hq⟩
          · cases h
        · cases h
      · cases h
    · cases h
  · have h' := sval_sound (P := P) hT.ty h hq
    split
    · rename_i h1 h2 h3 _ _ _ e; exact absurd e (h1 _ _)
    · rename_i h1 h2 h3 _ _ _ _ e; exact absurd e (h2 _ _ _)
    · rename_i e; rw [e] at h'; exact h'.elim
    · rename_i h1 h2 h3 _ _ _ _ e; exact absurd e (h3 _ _ _)
    · exact h'

theorem ssteps_ok (hT : T.Ok P) (hr : Good P r) {all : List Oper} (ρ : Nat → Nat) {K : AS → Prop} {s1 : AS} : ∀ (l : List Oper) (s : AS), s.sc n = true → ssteps r T all l s n = some s1 → s1.sc n = true ∧ s1.heap = s.heap ∧ (K (s1.ren ρ) → asteps P all l K (s.ren ρ))
  | [], s, hs, h => by cases h; exact ⟨hs, rfl, id⟩
  | o :: l, s, hs, h => by
    have go : ∀ (s0 : AS), s0.sc n = true → s0.heap = s.heap → (match sopS r T o s0 with
        | some h => guardO (h.sc n) (ssteps r T all l (s0.put o.dst h) n)
        | none => none) = some s1 → s1.sc n = true ∧ s1.heap = s.heap ∧ (K (s1.ren ρ) → aopS P o (fun h => asteps P all l K ((s0.ren ρ).put o.dst h)) (s0.ren ρ)) := by
      intro s0 hs0 hh h
      split at h
      · rename_i q hq
        replace h := guardO_some h
        obtain ⟨h1, h⟩ := h
        obtain ⟨h2, h3, h4⟩ := ssteps_ok hT hr ρ l _ (sc_put hs0 h1) h
        rw [put_heap', hh] at h3
        refine ⟨h2, h3, fun hK => sopS_ok hT hr hq ρ ?_⟩
        have := h4 hK
        rw [ren_put] at this
        exact this
      · cases h
    simp only [ssteps, sgetR_eq, putR_eq] at h
    split at h
    · rename_i hg
      obtain ⟨h1, h2, h3⟩ := go s hs rfl h
      refine ⟨h1, h2, fun hK => ?_⟩
      simp only [asteps, hg]
      exact h3 hK
    · rename_i j want hg
      split at h
      · rename_i oj hoj
        split at h
        · rename_i d hd
          split at h
          · rename_i b hb
            have hbr : sget (s.ren ρ).slots d = some (.bool b) := by
              show sget (renS ρ s.slots) d = _
              rw [sget_ren, hb]; rfl
            split at h
            · rename_i hbw
              have hbw : b = want := by simpa using hbw
              obtain ⟨h1, h2, h3⟩ := go (s.put (some d) (.bool want)) (sc_put hs rfl) rfl h
              refine ⟨h1, h2, fun hK => ?_⟩
              simp only [asteps, hg, hoj, hd, hbr]
              have h4 := h3 hK
              rw [ren_put] at h4
              rw [if_pos hbw]
              exact h4
            · rename_i hbw
              have hbw : b ≠ want := by simpa using hbw
              obtain ⟨h1, h2, h3⟩ := ssteps_ok hT hr ρ l _ (sc_put (d := o.dst) (h := .v undef) (sc_put (d := some d) (h := .bool !want) hs rfl) rfl) h
              rw [put_heap', put_heap'] at h2
              refine ⟨h1, h2, fun hK => ?_⟩
              simp only [asteps, hg, hoj, hd, hbr]
              have h4 := h3 hK
              rw [ren_put, ren_put] at h4
              rw [if_neg hbw]
              exact h4
          · cases h
        · cases h
      · cases h

/-- a region -/
theorem AW.ops {ro : Option Nat} {id : Nat} {ops : Array Oper} {Q : Exit → AS → Prop} (h : AOps P ro N ops (List.range' 0 ops.toList.length) (fun s' => Q .normal s') s) : AW P ro N (.region id ops false) Q s := by
  intro w0 μ0 μ a w hs hE
  refine wpIn_region ?_
  rw [List.range_eq_range', ← Array.length_toList]
  exact h w0 μ0 μ a w _ hs hE fun μ' s' a' w' hk hs' hE' => ⟨(fun _ h => by cases h), (fun h => by cases h), _, _, hk, hs', hE'⟩

theorem sdrawP_ok (hT : T.Ok P) (hr : Good P r) {id : Nat} {ops : Array Oper} (hok : ops.toList.all (fun o => okd N o.dst) = true) {p : Nat} (hs : s.sc n = true) (h : sdrawP r T ops s n p = some (s', n')) :
    s'.sc n' = true ∧ Step n n' s.heap s'.heap ∧ ∀ (ρ : Nat → Nat) (ro : Option Nat) (Q : Exit → AS → Prop), (∀ ρ', Agree n ρ ρ' → Q .normal (s'.ren ρ')) → AW P ro N (.region id ops true) Q (s.ren ρ) := by
  unfold sdrawP at h
  replace h := guardO_some h
  obtain ⟨hd, h⟩ := h
  split at h
  · rename_i s1 hst
    have h1 := fun (ρ : Nat → Nat) (K : AS → Prop) => ssteps_ok (K := K) hT hr ρ _ _ hs hst
    have h2 := h1 (fun v => v) fun _ => True
    obtain ⟨h3, h4, h5⟩ := sops_ok hT hr hok (ops.toList.drop p) p s1 n (fun k => by rw [List.getElem?_drop, Array.getElem?_toList]) h2.1 h
    rw [h2.2.1] at h4
    refine ⟨h3, h4, fun ρ ro Q hQ => AW.drawX p (fun x => x = s1.ren ρ) hT.draw hok hd ?_ ((h1 ρ _).2.2 rfl)⟩
    rintro x rfl
    have := h5 ρ ro (fun s' => Q .normal s') hQ
    have hl : (ops.toList.drop p).length = ops.size - p := by simp
    rw [hl] at this
    exact this
  · cases h

theorem sdraw_ok (hT : T.Ok P) (hr : Good P r) {id : Nat} {ops : Array Oper} (hok : ops.toList.all (fun o => okd N o.dst) = true) (hs : s.sc n = true) (h : sdraw r T ops s n = some (s', n')) :
    s'.sc n' = true ∧ Step n n' s.heap s'.heap ∧ ∀ (ρ : Nat → Nat) (ro : Option Nat) (Q : Exit → AS → Prop), (∀ ρ', Agree n ρ ρ' → Q .normal (s'.ren ρ')) → AW P ro N (.region id ops true) Q (s.ren ρ) := by
  unfold sdraw at h
  split at h
  · rename_i x hx
    cases h
    exact sdrawP_ok hT hr hok hs hx
  · exact sdrawP_ok hT hr hok hs h

theorem sres_ok (hT : T.Ok P) (ρ : Nat → Nat) : ∀ {rvs : List ResultVar} {hs : List HV} {R : List HV → Prop}, sres T.ty s rvs = some hs → R (renL ρ hs) → resAll P (s.ren ρ) rvs R
  | [], hs, R, h, hR => by cases h; exact hR
  | rv :: rvs, hs, R, h, hR => by
    simp only [sres] at h
    split at h
    · rename_i q qs hq hqs
      cases h
      have key : ∀ R' : HV → Prop, R' (q.ren ρ) → resOne P (s.ren ρ) rv R' := by
        intro R' hR'
        cases rv with
        | tmp t =>
          have : sget (renS ρ s.slots) t = some (q.ren ρ) := by rw [sget_ren]; simp only [sres1, sgetR_eq, hgetR_eq] at hq; rw [hq]; rfl
          simp only [resOne, AS.ren, this]
          exact hR'
        | cell t t' =>
          simp only [sres1, sgetR_eq, hgetR_eq] at hq
          split at hq
          · rename_i U cs off hU hx
            have : sget (s.ren ρ).slots t = some (.fptr (renL ρ cs) off) := by show sget (renS ρ s.slots) t = _; rw [sget_ren, hx]; rfl
            simp only [resOne, hT.ty _ _ hU, this]
            exact sload_sound hq hR'
          · rename_i U id ver off hU hx
            split at hq
            · rename_i ver' k e cs hg
              replace hq := guardO_some hq
              obtain ⟨h1, hq⟩ := hq
              have hv := Nat.eq_of_beq_eq_true h1
              subst hv
              have : sget (s.ren ρ).slots t = some (.ptr id (ρ ver) off) := by show sget (renS ρ s.slots) t = _; rw [sget_ren, hx]; rfl
              simp only [resOne, hT.ty _ _ hU, this, hget_s ρ hg, AObj.ren]
              exact ⟨trivial, sload_sound hq hR'⟩
            · cases hq
          · cases hq
      exact key _ (sres_ok hT ρ hqs hR)
    · cases h

theorem thenQ_ne {k : AS → Prop} {Q : Exit → AS → Prop} {e : Exit} (he : e ≠ .normal) {s : AS} (h : Q e s) : thenQ k Q e s := by
  cases e with
  | normal => exact absurd rfl he
  | _ => exact h

theorem rounds_step (hr : Good P r) {top : Bool} {x : Code} {o : Out} : ∀ (k : Nat) (s : AS) (n : Nat), s.sc n = true → rounds r top N x k s n = some o → ∃ e s2 n2, o = .code e s2 n2 ∧ s2.sc n2 = true ∧ Step n n2 s.heap s2.heap
  | 0, _, _, _, h => by cases h
  | k + 1, s, n, hs, h => by
    simp only [rounds] at h
    split at h
    · rename_i s1 n1 hr1
      obtain ⟨h1, h2, _⟩ := hr _ _ hr1 hs
      obtain ⟨e, s2, n2, h3, h4, h5⟩ := rounds_step hr k s1 n1 h1 h
      exact ⟨e, s2, n2, h3, h4, h2.trans (sc_heap_of hs) h5⟩
    · have := hr _ _ h
      cases o with
      | code e s2 n2 => exact ⟨e, s2, n2, rfl, (this hs).1, (this hs).2.1⟩
      | call rv H n2 => exact this.elim

theorem rounds_ok (hr : Good P r) {top : Bool} {x : Code} {o : Out} (k : Nat) (h : rounds r top N x k s n = some o) : Sem P (.code top N (.loop x) s n) o := by
  cases o with
  | call rv H n2 =>
    have : ∀ (k : Nat) (s : AS) (n : Nat), rounds r top N x k s n ≠ some (.call rv H n2) := by
      intro k
      induction k with
      | zero => intro s n h; cases h
      | succ k ih =>
        intro s n h
        simp only [rounds] at h
        split at h
        · exact ih _ _ h
        · exact (hr _ _ h).elim
    exact absurd h (this k s n)
  | code e s2 n2 =>
    intro hs
    obtain ⟨e', s2', n2', he, h1, h2⟩ := rounds_step hr k s n hs h
    cases he
    refine ⟨h1, h2, fun ρ ro Q htop hQ => ?_⟩
    refine AW.loop' (fun j s0 => ∃ s1 n1 ρ1, s0 = s1.ren ρ1 ∧ s1.sc n1 = true ∧ rounds r top N x j s1 n1 = some (.code e s2 n2) ∧ Agree n ρ ρ1 ∧ n ≤ n1) ⟨k, _, AS.le_refl _, s, n, ρ, rfl, hs, h, Agree.refl _ _, Nat.le_refl _⟩ ?_
    rintro j s0 ⟨s1, n1, ρ1, rfl, hs1, hj, hag, hn⟩
    cases j with
    | zero => cases hj
    | succ j =>
      simp only [rounds] at hj
      split at hj
      · rename_i s3 n3 hr3
        obtain ⟨h3, h4, h5⟩ := hr _ _ hr3 hs1
        refine h5 ρ1 ro _ htop fun ρ' hag' => ?_
        exact ⟨j, Nat.lt_succ_self j, _, AS.le_refl _, s3, n3, ρ', rfl, h3, hj, hag.trans hn hag', Nat.le_trans hn h4.le⟩
      · rename_i hno
        obtain ⟨h3, h4, h5⟩ := hr _ _ hj hs1
        refine h5 ρ1 ro _ htop fun ρ' hag' => thenQ_ne ?_ (hQ ρ' (hag.trans hn hag'))
        rintro rfl
        exact hno _ _ hj

theorem sc_enumS : ∀ (i : Nat) (args : List HV), scL n args = true → scS n (enumS i args) = true
  | _, [], _ => rfl
  | i, a :: args, h => by
    simp only [scL, Bool.and_eq_true] at h
    simp only [enumS, scS, h.1, sc_enumS (i + 1) args h.2, Bool.and_self]

theorem renS_enumS (ρ : Nat → Nat) : ∀ (i : Nat) (args : List HV), renS ρ (enumS i args) = enumS i (renL ρ args)
  | _, [] => rfl
  | i, a :: args => by simp only [enumS, renS, renL, renS_enumS ρ (i + 1) args]

theorem scL_append {cs ds : List HV} (h : scL n cs = true) (h' : scL n ds = true) : scL n (cs ++ ds) = true := by
  induction cs with
  | nil => exact h'
  | cons c cs ih =>
    simp only [scL, Bool.and_eq_true] at h
    simp only [List.cons_append, scL, h.1, ih h.2, Bool.and_self]

theorem joinR_ren (ρ : Nat → Nat) : ∀ hs : List HV, (joinR hs).ren ρ = joinR (renL ρ hs)
  | [] => rfl
  | [h] => rfl
  | _ :: _ :: _ => rfl

theorem strs_ren (ρ : Nat → Nat) : ∀ ls : List (List UInt8), renL ρ (ls.map HV.str) = ls.map HV.str
  | [] => rfl
  | a :: ls => by simp only [List.map_cons, renL, HV.ren, strs_ren ρ ls]
theorem ints_ren (ρ : Nat → Nat) : ∀ ls : List Int, renL ρ (ls.map (HV.int .i64)) = ls.map (HV.int .i64)
  | [] => rfl
  | a :: ls => by simp only [List.map_cons, renL, HV.ren, ints_ren ρ ls]
theorem strs_sc (n : Nat) : ∀ ls : List (List UInt8), scL n (ls.map HV.str) = true
  | [] => rfl
  | a :: ls => by simp only [List.map_cons, scL, HV.sc, strs_sc n ls, Bool.and_self]
theorem ints_sc (n : Nat) : ∀ ls : List Int, scL n (ls.map (HV.int .i64)) = true
  | [] => rfl
  | a :: ls => by simp only [List.map_cons, scL, HV.sc, ints_sc n ls, Bool.and_self]

theorem ssort_ok (hT : T.Ok P) {f : FuncId} {k : Bool} (hk : T.sort f = some k) {args : List HV} {H : Heap} {o : Out} (h : ssort k args H n = some o) : Sem P (.call f args H n) o := by
  unfold ssort at h
  simp only [hgetR_eq, hsetR_eq] at h
  split at h
  · cases h
    refine fun _ hH => ⟨rfl, hH, Step.refl _ _, fun ρ K hK => ?_⟩
    cases k with
    | true => exact (hT.sortS f hk).nil _ _ (hK ρ (Agree.refl _ _))
    | false => exact (hT.sortI f hk).nil _ _ (hK ρ (Agree.refl _ _))
  · rename_i id ver m
    split at h
    · rename_i ver' e cs hg
      split at h
      · split at h
        · rename_i ls hls
          replace h := guardO_some h
          obtain ⟨h1, h⟩ := h
          cases h
          simp only [Bool.and_eq_true] at h1
          have hv := Nat.eq_of_beq_eq_true h1.1
          subst hv
          have hm := Nat.eq_of_beq_eq_true h1.2.1
          subst hm
          have hcs := strsOf_eq hls
          subst hcs
          intro _ hH
          have hlt := sch_get hH hg
          refine ⟨rfl, scH_set _ _ _ _ hH hlt.1.1 hlt.1.2 (strs_sc _ _), ⟨Nat.le_refl _, LoopKeep.set (by rw [hg]; intros; simp), Back.set (.inr ⟨_, hg⟩)⟩, fun ρ K hK => ?_⟩
          refine (hT.sortS f hk).arr _ id (ρ ver) e ls K (by rw [hget_ren, hg]; simp only [Option.map_some, AObj.ren, strs_ren]) (blt_lt h1.2.2) ?_
          have := hK ρ (Agree.refl _ _)
          rw [renH_set] at this
          simp only [AObj.ren, strs_ren, HV.ren, renL] at this
          rw [sortS_isort]
          exact this
        · cases h
      · split at h
        · rename_i ls hls
          replace h := guardO_some h
          obtain ⟨h1, h⟩ := h
          cases h
          simp only [Bool.and_eq_true] at h1
          have hv := Nat.eq_of_beq_eq_true h1.1
          subst hv
          have hm := Nat.eq_of_beq_eq_true h1.2.1
          subst hm
          have hcs := intsOf_eq hls
          subst hcs
          intro _ hH
          have hlt := sch_get hH hg
          refine ⟨rfl, scH_set _ _ _ _ hH hlt.1.1 hlt.1.2 (ints_sc _ _), ⟨Nat.le_refl _, LoopKeep.set (by rw [hg]; intros; simp), Back.set (.inr ⟨_, hg⟩)⟩, fun ρ K hK => ?_⟩
          refine (hT.sortI f hk).arr _ id (ρ ver) e ls K (by rw [hget_ren, hg]; simp only [Option.map_some, AObj.ren, ints_ren]) (blt_lt h1.2.2) ?_
          have := hK ρ (Agree.refl _ _)
          rw [renH_set] at this
          simp only [AObj.ren, ints_ren, HV.ren, renL] at this
          rw [sortI_isort]
          exact this
        · cases h
    · cases h
  · cases h

theorem stCut_ok (hr : Good P r) {top : Bool} {ks : Option (List Nat)} {y : Code} {o : Out} (h : stCut T r top N ks y s n = some o) : Sem P (.code top N y s n) o := by
  unfold stCut at h
  split at h
  · rename_i ks
    rw [keepK_eq] at h
    have h2 := hr _ _ h
    cases o with
    | call rv H n2 => exact h2.elim
    | code e s2 n2 =>
      intro hs
      simp only [AS.sc, Bool.and_eq_true] at hs
      obtain ⟨h6, h7, h8⟩ := h2 (by simp only [AS.sc, Bool.and_eq_true]; exact ⟨keepL_sc hs.1 ks, hs.2⟩)
      exact ⟨h6, h7, fun ρ ro Q htop hQ => AW.weaken (h8 ρ ro Q htop hQ) (keepL_le ρ s ks)⟩
  · exact hr _ _ h

theorem step_ok (hT : T.Ok P) (hr : Good P r) : Good P (step T r) := by
  intro t o h
  cases t with
  | call f args H n =>
    simp only [step, stCall, stBody] at h
    split at h
    · rename_i k hk
      exact ssort_ok hT hk h
    split at h
    · -- a function that is known
      rename_i rv hx
      replace h := guardO_some h
      obtain ⟨h1, h⟩ := h
      cases h
      split at hx
      · rename_i as' ha
        replace hx := guardO_some hx
        obtain ⟨h2, hx⟩ := hx
        intro hargs hH
        refine ⟨HV.sc_mono (Nat.zero_le _) rv h1, hH, Step.refl _ _, fun ρ K hK => ?_⟩
        have hf := hT.ext _ _ _ hx
        have ha2 := mapM_frz ρ ha
        rw [renL_sc0 ρ h2] at ha2
        refine hf.call 8 ha2 ?_
        have := hK ρ (Agree.refl _ _)
        rw [ren_sc0 ρ h1] at this
        exact this
      · cases hx
    · split at h
      · rename_i fn hfn
        split at h
        · rename_i c hc
          replace h := guardO_some h
          obtain ⟨h1, h⟩ := h
          split at h
          · rename_i e s1 n1 hr1
            replace h := guardO_some h
            obtain ⟨h2, h⟩ := h
            split at h
            · rename_i hs hres
              replace h := guardO_some h
              obtain ⟨h3, h⟩ := h
              cases h
              intro hargs hH
              obtain ⟨h4, h5, h6⟩ := hr _ _ hr1 (by simp only [AS.sc, sc_enumS 0 args hargs, hH, Bool.and_self])
              refine ⟨h3, gc_sc (sc_heap_of h4), h5.drop fun id x hx => gc_get hx, fun ρ K hK => ?_⟩
              obtain ⟨hf, hname⟩ := hT.fn _ _ hfn
              refine ACall.of_body hf hname hc (by rw [renL_len]; exact Nat.le_of_ble_eq_true h1) ?_
              have e0 : ({ slots := enumS 0 (renL ρ args), heap := renH ρ H } : AS) = (⟨enumS 0 args, H⟩ : AS).ren ρ := by simp only [AS.ren, renS_enumS]
              rw [e0]
              refine h6 ρ none _ (fun _ => rfl) fun ρ' hag => ⟨?_, sres_ok hT ρ' hres ?_⟩
              · cases e with
                | normal => exact .inl rfl
                | ret => exact .inr rfl
                | _ => cases h2
              · refine ⟨_, renH ρ' (gc n (joinR hs) s1.heap), Conv.drop fun id x hx => ?_, ?_⟩
                · rw [hget_ren] at hx
                  cases hg : hget (gc n (joinR hs) s1.heap) id with
                  | none => rw [hg] at hx; cases hx
                  | some y =>
                    rw [hg] at hx
                    show hget (renH ρ' s1.heap) id = some x
                    rw [hget_ren, gc_get hg]
                    exact hx
                · rw [← joinR_ren]
                  exact hK ρ' hag
            · cases h
          · cases h
        · cases h
      · cases h
  | code top N c s n =>
    simp only [step, stCode] at h
    split at h
    · cases h
      exact fun hs => ⟨hs, Step.refl _ _, fun ρ ro Q _ hQ => AW.skip (hQ ρ (Agree.refl _ _))⟩
    · cases h
      exact fun hs => ⟨hs, Step.refl _ _, fun ρ ro Q _ hQ => AW.exit (hQ ρ (Agree.refl _ _))⟩
    · cases h
      exact fun hs => ⟨hs, Step.refl _ _, fun ρ ro Q _ hQ => AW.ret (hQ ρ (Agree.refl _ _))⟩
    · -- seq
      unfold stSeq at h
      try simp only [evR_eq, hgetR_eq, hsetR_eq, sgetR_eq, putR_eq, aslR_eq, apartsR_eq] at h
      rename_i x y
      split at h
      · rename_i s1 n1 hr1
        have h2 := stCut_ok hr h
        cases o with
        | call rv H n2 => exact h2.elim
        | code e s2 n2 =>
          intro hs
          obtain ⟨h3, h4, h5⟩ := hr _ _ hr1 hs
          obtain ⟨h6, h7, h8⟩ := h2 h3
          refine ⟨h6, h4.trans (sc_heap_of hs) h7, fun ρ ro Q htop hQ => AW.seq (h5 ρ ro _ htop fun ρ1 ha1 => h8 ρ1 ro Q htop fun ρ2 ha2 => hQ ρ2 (ha1.trans h4.le ha2))⟩
      · rename_i hno
        have h2 := hr _ _ h
        cases o with
        | call rv H n2 => exact h2.elim
        | code e s2 n2 =>
          intro hs
          obtain ⟨h3, h4, h5⟩ := h2 hs
          exact ⟨h3, h4, fun ρ ro Q htop hQ => AW.seq (h5 ρ ro _ htop fun ρ' ha => thenQ_ne (fun e => by subst e; exact hno _ _ h) (hQ ρ' ha))⟩
    · -- block
      unfold stBlock at h
      try simp only [evR_eq, hgetR_eq, hsetR_eq, sgetR_eq, putR_eq, aslR_eq, apartsR_eq] at h
      rename_i i x
      split at h
      · rename_i j s1 n1 hr1
        cases h
        intro hs
        obtain ⟨h3, h4, h5⟩ := hr _ _ hr1 hs
        refine ⟨h3, h4, fun ρ ro Q htop hQ => AW.block (h5 ρ ro _ htop fun ρ' ha => ?_)⟩
        have := hQ ρ' ha
        simp only [blockQ]
        split
        · rename_i e; rw [if_pos e] at this; exact this
        · rename_i e; rw [if_neg e] at this; exact this
      · rename_i hno
        have h2 := hr _ _ h
        cases o with
        | call rv H n2 => exact h2.elim
        | code e s2 n2 =>
          intro hs
          obtain ⟨h3, h4, h5⟩ := h2 hs
          refine ⟨h3, h4, fun ρ ro Q htop hQ => AW.block (h5 ρ ro _ htop fun ρ' ha => ?_)⟩
          have := hQ ρ' ha
          cases e with
          | exit j => exact absurd h (hno _ _ _)
          | _ => exact this
    · -- cond
      unfold stCond at h
      try simp only [evR_eq, hgetR_eq, hsetR_eq, sgetR_eq, putR_eq, aslR_eq, apartsR_eq] at h
      rename_i c x y
      split at h
      · rename_i hc
        have h2 := hr _ _ h
        cases o with
        | call rv H n2 => exact h2.elim
        | code e s2 n2 =>
          intro hs
          obtain ⟨h3, h4, h5⟩ := h2 hs
          exact ⟨h3, h4, fun ρ ro Q htop hQ => AW.cond (t := true) (by rw [ev_ren, hc]; rfl) (fun _ => h5 ρ ro Q htop hQ) (fun e => by cases e)⟩
      · rename_i hc
        have h2 := hr _ _ h
        cases o with
        | call rv H n2 => exact h2.elim
        | code e s2 n2 =>
          intro hs
          obtain ⟨h3, h4, h5⟩ := h2 hs
          exact ⟨h3, h4, fun ρ ro Q htop hQ => AW.cond (t := false) (by rw [ev_ren, hc]; rfl) (fun e => by cases e) (fun _ => h5 ρ ro Q htop hQ)⟩
      · cases h
    · exact rounds_ok hr _ h
    · -- region
      unfold stRegion at h
      try simp only [evR_eq, hgetR_eq, hsetR_eq, sgetR_eq, putR_eq, aslR_eq, apartsR_eq] at h
      rename_i id ops dr
      replace h := guardO_some h
      obtain ⟨hok, h⟩ := h
      split at h
      · rename_i s1 n1 hop
        cases h
        intro hs
        cases dr with
        | true =>
          obtain ⟨h3, h4, h5⟩ := sdraw_ok (id := id) hT hr hok hs hop
          exact ⟨h3, h4, fun ρ ro Q _ hQ => h5 ρ ro Q hQ⟩
        | false =>
          obtain ⟨h3, h4, h5⟩ := sops_ok hT hr hok ops.toList 0 s n (fun k => by simp) hs hop
          exact ⟨h3, h4, fun ρ ro Q _ hQ => AW.ops (h5 ρ ro _ hQ)⟩
      · cases h
    · -- rangeFunc
      unfold stRange at h
      try simp only [evR_eq, hgetR_eq, hsetR_eq, sgetR_eq, putR_eq, aslR_eq, apartsR_eq] at h
      rename_i g ps assign body
      split at h
      · rename_i f fs cs hg
        replace h := guardO_some h
        obtain ⟨h1, h⟩ := h
        simp only [Bool.and_eq_true] at h1
        split at h
        · rename_i rv H n1 hr1
          split at h
          · rename_i v1 st' pend f1 m1 snap1 ps1 as1 bd1 hg1
            replace h := guardO_some h
            obtain ⟨h4, h⟩ := h
            -- the loop behind the iterator's call
            have fin : ∀ (pe : Option Code), pe = pend → ∀ (e : Exit), (∀ (ρ : Nat → Nat) (Q : Exit → AS → Prop) (sx : AS), Q e sx → match (generalizing := false) pe with
                | none => Q .normal sx
                | some c => AW P none N c Q sx) →
                Sem P (.code true N (.rangeFunc g ps assign body) s n) (.code e { s with heap := hset H n n (.loop .exhausted pe (n + 1) N s.slots ps assign body) } n1) := by
              intro pe hpe e hq hs
              subst hpe
              have hsh := sc_heap_of hs
              have hlsc : (AObj.loop .ready none (n + 1) N s.slots ps assign body).sc (n + 2) = true := by
                simp only [AObj.sc, scS_mono (Nat.le_add_right n 2) _ (sc_slots_of hs), Bool.and_true]
                simp [Nat.blt_eq]
              have hself : Nat.blt n (n + 2) = true := by simp [Nat.blt_eq]
              have h0 : scH (n + 2) (hset s.heap n n (.loop .ready none (n + 1) N s.slots ps assign body)) = true := scH_set _ _ _ _ (scH_mono (Nat.le_add_right n 2) _ hsh) (by omega) (by omega) hlsc
              have hargs : scL (n + 2) (fs ++ [.yl n n] ++ cs) = true := scL_append (scL_append (scL_mono (Nat.le_add_right n 2) _ h1.1) (by simp only [scL, HV.sc, hself, Bool.and_self])) (scL_mono (Nat.le_add_right n 2) _ h1.2)
              obtain ⟨h2, h3, st, hc⟩ := hr _ _ hr1 hargs h0
              have st0 : Step n (n + 2) s.heap (hset s.heap n n (.loop .ready none (n + 1) N s.slots ps assign body)) :=
                ⟨by omega, LoopKeep.set (by rw [sch_fresh hsh]; intros; simp), Back.set (.inl (Nat.le_refl _))⟩
              have st1 := st0.trans hsh st
              have hgl : hget (hset s.heap n n (.loop .ready none (n + 1) N s.slots ps assign body)) n = some (n, .loop .ready none (n + 1) N s.slots ps assign body) := by rw [hget_hset, if_pos rfl]
              obtain ⟨_, _, he1⟩ := st.loop _ _ _ _ _ _ _ _ _ _ hgl _ hg1
              cases he1
              have hls1 : (AObj.loop .exhausted pe (n + 1) N s.slots ps assign body).sc n1 = true := by
                simp only [AObj.sc, scS_mono st1.le _ (sc_slots_of hs), Bool.and_true]
                have := st.le
                simp [Nat.blt_eq]; omega
              have hn1 : n < n1 := by have := st.le; omega
              refine ⟨by simp only [AS.sc, scS_mono st1.le _ (sc_slots_of hs), scH_set _ n n _ h3 hn1 hn1 hls1, Bool.and_self], st1.trans hsh ⟨Nat.le_refl _, LoopKeep.setL hg1, Back.set (.inr ⟨_, hg1⟩)⟩, fun ρ ro Q htop hQ => ?_⟩
              have hro : ro = none := htop rfl
              subst hro
              have hg' : (s.ren ρ).ev g = some (.fn (.func f) (renL ρ fs) (renL ρ cs)) := by rw [ev_ren, hg]; rfl
              refine AW.rangeFunc n hg' fun fn ver => ?_
              have hu := Agree.upd n ver ρ
              have ha1 : Agree n ρ (upd (upd ρ n ver) (n + 1) fn) := hu.trans (Nat.le_succ n) (Agree.upd (n + 1) fn _)
              have e0 : hset (s.ren ρ).heap n ver (.loop .ready none fn N (s.ren ρ).slots ps assign body) = renH (upd (upd ρ n ver) (n + 1) fn) (hset s.heap n n (.loop .ready none (n + 1) N s.slots ps assign body)) := by
                rw [renH_set]
                simp only [AObj.ren, AS.ren]
                rw [renH_agree ha1 _ hsh, renS_agree ha1 _ (sc_slots_of hs), upd_at]
                simp [upd]
              have e1 : renL ρ fs ++ [.yl n ver] ++ renL ρ cs = renL (upd (upd ρ n ver) (n + 1) fn) (fs ++ [.yl n n] ++ cs) := by
                rw [renL_append, renL_append, renL_agree ha1 _ h1.1, renL_agree ha1 _ h1.2]
                simp only [renL, HV.ren]
                have : upd (upd ρ n ver) (n + 1) fn n = ver := by simp [upd]
                rw [this]
              rw [e0, e1]
              refine hc _ _ fun ρ' hag => ?_
              have hv : ρ' n = ver := by rw [← hag n (by omega)]; simp [upd]
              have hfn : ρ' (n + 1) = fn := by rw [← hag (n + 1) (by omega)]; simp [upd]
              have ha2 : Agree n ρ ρ' := ha1.trans (Nat.le_add_right n 2) hag
              have hsl : renS ρ' s.slots = (s.ren ρ).slots := (renS_agree ha2 _ (sc_slots_of hs)).symm
              have hQ' := hQ ρ' ha2
              have e2 : (({ s with heap := hset H n n (.loop .exhausted pe (n + 1) N s.slots ps assign body) } : AS)).ren ρ' = { s.ren ρ with heap := hset (renH ρ' H) n ver (.loop .exhausted pe fn N (s.ren ρ).slots ps assign body) } := by
                simp only [AS.ren, renH_set, AObj.ren, hv, hfn]
                rw [renS_agree ha2 _ (sc_slots_of hs)]
              rw [e2] at hQ'
              refine ⟨st', pe, ?_, ?_, ?_⟩
              · rw [hget_ren, hg1]
                simp only [Option.map_some, AObj.ren, hv, hfn, hsl]
              · rintro rfl; cases h4
              · have := hq ρ Q _ hQ'
                cases pe with
                | none => exact this
                | some c => exact this
            split at h
            · cases h
              exact fin none rfl .normal (fun ρ Q sx hx => hx)
            · cases h
              exact fin (some .ret) rfl .ret (fun ρ Q sx hx => AW.ret hx)
            · cases h
              exact fin (some (.exit _)) rfl (.exit _) (fun ρ Q sx hx => AW.exit hx)
            · cases h
          · cases h
        · cases h
      · cases h
    · cases h

theorem run_ok (hT : T.Ok P) : ∀ k, Good P (run T k)
  | 0 => fun _ _ h => by cases h
  | k + 1 => step_ok hT (run_ok hT k)

/-- a contract from the evaluation -/
theorem Fresh.of_run (hT : T.Ok P) {f : FuncId} {args : List HV} {k n1 : Nat} {rv q : HV} {H : Heap} (h : run T k (.call f args [] 0) = some (.call rv H n1)) (ha : scL 0 args = true) (hn : (nf rv && nfH H) = true)
    (hf : sfrz 8 H rv = some q) (hq : q.sc 0 = true) : Fresh P f args q := by
  obtain ⟨_, _, _, hcall⟩ := run_ok hT k _ _ h ha rfl
  have h5 := hcall (fun v => v) (fun r' H' => ∃ ρ', r' = rv.ren ρ' ∧ H' = renH ρ' H) fun ρ' _ => ⟨ρ', rfl, rfl⟩
  rw [renL_id] at h5
  simp only [Bool.and_eq_true] at hn
  refine ⟨sc0_clean q hq, _, 8, h5, ?_⟩
  rintro r' H' ⟨ρ', rfl, rfl⟩
  exact ⟨nf_ren ρ' rv hn.1, nfH_ren ρ' H hn.2, by rw [sfrz_sound 8 H ρ' rv q hf, ren_sc0 ρ' hq]⟩
end
end Go.AW

/- Tables of known results for the evaluation. -/
namespace Go.AW
open Go

mutual
def HV.same : HV → HV → Bool
  | .int .i64 n, .int .i64 m => decide (n = m)
  | .int .u8 n, .int .u8 m => decide (n = m)
  | .int .u64 n, .int .u64 m => decide (n = m)
  | .bool b, .bool c => b == c
  | .str l, .str k => decide (l = k)
  | .agg cs, .agg ds => sameL cs ds
  | .tup cs, .tup ds => sameL cs ds
  | .sl k n cs, .sl k' n' ds => Nat.beq k k' && Nat.beq n n' && sameL cs ds
  | .v (.slice none 0 0), .v (.slice none 0 0) => true
  | _, _ => false
def sameL : List HV → List HV → Bool
  | [], [] => true
  | c :: cs, d :: ds => c.same d && sameL cs ds
  | _, _ => false
end

mutual
theorem HV.same_eq : ∀ a b : HV, a.same b = true → a = b
  | .int k n, b, h => by
    cases b with
    | int k' m => cases k <;> cases k' <;> simp [HV.same] at h <;> rw [h]
    | _ => cases k <;> simp [HV.same] at h
  | .bool x, b, h => by
    cases b <;> simp [HV.same] at h
    rw [h]
  | .str x, b, h => by
    cases b <;> simp [HV.same] at h
    rw [h]
  | .v x, b, h => by
    unfold HV.same at h
    split at h <;> simp_all
  | .agg cs, b, h => by
    cases b with
    | agg ds => simp only [HV.same] at h; rw [sameL_eq cs ds h]
    | _ => simp [HV.same] at h
  | .tup cs, b, h => by
    cases b with
    | tup ds => simp only [HV.same] at h; rw [sameL_eq cs ds h]
    | _ => simp [HV.same] at h
  | .sl k n cs, b, h => by
    cases b with
    | sl k' n' ds =>
      simp only [HV.same, Bool.and_eq_true] at h
      rw [Nat.eq_of_beq_eq_true h.1.1, Nat.eq_of_beq_eq_true h.1.2, sameL_eq cs ds h.2]
    | _ => simp [HV.same] at h
  | .ar _ _ _ _ _, b, h => by cases b <;> simp [HV.same] at h
  | .ptr _ _ _, b, h => by cases b <;> simp [HV.same] at h
  | .fptr _ _, b, h => by cases b <;> simp [HV.same] at h
  | .fn _ _ _, b, h => by cases b <;> simp [HV.same] at h
  | .mp _ _, b, h => by cases b <;> simp [HV.same] at h
  | .yl _ _, b, h => by cases b <;> simp [HV.same] at h
  | .it _ _, b, h => by cases b <;> simp [HV.same] at h
theorem sameL_eq : ∀ a b : List HV, sameL a b = true → a = b
  | [], [], _ => rfl
  | [], _ :: _, h => by simp [sameL] at h
  | _ :: _, [], h => by simp [sameL] at h
  | c :: cs, d :: ds, h => by
    simp only [sameL, Bool.and_eq_true] at h
    rw [HV.same_eq c d h.1, sameL_eq cs ds h.2]
end

def elook : List (FuncId × List HV × HV) → FuncId → List HV → Option HV
  | [], _, _ => none
  | (g, aa, q) :: l, f, args => bif (Nat.beq g f && sameL aa args) then some q else elook l f args

theorem elook_ok {P : Program} : ∀ {l : List (FuncId × List HV × HV)}, (∀ e ∈ l, Fresh P e.1 e.2.1 e.2.2) → ∀ f args r, elook l f args = some r → Fresh P f args r
  | [], _, _, _, _, h => by cases h
  | (g, aa, q) :: l, hl, f, args, r, h => by
    simp only [elook] at h
    cases hb : (Nat.beq g f && sameL aa args) with
    | true =>
      rw [hb] at h
      cases h
      simp only [Bool.and_eq_true] at hb
      have h1 := Nat.eq_of_beq_eq_true hb.1
      have h2 := sameL_eq _ _ hb.2
      subst h1 h2
      exact hl _ (List.mem_cons_self ..)
    | false =>
      rw [hb] at h
      exact elook_ok (fun e he => hl e (List.mem_cons_of_mem _ he)) f args r h

/-- what a closed call comes to, as one value that is looked at -/
noncomputable def comes (T : Tabs) (k : Nat) (f : FuncId) (args : List HV) (q : HV) : Bool :=
  match run T k (.call f args [] 0) with
  | some (.call rv H _) => scL 0 args && (nf rv && nfH H) && (match sfrz 8 H rv with
    | some r => r.sc 0 && r.same q
    | none => false)
  | _ => false

theorem Fresh.of_comes {P : Program} {T : Tabs} (hT : T.Ok P) {k : Nat} {f : FuncId} {args : List HV} {q : HV} (h : comes T k f args q = true) : Fresh P f args q := by
  unfold comes at h
  split at h
  · rename_i rv H n1 hr
    simp only [Bool.and_eq_true] at h
    obtain ⟨⟨h1, h2⟩, h3⟩ := h
    split at h3
    · rename_i r hr'
      simp only [Bool.and_eq_true] at h3
      have := HV.same_eq _ _ h3.2
      subst this
      exact Fresh.of_run hT hr h1 (by simp only [h2.1, h2.2, Bool.and_self]) hr' h3.1
    · cases h3
  · cases h

/-- the same of a result that may hold parts of the arguments -/
noncomputable def comesP (T : Tabs) (k : Nat) (f : FuncId) (args : List HV) (q : HV) : Bool :=
  match run T k (.call f args [] 0) with
  | some (.call rv H _) => scL 0 args && (match sfrz 8 H rv with
    | some r => r.sc 0 && r.same q
    | none => false)
  | _ => false

theorem Pure.of_comes {P : Program} {T : Tabs} (hT : T.Ok P) {k : Nat} {f : FuncId} {args : List HV} {q : HV} (h : comesP T k f args q = true) : Pure P f args (· = q) := by
  unfold comesP at h
  split at h
  · rename_i rv H n1 hr
    simp only [Bool.and_eq_true] at h
    obtain ⟨h1, h3⟩ := h
    split at h3
    · rename_i r hf
      simp only [Bool.and_eq_true] at h3
      have := HV.same_eq _ _ h3.2
      subst this
      obtain ⟨_, _, _, hcall⟩ := run_ok hT k _ _ hr h1 rfl
      have h5 := hcall (fun v => v) (fun r' H' => ∃ ρ', r' = rv.ren ρ' ∧ H' = renH ρ' H) fun ρ' _ => ⟨ρ', rfl, rfl⟩
      rw [renL_id] at h5
      refine h5.conv ?_
      rintro r' H' ⟨ρ', rfl, rfl⟩
      exact ⟨_, _, Conv.all 8, by rw [sfrz_sound 8 H ρ' rv _ hf, ren_sc0 ρ' h3.1], by rw [sfrz_sound 8 H ρ' rv _ hf, ren_sc0 ρ' h3.1]; exact sc0_clean _ h3.1, rfl⟩
    · cases h3
  · cases h

end Go.AW

namespace Go.AW
open Go Go.Proofs

theorem names_ok : Try.prog.funcs.toList.all (fun x => !(x.name == "runtime.NumGoroutine")) = true := by kernel_rfl

theorem fn_ok (f : FuncId) (x : Func) (h : Try.prog.funcs[f]? = some x) : Try.prog.funcs[f]? = some x ∧ (x.name == "runtime.NumGoroutine") = false := by
  refine ⟨h, ?_⟩
  have := List.all_eq_true.1 names_ok x (by
    rw [← Array.getElem?_toList] at h
    exact List.mem_of_getElem? h)
  simpa using this

def idxExt (f : FuncId) (args : List HV) : Option HV :=
  match f, args with
  | 46, [.str l, .int .u8 c] => some (.int .i64 (Lib.indexByte l c.toNat.toUInt8))
  | _, _ => none

theorem idxExt_ok (f : FuncId) (args : List HV) (r : HV) (h : idxExt f args = some r) : Fresh Try.prog f args r := by
  unfold idxExt at h
  split at h
  · cases h
    exact (w51 _ _).fresh trivial rfl
  · cases h

def trySort (f : FuncId) : Option Bool := match f with
  | 36 => some true
  | 60 => some false
  | _ => none

/-- the tables of this seat, with results that are known -/
def tabsOf (P : Program) (l : List (FuncId × List HV × HV)) : Tabs where
  ty := ty P
  fn := fun f => P.funcs[f]?
  ext := fun f args => match idxExt f args with
    | some r => some r
    | none => elook l f args
  sort := trySort
  keep := fun _ _ => none

theorem tabsOf_ok {P : Program} {l : List (FuncId × List HV × HV)} (hn : ∀ (f : FuncId) (x : Func), P.funcs[f]? = some x → (x.name == "runtime.NumGoroutine") = false) (hi : ∀ f args r, idxExt f args = some r → Fresh P f args r) (h1 : SortsS P 36) (h2 : SortsI P 60)
    (hd : P.follows .mixedOrders = true) (hl : ∀ e ∈ l, Fresh P e.1 e.2.1 e.2.2) : (tabsOf P l).Ok P where
  ty := fun _ _ h => h
  fn := fun f x h => ⟨h, hn f x h⟩
  ext := fun f args r h => by
    simp only [tabsOf] at h
    split at h
    · rename_i hx; cases h; exact hi _ _ _ hx
    · exact elook_ok hl f args r h
  sortS := fun f h => by
    simp only [tabsOf, trySort] at h
    split at h
    · exact h1
    · cases h
    · cases h
  sortI := fun f h => by
    simp only [tabsOf, trySort] at h
    split at h
    · cases h
    · exact h2
    · cases h
  draw := hd

theorem tabs_ok {l : List (FuncId × List HV × HV)} (hl : ∀ e ∈ l, Fresh Try.prog e.1 e.2.1 e.2.2) : (tabsOf Try.prog l).Ok Try.prog :=
  tabsOf_ok (fun f x h => (fn_ok f x h).2) idxExt_ok sorts45 sorts179 follows hl

/-- the graph of the chapter's examples -/
def gE : HV := .sl 3 3 [num 0, num 0, num 0, num 0, num 1, num 1, num 1, num 0, num 0]
def gA : HV := .agg [num 2, num 2, gE]

theorem a86 : Fresh Try.prog 14 [gA] (num 0) := Fresh.of_comes (T := tabsOf Try.prog []) (k := 1000) (tabs_ok (fun _ h => by cases h)) (by kernel_rfl)

def k86 : List (FuncId × List HV × HV) := [(14, [gA], num 0)]
theorem k86_ok : (tabsOf Try.prog k86).Ok Try.prog := tabs_ok fun e h => by
  simp only [k86, List.mem_singleton] at h
  subst h
  exact a86

/-- the steps of the graph's sets -/
def stpA (a : List Int) (c : UInt8) : List Int := if c = 48 then (if a = [] then [] else [0]) else if a = [0, 1] ∨ a = [0] then [1] else []
def setsA (a : List Int) : Prop := a = [0, 1] ∨ a = [0] ∨ a = [1] ∨ a = []

end Go.AW

/- language.Missing at the anchor's arguments: by evaluation. -/
namespace Go.AW
open Go Go.Proofs
theorem w_language_Missing {g : TLabelsStatesEdges} {n : Int} {r : List UInt8 × Bool × Int} (h : m_language_Missing g n = some r) : Pure Try.prog 12 [HV.agg [HV.int .i64 g.1, HV.int .i64 g.2.1, slE eFromLabelTo g.2.2], HV.int .i64 n] (· = HV.tup [HV.str r.1, HV.bool r.2.1, HV.int .i64 r.2.2]) := by
  unfold m_language_Missing at h
  split at h
  · rename_i hc
    obtain ⟨rfl, rfl⟩ := hc
    cases h
    exact Pure.of_comes (k := 3000) k86_ok (by kernel_rfl)
  · cases h
end Go.AW

namespace Go.AW
open Go Go.Proofs
set_option linter.unusedVariables false
set_option maxHeartbeats 1600000 in
set_option maxRecDepth 100000 in
theorem w_language_Words {p0 : TLabelsStatesEdges} {p1 : Int} {r : (List (List UInt8)) × Int} (h : m_language_Words p0 p1 = some r) : Pure Try.prog 8 [HV.agg [HV.int .i64 p0.1, HV.int .i64 p0.2.1, slE eFromLabelTo p0.2.2], HV.int .i64 p1] (· = HV.tup [slE eStr r.1, HV.int .i64 r.2]) := by
  unfold m_language_Words at h
  refine Pure.of_body Try.func8 rfl rfl (Nat.le_of_ble_eq_true rfl) fun hf => ?_
  unfold Try.f8
  dsimp only [enumS, Nat.reduceAdd]
  refine AW.rgs rfl fun K hK => ?_
  refine b_op rfl (o_box rfl rfl rfl ?_)
  refine mv rfl rfl ?_
  refine mv rfl rfl ?_
  refine b_nil (hK _ (AW.to (to_le (s' := ⟨[(1, HV.int .i64 p1), (2, HV.fptr [HV.int .i64 p0.1, HV.int .i64 p0.2.1, slE eFromLabelTo p0.2.2] 0)], []⟩) (AS.le_of ⟨rfl, rfl, trivial⟩ trivial) ?_)))
  clear hK K
  refine AW.seq ?_
  refine AW.rgs rfl fun K hK => ?_
  refine bv rfl (v_loadF ty24 rfl (l_litA rfl (Nat.le_of_ble_eq_true rfl) rfl)) ?_
  refine mv rfl rfl ?_
  obtain ⟨x1, h2, h⟩ := bS h
  refine b_op rfl (o_call rfl rfl rfl rfl (ACallD.pure0 (w_language_lengths h2)) ?_)
  refine mv rfl rfl ?_
  refine b_nil (hK _ (AW.to (to_le (s' := ⟨[(1, HV.int .i64 p1), (2, HV.fptr [HV.int .i64 p0.1, HV.int .i64 p0.2.1, slE eFromLabelTo p0.2.2] 0), (6, HV.int .i64 x1)], []⟩) (AS.le_of ⟨rfl, rfl, rfl, trivial⟩ trivial) ?_)))
  clear hK K
  refine AW.rgs rfl fun K hK => ?_
  refine mv rfl rfl ?_
  refine bv rfl (v_bin rfl rfl b_neq) ?_
  refine b_nil (hK _ (AW.to (to_le (s' := ⟨[(1, HV.int .i64 p1), (2, HV.fptr [HV.int .i64 p0.1, HV.int .i64 p0.2.1, slE eFromLabelTo p0.2.2] 0), (6, HV.int .i64 x1), (13, HV.bool (decide (x1 ≠ 0)))], []⟩) (AS.le_of ⟨rfl, rfl, rfl, rfl, trivial⟩ trivial) ?_)))
  clear hK K
  refine AW.cond rfl (fun hc => ?_) (fun hc => ?_)
  · have hc := of_decide_eq_true hc
    have h := ifT hc h
    refine AW.rgs rfl fun K hK => ?_
    refine mv rfl rfl ?_
    refine mv rfl rfl ?_
    refine mv rfl rfl ?_
    refine b_nil (hK _ (AW.to (to_le (s' := ⟨[(4, HV.v (.slice none 0 0)), (5, HV.int .i64 x1)], []⟩) (AS.le_of ⟨rfl, rfl, trivial⟩ trivial) ?_)))
    clear hK K
    refine AW.to (to_weak ⟨[(4, slE eStr ([] : List (List UInt8))), (5, HV.int .i64 x1)], []⟩ ⟨⟨_, rfl, .nil _⟩, ⟨_, rfl, .refl _⟩, trivial⟩ trivial ?_)
    refine AW.ret ?_
    have h := Option.some.inj h
    subst h
    exact ret_pure (hs := [slE eStr ([] : List (List UInt8)), HV.int .i64 x1]) (q := HV.tup [slE eStr ([] : List (List UInt8)), HV.int .i64 x1]) (.inr rfl) (resT rfl (resT rfl rfl)) rfl ⟨(clean_slE fun _ _ => ⟨trivial, trivial⟩), trivial, trivial⟩
  · have hc := of_decide_eq_false hc
    have h := ifF hc h
    refine AW.skip ?_
    refine AW.dys follows fun K hK => ?_
    refine y_st 4 rfl rfl ?_
    refine sv rfl (v_loadF ty24 rfl (l_litA rfl (Nat.le_of_ble_eq_true rfl) rfl)) ?_
    refine sv rfl (v_loadF ty24 rfl (l_litA rfl (Nat.le_of_ble_eq_true rfl) rfl)) ?_
    obtain ⟨x3, h4, h⟩ := bS h
    refine s_op rfl rfl (ops_call rfl rfl rfl rfl (ACallD.pure0 (w_language_states h4)) ?_)
    refine sm rfl rfl ?_
    refine s_nil ?_
    obtain ⟨x5, h6, h⟩ := bS h
    by_cases hg7 : x5.2 = true
    · have h := ifT hg7 h
      refine y_op rfl rfl rfl rfl (o_callA rfl rfl rfl rfl (c_listT h6 hg7 fun i8 v9 es10 hes11 => ?_) )
      refine b_nil ?_
      refine y_st 10 rfl rfl ?_
      refine sm rfl rfl ?_
      refine sv rfl (v_extract rfl rfl) ?_
      refine sv rfl (v_extract rfl rfl) ?_
      refine sm rfl rfl ?_
      refine sm rfl rfl ?_
      refine s_nil ?_
      refine y_nil rfl (hK _ (AW.to (to_le (s' := ⟨[(7, HV.mp i8 v9), (8, HV.bool true)], [(i8, v9, .map es10)]⟩) (AS.le_of ⟨rfl, rfl, trivial⟩ ⟨hget_0, trivial⟩) ?_)))
      clear hK K
      refine AW.seq ?_
      refine AW.rgs rfl fun K hK => ?_
      refine mv rfl rfl ?_
      refine bv rfl (v_not rfl) ?_
      refine b_nil (hK _ (AW.to (to_le (s' := ⟨[(7, HV.mp i8 v9), (24, HV.bool false)], [(i8, v9, .map es10)]⟩) (AS.le_of ⟨rfl, rfl, trivial⟩ ⟨hget_0, trivial⟩) ?_)))
      clear hK K
      refine AW.cond rfl (fun hc => by cases hc) (fun _ => ?_)
      refine AW.skip ?_
      refine AW.rgs rfl fun K hK => ?_
      refine mv rfl rfl ?_
      refine b_op rfl (o_callK [(i8, v9, .map es10)] rfl rfl rfl rfl (fun K hK => w82 hK) ?_)
      refine b_op rfl (o_callK (q := slE eStr (sortS ((x5.1).map Prod.fst))) [] rfl rfl rfl rfl (fun K hK => c_sortedKeys hes11 hK) ?_)
      refine mv rfl rfl ?_
      refine mv rfl rfl ?_
      refine b_nil (hK _ (AW.to (to_le (s' := ⟨[(4, slE eStr (sortS ((x5.1).map Prod.fst))), (5, HV.int .i64 0)], []⟩) (AS.le_of ⟨rfl, rfl, trivial⟩ trivial) ?_)))
      clear hK K
      refine AW.ret ?_
      have h := Option.some.inj h
      subst h
      exact ret_pure (hs := [slE eStr (sortS ((x5.1).map Prod.fst)), HV.int .i64 0]) (q := HV.tup [slE eStr (sortS ((x5.1).map Prod.fst)), HV.int .i64 0]) (.inr rfl) (resT rfl (resT rfl rfl)) rfl ⟨(clean_slE fun _ _ => ⟨trivial, trivial⟩), trivial, trivial⟩
    · have h := ifF hg7 h
      refine y_op rfl rfl rfl rfl (o_callA rfl rfl rfl rfl (c_listF h6 hg7 ?_) )
      refine b_nil ?_
      refine y_st 10 rfl rfl ?_
      refine sm rfl rfl ?_
      refine sv rfl (v_extract rfl rfl) ?_
      refine sv rfl (v_extract rfl rfl) ?_
      refine sm rfl rfl ?_
      refine sm rfl rfl ?_
      refine s_nil ?_
      refine y_nil rfl (hK _ (AW.to (to_le (s' := ⟨[(7, HV.v (.map none)), (8, HV.bool false)], []⟩) (AS.le_of ⟨rfl, rfl, trivial⟩ trivial) ?_)))
      clear hK K
      refine AW.seq ?_
      refine AW.rgs rfl fun K hK => ?_
      refine mv rfl rfl ?_
      refine bv rfl (v_not rfl) ?_
      refine b_nil (hK _ (AW.to (to_le (s' := ⟨[(7, HV.v (.map none)), (24, HV.bool true)], []⟩) (AS.le_of ⟨rfl, rfl, trivial⟩ trivial) ?_)))
      clear hK K
      refine AW.cond rfl (fun _ => ?_) (fun hc => by cases hc)
      refine AW.rgs rfl fun K hK => ?_
      refine mv rfl rfl ?_
      refine mv rfl rfl ?_
      refine b_nil (hK _ (AW.to (to_le (s' := ⟨[(4, HV.v (.slice none 0 0)), (5, HV.int .i64 4)], []⟩) (AS.le_of ⟨rfl, rfl, trivial⟩ trivial) ?_)))
      clear hK K
      refine AW.to (to_weak ⟨[(4, slE eStr ([] : List (List UInt8))), (5, HV.int .i64 4)], []⟩ ⟨⟨_, rfl, .nil _⟩, ⟨_, rfl, .refl _⟩, trivial⟩ trivial ?_)
      refine AW.ret ?_
      have h := Option.some.inj h
      subst h
      exact ret_pure (hs := [slE eStr ([] : List (List UInt8)), HV.int .i64 4]) (q := HV.tup [slE eStr ([] : List (List UInt8)), HV.int .i64 4]) (.inr rfl) (resT rfl (resT rfl rfl)) rfl ⟨(clean_slE fun _ _ => ⟨trivial, trivial⟩), trivial, trivial⟩

set_option maxHeartbeats 1600000 in
set_option maxRecDepth 100000 in
theorem w_law11_golden  {r : TLabelsStatesEdges} (h : m_law11_golden  = some r) : Pure Try.prog 15 [] (· = HV.agg [HV.int .i64 r.1, HV.int .i64 r.2.1, slE eFromLabelTo r.2.2]) := by
  unfold m_law11_golden at h
  refine Pure.of_body Try.func15 rfl rfl (Nat.le_of_ble_eq_true rfl) fun hf => ?_
  unfold Try.f15
  dsimp only [enumS, Nat.reduceAdd]
  refine AW.rgs rfl fun K hK => ?_
  refine b_op rfl (o_alloc (fid := 15) (zs := [HV.int .i64 0, HV.int .i64 0, HV.v (.slice none 0 0)]) 15000 rfl rfl ty24 rfl (fun v1 => ?_))
  refine b_nil (hK _ (AW.to (to_le (s' := ⟨[(0, HV.ptr 15000 v1 0)], [(15000, v1, .arr 3 24 [HV.int .i64 0, HV.int .i64 0, HV.v (.slice none 0 0)])]⟩) (AS.le_of ⟨rfl, trivial⟩ ⟨rfl, trivial⟩) ?_)))
  clear hK K
  refine AW.rgs rfl fun K hK => ?_
  refine b_op rfl (o_build (cs := [HV.int .i64 0, HV.int .i64 0, HV.int .i64 0]) rfl (bl_of ty64 rfl rfl rfl rfl) ?_)
  refine b_op rfl (o_build (cs := [HV.int .i64 0, HV.int .i64 1, HV.int .i64 1]) rfl (bl_of ty64 rfl rfl rfl rfl) ?_)
  refine b_op rfl (o_build (cs := [HV.int .i64 1, HV.int .i64 0, HV.int .i64 0]) rfl (bl_of ty64 rfl rfl rfl rfl) ?_)
  refine b_op rfl (o_bsl rfl rfl (as_of (cs := [HV.int .i64 0, HV.int .i64 0, HV.int .i64 0, HV.int .i64 0, HV.int .i64 1, HV.int .i64 1, HV.int .i64 1, HV.int .i64 0, HV.int .i64 0]) ty22 ty64 rfl rfl rfl rfl rfl) ?_)
  refine b_op rfl (o_build (cs := [HV.int .i64 2, HV.int .i64 2, slE eFromLabelTo [(0, 0, 0), (0, 1, 1), (1, 0, 0)]]) rfl (bl_of ty24 rfl rfl rfl rfl) ?_)
  refine b_op rfl (o_store (cs := [HV.int .i64 2, HV.int .i64 2, slE eFromLabelTo [(0, 0, 0), (0, 1, 1), (1, 0, 0)]]) (zs := [HV.int .i64 2, HV.int .i64 2, slE eFromLabelTo [(0, 0, 0), (0, 1, 1), (1, 0, 0)]]) rfl rfl rfl ty24 rfl rfl rfl rfl rfl ?_)
  refine b_nil (hK _ (AW.to (to_le (s' := ⟨[(0, HV.ptr 15000 v1 0)], [(15000, v1, .arr 3 24 [HV.int .i64 2, HV.int .i64 2, slE eFromLabelTo [(0, 0, 0), (0, 1, 1), (1, 0, 0)]])]⟩) (AS.le_of ⟨rfl, trivial⟩ ⟨rfl, trivial⟩) ?_)))
  clear hK K
  refine AW.ret ?_
  have h := Option.some.inj h
  subst h
  exact ret_pure (hs := [HV.agg [HV.int .i64 2, HV.int .i64 2, slE eFromLabelTo [(0, 0, 0), (0, 1, 1), (1, 0, 0)]]]) (q := HV.agg [HV.int .i64 2, HV.int .i64 2, slE eFromLabelTo [(0, 0, 0), (0, 1, 1), (1, 0, 0)]]) (.inr rfl) (resP ty24 rfl rfl (l_litA rfl (Nat.le_of_ble_eq_true rfl) rfl) rfl) rfl ⟨trivial, trivial, (clean_slE fun _ _ => ⟨trivial, trivial, trivial, trivial⟩), trivial⟩

set_option maxHeartbeats 1600000 in
set_option maxRecDepth 100000 in
theorem w_slices_Equal_Lstring_string {p0 : List (List UInt8)} {p1 : List (List UInt8)} {r : Bool} (h : m_slices_Equal_Lstring_string p0 p1 = some r) : Pure Try.prog 17 [slE eStr p0, slE eStr p1] (· = HV.bool r) := by
  unfold m_slices_Equal_Lstring_string at h
  refine Pure.of_body Try.func17 rfl rfl (Nat.le_of_ble_eq_true rfl) fun hf => ?_
  unfold Try.f17
  dsimp only [enumS, Nat.reduceAdd]
  refine AW.rgs rfl fun K hK => ?_
  refine mv rfl rfl ?_
  refine b_nil (hK _ (AW.to (to_le (s' := ⟨[(0, slE eStr p0), (1, slE eStr p1)], []⟩) (AS.le_of ⟨rfl, rfl, trivial⟩ trivial) ?_)))
  clear hK K
  refine AW.seq ?_
  refine AW.rgs rfl fun K hK => ?_
  refine mv rfl rfl ?_
  refine bv rfl (v_lenF rfl rfl ty28 rfl) ?_
  refine mv rfl rfl ?_
  refine bv rfl (v_lenF rfl rfl ty28 rfl) ?_
  refine bv rfl (v_bin rfl rfl b_neq) ?_
  refine b_nil (hK _ (AW.to (to_le (s' := ⟨[(0, slE eStr p0), (1, slE eStr p1), (10, HV.bool (decide (((p0).length : Int) ≠ ((p1).length : Int))))], []⟩) (AS.le_of ⟨rfl, rfl, rfl, trivial⟩ trivial) ?_)))
  clear hK K
  refine AW.cond rfl (fun hc => ?_) (fun hc => ?_)
  · have hc := of_decide_eq_true hc
    have h := ifT hc h
    refine AW.rgs rfl fun K hK => ?_
    refine mv rfl rfl ?_
    refine b_nil (hK _ (AW.to (to_le (s' := ⟨[(4, HV.bool false)], []⟩) (AS.le_of ⟨rfl, trivial⟩ trivial) ?_)))
    clear hK K
    refine AW.ret ?_
    have h := Option.some.inj h
    subst h
    exact ret_pure (hs := [HV.bool false]) (q := HV.bool false) (.inr rfl) (resT rfl rfl) rfl trivial
  · have hc := of_decide_eq_false hc
    have h := ifF hc h
    refine AW.skip ?_
    refine AW.seq ?_
    refine AW.rgs rfl fun K hK => ?_
    refine mv rfl rfl ?_
    refine bv rfl (v_lenF rfl rfl ty28 rfl) ?_
    refine mv rfl rfl ?_
    refine b_nil (hK _ (AW.to (to_le (s' := ⟨[(0, slE eStr p0), (1, slE eStr p1), (12, HV.int .i64 ((p0).length : Int)), (13, HV.int .i64 0)], []⟩) (AS.le_of ⟨rfl, rfl, rfl, rfl, trivial⟩ trivial) ?_)))
    clear hK K
    refine AW.lpR h (by first | exact up_then | exact up_to) (S := Int) (V := Unit) (fun a v => ⟨[(0, slE eStr p0), (1, slE eStr p1), (12, HV.int .i64 ((p0).length : Int)), (13, HV.int .i64 a)], []⟩) ?_ (X := Unit) (W := Unit) (fun a v => ⟨[], []⟩) (fun a9 w10 h => ?_) (fun a1 w2 st3 h hr4=> ?_)
    · exact to_le (s' := ⟨[(0, slE eStr p0), (1, slE eStr p1), (12, HV.int .i64 ((p0).length : Int)), (13, HV.int .i64 0)], []⟩) (AS.le_of ⟨rfl, rfl, rfl, rfl, trivial⟩ trivial) ⟨(), rfl⟩
    · refine AW.rgs rfl fun K hK => ?_
      refine mv rfl rfl ?_
      refine b_nil (hK _ (AW.to (to_le (s' := ⟨[(4, HV.bool true)], []⟩) (AS.le_of ⟨rfl, trivial⟩ trivial) ?_)))
      clear hK K
      refine AW.ret ?_
      have h := Option.some.inj h
      subst h
      exact ret_pure (hs := [HV.bool true]) (q := HV.bool true) (.inr rfl) (resT rfl rfl) rfl trivial
    · refine AW.rgs rfl fun K hK => ?_
      refine bv rfl (v_bin rfl rfl b_lss) ?_
      refine b_nil (hK _ (AW.to (to_le (s' := ⟨[(0, slE eStr p0), (1, slE eStr p1), (12, HV.int .i64 ((p0).length : Int)), (13, HV.int .i64 a1), (14, HV.bool (decide (a1 < ((p0).length : Int))))], []⟩) (AS.le_of ⟨rfl, rfl, rfl, rfl, rfl, trivial⟩ trivial) ?_)))
      clear hK K
      refine AW.cseq rfl (fun hc => ?_) (fun hc => ?_)
      · have hc := of_decide_eq_true hc
        have h := ifT hc h
        refine AW.skip ?_
        refine AW.seq (AW.block ?_)
        refine AW.rgs rfl fun K hK => ?_
        refine mv rfl rfl ?_
        refine mv rfl rfl ?_
        refine b_nil (hK _ (AW.to (to_le (s' := ⟨[(0, slE eStr p0), (1, slE eStr p1), (5, HV.int .i64 a1), (12, HV.int .i64 ((p0).length : Int)), (13, HV.int .i64 a1)], []⟩) (AS.le_of ⟨rfl, rfl, rfl, rfl, rfl, trivial⟩ trivial) ?_)))
        clear hK K
        refine AW.dgs 9 follows rfl rfl fun K hK => ?_
        refine sm rfl rfl ?_
        refine sm rfl rfl ?_
        obtain ⟨x5, h6, h⟩ := bS h
        refine sv rfl (v_idxF ty28 es28 rfl rfl (idx_lt h6)) ?_
        refine sv rfl (v_loadF ty9 rfl (l_cell eStr h6 (o := 0) rfl rfl)) ?_
        refine sm rfl rfl ?_
        refine sm rfl rfl ?_
        obtain ⟨x7, h8, h⟩ := bS h
        refine sv rfl (v_idxF ty28 es28 rfl rfl (idx_lt h8)) ?_
        refine sv rfl (v_loadF ty9 rfl (l_cell eStr h8 (o := 0) rfl rfl)) ?_
        refine sv rfl (v_bin rfl rfl b_sneq) ?_
        refine s_nil ?_
        refine b_nil (hK _ (AW.to (to_le (s' := ⟨[(0, slE eStr p0), (1, slE eStr p1), (12, HV.int .i64 ((p0).length : Int)), (13, HV.int .i64 a1), (24, HV.bool (decide (x5 ≠ x7)))], []⟩) (AS.le_of ⟨rfl, rfl, rfl, rfl, rfl, trivial⟩ trivial) ?_)))
        clear hK K
        refine AW.cond rfl (fun hc => ?_) (fun hc => ?_)
        · have hc := of_decide_eq_true hc
          have h := ifT hc h
          refine AW.rgs rfl fun K hK => ?_
          refine mv rfl rfl ?_
          refine b_nil (hK _ (AW.to (to_le (s' := ⟨[(4, HV.bool false)], []⟩) (AS.le_of ⟨rfl, trivial⟩ trivial) ?_)))
          clear hK K
          have h := hr4 _ h
          refine AW.ret ?_
          have h := Option.some.inj h
          subst h
          exact ret_pure (hs := [HV.bool false]) (q := HV.bool false) (.inr rfl) (resT rfl rfl) rfl trivial
        · have hc := of_decide_eq_false hc
          have h := ifF hc h
          refine AW.skip ?_
          refine AW.rg rfl fun K hK => ?_
          refine bv rfl (v_bin rfl rfl b_add) ?_
          refine mv rfl rfl ?_
          refine b_nil (hK _ ?_)
          clear hK K
          exact to_le (s' := ⟨[(0, slE eStr p0), (1, slE eStr p1), (12, HV.int .i64 ((p0).length : Int)), (13, HV.int .i64 (IntKind.wrap .i64 (a1 + 1)))], []⟩) (AS.le_of ⟨rfl, rfl, rfl, rfl, trivial⟩ trivial) ⟨IntKind.wrap .i64 (a1 + 1), (), h, rfl⟩
      · have hc := of_decide_eq_false hc
        have h := ifF hc h
        refine AW.exit ?_
        exact to_le (s' := ⟨[], []⟩) (AS.le_of trivial trivial) ⟨(), (), h, rfl⟩

set_option maxHeartbeats 1600000 in
set_option maxRecDepth 100000 in
theorem w_slices_Equal_Lint_int {p0 : List (Int)} {p1 : List (Int)} {r : Bool} (h : m_slices_Equal_Lint_int p0 p1 = some r) : Pure Try.prog 18 [slE eInt p0, slE eInt p1] (· = HV.bool r) := by
  unfold m_slices_Equal_Lint_int at h
  refine Pure.of_body Try.func18 rfl rfl (Nat.le_of_ble_eq_true rfl) fun hf => ?_
  unfold Try.f18
  dsimp only [enumS, Nat.reduceAdd]
  refine AW.rgs rfl fun K hK => ?_
  refine mv rfl rfl ?_
  refine b_nil (hK _ (AW.to (to_le (s' := ⟨[(0, slE eInt p0), (1, slE eInt p1)], []⟩) (AS.le_of ⟨rfl, rfl, trivial⟩ trivial) ?_)))
  clear hK K
  refine AW.seq ?_
  refine AW.rgs rfl fun K hK => ?_
  refine mv rfl rfl ?_
  refine bv rfl (v_lenF rfl rfl ty41 rfl) ?_
  refine mv rfl rfl ?_
  refine bv rfl (v_lenF rfl rfl ty41 rfl) ?_
  refine bv rfl (v_bin rfl rfl b_neq) ?_
  refine b_nil (hK _ (AW.to (to_le (s' := ⟨[(0, slE eInt p0), (1, slE eInt p1), (10, HV.bool (decide (((p0).length : Int) ≠ ((p1).length : Int))))], []⟩) (AS.le_of ⟨rfl, rfl, rfl, trivial⟩ trivial) ?_)))
  clear hK K
  refine AW.cond rfl (fun hc => ?_) (fun hc => ?_)
  · have hc := of_decide_eq_true hc
    have h := ifT hc h
    refine AW.rgs rfl fun K hK => ?_
    refine mv rfl rfl ?_
    refine b_nil (hK _ (AW.to (to_le (s' := ⟨[(4, HV.bool false)], []⟩) (AS.le_of ⟨rfl, trivial⟩ trivial) ?_)))
    clear hK K
    refine AW.ret ?_
    have h := Option.some.inj h
    subst h
    exact ret_pure (hs := [HV.bool false]) (q := HV.bool false) (.inr rfl) (resT rfl rfl) rfl trivial
  · have hc := of_decide_eq_false hc
    have h := ifF hc h
    refine AW.skip ?_
    refine AW.seq ?_
    refine AW.rgs rfl fun K hK => ?_
    refine mv rfl rfl ?_
    refine bv rfl (v_lenF rfl rfl ty41 rfl) ?_
    refine mv rfl rfl ?_
    refine b_nil (hK _ (AW.to (to_le (s' := ⟨[(0, slE eInt p0), (1, slE eInt p1), (12, HV.int .i64 ((p0).length : Int)), (13, HV.int .i64 0)], []⟩) (AS.le_of ⟨rfl, rfl, rfl, rfl, trivial⟩ trivial) ?_)))
    clear hK K
    refine AW.lpR h (by first | exact up_then | exact up_to) (S := Int) (V := Unit) (fun a v => ⟨[(0, slE eInt p0), (1, slE eInt p1), (12, HV.int .i64 ((p0).length : Int)), (13, HV.int .i64 a)], []⟩) ?_ (X := Unit) (W := Unit) (fun a v => ⟨[], []⟩) (fun a9 w10 h => ?_) (fun a1 w2 st3 h hr4=> ?_)
    · exact to_le (s' := ⟨[(0, slE eInt p0), (1, slE eInt p1), (12, HV.int .i64 ((p0).length : Int)), (13, HV.int .i64 0)], []⟩) (AS.le_of ⟨rfl, rfl, rfl, rfl, trivial⟩ trivial) ⟨(), rfl⟩
    · refine AW.rgs rfl fun K hK => ?_
      refine mv rfl rfl ?_
      refine b_nil (hK _ (AW.to (to_le (s' := ⟨[(4, HV.bool true)], []⟩) (AS.le_of ⟨rfl, trivial⟩ trivial) ?_)))
      clear hK K
      refine AW.ret ?_
      have h := Option.some.inj h
      subst h
      exact ret_pure (hs := [HV.bool true]) (q := HV.bool true) (.inr rfl) (resT rfl rfl) rfl trivial
    · refine AW.rgs rfl fun K hK => ?_
      refine bv rfl (v_bin rfl rfl b_lss) ?_
      refine b_nil (hK _ (AW.to (to_le (s' := ⟨[(0, slE eInt p0), (1, slE eInt p1), (12, HV.int .i64 ((p0).length : Int)), (13, HV.int .i64 a1), (14, HV.bool (decide (a1 < ((p0).length : Int))))], []⟩) (AS.le_of ⟨rfl, rfl, rfl, rfl, rfl, trivial⟩ trivial) ?_)))
      clear hK K
      refine AW.cseq rfl (fun hc => ?_) (fun hc => ?_)
      · have hc := of_decide_eq_true hc
        have h := ifT hc h
        refine AW.skip ?_
        refine AW.seq (AW.block ?_)
        refine AW.rgs rfl fun K hK => ?_
        refine mv rfl rfl ?_
        refine mv rfl rfl ?_
        refine b_nil (hK _ (AW.to (to_le (s' := ⟨[(0, slE eInt p0), (1, slE eInt p1), (5, HV.int .i64 a1), (12, HV.int .i64 ((p0).length : Int)), (13, HV.int .i64 a1)], []⟩) (AS.le_of ⟨rfl, rfl, rfl, rfl, rfl, trivial⟩ trivial) ?_)))
        clear hK K
        refine AW.dgs 9 follows rfl rfl fun K hK => ?_
        refine sm rfl rfl ?_
        refine sm rfl rfl ?_
        obtain ⟨x5, h6, h⟩ := bS h
        refine sv rfl (v_idxF ty41 es41 rfl rfl (idx_lt h6)) ?_
        refine sv rfl (v_loadF ty3 rfl (l_cell eInt h6 (o := 0) rfl rfl)) ?_
        refine sm rfl rfl ?_
        refine sm rfl rfl ?_
        obtain ⟨x7, h8, h⟩ := bS h
        refine sv rfl (v_idxF ty41 es41 rfl rfl (idx_lt h8)) ?_
        refine sv rfl (v_loadF ty3 rfl (l_cell eInt h8 (o := 0) rfl rfl)) ?_
        refine sv rfl (v_bin rfl rfl b_neq) ?_
        refine s_nil ?_
        refine b_nil (hK _ (AW.to (to_le (s' := ⟨[(0, slE eInt p0), (1, slE eInt p1), (12, HV.int .i64 ((p0).length : Int)), (13, HV.int .i64 a1), (24, HV.bool (decide (x5 ≠ x7)))], []⟩) (AS.le_of ⟨rfl, rfl, rfl, rfl, rfl, trivial⟩ trivial) ?_)))
        clear hK K
        refine AW.cond rfl (fun hc => ?_) (fun hc => ?_)
        · have hc := of_decide_eq_true hc
          have h := ifT hc h
          refine AW.rgs rfl fun K hK => ?_
          refine mv rfl rfl ?_
          refine b_nil (hK _ (AW.to (to_le (s' := ⟨[(4, HV.bool false)], []⟩) (AS.le_of ⟨rfl, trivial⟩ trivial) ?_)))
          clear hK K
          have h := hr4 _ h
          refine AW.ret ?_
          have h := Option.some.inj h
          subst h
          exact ret_pure (hs := [HV.bool false]) (q := HV.bool false) (.inr rfl) (resT rfl rfl) rfl trivial
        · have hc := of_decide_eq_false hc
          have h := ifF hc h
          refine AW.skip ?_
          refine AW.rg rfl fun K hK => ?_
          refine bv rfl (v_bin rfl rfl b_add) ?_
          refine mv rfl rfl ?_
          refine b_nil (hK _ ?_)
          clear hK K
          exact to_le (s' := ⟨[(0, slE eInt p0), (1, slE eInt p1), (12, HV.int .i64 ((p0).length : Int)), (13, HV.int .i64 (IntKind.wrap .i64 (a1 + 1)))], []⟩) (AS.le_of ⟨rfl, rfl, rfl, rfl, trivial⟩ trivial) ⟨IntKind.wrap .i64 (a1 + 1), (), h, rfl⟩
      · have hc := of_decide_eq_false hc
        have h := ifF hc h
        refine AW.exit ?_
        exact to_le (s' := ⟨[], []⟩) (AS.le_of trivial trivial) ⟨(), (), h, rfl⟩

set_option maxHeartbeats 1600000 in
set_option maxRecDepth 100000 in
theorem w_law11_awakeG  {r : Bool} (h : m_law11_awakeG  = some r) : Pure Try.prog 7 [] (· = HV.bool r) := by
  unfold m_law11_awakeG at h
  refine Pure.of_body Try.func7 rfl rfl (Nat.le_of_ble_eq_true rfl) fun hf => ?_
  unfold Try.f7
  dsimp only [enumS, Nat.reduceAdd]
  refine AW.rgs rfl fun K hK => ?_
  refine mv rfl rfl ?_
  refine b_nil (hK _ (AW.to (to_le (s' := ⟨[], []⟩) (AS.le_of trivial trivial) ?_)))
  clear hK K
  refine AW.rgs rfl fun K hK => ?_
  obtain ⟨x1, h2, h⟩ := bS h
  refine b_op rfl (o_call rfl rfl rfl rfl (ACallD.pure0 (w_law11_golden h2)) ?_)
  obtain ⟨x3, h4, h⟩ := bS h
  refine b_op rfl (o_call rfl rfl rfl rfl (ACallD.pure0 (w_language_Words h4)) ?_)
  refine mv rfl rfl ?_
  refine bv rfl (v_extract rfl rfl) ?_
  refine bv rfl (v_extract rfl rfl) ?_
  refine mv rfl rfl ?_
  refine mv rfl rfl ?_
  refine b_nil (hK _ (AW.to (to_le (s' := ⟨[(1, slE eStr x3.1), (2, HV.int .i64 x3.2)], []⟩) (AS.le_of ⟨rfl, rfl, trivial⟩ trivial) ?_)))
  clear hK K
  refine AW.rgs rfl fun K hK => ?_
  obtain ⟨x5, h6, h⟩ := bS h
  refine b_op rfl (o_call rfl rfl rfl rfl (ACallD.pure0 (w_law11_golden h6)) ?_)
  obtain ⟨x7, h8, h⟩ := bS h
  refine b_op rfl (o_call rfl rfl rfl rfl (ACallD.pure0 (w_language_Missing h8)) ?_)
  refine mv rfl rfl ?_
  refine bv rfl (v_extract rfl rfl) ?_
  refine bv rfl (v_extract rfl rfl) ?_
  refine bv rfl (v_extract rfl rfl) ?_
  refine mv rfl rfl ?_
  refine mv rfl rfl ?_
  refine mv rfl rfl ?_
  refine b_nil (hK _ (AW.to (to_le (s' := ⟨[(1, slE eStr x3.1), (2, HV.int .i64 x3.2), (3, HV.str x7.1), (4, HV.bool x7.2.1), (5, HV.int .i64 x7.2.2)], []⟩) (AS.le_of ⟨rfl, rfl, rfl, rfl, rfl, trivial⟩ trivial) ?_)))
  clear hK K
  refine AW.rgs rfl fun K hK => ?_
  obtain ⟨x9, h10, h⟩ := bS h
  refine b_op rfl (o_call rfl rfl rfl rfl (ACallD.pure0 (w_law11_golden h10)) ?_)
  obtain ⟨x11, h12, h⟩ := bS h
  refine b_op rfl (o_call rfl rfl rfl rfl (ACallD.pure0 (w_language_Path h12)) ?_)
  refine mv rfl rfl ?_
  refine bv rfl (v_extract rfl rfl) ?_
  refine bv rfl (v_extract rfl rfl) ?_
  refine mv rfl rfl ?_
  refine mv rfl rfl ?_
  refine b_nil (hK _ (AW.to (to_le (s' := ⟨[(1, slE eStr x3.1), (2, HV.int .i64 x3.2), (3, HV.str x7.1), (4, HV.bool x7.2.1), (5, HV.int .i64 x7.2.2), (6, slE eInt x11.1), (7, HV.int .i64 x11.2)], []⟩) (AS.le_of ⟨rfl, rfl, rfl, rfl, rfl, rfl, rfl, trivial⟩ trivial) ?_)))
  clear hK K
  refine AW.seqJ h (S := Bool) (V := Unit) (fun a v => ⟨[(0, HV.bool a)], []⟩) (fun a13 w14 h => ?_) (fun k15 h => ?_)
  · refine AW.ret ?_
    have h := Option.some.inj h
    subst h
    exact ret_pure (hs := [HV.bool a13]) (q := HV.bool a13) (.inr rfl) (resT rfl rfl) rfl trivial
  · refine AW.rg rfl fun K hK => ?_
    refine mv rfl rfl ?_
    refine mv rfl rfl ?_
    refine mv rfl rfl ?_
    refine bv rfl (v_max3 rfl rfl rfl rfl) ?_
    refine bv rfl (v_bin rfl rfl b_eql) ?_
    refine mv rfl rfl ?_
    by_cases hg23 : (max (max x3.2 x7.2.2) x11.2) = 0
    · have h := ifT hg23 h
      refine b_T rfl rfl rfl rfl (decide_eq_true hg23) (o_val rfl (mv_val rfl rfl).2 ?_)
      refine b_T rfl rfl rfl rfl rfl (o_bsl rfl rfl (as_of (cs := [HV.str [48, 48], HV.str [48, 49], HV.str [49, 48]]) ty28 ty9 rfl rfl rfl rfl rfl) ?_)
      obtain ⟨x16, h17, h⟩ := bS h
      refine b_T rfl rfl rfl rfl rfl (o_call rfl rfl rfl rfl (ACallD.pure0 (w_slices_Equal_Lstring_string h17)) ?_)
      refine bv rfl (v_pickT rfl rfl rfl) ?_
      refine mv rfl rfl ?_
      by_cases hg22 : x16 = true
      · have h := ifT hg22 h
        refine b_T rfl rfl rfl rfl hg22 (o_val rfl (mv_val rfl rfl).2 ?_)
        refine b_T rfl rfl rfl rfl rfl (o_val rfl (v_bin rfl rfl b_seql) ?_)
        refine bv rfl (v_pickT rfl rfl rfl) ?_
        refine mv rfl rfl ?_
        by_cases hg21 : x7.1 = [49, 49]
        · have h := ifT hg21 h
          refine b_T rfl rfl rfl rfl (decide_eq_true hg21) (o_val rfl (mv_val rfl rfl).2 ?_)
          refine bv rfl (v_pickT rfl rfl rfl) ?_
          refine mv rfl rfl ?_
          by_cases hg20 : x7.2.1 = true
          · have h := ifT hg20 h
            refine b_T rfl rfl rfl rfl hg20 (o_val rfl (mv_val rfl rfl).2 ?_)
            refine b_T rfl rfl rfl rfl rfl (o_bsl rfl rfl (as_of (cs := [HV.int .i64 0, HV.int .i64 1, HV.int .i64 2]) ty41 ty3 rfl rfl rfl rfl rfl) ?_)
            obtain ⟨x18, h19, h⟩ := bS h
            refine b_T rfl rfl rfl rfl rfl (o_call rfl rfl rfl rfl (ACallD.pure0 (w_slices_Equal_Lint_int h19)) ?_)
            refine bv rfl (v_pickT rfl rfl rfl) ?_
            refine mv rfl rfl ?_
            refine b_nil (hK _ ?_)
            clear hK K
            exact to_le (s' := ⟨[(0, HV.bool x18)], []⟩) (AS.le_of ⟨rfl, trivial⟩ trivial) ⟨x18, (), h, rfl⟩
          · have h := ifF hg20 h
            refine b_F rfl rfl rfl rfl rfl (bF hg20) ?_
            refine b_F rfl rfl rfl rfl rfl rfl ?_
            refine b_F rfl rfl rfl rfl rfl rfl ?_
            refine bv rfl (v_pickF rfl rfl rfl) ?_
            refine mv rfl rfl ?_
            refine b_nil (hK _ ?_)
            clear hK K
            exact to_le (s' := ⟨[(0, HV.bool false)], []⟩) (AS.le_of ⟨rfl, trivial⟩ trivial) ⟨false, (), h, rfl⟩
        · have h := ifF hg21 h
          refine b_F rfl rfl rfl rfl rfl (decide_eq_false hg21) ?_
          refine bv rfl (v_pickF rfl rfl rfl) ?_
          refine mv rfl rfl ?_
          refine b_F rfl rfl rfl rfl rfl rfl ?_
          refine b_F rfl rfl rfl rfl rfl rfl ?_
          refine b_F rfl rfl rfl rfl rfl rfl ?_
          refine bv rfl (v_pickF rfl rfl rfl) ?_
          refine mv rfl rfl ?_
          refine b_nil (hK _ ?_)
          clear hK K
          exact to_le (s' := ⟨[(0, HV.bool false)], []⟩) (AS.le_of ⟨rfl, trivial⟩ trivial) ⟨false, (), h, rfl⟩
      · have h := ifF hg22 h
        refine b_F rfl rfl rfl rfl rfl (bF hg22) ?_
        refine b_F rfl rfl rfl rfl rfl rfl ?_
        refine bv rfl (v_pickF rfl rfl rfl) ?_
        refine mv rfl rfl ?_
        refine b_F rfl rfl rfl rfl rfl rfl ?_
        refine bv rfl (v_pickF rfl rfl rfl) ?_
        refine mv rfl rfl ?_
        refine b_F rfl rfl rfl rfl rfl rfl ?_
        refine b_F rfl rfl rfl rfl rfl rfl ?_
        refine b_F rfl rfl rfl rfl rfl rfl ?_
        refine bv rfl (v_pickF rfl rfl rfl) ?_
        refine mv rfl rfl ?_
        refine b_nil (hK _ ?_)
        clear hK K
        exact to_le (s' := ⟨[(0, HV.bool false)], []⟩) (AS.le_of ⟨rfl, trivial⟩ trivial) ⟨false, (), h, rfl⟩
    · have h := ifF hg23 h
      refine b_F rfl rfl rfl rfl rfl (decide_eq_false hg23) ?_
      refine b_F rfl rfl rfl rfl rfl rfl ?_
      refine b_F rfl rfl rfl rfl rfl rfl ?_
      refine bv rfl (v_pickF rfl rfl rfl) ?_
      refine mv rfl rfl ?_
      refine b_F rfl rfl rfl rfl rfl rfl ?_
      refine b_F rfl rfl rfl rfl rfl rfl ?_
      refine bv rfl (v_pickF rfl rfl rfl) ?_
      refine mv rfl rfl ?_
      refine b_F rfl rfl rfl rfl rfl rfl ?_
      refine bv rfl (v_pickF rfl rfl rfl) ?_
      refine mv rfl rfl ?_
      refine b_F rfl rfl rfl rfl rfl rfl ?_
      refine b_F rfl rfl rfl rfl rfl rfl ?_
      refine b_F rfl rfl rfl rfl rfl rfl ?_
      refine bv rfl (v_pickF rfl rfl rfl) ?_
      refine mv rfl rfl ?_
      refine b_nil (hK _ ?_)
      clear hK K
      exact to_le (s' := ⟨[(0, HV.bool false)], []⟩) (AS.le_of ⟨rfl, trivial⟩ trivial) ⟨false, (), h, rfl⟩

end Go.AW



/- The anchor of chapter 11. -/
namespace Go.AW
open Go Go.Proofs
theorem w_law11_awake {r : Bool} (h : m_law11_awake = some r) : Pure Try.prog 7 [] (· = HV.bool r) := by
  cases h
  exact w_law11_awakeG awake11_eq
end Go.AW

namespace Go.Proofs
open Go
def Try.strRep_ren : Go.Shelf.Ren := ⟨fun | 105 => 25 | 212 => 38 | 99 => 39 | 165 => 40 | 166 => 41 | 170 => 42 | 169 => 43 | 263 => 53 | 264 => 54 | 206 => 55 | 240 => 56 | 241 => 57 | 276 => 75 | 277 => 76 | n => n, fun | 9 => 9 | 3 => 3 | 4 => 4 | 20 => 20 | 0 => 0 | 46 => 72 | 109 => 73 | 5 => 5 | 72 => 79 | 76 => 83 | 51 => 95 | 146 => 96 | 53 => 98 | 148 => 99 | 70 => 76 | 37 => 77 | 75 => 82 | 127 => 101 | 164 => 119 | 80 => 86 | n => n, fun | n => n⟩
theorem Try.strRep : Go.Proofs.Lays.n105 Try.prog Try.strRep_ren where
  mixed := by kernel_rfl
  f99 := Try.func39.trans (congrArg some (by kernel_rfl))
  f105 := Try.func25.trans (congrArg some (by kernel_rfl))
  f165 := Try.func40.trans (congrArg some (by kernel_rfl))
  f166 := Try.func41.trans (congrArg some (by kernel_rfl))
  f169 := Try.func43.trans (congrArg some (by kernel_rfl))
  f170 := Try.func42.trans (congrArg some (by kernel_rfl))
  f206 := Try.func55.trans (congrArg some (by kernel_rfl))
  f212 := Try.func38.trans (congrArg some (by kernel_rfl))
  f240 := Try.func56.trans (congrArg some (by kernel_rfl))
  f241 := Try.func57.trans (congrArg some (by kernel_rfl))
  f263 := Try.func53.trans (congrArg some (by kernel_rfl))
  f264 := Try.func54.trans (congrArg some (by kernel_rfl))
  f276 := Try.func75.trans (congrArg some (by kernel_rfl))
  f277 := Try.func76.trans (congrArg some (by kernel_rfl))
  t0 := Try.underlying0
  a0 := Try.isAgg0
  z0 := Try.sizeOf0
  v0 := Try.zeroValue0
  t3 := Try.underlying3
  a3 := Try.isAgg3
  z3 := Try.sizeOf3
  v3 := Try.zeroValue3
  t4 := Try.underlying4
  a4 := Try.isAgg4
  z4 := Try.sizeOf4
  v4 := Try.zeroValue4
  t5 := Try.underlying5
  a5 := Try.isAgg5
  z5 := Try.sizeOf5
  v5 := Try.zeroValue5
  t9 := Try.underlying9
  a9 := Try.isAgg9
  z9 := Try.sizeOf9
  v9 := Try.zeroValue9
  t20 := Try.underlying20
  a20 := Try.isAgg20
  z20 := Try.sizeOf20
  v20 := Try.zeroValue20
  t37 := Try.underlying77
  a37 := Try.isAgg77
  z37 := Try.sizeOf77
  v37 := Try.zeroValue77
  t46 := Try.underlying72
  a46 := Try.isAgg72
  z46 := Try.sizeOf72
  v46 := Try.zeroValue72
  t51 := Try.underlying95
  a51 := Try.isAgg95
  z51 := Try.sizeOf95
  v51 := Try.zeroValue95
  t53 := Try.underlying98
  a53 := Try.isAgg98
  z53 := Try.sizeOf98
  v53 := Try.zeroValue98
  t70 := Try.underlying76
  a70 := Try.isAgg76
  z70 := Try.sizeOf76
  v70 := Try.zeroValue76
  t72 := Try.underlying79
  a72 := Try.isAgg79
  z72 := Try.sizeOf79
  v72 := Try.zeroValue79
  t75 := Try.underlying82
  a75 := Try.isAgg82
  z75 := Try.sizeOf82
  v75 := Try.zeroValue82
  t76 := Try.underlying83
  a76 := Try.isAgg83
  z76 := Try.sizeOf83
  v76 := Try.zeroValue83
  t109 := Try.underlying73
  a109 := Try.isAgg73
  z109 := Try.sizeOf73
  v109 := Try.zeroValue73
  t127 := Try.underlying101
  a127 := Try.isAgg101
  z127 := Try.sizeOf101
  v127 := Try.zeroValue101
  t146 := Try.underlying96
  a146 := Try.isAgg96
  z146 := Try.sizeOf96
  v146 := Try.zeroValue96
  t148 := Try.underlying99
  a148 := Try.isAgg99
  z148 := Try.sizeOf99
  v148 := Try.zeroValue99
  t164 := Try.underlying119
  a164 := Try.isAgg119
  z164 := Try.sizeOf119
  v164 := Try.zeroValue119
end Go.Proofs

/- strings.Repeat, by the kit's contract. -/
namespace Go.Proofs
open Go
theorem Try.bldX : Go.Proofs.Builder.Extra Try.prog Try.strRep_ren where
  sizeBuilder := by kernel_rfl
  liesBuilder := by kernel_rfl
  t5 := Try.underlying5
  a5 := Try.isAgg5
  z5 := Try.sizeOf5
  v5 := Try.zeroValue5
  infoByte := by kernel_rfl
  cellsByte := by kernel_rfl
  sizeByte := by kernel_rfl
  neB5 := by decide
end Go.Proofs
namespace Go.AW
open Go Go.Proofs Go.Lib
theorem rep_flat : ∀ (s : List UInt8) (n : Nat), Lib.repeatL s n = (List.replicate n s).flatten
  | s, 0 => rfl
  | s, n + 1 => by rw [List.replicate_succ, List.flatten_cons, ← rep_flat s n]; rfl
theorem flat_repl (s : List UInt8) : ∀ m : Nat, (List.replicate m s).flatten.length = m * s.length
  | 0 => by simp
  | m + 1 => by rw [List.replicate_succ, List.flatten_cons, List.length_append, flat_repl s m, Nat.succ_mul]; omega
theorem w_strings_Repeat {s r : List UInt8} {n : Int} (h : m_strings_Repeat s n = some r) : Pure Try.prog 25 [HV.str s, HV.int .i64 n] (· = HV.str r) := by
  unfold m_strings_Repeat at h
  split at h
  · rename_i hc
    obtain ⟨h0, h1, h2⟩ := hc
    cases h
    obtain ⟨m, rfl⟩ := Int.eq_ofNat_of_zero_le h0
    simp only [Int.toNat_natCast] at h2 ⊢
    refine ⟨enters' Try.func25 rfl rfl, fun μ w vs hs hr => ?_⟩
    obtain ⟨x, xs, rfl, ⟨rfl, hl⟩, y, ys, rfl, ⟨rfl, _⟩, hn⟩ := hr
    cases hn
    refine (Any.strings_Repeat Try.strRep Try.bldX ⟨s.toArray⟩ m w (by omega) (by simpa [ByteArray.size] using h2)).mono ?_
    rintro e w' ⟨rfl, hbel⟩
    have hg : Grow w w' := ⟨⟨hbel.os, hbel.tape, hbel.output⟩, hbel.size, hbel.block⟩
    refine ⟨_, .str (List.replicate m s).flatten, [], μ, rfl, ⟨rfl, trivial, rfl⟩, hs.grow hg, ⟨?_, ?_⟩, Evo.grow hs hg⟩
    · rw [← rep_flat]
    · rw [flat_repl, Nat.mul_comm]
      simp only [maxLen]
      omega
  · cases h
end Go.AW

namespace Go.AW
open Go Go.Proofs
set_option linter.unusedVariables false
set_option maxHeartbeats 1600000 in
set_option maxRecDepth 100000 in
theorem w_ref11_Many {p0 : TLabelsStatesEdges} {p1 : Int} {p2 : Int} {r : Bool} (h : m_ref11_Many p0 p1 p2 = some r) : Pure Try.prog 6 [HV.agg [HV.int .i64 p0.1, HV.int .i64 p0.2.1, slE eFromLabelTo p0.2.2], HV.int .i64 p1, HV.int .i64 p2] (· = HV.bool r) := by
  unfold m_ref11_Many at h
  refine Pure.of_body Try.func6 rfl rfl (Nat.le_of_ble_eq_true rfl) fun hf => ?_
  unfold Try.f6
  dsimp only [enumS, Nat.reduceAdd]
  refine AW.rgs rfl fun K hK => ?_
  refine b_op rfl (o_box rfl rfl rfl ?_)
  refine mv rfl rfl ?_
  refine b_nil (hK _ (AW.to (to_le (s' := ⟨[(1, HV.int .i64 p1), (2, HV.int .i64 p2), (3, HV.fptr [HV.int .i64 p0.1, HV.int .i64 p0.2.1, slE eFromLabelTo p0.2.2] 0)], []⟩) (AS.le_of ⟨rfl, rfl, rfl, trivial⟩ trivial) ?_)))
  clear hK K
  refine AW.rgs rfl fun K hK => ?_
  refine mv rfl rfl ?_
  refine b_nil (hK _ (AW.to (to_le (s' := ⟨[(1, HV.int .i64 p1), (2, HV.int .i64 p2), (3, HV.fptr [HV.int .i64 p0.1, HV.int .i64 p0.2.1, slE eFromLabelTo p0.2.2] 0), (7, HV.int .i64 1)], []⟩) (AS.le_of ⟨rfl, rfl, rfl, rfl, trivial⟩ trivial) ?_)))
  clear hK K
  refine AW.seq ?_
  refine AW.rgs rfl fun K hK => ?_
  refine mv rfl rfl ?_
  refine b_nil (hK _ (AW.to (to_le (s' := ⟨[(1, HV.int .i64 p1), (2, HV.int .i64 p2), (3, HV.fptr [HV.int .i64 p0.1, HV.int .i64 p0.2.1, slE eFromLabelTo p0.2.2] 0), (7, HV.int .i64 1), (8, HV.int .i64 0)], []⟩) (AS.le_of ⟨rfl, rfl, rfl, rfl, rfl, trivial⟩ trivial) ?_)))
  clear hK K
  refine AW.lpR h (by first | exact up_then | exact up_to) (S := Int × Int) (V := Unit) (fun a v => ⟨[(1, HV.int .i64 p1), (2, HV.int .i64 p2), (3, HV.fptr [HV.int .i64 p0.1, HV.int .i64 p0.2.1, slE eFromLabelTo p0.2.2] 0), (7, HV.int .i64 a.1), (8, HV.int .i64 a.2)], []⟩) ?_ (X := Unit) (W := Unit) (fun a v => ⟨[(1, HV.int .i64 p1)], []⟩) (fun a9 w10 h => ?_) (fun a1 w2 st3 h hr4=> ?_)
  · exact to_le (s' := ⟨[(1, HV.int .i64 p1), (2, HV.int .i64 p2), (3, HV.fptr [HV.int .i64 p0.1, HV.int .i64 p0.2.1, slE eFromLabelTo p0.2.2] 0), (7, HV.int .i64 1), (8, HV.int .i64 0)], []⟩) (AS.le_of ⟨rfl, rfl, rfl, rfl, rfl, trivial⟩ trivial) ⟨(), rfl⟩
  · refine AW.seqJ h (S := Bool) (V := Unit) (fun a v => ⟨[(6, HV.bool a)], []⟩) (fun a11 w12 h => ?_) (fun k13 h => ?_)
    · refine AW.ret ?_
      have h := Option.some.inj h
      subst h
      exact ret_pure (hs := [HV.bool a11]) (q := HV.bool a11) (.inr rfl) (resT rfl rfl) rfl trivial
    · refine AW.rg rfl fun K hK => ?_
      refine mv rfl rfl ?_
      refine bv rfl (v_bin rfl rfl b_gtr) ?_
      refine mv rfl rfl ?_
      by_cases hg14 : 24 < p1
      · have h := ifT hg14 h
        refine b_T rfl rfl rfl rfl (decide_eq_true hg14) (o_val rfl (mv_val rfl rfl).2 ?_)
        refine b_T rfl rfl rfl rfl rfl (o_val rfl (v_bin rfl rfl b_leq) ?_)
        refine bv rfl (v_pickT rfl rfl rfl) ?_
        refine mv rfl rfl ?_
        refine b_nil (hK _ ?_)
        clear hK K
        exact to_le (s' := ⟨[(6, HV.bool (decide (p1 ≤ 4096)))], []⟩) (AS.le_of ⟨rfl, trivial⟩ trivial) ⟨decide (p1 ≤ 4096), (), h, rfl⟩
      · have h := ifF hg14 h
        refine b_F rfl rfl rfl rfl rfl (decide_eq_false hg14) ?_
        refine b_F rfl rfl rfl rfl rfl rfl ?_
        refine bv rfl (v_pickF rfl rfl rfl) ?_
        refine mv rfl rfl ?_
        refine b_nil (hK _ ?_)
        clear hK K
        exact to_le (s' := ⟨[(6, HV.bool false)], []⟩) (AS.le_of ⟨rfl, trivial⟩ trivial) ⟨false, (), h, rfl⟩
  · refine AW.seq ?_
    refine AW.seqJ h (S := Bool) (V := Unit) (fun a v => ⟨[(1, HV.int .i64 p1), (2, HV.int .i64 p2), (3, HV.fptr [HV.int .i64 p0.1, HV.int .i64 p0.2.1, slE eFromLabelTo p0.2.2] 0), (7, HV.int .i64 a1.1), (8, HV.int .i64 a1.2), (15, HV.bool a)], []⟩) (fun a5 w6 h => ?_) (fun k7 h => ?_)
    · refine AW.cond rfl (fun hc => ?_) (fun hc => ?_)
      · have h := ifT hc h
        refine AW.skip ?_
        refine AW.seq (AW.block ?_)
        refine AW.rgs rfl fun K hK => ?_
        refine mv rfl rfl ?_
        refine bv rfl (v_fieldAddrF fo24_0 rfl) ?_
        refine bv rfl (v_loadF ty3 rfl (l_lit rfl rfl)) ?_
        refine bv rfl (v_min rfl rfl rfl) ?_
        refine bv rfl (v_max rfl rfl rfl) ?_
        refine bv rfl (v_bin rfl rfl b_mul) ?_
        refine mv rfl rfl ?_
        refine b_nil (hK _ (AW.to (to_le (s' := ⟨[(1, HV.int .i64 p1), (2, HV.int .i64 p2), (3, HV.fptr [HV.int .i64 p0.1, HV.int .i64 p0.2.1, slE eFromLabelTo p0.2.2] 0), (7, HV.int .i64 (IntKind.wrap .i64 (a1.1 * (max 1 (min p0.1 256))))), (8, HV.int .i64 a1.2)], []⟩) (AS.le_of ⟨rfl, rfl, rfl, rfl, rfl, trivial⟩ trivial) ?_)))
        clear hK K
        refine AW.rgs rfl fun K hK => ?_
        refine mv rfl rfl ?_
        refine mv rfl rfl ?_
        refine bv rfl (v_bin rfl rfl b_gtr) ?_
        refine b_nil (hK _ (AW.to (to_le (s' := ⟨[(1, HV.int .i64 p1), (2, HV.int .i64 p2), (3, HV.fptr [HV.int .i64 p0.1, HV.int .i64 p0.2.1, slE eFromLabelTo p0.2.2] 0), (7, HV.int .i64 (IntKind.wrap .i64 (a1.1 * (max 1 (min p0.1 256))))), (8, HV.int .i64 a1.2), (26, HV.bool (decide (p2 < (IntKind.wrap .i64 (a1.1 * (max 1 (min p0.1 256)))))))], []⟩) (AS.le_of ⟨rfl, rfl, rfl, rfl, rfl, rfl, trivial⟩ trivial) ?_)))
        clear hK K
        refine AW.cond rfl (fun hc => ?_) (fun hc => ?_)
        · have hc := of_decide_eq_true hc
          have h := ifT hc h
          refine AW.rgs rfl fun K hK => ?_
          refine mv rfl rfl ?_
          refine b_nil (hK _ (AW.to (to_le (s' := ⟨[(6, HV.bool true)], []⟩) (AS.le_of ⟨rfl, trivial⟩ trivial) ?_)))
          clear hK K
          have h := hr4 _ h
          refine AW.ret ?_
          have h := Option.some.inj h
          subst h
          exact ret_pure (hs := [HV.bool true]) (q := HV.bool true) (.inr rfl) (resT rfl rfl) rfl trivial
        · have hc := of_decide_eq_false hc
          have h := ifF hc h
          refine AW.skip ?_
          refine AW.rg rfl fun K hK => ?_
          refine mv rfl rfl ?_
          refine bv rfl (v_bin rfl rfl b_add) ?_
          refine mv rfl rfl ?_
          refine b_nil (hK _ ?_)
          clear hK K
          exact to_le (s' := ⟨[(1, HV.int .i64 p1), (2, HV.int .i64 p2), (3, HV.fptr [HV.int .i64 p0.1, HV.int .i64 p0.2.1, slE eFromLabelTo p0.2.2] 0), (7, HV.int .i64 (IntKind.wrap .i64 (a1.1 * (max 1 (min p0.1 256))))), (8, HV.int .i64 (IntKind.wrap .i64 (a1.2 + 1)))], []⟩) (AS.le_of ⟨rfl, rfl, rfl, rfl, rfl, trivial⟩ trivial) ⟨(IntKind.wrap .i64 (a1.1 * (max 1 (min p0.1 256))), IntKind.wrap .i64 (a1.2 + 1)), (), h, rfl⟩
      · have h := ifF (bF' hc) h
        refine AW.exit ?_
        exact to_le (s' := ⟨[(1, HV.int .i64 p1)], []⟩) (AS.le_of ⟨rfl, trivial⟩ trivial) ⟨(), (), h, rfl⟩
    · refine AW.rg rfl fun K hK => ?_
      refine mv rfl rfl ?_
      refine mv rfl rfl ?_
      refine bv rfl (v_bin rfl rfl b_lss) ?_
      refine mv rfl rfl ?_
      by_cases hg8 : a1.2 < p1
      · have h := ifT hg8 h
        refine b_T rfl rfl rfl rfl (decide_eq_true hg8) (o_val rfl (mv_val rfl rfl).2 ?_)
        refine b_T rfl rfl rfl rfl rfl (o_val rfl (v_bin rfl rfl b_lss) ?_)
        refine bv rfl (v_pickT rfl rfl rfl) ?_
        refine b_nil (hK _ ?_)
        clear hK K
        exact to_le (s' := ⟨[(1, HV.int .i64 p1), (2, HV.int .i64 p2), (3, HV.fptr [HV.int .i64 p0.1, HV.int .i64 p0.2.1, slE eFromLabelTo p0.2.2] 0), (7, HV.int .i64 a1.1), (8, HV.int .i64 a1.2), (15, HV.bool (decide (a1.2 < 4096)))], []⟩) (AS.le_of ⟨rfl, rfl, rfl, rfl, rfl, rfl, trivial⟩ trivial) ⟨decide (a1.2 < 4096), (), h, rfl⟩
      · have h := ifF hg8 h
        refine b_F rfl rfl rfl rfl rfl (decide_eq_false hg8) ?_
        refine b_F rfl rfl rfl rfl rfl rfl ?_
        refine bv rfl (v_pickF rfl rfl rfl) ?_
        refine b_nil (hK _ ?_)
        clear hK K
        exact to_le (s' := ⟨[(1, HV.int .i64 p1), (2, HV.int .i64 p2), (3, HV.fptr [HV.int .i64 p0.1, HV.int .i64 p0.2.1, slE eFromLabelTo p0.2.2] 0), (7, HV.int .i64 a1.1), (8, HV.int .i64 a1.2), (15, HV.bool false)], []⟩) (AS.le_of ⟨rfl, rfl, rfl, rfl, rfl, rfl, trivial⟩ trivial) ⟨false, (), h, rfl⟩

set_option maxHeartbeats 1600000 in
set_option maxRecDepth 100000 in
theorem w_word_All {p0 : Int} {p1 : Int} {r : (List (List UInt8)) × Int} (h : m_word_All p0 p1 = some r) : Pure Try.prog 9 [HV.int .i64 p0, HV.int .i64 p1] (· = HV.tup [slE eStr r.1, HV.int .i64 r.2]) := by
  unfold m_word_All at h
  refine Pure.of_body Try.func9 rfl rfl (Nat.le_of_ble_eq_true rfl) fun hf => ?_
  unfold Try.f9
  dsimp only [enumS, Nat.reduceAdd]
  refine AW.rgs rfl fun K hK => ?_
  refine mv rfl rfl ?_
  refine mv rfl rfl ?_
  refine b_nil (hK _ (AW.to (to_le (s' := ⟨[(0, HV.int .i64 p0), (1, HV.int .i64 p1)], []⟩) (AS.le_of ⟨rfl, rfl, trivial⟩ trivial) ?_)))
  clear hK K
  refine AW.seq (AW.block ?_)
  refine AW.rgs rfl fun K hK => ?_
  refine mv rfl rfl ?_
  obtain ⟨x1, h2, h⟩ := bS h
  refine b_op rfl (o_call rfl rfl rfl rfl (ACallD.pure0 (w_word_known h2)) ?_)
  refine bv rfl (v_not rfl) ?_
  refine mv rfl rfl ?_
  refine b_nil (hK _ (AW.to (to_le (s' := ⟨[(0, HV.int .i64 p0), (1, HV.int .i64 p1), (11, HV.bool (!x1))], []⟩) (AS.le_of ⟨rfl, rfl, rfl, trivial⟩ trivial) ?_)))
  clear hK K
  refine AW.cond rfl (fun hc => ?_) (fun hc => ?_)
  · have h := ifT hc h
    refine AW.rgs rfl fun K hK => ?_
    refine mv rfl rfl ?_
    refine mv rfl rfl ?_
    refine b_nil (hK _ (AW.to (to_le (s' := ⟨[(4, HV.v (.slice none 0 0)), (5, HV.int .i64 12)], []⟩) (AS.le_of ⟨rfl, rfl, trivial⟩ trivial) ?_)))
    clear hK K
    refine AW.to (to_weak ⟨[(4, slE eStr ([] : List (List UInt8))), (5, HV.int .i64 12)], []⟩ ⟨⟨_, rfl, .nil _⟩, ⟨_, rfl, .refl _⟩, trivial⟩ trivial ?_)
    refine AW.ret ?_
    have h := Option.some.inj h
    subst h
    exact ret_pure (hs := [slE eStr ([] : List (List UInt8)), HV.int .i64 12]) (q := HV.tup [slE eStr ([] : List (List UInt8)), HV.int .i64 12]) (.inr rfl) (resT rfl (resT rfl rfl)) rfl ⟨(clean_slE fun _ _ => ⟨trivial, trivial⟩), trivial, trivial⟩
  · have h := ifF (bF' hc) h
    refine AW.rgs rfl fun K hK => ?_
    refine mv rfl rfl ?_
    refine bv rfl (v_bin rfl rfl b_lss) ?_
    refine mv rfl rfl ?_
    refine b_nil (hK _ (AW.to (to_le (s' := ⟨[(0, HV.int .i64 p0), (1, HV.int .i64 p1), (15, HV.bool (decide (p1 < 0)))], []⟩) (AS.le_of ⟨rfl, rfl, rfl, trivial⟩ trivial) ?_)))
    clear hK K
    refine AW.cond rfl (fun hc => ?_) (fun hc => ?_)
    · have hc := of_decide_eq_true hc
      have h := ifT hc h
      refine AW.rgs rfl fun K hK => ?_
      refine mv rfl rfl ?_
      refine mv rfl rfl ?_
      refine b_nil (hK _ (AW.to (to_le (s' := ⟨[(4, HV.v (.slice none 0 0)), (5, HV.int .i64 2)], []⟩) (AS.le_of ⟨rfl, rfl, trivial⟩ trivial) ?_)))
      clear hK K
      refine AW.to (to_weak ⟨[(4, slE eStr ([] : List (List UInt8))), (5, HV.int .i64 2)], []⟩ ⟨⟨_, rfl, .nil _⟩, ⟨_, rfl, .refl _⟩, trivial⟩ trivial ?_)
      refine AW.ret ?_
      have h := Option.some.inj h
      subst h
      exact ret_pure (hs := [slE eStr ([] : List (List UInt8)), HV.int .i64 2]) (q := HV.tup [slE eStr ([] : List (List UInt8)), HV.int .i64 2]) (.inr rfl) (resT rfl (resT rfl rfl)) rfl ⟨(clean_slE fun _ _ => ⟨trivial, trivial⟩), trivial, trivial⟩
    · have hc := of_decide_eq_false hc
      have h := ifF hc h
      refine AW.rgs rfl fun K hK => ?_
      refine mv rfl rfl ?_
      refine bv rfl (v_bin rfl rfl b_gtr) ?_
      refine mv rfl rfl ?_
      refine b_nil (hK _ (AW.to (to_le (s' := ⟨[(0, HV.int .i64 p0), (1, HV.int .i64 p1), (18, HV.bool (decide (65536 < p1)))], []⟩) (AS.le_of ⟨rfl, rfl, rfl, trivial⟩ trivial) ?_)))
      clear hK K
      refine AW.cond rfl (fun hc => ?_) (fun hc => ?_)
      · have hc := of_decide_eq_true hc
        have h := ifT hc h
        refine AW.rgs rfl fun K hK => ?_
        refine mv rfl rfl ?_
        refine mv rfl rfl ?_
        refine b_nil (hK _ (AW.to (to_le (s' := ⟨[(4, HV.v (.slice none 0 0)), (5, HV.int .i64 4)], []⟩) (AS.le_of ⟨rfl, rfl, trivial⟩ trivial) ?_)))
        clear hK K
        refine AW.to (to_weak ⟨[(4, slE eStr ([] : List (List UInt8))), (5, HV.int .i64 4)], []⟩ ⟨⟨_, rfl, .nil _⟩, ⟨_, rfl, .refl _⟩, trivial⟩ trivial ?_)
        refine AW.ret ?_
        have h := Option.some.inj h
        subst h
        exact ret_pure (hs := [slE eStr ([] : List (List UInt8)), HV.int .i64 4]) (q := HV.tup [slE eStr ([] : List (List UInt8)), HV.int .i64 4]) (.inr rfl) (resT rfl (resT rfl rfl)) rfl ⟨(clean_slE fun _ _ => ⟨trivial, trivial⟩), trivial, trivial⟩
      · have hc := of_decide_eq_false hc
        have h := ifF hc h
        refine AW.skip ?_
        refine AW.seq ?_
        refine AW.rgs rfl fun K hK => ?_
        refine mv rfl rfl ?_
        refine bv rfl (v_bin rfl rfl b_eql) ?_
        refine b_nil (hK _ (AW.to (to_le (s' := ⟨[(0, HV.int .i64 p0), (1, HV.int .i64 p1), (22, HV.bool (decide (p0 = 1)))], []⟩) (AS.le_of ⟨rfl, rfl, rfl, trivial⟩ trivial) ?_)))
        clear hK K
        refine AW.cond rfl (fun hc => ?_) (fun hc => ?_)
        · have hc := of_decide_eq_true hc
          have h := ifT hc h
          refine AW.rgs rfl fun K hK => ?_
          refine mv rfl rfl ?_
          obtain ⟨x3, h4, h⟩ := bS h
          refine b_op rfl (o_call rfl rfl rfl rfl (ACallD.pure0 (w_strings_Repeat h4)) ?_)
          refine b_op rfl (o_bsl rfl rfl (as_of (cs := [HV.str x3]) ty28 ty9 rfl rfl rfl rfl rfl) ?_)
          refine mv rfl rfl ?_
          refine mv rfl rfl ?_
          refine b_nil (hK _ (AW.to (to_le (s' := ⟨[(4, slE eStr [x3]), (5, HV.int .i64 0)], []⟩) (AS.le_of ⟨rfl, rfl, trivial⟩ trivial) ?_)))
          clear hK K
          refine AW.ret ?_
          have h := Option.some.inj h
          subst h
          exact ret_pure (hs := [slE eStr [x3], HV.int .i64 0]) (q := HV.tup [slE eStr [x3], HV.int .i64 0]) (.inr rfl) (resT rfl (resT rfl rfl)) rfl ⟨(clean_slE fun _ _ => ⟨trivial, trivial⟩), trivial, trivial⟩
        · have hc := of_decide_eq_false hc
          have h := ifF hc h
          refine AW.skip ?_
          refine AW.rgs rfl fun K hK => ?_
          refine b_op rfl (o_bsl rfl rfl (as_of (cs := [HV.str ([] : List UInt8)]) ty28 ty9 rfl rfl rfl rfl rfl) ?_)
          refine mv rfl rfl ?_
          refine b_nil (hK _ (AW.to (to_le (s' := ⟨[(0, HV.int .i64 p0), (1, HV.int .i64 p1), (6, slE eStr [([] : List UInt8)])], []⟩) (AS.le_of ⟨rfl, rfl, rfl, trivial⟩ trivial) ?_)))
          clear hK K
          refine AW.seq ?_
          refine AW.rgs rfl fun K hK => ?_
          refine mv rfl rfl ?_
          refine mv rfl rfl ?_
          refine b_nil (hK _ (AW.to (to_le (s' := ⟨[(0, HV.int .i64 p0), (6, slE eStr [([] : List UInt8)]), (27, HV.int .i64 p1), (28, HV.int .i64 0)], []⟩) (AS.le_of ⟨rfl, rfl, rfl, rfl, trivial⟩ trivial) ?_)))
          clear hK K
          refine AW.lpR h (by first | exact up_then | exact up_to) (S := (List (List UInt8)) × Int) (V := Unit) (fun a v => ⟨[(0, HV.int .i64 p0), (6, slE eStr a.1), (27, HV.int .i64 p1), (28, HV.int .i64 a.2)], []⟩) ?_ (X := (List (List UInt8))) (W := Unit) (fun a v => ⟨[(6, slE eStr a)], []⟩) (fun a29 w30 h => ?_) (fun a5 w6 st7 h hr8=> ?_)
          · exact to_le (s' := ⟨[(0, HV.int .i64 p0), (6, slE eStr [([] : List UInt8)]), (27, HV.int .i64 p1), (28, HV.int .i64 0)], []⟩) (AS.le_of ⟨rfl, rfl, rfl, rfl, trivial⟩ trivial) ⟨(), rfl⟩
          · refine AW.rgs rfl fun K hK => ?_
            refine mv rfl rfl ?_
            refine mv rfl rfl ?_
            refine mv rfl rfl ?_
            refine b_nil (hK _ (AW.to (to_le (s' := ⟨[(4, slE eStr a29), (5, HV.int .i64 0)], []⟩) (AS.le_of ⟨rfl, rfl, trivial⟩ trivial) ?_)))
            clear hK K
            refine AW.ret ?_
            have h := Option.some.inj h
            subst h
            exact ret_pure (hs := [slE eStr a29, HV.int .i64 0]) (q := HV.tup [slE eStr a29, HV.int .i64 0]) (.inr rfl) (resT rfl (resT rfl rfl)) rfl ⟨(clean_slE fun _ _ => ⟨trivial, trivial⟩), trivial, trivial⟩
          · refine AW.rgs rfl fun K hK => ?_
            refine bv rfl (v_bin rfl rfl b_lss) ?_
            refine b_nil (hK _ (AW.to (to_le (s' := ⟨[(0, HV.int .i64 p0), (6, slE eStr a5.1), (27, HV.int .i64 p1), (28, HV.int .i64 a5.2), (29, HV.bool (decide (a5.2 < p1)))], []⟩) (AS.le_of ⟨rfl, rfl, rfl, rfl, rfl, trivial⟩ trivial) ?_)))
            clear hK K
            refine AW.cseq rfl (fun hc => ?_) (fun hc => ?_)
            · have hc := of_decide_eq_true hc
              have h := ifT hc h
              refine AW.skip ?_
              refine AW.seq (AW.block ?_)
              refine AW.seq ?_
              refine AW.rgs rfl fun K hK => ?_
              refine mv rfl rfl ?_
              refine bv rfl (v_lenF rfl rfl ty28 rfl) ?_
              refine mv rfl rfl ?_
              refine bv rfl (v_bin rfl rfl b_mul) ?_
              refine bv rfl (v_bin rfl rfl b_gtr) ?_
              refine b_nil (hK _ (AW.to (to_le (s' := ⟨[(0, HV.int .i64 p0), (6, slE eStr a5.1), (27, HV.int .i64 p1), (28, HV.int .i64 a5.2), (34, HV.bool (decide (4096 < (IntKind.wrap .i64 (((a5.1).length : Int) * p0)))))], []⟩) (AS.le_of ⟨rfl, rfl, rfl, rfl, rfl, trivial⟩ trivial) ?_)))
              clear hK K
              refine AW.cond rfl (fun hc => ?_) (fun hc => ?_)
              · have hc := of_decide_eq_true hc
                have h := ifT hc h
                refine AW.rgs rfl fun K hK => ?_
                refine mv rfl rfl ?_
                refine mv rfl rfl ?_
                refine b_nil (hK _ (AW.to (to_le (s' := ⟨[(4, HV.v (.slice none 0 0)), (5, HV.int .i64 4)], []⟩) (AS.le_of ⟨rfl, rfl, trivial⟩ trivial) ?_)))
                clear hK K
                have h := hr8 _ h
                refine AW.to (to_weak ⟨[(4, slE eStr ([] : List (List UInt8))), (5, HV.int .i64 4)], []⟩ ⟨⟨_, rfl, .nil _⟩, ⟨_, rfl, .refl _⟩, trivial⟩ trivial ?_)
                refine AW.ret ?_
                have h := Option.some.inj h
                subst h
                exact ret_pure (hs := [slE eStr ([] : List (List UInt8)), HV.int .i64 4]) (q := HV.tup [slE eStr ([] : List (List UInt8)), HV.int .i64 4]) (.inr rfl) (resT rfl (resT rfl rfl)) rfl ⟨(clean_slE fun _ _ => ⟨trivial, trivial⟩), trivial, trivial⟩
              · have hc := of_decide_eq_false hc
                have h := ifF hc h
                refine AW.skip ?_
                refine AW.rgs rfl fun K hK => ?_
                refine mv rfl rfl ?_
                refine bv rfl (v_lenF rfl rfl ty28 rfl) ?_
                refine mv rfl rfl ?_
                refine bv rfl (v_bin rfl rfl b_mul) ?_
                obtain ⟨h10, h⟩ := ifN h
                refine b_op rfl (o_makeE (fid := 9) eStr (([] : List UInt8) : List UInt8) 9039 rfl rfl ty28 rfl rfl ty9 rfl rfl h10 (fun v9 => ?_))
                refine mv rfl rfl ?_
                refine b_nil (hK _ (AW.to (to_le (s' := ⟨[(0, HV.int .i64 p0), (6, slE eStr a5.1), (7, HV.ar 9039 v9 eStr.k 0 ((List.replicate (0 : Int).toNat (([] : List UInt8) : List UInt8)).length)), (27, HV.int .i64 p1), (28, HV.int .i64 a5.2)], [(9039, v9, .arr eStr.k 9 (eStr.E (List.replicate (0 : Int).toNat (([] : List UInt8) : List UInt8))))]⟩) (AS.le_of ⟨rfl, rfl, rfl, rfl, rfl, trivial⟩ ⟨rfl, trivial⟩) ?_)))
                clear hK K
                refine AW.seq ?_
                refine AW.rgs rfl fun K hK => ?_
                refine mv rfl rfl ?_
                refine bv rfl (v_lenF rfl rfl ty28 rfl) ?_
                refine mv rfl rfl ?_
                refine b_nil (hK _ (AW.to (to_le (s' := ⟨[(0, HV.int .i64 p0), (7, HV.ar 9039 v9 eStr.k 0 ((List.replicate (0 : Int).toNat (([] : List UInt8) : List UInt8)).length)), (27, HV.int .i64 p1), (28, HV.int .i64 a5.2), (40, slE eStr a5.1), (41, HV.int .i64 ((a5.1).length : Int)), (42, HV.int .i64 0)], [(9039, v9, .arr eStr.k 9 (eStr.E (List.replicate (0 : Int).toNat (([] : List UInt8) : List UInt8))))]⟩) (AS.le_of ⟨rfl, rfl, rfl, rfl, rfl, rfl, rfl, trivial⟩ ⟨rfl, trivial⟩) ?_)))
                clear hK K
                refine AW.lpX h (by first | exact up_then | exact up_to) (S := Int × (List (List UInt8))) (V := Nat) (fun a v => ⟨[(0, HV.int .i64 p0), (7, HV.ar 9039 v eStr.k 0 ((a.2).length)), (27, HV.int .i64 p1), (28, HV.int .i64 a5.2), (40, slE eStr a5.1), (41, HV.int .i64 ((a5.1).length : Int)), (42, HV.int .i64 a.1)], [(9039, v, .arr eStr.k 9 (eStr.E a.2))]⟩) ?_ (X := (List (List UInt8))) (W := Nat) (fun a v => ⟨[(0, HV.int .i64 p0), (7, HV.ar 9039 v eStr.k 0 ((a).length)), (27, HV.int .i64 p1), (28, HV.int .i64 a5.2)], [(9039, v, .arr eStr.k 9 (eStr.E a))]⟩) (fun a27 w28 h => ?_) (fun a11 w12 st13 h => ?_)
                · exact to_le (s' := ⟨[(0, HV.int .i64 p0), (7, HV.ar 9039 v9 eStr.k 0 ((List.replicate (0 : Int).toNat (([] : List UInt8) : List UInt8)).length)), (27, HV.int .i64 p1), (28, HV.int .i64 a5.2), (40, slE eStr a5.1), (41, HV.int .i64 ((a5.1).length : Int)), (42, HV.int .i64 0)], [(9039, v9, .arr eStr.k 9 (eStr.E (List.replicate (0 : Int).toNat (([] : List UInt8) : List UInt8))))]⟩) (AS.le_of ⟨rfl, rfl, rfl, rfl, rfl, rfl, rfl, trivial⟩ ⟨rfl, trivial⟩) ⟨v9, rfl⟩
                · refine AW.rg rfl fun K hK => ?_
                  refine mv rfl rfl ?_
                  refine mv rfl rfl ?_
                  refine b_nil (hK _ (AW.to (to_le (s' := ⟨[(0, HV.int .i64 p0), (6, HV.ar 9039 w28 eStr.k 0 ((a27).length)), (27, HV.int .i64 p1), (28, HV.int .i64 a5.2)], [(9039, w28, .arr eStr.k 9 (eStr.E a27))]⟩) (AS.le_of ⟨rfl, rfl, rfl, rfl, trivial⟩ ⟨rfl, trivial⟩) ?_)))
                  clear hK K
                  refine AW.rg rfl fun K hK => ?_
                  refine bv rfl (v_bin rfl rfl b_add) ?_
                  refine mv rfl rfl ?_
                  refine b_nil (hK _ ?_)
                  clear hK K
                  refine to_bind (to_frz 2 [(9039, w28, .arr eStr.k 9 (eStr.E a27))] ⟨[(0, HV.int .i64 p0), (6, slE eStr a27), (27, HV.int .i64 p1), (28, HV.int .i64 (IntKind.wrap .i64 (a5.2 + 1)))], []⟩ ⟨⟨_, rfl, rfl⟩, ⟨_, rfl, frz_slE eStr (l := a27) rfl fun _ _ => rfl⟩, ⟨_, rfl, rfl⟩, ⟨_, rfl, rfl⟩, trivial⟩ trivial ⟨rfl, trivial⟩ ⟨rfl, trivial⟩ ?_)
                  exact to_le (s' := ⟨[(0, HV.int .i64 p0), (6, slE eStr a27), (27, HV.int .i64 p1), (28, HV.int .i64 (IntKind.wrap .i64 (a5.2 + 1)))], []⟩) (AS.le_of ⟨rfl, rfl, rfl, rfl, trivial⟩ trivial) ⟨(a27, IntKind.wrap .i64 (a5.2 + 1)), (), h, rfl⟩
                · refine AW.rgs rfl fun K hK => ?_
                  refine bv rfl (v_bin rfl rfl b_lss) ?_
                  refine b_nil (hK _ (AW.to (to_le (s' := ⟨[(0, HV.int .i64 p0), (7, HV.ar 9039 w12 eStr.k 0 ((a11.2).length)), (27, HV.int .i64 p1), (28, HV.int .i64 a5.2), (40, slE eStr a5.1), (41, HV.int .i64 ((a5.1).length : Int)), (42, HV.int .i64 a11.1), (43, HV.bool (decide (a11.1 < ((a5.1).length : Int))))], [(9039, w12, .arr eStr.k 9 (eStr.E a11.2))]⟩) (AS.le_of ⟨rfl, rfl, rfl, rfl, rfl, rfl, rfl, rfl, trivial⟩ ⟨rfl, trivial⟩) ?_)))
                  clear hK K
                  refine AW.cseq rfl (fun hc => ?_) (fun hc => ?_)
                  · have hc := of_decide_eq_true hc
                    have h := ifT hc h
                    refine AW.skip ?_
                    refine AW.seq (AW.block ?_)
                    refine AW.rgs rfl fun K hK => ?_
                    obtain ⟨x15, h16, h⟩ := bS h
                    refine bv rfl (v_idxF ty28 es28 rfl rfl (idx_lt h16)) ?_
                    refine bv rfl (v_loadF ty9 rfl (l_cell eStr h16 (o := 0) rfl rfl)) ?_
                    refine mv rfl rfl ?_
                    refine b_nil (hK _ (AW.to (to_le (s' := ⟨[(0, HV.int .i64 p0), (7, HV.ar 9039 w12 eStr.k 0 ((a11.2).length)), (9, HV.str x15), (27, HV.int .i64 p1), (28, HV.int .i64 a5.2), (40, slE eStr a5.1), (41, HV.int .i64 ((a5.1).length : Int)), (42, HV.int .i64 a11.1)], [(9039, w12, .arr eStr.k 9 (eStr.E a11.2))]⟩) (AS.le_of ⟨rfl, rfl, rfl, rfl, rfl, rfl, rfl, rfl, trivial⟩ ⟨rfl, trivial⟩) ?_)))
                    clear hK K
                    refine AW.rgs rfl fun K hK => ?_
                    refine mv rfl rfl ?_
                    refine mv rfl rfl ?_
                    refine b_nil (hK _ (AW.to (to_le (s' := ⟨[(0, HV.int .i64 p0), (7, HV.ar 9039 w12 eStr.k 0 ((a11.2).length)), (9, HV.str x15), (27, HV.int .i64 p1), (28, HV.int .i64 a5.2), (40, slE eStr a5.1), (41, HV.int .i64 ((a5.1).length : Int)), (42, HV.int .i64 a11.1), (46, HV.int .i64 p0), (47, HV.int .i64 0)], [(9039, w12, .arr eStr.k 9 (eStr.E a11.2))]⟩) (AS.le_of ⟨rfl, rfl, rfl, rfl, rfl, rfl, rfl, rfl, rfl, rfl, trivial⟩ ⟨rfl, trivial⟩) ?_)))
                    clear hK K
                    refine AW.lpX h (by first | exact up_then | exact up_to) (S := Int × (List (List UInt8))) (V := Nat) (fun a v => ⟨[(0, HV.int .i64 p0), (7, HV.ar 9039 v eStr.k 0 ((a.2).length)), (9, HV.str x15), (27, HV.int .i64 p1), (28, HV.int .i64 a5.2), (40, slE eStr a5.1), (41, HV.int .i64 ((a5.1).length : Int)), (42, HV.int .i64 a11.1), (46, HV.int .i64 p0), (47, HV.int .i64 a.1)], [(9039, v, .arr eStr.k 9 (eStr.E a.2))]⟩) ?_ (X := (List (List UInt8))) (W := Nat) (fun a v => ⟨[(0, HV.int .i64 p0), (7, HV.ar 9039 v eStr.k 0 ((a).length)), (27, HV.int .i64 p1), (28, HV.int .i64 a5.2), (40, slE eStr a5.1), (41, HV.int .i64 ((a5.1).length : Int)), (42, HV.int .i64 a11.1)], [(9039, v, .arr eStr.k 9 (eStr.E a))]⟩) (fun a25 w26 h => ?_) (fun a17 w18 st19 h => ?_)
                    · exact to_le (s' := ⟨[(0, HV.int .i64 p0), (7, HV.ar 9039 w12 eStr.k 0 ((a11.2).length)), (9, HV.str x15), (27, HV.int .i64 p1), (28, HV.int .i64 a5.2), (40, slE eStr a5.1), (41, HV.int .i64 ((a5.1).length : Int)), (42, HV.int .i64 a11.1), (46, HV.int .i64 p0), (47, HV.int .i64 0)], [(9039, w12, .arr eStr.k 9 (eStr.E a11.2))]⟩) (AS.le_of ⟨rfl, rfl, rfl, rfl, rfl, rfl, rfl, rfl, rfl, rfl, trivial⟩ ⟨rfl, trivial⟩) ⟨w12, rfl⟩
                    · refine AW.rg rfl fun K hK => ?_
                      refine bv rfl (v_bin rfl rfl b_add) ?_
                      refine mv rfl rfl ?_
                      refine b_nil (hK _ ?_)
                      clear hK K
                      exact to_le (s' := ⟨[(0, HV.int .i64 p0), (7, HV.ar 9039 w26 eStr.k 0 ((a25).length)), (27, HV.int .i64 p1), (28, HV.int .i64 a5.2), (40, slE eStr a5.1), (41, HV.int .i64 ((a5.1).length : Int)), (42, HV.int .i64 (IntKind.wrap .i64 (a11.1 + 1)))], [(9039, w26, .arr eStr.k 9 (eStr.E a25))]⟩) (AS.le_of ⟨rfl, rfl, rfl, rfl, rfl, rfl, rfl, trivial⟩ ⟨rfl, trivial⟩) ⟨(IntKind.wrap .i64 (a11.1 + 1), a25), w26, h, rfl⟩
                    · refine AW.rgs rfl fun K hK => ?_
                      refine bv rfl (v_bin rfl rfl b_lss) ?_
                      refine b_nil (hK _ (AW.to (to_le (s' := ⟨[(0, HV.int .i64 p0), (7, HV.ar 9039 w18 eStr.k 0 ((a17.2).length)), (9, HV.str x15), (27, HV.int .i64 p1), (28, HV.int .i64 a5.2), (40, slE eStr a5.1), (41, HV.int .i64 ((a5.1).length : Int)), (42, HV.int .i64 a11.1), (46, HV.int .i64 p0), (47, HV.int .i64 a17.1), (48, HV.bool (decide (a17.1 < p0)))], [(9039, w18, .arr eStr.k 9 (eStr.E a17.2))]⟩) (AS.le_of ⟨rfl, rfl, rfl, rfl, rfl, rfl, rfl, rfl, rfl, rfl, rfl, trivial⟩ ⟨rfl, trivial⟩) ?_)))
                      clear hK K
                      refine AW.cseq rfl (fun hc => ?_) (fun hc => ?_)
                      · have hc := of_decide_eq_true hc
                        have h := ifT hc h
                        refine AW.skip ?_
                        refine AW.seq (AW.block ?_)
                        refine AW.rgs rfl fun K hK => ?_
                        refine mv rfl rfl ?_
                        refine mv rfl rfl ?_
                        refine b_nil (hK _ (AW.to (to_le (s' := ⟨[(0, HV.int .i64 p0), (7, HV.ar 9039 w18 eStr.k 0 ((a17.2).length)), (9, HV.str x15), (10, HV.int .i64 a17.1), (27, HV.int .i64 p1), (28, HV.int .i64 a5.2), (40, slE eStr a5.1), (41, HV.int .i64 ((a5.1).length : Int)), (42, HV.int .i64 a11.1), (46, HV.int .i64 p0), (47, HV.int .i64 a17.1)], [(9039, w18, .arr eStr.k 9 (eStr.E a17.2))]⟩) (AS.le_of ⟨rfl, rfl, rfl, rfl, rfl, rfl, rfl, rfl, rfl, rfl, rfl, trivial⟩ ⟨rfl, trivial⟩) ?_)))
                        clear hK K
                        refine AW.rg rfl fun K hK => ?_
                        refine mv rfl rfl ?_
                        refine mv rfl rfl ?_
                        refine mv rfl rfl ?_
                        refine mv rfl rfl ?_
                        refine bv rfl (v_bin rfl rfl b_add) ?_
                        obtain ⟨h21, h⟩ := ifN h
                        refine bv rfl (v_sliceS ty9 rfl rfl rfl h21) ?_
                        obtain ⟨h22, h⟩ := ifN h
                        refine bv rfl (v_bin rfl rfl (b_sadd h22)) ?_
                        refine b_op rfl (o_bsl rfl rfl (as_of (cs := [HV.str (x15 ++ ((([48, 49, 50, 51, 52, 53, 54, 55, 56, 57, 97, 98, 99, 100, 101, 102] : List UInt8).take (IntKind.wrap .i64 (a17.1 + 1)).toNat).drop (a17.1).toNat))]) ty28 ty9 rfl rfl rfl rfl rfl) ?_)
                        obtain ⟨h24, h⟩ := ifN h
                        refine b_op rfl (o_appE eStr (l := a17.2) (m := [x15 ++ ((([48, 49, 50, 51, 52, 53, 54, 55, 56, 57, 97, 98, 99, 100, 101, 102] : List UInt8).take (IntKind.wrap .i64 (a17.1 + 1)).toNat).drop (a17.1).toNat)]) rfl rfl ty28 ty28 ty9 rfl rfl rfl rfl rfl h24 (fun v23 => ?_))
                        refine mv rfl rfl ?_
                        refine b_nil (hK _ (AW.to (to_le (s' := ⟨[(0, HV.int .i64 p0), (7, HV.ar 9039 v23 eStr.k 0 ((a17.2 ++ [x15 ++ ((([48, 49, 50, 51, 52, 53, 54, 55, 56, 57, 97, 98, 99, 100, 101, 102] : List UInt8).take (IntKind.wrap .i64 (a17.1 + 1)).toNat).drop (a17.1).toNat)]).length)), (9, HV.str x15), (27, HV.int .i64 p1), (28, HV.int .i64 a5.2), (40, slE eStr a5.1), (41, HV.int .i64 ((a5.1).length : Int)), (42, HV.int .i64 a11.1), (46, HV.int .i64 p0), (47, HV.int .i64 a17.1)], [(9039, v23, .arr eStr.k 9 (eStr.E (a17.2 ++ [x15 ++ ((([48, 49, 50, 51, 52, 53, 54, 55, 56, 57, 97, 98, 99, 100, 101, 102] : List UInt8).take (IntKind.wrap .i64 (a17.1 + 1)).toNat).drop (a17.1).toNat)])))]⟩) (AS.le_of ⟨rfl, rfl, rfl, rfl, rfl, rfl, rfl, rfl, rfl, rfl, trivial⟩ ⟨rfl, trivial⟩) ?_)))
                        clear hK K
                        refine AW.rg rfl fun K hK => ?_
                        refine bv rfl (v_bin rfl rfl b_add) ?_
                        refine mv rfl rfl ?_
                        refine b_nil (hK _ ?_)
                        clear hK K
                        exact to_le (s' := ⟨[(0, HV.int .i64 p0), (7, HV.ar 9039 v23 eStr.k 0 ((a17.2 ++ [x15 ++ ((([48, 49, 50, 51, 52, 53, 54, 55, 56, 57, 97, 98, 99, 100, 101, 102] : List UInt8).take (IntKind.wrap .i64 (a17.1 + 1)).toNat).drop (a17.1).toNat)]).length)), (9, HV.str x15), (27, HV.int .i64 p1), (28, HV.int .i64 a5.2), (40, slE eStr a5.1), (41, HV.int .i64 ((a5.1).length : Int)), (42, HV.int .i64 a11.1), (46, HV.int .i64 p0), (47, HV.int .i64 (IntKind.wrap .i64 (a17.1 + 1)))], [(9039, v23, .arr eStr.k 9 (eStr.E (a17.2 ++ [x15 ++ ((([48, 49, 50, 51, 52, 53, 54, 55, 56, 57, 97, 98, 99, 100, 101, 102] : List UInt8).take (IntKind.wrap .i64 (a17.1 + 1)).toNat).drop (a17.1).toNat)])))]⟩) (AS.le_of ⟨rfl, rfl, rfl, rfl, rfl, rfl, rfl, rfl, rfl, rfl, trivial⟩ ⟨rfl, trivial⟩) ⟨(IntKind.wrap .i64 (a17.1 + 1), a17.2 ++ [x15 ++ ((([48, 49, 50, 51, 52, 53, 54, 55, 56, 57, 97, 98, 99, 100, 101, 102] : List UInt8).take (IntKind.wrap .i64 (a17.1 + 1)).toNat).drop (a17.1).toNat)]), v23, h, rfl⟩
                      · have hc := of_decide_eq_false hc
                        have h := ifF hc h
                        refine AW.exit ?_
                        exact to_le (s' := ⟨[(0, HV.int .i64 p0), (7, HV.ar 9039 w18 eStr.k 0 ((a17.2).length)), (27, HV.int .i64 p1), (28, HV.int .i64 a5.2), (40, slE eStr a5.1), (41, HV.int .i64 ((a5.1).length : Int)), (42, HV.int .i64 a11.1)], [(9039, w18, .arr eStr.k 9 (eStr.E a17.2))]⟩) (AS.le_of ⟨rfl, rfl, rfl, rfl, rfl, rfl, rfl, trivial⟩ ⟨rfl, trivial⟩) ⟨a17.2, w18, h, rfl⟩
                  · have hc := of_decide_eq_false hc
                    have h := ifF hc h
                    refine AW.exit ?_
                    exact to_le (s' := ⟨[(0, HV.int .i64 p0), (7, HV.ar 9039 w12 eStr.k 0 ((a11.2).length)), (27, HV.int .i64 p1), (28, HV.int .i64 a5.2)], [(9039, w12, .arr eStr.k 9 (eStr.E a11.2))]⟩) (AS.le_of ⟨rfl, rfl, rfl, rfl, trivial⟩ ⟨rfl, trivial⟩) ⟨a11.2, w12, h, rfl⟩
            · have hc := of_decide_eq_false hc
              have h := ifF hc h
              refine AW.exit ?_
              exact to_le (s' := ⟨[(6, slE eStr a5.1)], []⟩) (AS.le_of ⟨rfl, trivial⟩ trivial) ⟨a5.1, (), h, rfl⟩

set_option maxHeartbeats 1600000 in
set_option maxRecDepth 100000 in
theorem w_slices_Index_Lstring_string {p0 : List (List UInt8)} {p1 : List UInt8} {r : Int} (h : m_slices_Index_Lstring_string p0 p1 = some r) : Pure Try.prog 28 [slE eStr p0, HV.str p1] (· = HV.int .i64 r) := by
  unfold m_slices_Index_Lstring_string at h
  refine Pure.of_body Try.func28 rfl rfl (Nat.le_of_ble_eq_true rfl) fun hf => ?_
  unfold Try.f28
  dsimp only [enumS, Nat.reduceAdd]
  refine AW.rgs rfl fun K hK => ?_
  refine mv rfl rfl ?_
  refine b_nil (hK _ (AW.to (to_le (s' := ⟨[(0, slE eStr p0), (1, HV.str p1)], []⟩) (AS.le_of ⟨rfl, rfl, trivial⟩ trivial) ?_)))
  clear hK K
  refine AW.seq ?_
  refine AW.rgs rfl fun K hK => ?_
  refine mv rfl rfl ?_
  refine bv rfl (v_lenF rfl rfl ty28 rfl) ?_
  refine mv rfl rfl ?_
  refine b_nil (hK _ (AW.to (to_le (s' := ⟨[(0, slE eStr p0), (1, HV.str p1), (7, HV.int .i64 ((p0).length : Int)), (8, HV.int .i64 0)], []⟩) (AS.le_of ⟨rfl, rfl, rfl, rfl, trivial⟩ trivial) ?_)))
  clear hK K
  refine AW.lpR h (by first | exact up_then | exact up_to) (S := Int) (V := Unit) (fun a v => ⟨[(0, slE eStr p0), (1, HV.str p1), (7, HV.int .i64 ((p0).length : Int)), (8, HV.int .i64 a)], []⟩) ?_ (X := Unit) (W := Unit) (fun a v => ⟨[], []⟩) (fun a7 w8 h => ?_) (fun a1 w2 st3 h hr4=> ?_)
  · exact to_le (s' := ⟨[(0, slE eStr p0), (1, HV.str p1), (7, HV.int .i64 ((p0).length : Int)), (8, HV.int .i64 0)], []⟩) (AS.le_of ⟨rfl, rfl, rfl, rfl, trivial⟩ trivial) ⟨(), rfl⟩
  · refine AW.rgs rfl fun K hK => ?_
    refine mv rfl rfl ?_
    refine b_nil (hK _ (AW.to (to_le (s' := ⟨[(4, HV.int .i64 (-1))], []⟩) (AS.le_of ⟨rfl, trivial⟩ trivial) ?_)))
    clear hK K
    refine AW.ret ?_
    have h := Option.some.inj h
    subst h
    exact ret_pure (hs := [HV.int .i64 (-1)]) (q := HV.int .i64 (-1)) (.inr rfl) (resT rfl rfl) rfl trivial
  · refine AW.rgs rfl fun K hK => ?_
    refine bv rfl (v_bin rfl rfl b_lss) ?_
    refine b_nil (hK _ (AW.to (to_le (s' := ⟨[(0, slE eStr p0), (1, HV.str p1), (7, HV.int .i64 ((p0).length : Int)), (8, HV.int .i64 a1), (9, HV.bool (decide (a1 < ((p0).length : Int))))], []⟩) (AS.le_of ⟨rfl, rfl, rfl, rfl, rfl, trivial⟩ trivial) ?_)))
    clear hK K
    refine AW.cseq rfl (fun hc => ?_) (fun hc => ?_)
    · have hc := of_decide_eq_true hc
      have h := ifT hc h
      refine AW.skip ?_
      refine AW.seq (AW.block ?_)
      refine AW.rgs rfl fun K hK => ?_
      refine mv rfl rfl ?_
      refine mv rfl rfl ?_
      refine b_nil (hK _ (AW.to (to_le (s' := ⟨[(0, slE eStr p0), (1, HV.str p1), (5, HV.int .i64 a1), (7, HV.int .i64 ((p0).length : Int)), (8, HV.int .i64 a1)], []⟩) (AS.le_of ⟨rfl, rfl, rfl, rfl, rfl, trivial⟩ trivial) ?_)))
      clear hK K
      refine AW.rgs rfl fun K hK => ?_
      refine mv rfl rfl ?_
      refine mv rfl rfl ?_
      refine mv rfl rfl ?_
      obtain ⟨x5, h6, h⟩ := bS h
      refine bv rfl (v_idxF ty28 es28 rfl rfl (idx_lt h6)) ?_
      refine bv rfl (v_loadF ty9 rfl (l_cell eStr h6 (o := 0) rfl rfl)) ?_
      refine bv rfl (v_bin rfl rfl b_seql) ?_
      refine b_nil (hK _ (AW.to (to_le (s' := ⟨[(0, slE eStr p0), (1, HV.str p1), (5, HV.int .i64 a1), (7, HV.int .i64 ((p0).length : Int)), (8, HV.int .i64 a1), (16, HV.bool (decide (p1 = x5)))], []⟩) (AS.le_of ⟨rfl, rfl, rfl, rfl, rfl, rfl, trivial⟩ trivial) ?_)))
      clear hK K
      refine AW.cond rfl (fun hc => ?_) (fun hc => ?_)
      · have hc := of_decide_eq_true hc
        have h := ifT hc h
        refine AW.rgs rfl fun K hK => ?_
        refine mv rfl rfl ?_
        refine mv rfl rfl ?_
        refine b_nil (hK _ (AW.to (to_le (s' := ⟨[(4, HV.int .i64 a1)], []⟩) (AS.le_of ⟨rfl, trivial⟩ trivial) ?_)))
        clear hK K
        have h := hr4 _ h
        refine AW.ret ?_
        have h := Option.some.inj h
        subst h
        exact ret_pure (hs := [HV.int .i64 a1]) (q := HV.int .i64 a1) (.inr rfl) (resT rfl rfl) rfl trivial
      · have hc := of_decide_eq_false hc
        have h := ifF hc h
        refine AW.skip ?_
        refine AW.rg rfl fun K hK => ?_
        refine bv rfl (v_bin rfl rfl b_add) ?_
        refine mv rfl rfl ?_
        refine b_nil (hK _ ?_)
        clear hK K
        exact to_le (s' := ⟨[(0, slE eStr p0), (1, HV.str p1), (7, HV.int .i64 ((p0).length : Int)), (8, HV.int .i64 (IntKind.wrap .i64 (a1 + 1)))], []⟩) (AS.le_of ⟨rfl, rfl, rfl, rfl, trivial⟩ trivial) ⟨IntKind.wrap .i64 (a1 + 1), (), h, rfl⟩
    · have hc := of_decide_eq_false hc
      have h := ifF hc h
      refine AW.exit ?_
      exact to_le (s' := ⟨[], []⟩) (AS.le_of trivial trivial) ⟨(), (), h, rfl⟩

set_option maxHeartbeats 1600000 in
set_option maxRecDepth 100000 in
theorem w_slices_Contains_Lstring_string {p0 : List (List UInt8)} {p1 : List UInt8} {r : Bool} (h : m_slices_Contains_Lstring_string p0 p1 = some r) : Pure Try.prog 11 [slE eStr p0, HV.str p1] (· = HV.bool r) := by
  unfold m_slices_Contains_Lstring_string at h
  refine Pure.of_body Try.func11 rfl rfl (Nat.le_of_ble_eq_true rfl) fun hf => ?_
  unfold Try.f11
  dsimp only [enumS, Nat.reduceAdd]
  refine AW.rgs rfl fun K hK => ?_
  refine mv rfl rfl ?_
  refine b_nil (hK _ (AW.to (to_le (s' := ⟨[(0, slE eStr p0), (1, HV.str p1)], []⟩) (AS.le_of ⟨rfl, rfl, trivial⟩ trivial) ?_)))
  clear hK K
  refine AW.rgs rfl fun K hK => ?_
  refine mv rfl rfl ?_
  refine mv rfl rfl ?_
  obtain ⟨x1, h2, h⟩ := bS h
  refine b_op rfl (o_call rfl rfl rfl rfl (ACallD.pure0 (w_slices_Index_Lstring_string h2)) ?_)
  refine bv rfl (v_bin rfl rfl b_geq) ?_
  refine mv rfl rfl ?_
  refine b_nil (hK _ (AW.to (to_le (s' := ⟨[(4, HV.bool (decide (0 ≤ x1)))], []⟩) (AS.le_of ⟨rfl, trivial⟩ trivial) ?_)))
  clear hK K
  refine AW.ret ?_
  have h := Option.some.inj h
  subst h
  exact ret_pure (hs := [HV.bool (decide (0 ≤ x1))]) (q := HV.bool (decide (0 ≤ x1))) (.inr rfl) (resT rfl rfl) rfl trivial

end Go.AW

namespace Go.AW
open Go Go.Proofs
set_option linter.unusedVariables false
set_option maxHeartbeats 1600000 in
set_option maxRecDepth 100000 in
theorem w_law11_LanguageWords {p0 : TLabelsStatesEdges} {p1 : Int} {r : Bool} (h : m_law11_LanguageWords p0 p1 = some r) : Pure Try.prog 3 [HV.agg [HV.int .i64 p0.1, HV.int .i64 p0.2.1, slE eFromLabelTo p0.2.2], HV.int .u8 p1] (· = HV.bool r) := by
  unfold m_law11_LanguageWords at h
  refine Pure.of_body Try.func3 rfl rfl (Nat.le_of_ble_eq_true rfl) fun hf => ?_
  unfold Try.f3
  dsimp only [enumS, Nat.reduceAdd]
  refine AW.rgs rfl fun K hK => ?_
  refine b_op rfl (o_box rfl rfl rfl ?_)
  refine mv rfl rfl ?_
  refine b_nil (hK _ (AW.to (to_le (s' := ⟨[(1, HV.int .u8 p1), (2, HV.fptr [HV.int .i64 p0.1, HV.int .i64 p0.2.1, slE eFromLabelTo p0.2.2] 0)], []⟩) (AS.le_of ⟨rfl, rfl, trivial⟩ trivial) ?_)))
  clear hK K
  refine AW.rgs rfl fun K hK => ?_
  refine mv rfl rfl ?_
  refine bv rfl (v_convI ty5 ty3 rfl) ?_
  refine bv rfl (v_bin rfl rfl (b_rem (by decide))) ?_
  refine mv rfl rfl ?_
  refine b_nil (hK _ (AW.to (to_le (s' := ⟨[(2, HV.fptr [HV.int .i64 p0.1, HV.int .i64 p0.2.1, slE eFromLabelTo p0.2.2] 0), (5, HV.int .i64 (Int.tmod (IntKind.wrap .i64 p1) 8))], []⟩) (AS.le_of ⟨rfl, rfl, trivial⟩ trivial) ?_)))
  clear hK K
  refine AW.seq ?_
  refine AW.seqJ h (S := Bool) (V := Unit) (fun a v => ⟨[(2, HV.fptr [HV.int .i64 p0.1, HV.int .i64 p0.2.1, slE eFromLabelTo p0.2.2] 0), (5, HV.int .i64 (Int.tmod (IntKind.wrap .i64 p1) 8)), (27, HV.bool a)], []⟩) (fun a1 w2 h => ?_) (fun k3 h => ?_)
  · refine AW.cond rfl (fun hc => ?_) (fun hc => ?_)
    · have h := ifT hc h
      refine AW.rgs rfl fun K hK => ?_
      obtain ⟨x4, h5, h⟩ := bS h
      refine b_op rfl (o_call rfl rfl rfl rfl (ACallD.pure0 (w_law11_awake h5)) ?_)
      refine mv rfl rfl ?_
      refine b_nil (hK _ (AW.to (to_le (s' := ⟨[(4, HV.bool x4)], []⟩) (AS.le_of ⟨rfl, trivial⟩ trivial) ?_)))
      clear hK K
      refine AW.ret ?_
      have h := Option.some.inj h
      subst h
      exact ret_pure (hs := [HV.bool x4]) (q := HV.bool x4) (.inr rfl) (resT rfl rfl) rfl trivial
    · have h := ifF (bF' hc) h
      refine AW.skip ?_
      refine AW.rgs rfl fun K hK => ?_
      refine bv rfl (v_loadF ty24 rfl (l_litA rfl (Nat.le_of_ble_eq_true rfl) rfl)) ?_
      refine mv rfl rfl ?_
      obtain ⟨x6, h7, h⟩ := bS h
      refine b_op rfl (o_call rfl rfl rfl rfl (ACallD.pure0 (w_language_Words h7)) ?_)
      refine mv rfl rfl ?_
      refine bv rfl (v_extract rfl rfl) ?_
      refine bv rfl (v_extract rfl rfl) ?_
      refine mv rfl rfl ?_
      refine mv rfl rfl ?_
      refine b_nil (hK _ (AW.to (to_le (s' := ⟨[(2, HV.fptr [HV.int .i64 p0.1, HV.int .i64 p0.2.1, slE eFromLabelTo p0.2.2] 0), (5, HV.int .i64 (Int.tmod (IntKind.wrap .i64 p1) 8)), (6, slE eStr x6.1), (7, HV.int .i64 x6.2)], []⟩) (AS.le_of ⟨rfl, rfl, rfl, rfl, trivial⟩ trivial) ?_)))
      clear hK K
      refine AW.rgs rfl fun K hK => ?_
      refine bv rfl (v_fieldAddrF fo24_0 rfl) ?_
      refine bv rfl (v_loadF ty3 rfl (l_lit rfl rfl)) ?_
      refine mv rfl rfl ?_
      obtain ⟨x8, h9, h⟩ := bS h
      refine b_op rfl (o_call rfl rfl rfl rfl (ACallD.pure0 (w_word_All h9)) ?_)
      refine mv rfl rfl ?_
      refine bv rfl (v_extract rfl rfl) ?_
      refine bv rfl (v_extract rfl rfl) ?_
      refine mv rfl rfl ?_
      refine mv rfl rfl ?_
      refine b_nil (hK _ (AW.to (to_le (s' := ⟨[(2, HV.fptr [HV.int .i64 p0.1, HV.int .i64 p0.2.1, slE eFromLabelTo p0.2.2] 0), (5, HV.int .i64 (Int.tmod (IntKind.wrap .i64 p1) 8)), (6, slE eStr x6.1), (7, HV.int .i64 x6.2), (8, slE eStr x8.1), (9, HV.int .i64 x8.2)], []⟩) (AS.le_of ⟨rfl, rfl, rfl, rfl, rfl, rfl, trivial⟩ trivial) ?_)))
      clear hK K
      refine AW.seq ?_
      refine AW.seqJ h (S := Bool) (V := Unit) (fun a v => ⟨[(2, HV.fptr [HV.int .i64 p0.1, HV.int .i64 p0.2.1, slE eFromLabelTo p0.2.2] 0), (5, HV.int .i64 (Int.tmod (IntKind.wrap .i64 p1) 8)), (6, slE eStr x6.1), (8, slE eStr x8.1), (47, HV.bool a)], []⟩) (fun a10 w11 h => ?_) (fun k12 h => ?_)
      · refine AW.cond rfl (fun hc => ?_) (fun hc => ?_)
        · have h := ifT hc h
          refine AW.rgs rfl fun K hK => ?_
          refine mv rfl rfl ?_
          refine b_nil (hK _ (AW.to (to_le (s' := ⟨[(4, HV.bool false)], []⟩) (AS.le_of ⟨rfl, trivial⟩ trivial) ?_)))
          clear hK K
          refine AW.ret ?_
          have h := Option.some.inj h
          subst h
          exact ret_pure (hs := [HV.bool false]) (q := HV.bool false) (.inr rfl) (resT rfl rfl) rfl trivial
        · have h := ifF (bF' hc) h
          refine AW.skip ?_
          refine AW.rgs rfl fun K hK => ?_
          refine mv rfl rfl ?_
          refine b_nil (hK _ (AW.to (to_le (s' := ⟨[(2, HV.fptr [HV.int .i64 p0.1, HV.int .i64 p0.2.1, slE eFromLabelTo p0.2.2] 0), (5, HV.int .i64 (Int.tmod (IntKind.wrap .i64 p1) 8)), (6, slE eStr x6.1), (8, slE eStr x8.1), (10, HV.int .i64 0)], []⟩) (AS.le_of ⟨rfl, rfl, rfl, rfl, rfl, trivial⟩ trivial) ?_)))
          clear hK K
          refine AW.seq ?_
          refine AW.rgs rfl fun K hK => ?_
          refine mv rfl rfl ?_
          refine bv rfl (v_lenF rfl rfl ty28 rfl) ?_
          refine mv rfl rfl ?_
          refine b_nil (hK _ (AW.to (to_le (s' := ⟨[(2, HV.fptr [HV.int .i64 p0.1, HV.int .i64 p0.2.1, slE eFromLabelTo p0.2.2] 0), (5, HV.int .i64 (Int.tmod (IntKind.wrap .i64 p1) 8)), (6, slE eStr x6.1), (10, HV.int .i64 0), (48, slE eStr x8.1), (49, HV.int .i64 ((x8.1).length : Int)), (50, HV.int .i64 0)], []⟩) (AS.le_of ⟨rfl, rfl, rfl, rfl, rfl, rfl, rfl, trivial⟩ trivial) ?_)))
          clear hK K
          refine AW.lpR h (by first | exact up_then | exact up_to) (S := Int × Int) (V := Unit) (fun a v => ⟨[(2, HV.fptr [HV.int .i64 p0.1, HV.int .i64 p0.2.1, slE eFromLabelTo p0.2.2] 0), (5, HV.int .i64 (Int.tmod (IntKind.wrap .i64 p1) 8)), (6, slE eStr x6.1), (10, HV.int .i64 a.1), (48, slE eStr x8.1), (49, HV.int .i64 ((x8.1).length : Int)), (50, HV.int .i64 a.2)], []⟩) ?_ (X := Int) (W := Unit) (fun a v => ⟨[(6, slE eStr x6.1), (10, HV.int .i64 a)], []⟩) (fun a41 w42 h => ?_) (fun a13 w14 st15 h hr16=> ?_)
          · exact to_le (s' := ⟨[(2, HV.fptr [HV.int .i64 p0.1, HV.int .i64 p0.2.1, slE eFromLabelTo p0.2.2] 0), (5, HV.int .i64 (Int.tmod (IntKind.wrap .i64 p1) 8)), (6, slE eStr x6.1), (10, HV.int .i64 0), (48, slE eStr x8.1), (49, HV.int .i64 ((x8.1).length : Int)), (50, HV.int .i64 0)], []⟩) (AS.le_of ⟨rfl, rfl, rfl, rfl, rfl, rfl, rfl, trivial⟩ trivial) ⟨(), rfl⟩
          · refine AW.seqJ h (S := Bool) (V := Unit) (fun a v => ⟨[(4, HV.bool a)], []⟩) (fun a43 w44 h => ?_) (fun k45 h => ?_)
            · refine AW.ret ?_
              have h := Option.some.inj h
              subst h
              exact ret_pure (hs := [HV.bool a43]) (q := HV.bool a43) (.inr rfl) (resT rfl rfl) rfl trivial
            · refine AW.rg rfl fun K hK => ?_
              refine mv rfl rfl ?_
              refine mv rfl rfl ?_
              refine bv rfl (v_lenF rfl rfl ty28 rfl) ?_
              refine bv rfl (v_bin rfl rfl b_eql) ?_
              refine mv rfl rfl ?_
              by_cases hg48 : a41 = ((x6.1).length : Int)
              · have h := ifT hg48 h
                obtain ⟨x46, h47, h⟩ := bS h
                refine b_T rfl rfl rfl rfl (decide_eq_true hg48) (o_call rfl rfl rfl rfl (ACallD.pure0 (w_law11_awake h47)) ?_)
                refine bv rfl (v_pickT rfl rfl rfl) ?_
                refine mv rfl rfl ?_
                refine b_nil (hK _ ?_)
                clear hK K
                exact to_le (s' := ⟨[(4, HV.bool x46)], []⟩) (AS.le_of ⟨rfl, trivial⟩ trivial) ⟨x46, (), h, rfl⟩
              · have h := ifF hg48 h
                refine b_F rfl rfl rfl rfl rfl (decide_eq_false hg48) ?_
                refine bv rfl (v_pickF rfl rfl rfl) ?_
                refine mv rfl rfl ?_
                refine b_nil (hK _ ?_)
                clear hK K
                exact to_le (s' := ⟨[(4, HV.bool false)], []⟩) (AS.le_of ⟨rfl, trivial⟩ trivial) ⟨false, (), h, rfl⟩
          · refine AW.rgs rfl fun K hK => ?_
            refine bv rfl (v_bin rfl rfl b_lss) ?_
            refine b_nil (hK _ (AW.to (to_le (s' := ⟨[(2, HV.fptr [HV.int .i64 p0.1, HV.int .i64 p0.2.1, slE eFromLabelTo p0.2.2] 0), (5, HV.int .i64 (Int.tmod (IntKind.wrap .i64 p1) 8)), (6, slE eStr x6.1), (10, HV.int .i64 a13.1), (48, slE eStr x8.1), (49, HV.int .i64 ((x8.1).length : Int)), (50, HV.int .i64 a13.2), (51, HV.bool (decide (a13.2 < ((x8.1).length : Int))))], []⟩) (AS.le_of ⟨rfl, rfl, rfl, rfl, rfl, rfl, rfl, rfl, trivial⟩ trivial) ?_)))
            clear hK K
            refine AW.cseq rfl (fun hc => ?_) (fun hc => ?_)
            · have hc := of_decide_eq_true hc
              have h := ifT hc h
              refine AW.skip ?_
              refine AW.seqJ h (S := Int) (V := Unit) (fun a v => ⟨[(2, HV.fptr [HV.int .i64 p0.1, HV.int .i64 p0.2.1, slE eFromLabelTo p0.2.2] 0), (5, HV.int .i64 (Int.tmod (IntKind.wrap .i64 p1) 8)), (6, slE eStr x6.1), (10, HV.int .i64 a), (48, slE eStr x8.1), (49, HV.int .i64 ((x8.1).length : Int)), (50, HV.int .i64 a13.2)], []⟩) (fun a17 w18 h => ?_) (fun k19 h => ?_)
              · refine AW.rg rfl fun K hK => ?_
                refine bv rfl (v_bin rfl rfl b_add) ?_
                refine mv rfl rfl ?_
                refine b_nil (hK _ ?_)
                clear hK K
                exact to_le (s' := ⟨[(2, HV.fptr [HV.int .i64 p0.1, HV.int .i64 p0.2.1, slE eFromLabelTo p0.2.2] 0), (5, HV.int .i64 (Int.tmod (IntKind.wrap .i64 p1) 8)), (6, slE eStr x6.1), (10, HV.int .i64 a17), (48, slE eStr x8.1), (49, HV.int .i64 ((x8.1).length : Int)), (50, HV.int .i64 (IntKind.wrap .i64 (a13.2 + 1)))], []⟩) (AS.le_of ⟨rfl, rfl, rfl, rfl, rfl, rfl, rfl, trivial⟩ trivial) ⟨(a17, IntKind.wrap .i64 (a13.2 + 1)), (), h, rfl⟩
              · refine AW.block ?_
                refine AW.rgs rfl fun K hK => ?_
                obtain ⟨x20, h21, h⟩ := bS h
                refine bv rfl (v_idxF ty28 es28 rfl rfl (idx_lt h21)) ?_
                refine bv rfl (v_loadF ty9 rfl (l_cell eStr h21 (o := 0) rfl rfl)) ?_
                refine mv rfl rfl ?_
                refine b_nil (hK _ (AW.to (to_le (s' := ⟨[(2, HV.fptr [HV.int .i64 p0.1, HV.int .i64 p0.2.1, slE eFromLabelTo p0.2.2] 0), (5, HV.int .i64 (Int.tmod (IntKind.wrap .i64 p1) 8)), (6, slE eStr x6.1), (10, HV.int .i64 a13.1), (12, HV.str x20), (48, slE eStr x8.1), (49, HV.int .i64 ((x8.1).length : Int)), (50, HV.int .i64 a13.2)], []⟩) (AS.le_of ⟨rfl, rfl, rfl, rfl, rfl, rfl, rfl, rfl, trivial⟩ trivial) ?_)))
                clear hK K
                refine AW.rgs rfl fun K hK => ?_
                refine bv rfl (v_loadF ty24 rfl (l_litA rfl (Nat.le_of_ble_eq_true rfl) rfl)) ?_
                refine mv rfl rfl ?_
                obtain ⟨x22, h23, h⟩ := bS h
                refine b_op rfl (o_call rfl rfl rfl rfl (ACallD.pure0 (w_language_Accepts h23)) ?_)
                refine mv rfl rfl ?_
                refine bv rfl (v_extract rfl rfl) ?_
                refine bv rfl (v_extract rfl rfl) ?_
                refine mv rfl rfl ?_
                refine mv rfl rfl ?_
                refine b_nil (hK _ (AW.to (to_le (s' := ⟨[(2, HV.fptr [HV.int .i64 p0.1, HV.int .i64 p0.2.1, slE eFromLabelTo p0.2.2] 0), (5, HV.int .i64 (Int.tmod (IntKind.wrap .i64 p1) 8)), (6, slE eStr x6.1), (10, HV.int .i64 a13.1), (12, HV.str x20), (13, HV.bool x22.1), (14, HV.int .i64 x22.2), (48, slE eStr x8.1), (49, HV.int .i64 ((x8.1).length : Int)), (50, HV.int .i64 a13.2)], []⟩) (AS.le_of ⟨rfl, rfl, rfl, rfl, rfl, rfl, rfl, rfl, rfl, rfl, trivial⟩ trivial) ?_)))
                clear hK K
                refine AW.seq ?_
                refine AW.seqJ h (S := Bool) (V := Unit) (fun a v => ⟨[(2, HV.fptr [HV.int .i64 p0.1, HV.int .i64 p0.2.1, slE eFromLabelTo p0.2.2] 0), (5, HV.int .i64 (Int.tmod (IntKind.wrap .i64 p1) 8)), (6, slE eStr x6.1), (10, HV.int .i64 a13.1), (12, HV.str x20), (13, HV.bool x22.1), (48, slE eStr x8.1), (49, HV.int .i64 ((x8.1).length : Int)), (50, HV.int .i64 a13.2), (77, HV.bool a)], []⟩) (fun a24 w25 h => ?_) (fun k26 h => ?_)
                · refine AW.cond rfl (fun hc => ?_) (fun hc => ?_)
                  · have h := ifT hc h
                    refine AW.rgs rfl fun K hK => ?_
                    refine mv rfl rfl ?_
                    refine b_nil (hK _ (AW.to (to_le (s' := ⟨[(4, HV.bool false)], []⟩) (AS.le_of ⟨rfl, trivial⟩ trivial) ?_)))
                    clear hK K
                    have h := hr16 _ h
                    refine AW.ret ?_
                    have h := Option.some.inj h
                    subst h
                    exact ret_pure (hs := [HV.bool false]) (q := HV.bool false) (.inr rfl) (resT rfl rfl) rfl trivial
                  · have h := ifF (bF' hc) h
                    refine AW.skip ?_
                    refine AW.seq ?_
                    refine AW.rgs rfl fun K hK => ?_
                    refine mv rfl rfl ?_
                    refine bv rfl (v_not rfl) ?_
                    refine b_nil (hK _ (AW.to (to_le (s' := ⟨[(2, HV.fptr [HV.int .i64 p0.1, HV.int .i64 p0.2.1, slE eFromLabelTo p0.2.2] 0), (5, HV.int .i64 (Int.tmod (IntKind.wrap .i64 p1) 8)), (6, slE eStr x6.1), (10, HV.int .i64 a13.1), (12, HV.str x20), (48, slE eStr x8.1), (49, HV.int .i64 ((x8.1).length : Int)), (50, HV.int .i64 a13.2), (79, HV.bool (!x22.1))], []⟩) (AS.le_of ⟨rfl, rfl, rfl, rfl, rfl, rfl, rfl, rfl, rfl, trivial⟩ trivial) ?_)))
                    clear hK K
                    refine AW.cond rfl (fun hc => ?_) (fun hc => ?_)
                    · have h := ifT hc h
                      refine AW.exit ?_
                      exact to_le (s' := ⟨[(2, HV.fptr [HV.int .i64 p0.1, HV.int .i64 p0.2.1, slE eFromLabelTo p0.2.2] 0), (5, HV.int .i64 (Int.tmod (IntKind.wrap .i64 p1) 8)), (6, slE eStr x6.1), (10, HV.int .i64 a13.1), (48, slE eStr x8.1), (49, HV.int .i64 ((x8.1).length : Int)), (50, HV.int .i64 a13.2)], []⟩) (AS.le_of ⟨rfl, rfl, rfl, rfl, rfl, rfl, rfl, trivial⟩ trivial) ⟨a13.1, (), h, rfl⟩
                    · have h := ifF (bF' hc) h
                      refine AW.skip ?_
                      refine AW.rgs rfl fun K hK => ?_
                      refine mv rfl rfl ?_
                      refine bv rfl (v_bin rfl rfl b_add) ?_
                      refine mv rfl rfl ?_
                      refine b_nil (hK _ (AW.to (to_le (s' := ⟨[(2, HV.fptr [HV.int .i64 p0.1, HV.int .i64 p0.2.1, slE eFromLabelTo p0.2.2] 0), (5, HV.int .i64 (Int.tmod (IntKind.wrap .i64 p1) 8)), (6, slE eStr x6.1), (10, HV.int .i64 (IntKind.wrap .i64 (a13.1 + 1))), (12, HV.str x20), (48, slE eStr x8.1), (49, HV.int .i64 ((x8.1).length : Int)), (50, HV.int .i64 a13.2)], []⟩) (AS.le_of ⟨rfl, rfl, rfl, rfl, rfl, rfl, rfl, rfl, trivial⟩ trivial) ?_)))
                      clear hK K
                      refine AW.rgs rfl fun K hK => ?_
                      refine bv rfl (v_loadF ty24 rfl (l_litA rfl (Nat.le_of_ble_eq_true rfl) rfl)) ?_
                      refine mv rfl rfl ?_
                      refine bv rfl (v_bin rfl rfl b_sub) ?_
                      refine bv rfl (v_max rfl rfl rfl) ?_
                      obtain ⟨x27, h28, h⟩ := bS h
                      refine b_op rfl (o_call rfl rfl rfl rfl (ACallD.pure0 (w_language_Words h28)) ?_)
                      refine mv rfl rfl ?_
                      refine bv rfl (v_extract rfl rfl) ?_
                      refine bv rfl (v_extract rfl rfl) ?_
                      refine mv rfl rfl ?_
                      refine mv rfl rfl ?_
                      refine b_nil (hK _ (AW.to (to_le (s' := ⟨[(2, HV.fptr [HV.int .i64 p0.1, HV.int .i64 p0.2.1, slE eFromLabelTo p0.2.2] 0), (5, HV.int .i64 (Int.tmod (IntKind.wrap .i64 p1) 8)), (6, slE eStr x6.1), (10, HV.int .i64 (IntKind.wrap .i64 (a13.1 + 1))), (12, HV.str x20), (15, slE eStr x27.1), (16, HV.int .i64 x27.2), (48, slE eStr x8.1), (49, HV.int .i64 ((x8.1).length : Int)), (50, HV.int .i64 a13.2)], []⟩) (AS.le_of ⟨rfl, rfl, rfl, rfl, rfl, rfl, rfl, rfl, rfl, rfl, trivial⟩ trivial) ?_)))
                      clear hK K
                      refine AW.seqJ h (S := Bool) (V := Unit) (fun a v => ⟨[(2, HV.fptr [HV.int .i64 p0.1, HV.int .i64 p0.2.1, slE eFromLabelTo p0.2.2] 0), (5, HV.int .i64 (Int.tmod (IntKind.wrap .i64 p1) 8)), (6, slE eStr x6.1), (10, HV.int .i64 (IntKind.wrap .i64 (a13.1 + 1))), (48, slE eStr x8.1), (49, HV.int .i64 ((x8.1).length : Int)), (50, HV.int .i64 a13.2), (104, HV.bool a)], []⟩) (fun a29 w30 h => ?_) (fun k31 h => ?_)
                      · refine AW.cond rfl (fun hc => ?_) (fun hc => ?_)
                        · have h := ifT hc h
                          refine AW.rgs rfl fun K hK => ?_
                          refine mv rfl rfl ?_
                          refine b_nil (hK _ (AW.to (to_le (s' := ⟨[(4, HV.bool false)], []⟩) (AS.le_of ⟨rfl, trivial⟩ trivial) ?_)))
                          clear hK K
                          have h := hr16 _ h
                          refine AW.ret ?_
                          have h := Option.some.inj h
                          subst h
                          exact ret_pure (hs := [HV.bool false]) (q := HV.bool false) (.inr rfl) (resT rfl rfl) rfl trivial
                        · have h := ifF (bF' hc) h
                          refine AW.skip ?_
                          exact to_le (s' := ⟨[(2, HV.fptr [HV.int .i64 p0.1, HV.int .i64 p0.2.1, slE eFromLabelTo p0.2.2] 0), (5, HV.int .i64 (Int.tmod (IntKind.wrap .i64 p1) 8)), (6, slE eStr x6.1), (10, HV.int .i64 (IntKind.wrap .i64 (a13.1 + 1))), (48, slE eStr x8.1), (49, HV.int .i64 ((x8.1).length : Int)), (50, HV.int .i64 a13.2)], []⟩) (AS.le_of ⟨rfl, rfl, rfl, rfl, rfl, rfl, rfl, trivial⟩ trivial) ⟨IntKind.wrap .i64 (a13.1 + 1), (), h, rfl⟩
                      · refine AW.rg rfl fun K hK => ?_
                        refine mv rfl rfl ?_
                        refine bv rfl (v_bin rfl rfl b_gtr) ?_
                        refine mv rfl rfl ?_
                        by_cases hg36 : 0 < (Int.tmod (IntKind.wrap .i64 p1) 8)
                        · have h := ifT hg36 h
                          refine b_T rfl rfl rfl rfl (decide_eq_true hg36) (o_val rfl (mv_val rfl rfl).2 ?_)
                          refine b_T rfl rfl rfl rfl rfl (o_val rfl (v_bin rfl rfl b_neq) ?_)
                          refine b_T rfl rfl rfl rfl rfl (o_val rfl (mv_val rfl rfl).2 ?_)
                          by_cases hg35 : x27.2 ≠ 0
                          · have h := ifT hg35 h
                            refine b_F rfl rfl rfl rfl rfl (decide_eq_true hg35) ?_
                            refine b_F rfl rfl rfl rfl rfl rfl ?_
                            refine b_F rfl rfl rfl rfl rfl rfl ?_
                            refine b_F rfl rfl rfl rfl rfl rfl ?_
                            refine b_F rfl rfl rfl rfl rfl rfl ?_
                            refine b_F rfl rfl rfl rfl rfl rfl ?_
                            refine b_F rfl rfl rfl rfl rfl rfl ?_
                            refine b_T rfl rfl rfl rfl rfl (o_val rfl (v_pickT rfl rfl rfl) ?_)
                            refine bv rfl (v_pickT rfl rfl rfl) ?_
                            refine b_nil (hK _ ?_)
                            clear hK K
                            exact to_le (s' := ⟨[(2, HV.fptr [HV.int .i64 p0.1, HV.int .i64 p0.2.1, slE eFromLabelTo p0.2.2] 0), (5, HV.int .i64 (Int.tmod (IntKind.wrap .i64 p1) 8)), (6, slE eStr x6.1), (10, HV.int .i64 (IntKind.wrap .i64 (a13.1 + 1))), (48, slE eStr x8.1), (49, HV.int .i64 ((x8.1).length : Int)), (50, HV.int .i64 a13.2), (104, HV.bool true)], []⟩) (AS.le_of ⟨rfl, rfl, rfl, rfl, rfl, rfl, rfl, rfl, trivial⟩ trivial) ⟨true, (), h, rfl⟩
                          · have h := ifF hg35 h
                            refine b_T rfl rfl rfl rfl (decide_eq_false hg35) (o_val rfl (mv_val rfl rfl).2 ?_)
                            refine b_T rfl rfl rfl rfl rfl (o_val rfl (mv_val rfl rfl).2 ?_)
                            refine b_T rfl rfl rfl rfl rfl (o_val rfl (mv_val rfl rfl).2 ?_)
                            refine b_T rfl rfl rfl rfl rfl (o_val rfl (v_bin rfl rfl b_sub) ?_)
                            obtain ⟨h32, h⟩ := ifN h
                            refine b_T rfl rfl rfl rfl rfl (o_val rfl (v_sliceS ty9 rfl rfl rfl h32) ?_)
                            obtain ⟨x33, h34, h⟩ := bS h
                            refine b_T rfl rfl rfl rfl rfl (o_call rfl rfl rfl rfl (ACallD.pure0 (w_slices_Contains_Lstring_string h34)) ?_)
                            refine b_T rfl rfl rfl rfl rfl (o_val rfl (v_not rfl) ?_)
                            refine b_T rfl rfl rfl rfl rfl (o_val rfl (v_pickF rfl rfl rfl) ?_)
                            refine bv rfl (v_pickT rfl rfl rfl) ?_
                            refine b_nil (hK _ ?_)
                            clear hK K
                            exact to_le (s' := ⟨[(2, HV.fptr [HV.int .i64 p0.1, HV.int .i64 p0.2.1, slE eFromLabelTo p0.2.2] 0), (5, HV.int .i64 (Int.tmod (IntKind.wrap .i64 p1) 8)), (6, slE eStr x6.1), (10, HV.int .i64 (IntKind.wrap .i64 (a13.1 + 1))), (48, slE eStr x8.1), (49, HV.int .i64 ((x8.1).length : Int)), (50, HV.int .i64 a13.2), (104, HV.bool (!x33))], []⟩) (AS.le_of ⟨rfl, rfl, rfl, rfl, rfl, rfl, rfl, rfl, trivial⟩ trivial) ⟨!x33, (), h, rfl⟩
                        · have h := ifF hg36 h
                          refine b_F rfl rfl rfl rfl rfl (decide_eq_false hg36) ?_
                          refine b_F rfl rfl rfl rfl rfl rfl ?_
                          refine b_F rfl rfl rfl rfl rfl rfl ?_
                          refine b_U rfl rfl rfl rfl rfl ?_
                          refine b_U rfl rfl rfl rfl rfl ?_
                          refine b_U rfl rfl rfl rfl rfl ?_
                          refine b_U rfl rfl rfl rfl rfl ?_
                          refine b_U rfl rfl rfl rfl rfl ?_
                          refine b_U rfl rfl rfl rfl rfl ?_
                          refine b_U rfl rfl rfl rfl rfl ?_
                          refine b_F rfl rfl rfl rfl rfl rfl ?_
                          refine bv rfl (v_pickF rfl rfl rfl) ?_
                          refine b_nil (hK _ ?_)
                          clear hK K
                          exact to_le (s' := ⟨[(2, HV.fptr [HV.int .i64 p0.1, HV.int .i64 p0.2.1, slE eFromLabelTo p0.2.2] 0), (5, HV.int .i64 (Int.tmod (IntKind.wrap .i64 p1) 8)), (6, slE eStr x6.1), (10, HV.int .i64 (IntKind.wrap .i64 (a13.1 + 1))), (48, slE eStr x8.1), (49, HV.int .i64 ((x8.1).length : Int)), (50, HV.int .i64 a13.2), (104, HV.bool false)], []⟩) (AS.le_of ⟨rfl, rfl, rfl, rfl, rfl, rfl, rfl, rfl, trivial⟩ trivial) ⟨false, (), h, rfl⟩
                · refine AW.rg rfl fun K hK => ?_
                  refine mv rfl rfl ?_
                  refine bv rfl (v_bin rfl rfl b_neq) ?_
                  refine mv rfl rfl ?_
                  by_cases hg40 : x22.2 ≠ 0
                  · have h := ifT hg40 h
                    refine b_F rfl rfl rfl rfl rfl (decide_eq_true hg40) ?_
                    refine b_F rfl rfl rfl rfl rfl rfl ?_
                    refine b_F rfl rfl rfl rfl rfl rfl ?_
                    refine b_F rfl rfl rfl rfl rfl rfl ?_
                    refine b_F rfl rfl rfl rfl rfl rfl ?_
                    refine b_F rfl rfl rfl rfl rfl rfl ?_
                    refine b_U rfl rfl rfl rfl rfl ?_
                    refine b_U rfl rfl rfl rfl rfl ?_
                    refine b_U rfl rfl rfl rfl rfl ?_
                    refine b_U rfl rfl rfl rfl rfl ?_
                    refine b_U rfl rfl rfl rfl rfl ?_
                    refine b_U rfl rfl rfl rfl rfl ?_
                    refine b_F rfl rfl rfl rfl rfl rfl ?_
                    refine b_F rfl rfl rfl rfl rfl rfl ?_
                    refine bv rfl (v_pickT rfl rfl rfl) ?_
                    refine b_nil (hK _ ?_)
                    clear hK K
                    exact to_le (s' := ⟨[(2, HV.fptr [HV.int .i64 p0.1, HV.int .i64 p0.2.1, slE eFromLabelTo p0.2.2] 0), (5, HV.int .i64 (Int.tmod (IntKind.wrap .i64 p1) 8)), (6, slE eStr x6.1), (10, HV.int .i64 a13.1), (12, HV.str x20), (13, HV.bool x22.1), (48, slE eStr x8.1), (49, HV.int .i64 ((x8.1).length : Int)), (50, HV.int .i64 a13.2), (77, HV.bool true)], []⟩) (AS.le_of ⟨rfl, rfl, rfl, rfl, rfl, rfl, rfl, rfl, rfl, rfl, trivial⟩ trivial) ⟨true, (), h, rfl⟩
                  · have h := ifF hg40 h
                    refine b_T rfl rfl rfl rfl (decide_eq_false hg40) (o_val rfl (mv_val rfl rfl).2 ?_)
                    refine b_T rfl rfl rfl rfl rfl (o_val rfl (mv_val rfl rfl).2 ?_)
                    refine b_T rfl rfl rfl rfl rfl (o_val rfl (mv_val rfl rfl).2 ?_)
                    refine b_T rfl rfl rfl rfl rfl (o_val rfl (v_lenF rfl rfl ty28 rfl) ?_)
                    refine b_T rfl rfl rfl rfl rfl (o_val rfl (v_bin rfl rfl b_lss) ?_)
                    refine b_T rfl rfl rfl rfl rfl (o_val rfl (mv_val rfl rfl).2 ?_)
                    by_cases hg39 : a13.1 < ((x6.1).length : Int)
                    · have h := ifT hg39 h
                      refine b_T rfl rfl rfl rfl (decide_eq_true hg39) (o_val rfl (mv_val rfl rfl).2 ?_)
                      refine b_T rfl rfl rfl rfl rfl (o_val rfl (mv_val rfl rfl).2 ?_)
                      obtain ⟨x37, h38, h⟩ := bS h
                      refine b_T rfl rfl rfl rfl rfl (o_val rfl (v_idxF ty28 es28 rfl rfl (idx_lt h38)) ?_)
                      refine b_T rfl rfl rfl rfl rfl (o_val rfl (v_loadF ty9 rfl (l_cell eStr h38 (o := 0) rfl rfl)) ?_)
                      refine b_T rfl rfl rfl rfl rfl (o_val rfl (mv_val rfl rfl).2 ?_)
                      refine b_T rfl rfl rfl rfl rfl (o_val rfl (v_bin rfl rfl b_seql) ?_)
                      refine b_T rfl rfl rfl rfl rfl (o_val rfl (v_pickT rfl rfl rfl) ?_)
                      refine b_T rfl rfl rfl rfl rfl (o_val rfl (v_bin rfl rfl (b_neB ty4)) ?_)
                      refine bv rfl (v_pickF rfl rfl rfl) ?_
                      refine b_nil (hK _ ?_)
                      clear hK K
                      exact to_le (s' := ⟨[(2, HV.fptr [HV.int .i64 p0.1, HV.int .i64 p0.2.1, slE eFromLabelTo p0.2.2] 0), (5, HV.int .i64 (Int.tmod (IntKind.wrap .i64 p1) 8)), (6, slE eStr x6.1), (10, HV.int .i64 a13.1), (12, HV.str x20), (13, HV.bool x22.1), (48, slE eStr x8.1), (49, HV.int .i64 ((x8.1).length : Int)), (50, HV.int .i64 a13.2), (77, HV.bool (!(x22.1 == (decide (x37 = x20)))))], []⟩) (AS.le_of ⟨rfl, rfl, rfl, rfl, rfl, rfl, rfl, rfl, rfl, rfl, trivial⟩ trivial) ⟨!(x22.1 == (decide (x37 = x20))), (), h, rfl⟩
                    · have h := ifF hg39 h
                      refine b_F rfl rfl rfl rfl rfl (decide_eq_false hg39) ?_
                      refine b_F rfl rfl rfl rfl rfl rfl ?_
                      refine b_F rfl rfl rfl rfl rfl rfl ?_
                      refine b_F rfl rfl rfl rfl rfl rfl ?_
                      refine b_F rfl rfl rfl rfl rfl rfl ?_
                      refine b_F rfl rfl rfl rfl rfl rfl ?_
                      refine b_T rfl rfl rfl rfl rfl (o_val rfl (v_pickF rfl rfl rfl) ?_)
                      refine b_T rfl rfl rfl rfl rfl (o_val rfl (v_bin rfl rfl (b_neB ty4)) ?_)
                      refine bv rfl (v_pickF rfl rfl rfl) ?_
                      refine b_nil (hK _ ?_)
                      clear hK K
                      exact to_le (s' := ⟨[(2, HV.fptr [HV.int .i64 p0.1, HV.int .i64 p0.2.1, slE eFromLabelTo p0.2.2] 0), (5, HV.int .i64 (Int.tmod (IntKind.wrap .i64 p1) 8)), (6, slE eStr x6.1), (10, HV.int .i64 a13.1), (12, HV.str x20), (13, HV.bool x22.1), (48, slE eStr x8.1), (49, HV.int .i64 ((x8.1).length : Int)), (50, HV.int .i64 a13.2), (77, HV.bool (!(x22.1 == false)))], []⟩) (AS.le_of ⟨rfl, rfl, rfl, rfl, rfl, rfl, rfl, rfl, rfl, rfl, trivial⟩ trivial) ⟨!(x22.1 == false), (), h, rfl⟩
            · have hc := of_decide_eq_false hc
              have h := ifF hc h
              refine AW.exit ?_
              exact to_le (s' := ⟨[(6, slE eStr x6.1), (10, HV.int .i64 a13.1)], []⟩) (AS.le_of ⟨rfl, rfl, trivial⟩ trivial) ⟨a13.1, (), h, rfl⟩
      · refine AW.rg rfl fun K hK => ?_
        refine mv rfl rfl ?_
        refine bv rfl (v_bin rfl rfl b_neq) ?_
        refine mv rfl rfl ?_
        by_cases hg49 : x6.2 ≠ 0
        · have h := ifT hg49 h
          refine b_F rfl rfl rfl rfl rfl (decide_eq_true hg49) ?_
          refine b_F rfl rfl rfl rfl rfl rfl ?_
          refine bv rfl (v_pickT rfl rfl rfl) ?_
          refine b_nil (hK _ ?_)
          clear hK K
          exact to_le (s' := ⟨[(2, HV.fptr [HV.int .i64 p0.1, HV.int .i64 p0.2.1, slE eFromLabelTo p0.2.2] 0), (5, HV.int .i64 (Int.tmod (IntKind.wrap .i64 p1) 8)), (6, slE eStr x6.1), (8, slE eStr x8.1), (47, HV.bool true)], []⟩) (AS.le_of ⟨rfl, rfl, rfl, rfl, rfl, trivial⟩ trivial) ⟨true, (), h, rfl⟩
        · have h := ifF hg49 h
          refine b_T rfl rfl rfl rfl (decide_eq_false hg49) (o_val rfl (mv_val rfl rfl).2 ?_)
          refine b_T rfl rfl rfl rfl rfl (o_val rfl (v_bin rfl rfl b_neq) ?_)
          refine bv rfl (v_pickF rfl rfl rfl) ?_
          refine b_nil (hK _ ?_)
          clear hK K
          exact to_le (s' := ⟨[(2, HV.fptr [HV.int .i64 p0.1, HV.int .i64 p0.2.1, slE eFromLabelTo p0.2.2] 0), (5, HV.int .i64 (Int.tmod (IntKind.wrap .i64 p1) 8)), (6, slE eStr x6.1), (8, slE eStr x8.1), (47, HV.bool (decide (x8.2 ≠ 0)))], []⟩) (AS.le_of ⟨rfl, rfl, rfl, rfl, rfl, trivial⟩ trivial) ⟨decide (x8.2 ≠ 0), (), h, rfl⟩
  · refine AW.rg rfl fun K hK => ?_
    refine bv rfl (v_loadF ty24 rfl (l_litA rfl (Nat.le_of_ble_eq_true rfl) rfl)) ?_
    obtain ⟨x50, h51, h⟩ := bS h
    refine b_op rfl (o_call rfl rfl rfl rfl (ACallD.pure0 (w_law11_fine h51)) ?_)
    refine bv rfl (v_not rfl) ?_
    refine mv rfl rfl ?_
    by_cases hg54 : (!x50) = true
    · have h := ifT hg54 h
      refine b_F rfl rfl rfl rfl rfl hg54 ?_
      refine b_F rfl rfl rfl rfl rfl rfl ?_
      refine b_F rfl rfl rfl rfl rfl rfl ?_
      refine bv rfl (v_pickT rfl rfl rfl) ?_
      refine b_nil (hK _ ?_)
      clear hK K
      exact to_le (s' := ⟨[(2, HV.fptr [HV.int .i64 p0.1, HV.int .i64 p0.2.1, slE eFromLabelTo p0.2.2] 0), (5, HV.int .i64 (Int.tmod (IntKind.wrap .i64 p1) 8)), (27, HV.bool true)], []⟩) (AS.le_of ⟨rfl, rfl, rfl, trivial⟩ trivial) ⟨true, (), h, rfl⟩
    · have h := ifF hg54 h
      refine b_T rfl rfl rfl rfl (bF hg54) (o_val rfl (v_loadF ty24 rfl (l_litA rfl (Nat.le_of_ble_eq_true rfl) rfl)) ?_)
      refine b_T rfl rfl rfl rfl rfl (o_val rfl (mv_val rfl rfl).2 ?_)
      obtain ⟨x52, h53, h⟩ := bS h
      refine b_T rfl rfl rfl rfl rfl (o_call rfl rfl rfl rfl (ACallD.pure0 (w_ref11_Many h53)) ?_)
      refine bv rfl (v_pickF rfl rfl rfl) ?_
      refine b_nil (hK _ ?_)
      clear hK K
      exact to_le (s' := ⟨[(2, HV.fptr [HV.int .i64 p0.1, HV.int .i64 p0.2.1, slE eFromLabelTo p0.2.2] 0), (5, HV.int .i64 (Int.tmod (IntKind.wrap .i64 p1) 8)), (27, HV.bool x52)], []⟩) (AS.le_of ⟨rfl, rfl, rfl, trivial⟩ trivial) ⟨x52, (), h, rfl⟩

end Go.AW



namespace Go.AW
open Go Go.ChangeShapes Go.WideShapes Go.ChangeAt Go.RowKit

/-- of what was there nothing turns -/
def Kept (W W' : World) : Prop := W'.os = W.os ∧ W'.output = W.output ∧ W.heap.size ≤ W'.heap.size ∧ ∀ b : Nat, b < W.heap.size → W'.heap[b]? = W.heap[b]?

theorem Kept.frame {W W' : World} (h : Kept W W') (may : MemPlace → Prop) : W.keptBut W' may := by
  refine ⟨h.1, h.2.1, fun i hi => ?_⟩
  rw [h.2.2.2 i hi]
  cases W.heap[i]? with
  | none => rfl
  | some o => cases o with
    | cells c t fr => exact ⟨rfl, rfl, rfl, fun _ _ => rfl⟩
    | map es clock => exact .inr ⟨rfl, rfl⟩
    | _ => rfl

theorem Kept.frozen {W W' : World} (h : Kept W W') (a : Addr) (ha : a.block < W.heap.size) : W'.frozen? a = W.frozen? a := by
  simp only [World.frozen?, h.2.2.2 _ ha]

def Mu.zero : Mu := { nx := 0, loc := fun _ => none, held := fun _ => False }

theorem SR.zero (W : World) : SR W Mu.zero [] :=
  ⟨(fun _ _ _ h => by cases h), (fun _ _ _ h => by cases h), (fun _ _ h => by cases h), (fun _ _ _ _ _ h => by cases h), (fun _ h => h.elim)⟩

theorem calls_of_pure {P : Program} {f : FuncId} {args : List HV} {vs : List Value} {W : World} (hp : Pure P f args (· = .bool true)) (hr : RepL W Mu.zero args vs) :
    Calls P f vs.toArray W fun e W' => e = .returned (.bool true) ∧ Kept W W' := by
  refine (hp.2 Mu.zero W vs (SR.zero W) hr).mono ?_
  rintro e W' ⟨v, r, H', μ', rfl, ⟨rfl, _, _⟩, hs, hv, E⟩
  have hv' : v = .bool true := hv
  subst hv'
  exact ⟨rfl, E.os, E.output, E.size, fun b hb => E.keep b hb fun ⟨_, _, hl⟩ => by cases hl⟩

theorem post_of_kept {H : Type} {enc : TypeId × Value → H} {P : Program} {f : Func} {s : ChangeSpec} {apart fresh handsOn again : Bool} {W W' : World} {args : Array Value} {v : Value} {ds gs : List (DataW H)} {before pa pv : List MemPlace}
    (hW : DataW.Whole enc P f.params.toList s.vars apart W args.toList ds gs before)
    (hres : ∀ (b : Nat) (sp : Nat → Bool) (hd : Bool), DataW.TrodAll enc P W' b sp hd f.resultTypes.toList (v.resultList f.resultTypes.size) (s.fn H (ds ++ gs)).results [])
    (hargs : ∀ sp : Nat → Bool, (∀ p ∈ before, sp p.block = true) → DataW.TrodAll enc P W' 0 sp true f.params.toList args.toList (s.fn H (ds ++ gs)).args pa)
    (hvars : ∀ sp : Nat → Bool, (∀ p ∈ before, sp p.block = true) → DataW.TrodVars enc P W' sp s.vars (s.fn H (ds ++ gs)).vars pv)
    (hps : before = pa ++ pv) (hk : Kept W W')
    (hok : ∀ (j : Nat) (t : TypeId) (r : Value), f.resultTypes[j]? = some t → (v.resultList f.resultTypes.size)[j]? = some r → Value.okWide P W' .any 0 t r) :
    s.post enc P f apart fresh handsOn again W args v W' := by
  have hold : ∀ p ∈ before, (fun b => decide (b < W.heap.size)) p.block = true := fun p hp => by simpa using hW.lt p hp
  refine ⟨ds, gs, before, [], pa, pv, hW, hres _ _ _, hargs _ hold, hvars _ hold, World.keptBut_mono (fun p hp => ⟨hp, ?_⟩) (hk.frame (· ∈ before)), fun _ => ?_⟩
  · rw [hps, List.mem_append] at hp
    exact Or.inr hp
  · have hlt := hW.lt
    obtain ⟨_, _, _, _, _, hz, hn⟩ := hW
    refine ⟨hok, _, _, ([] ++ pa) ++ pv, ⟨[] ++ pa, pv, trodAll_append (hargs _ (fun _ _ => rfl)) (hres _ _ _), hvars _ (fun _ _ => rfl), rfl, ?_, ?_⟩, ?_⟩
    · intro b off hp
      have hp' : MemPlace.cell b off ∈ before := by rw [hps]; simpa using hp
      rw [hk.frozen _ (hlt _ hp')]
      exact hz b off hp'
    · intro ha
      have := hn ha
      rw [hps] at this
      simpa using this
    · intro p hp _
      rw [hps]
      simpa using hp
end Go.AW

/- Arguments: from what is read of them to what the layer says of them; and the law's end for any arguments. -/
namespace Go.AW
open Go Go.ChangeShapes Go.WideShapes Go.ChangeAt Go.RowKit

theorem rowAt_le {p : Program} {fits : TypeId → Bool} {d : Nat} {e : TypeId} {count off n : Nat} (h : rowAt p fits d e count off n = true) : off ≤ count * p.cellsOf e := by
  cases d with
  | zero => simp [rowAt] at h
  | succ d =>
    unfold rowAt at h
    simp only at h
    split at h
    · cases h
    · rename_i hs
      have hs' : 0 < p.cellsOf e := Nat.pos_of_ne_zero hs
      have hd := Nat.div_add_mod off (p.cellsOf e)
      rw [Nat.mul_comm] at hd
      simp only [Bool.or_eq_true, Bool.and_eq_true, beq_iff_eq, decide_eq_true_eq] at h
      rcases h with ⟨⟨h0, h1⟩, _⟩ | ⟨h1, _⟩
      · rw [← hd, h0, Nat.add_zero]
        exact Nat.mul_le_mul_right _ (by omega)
      · have hm := Nat.mod_lt off hs'
        have : (off / p.cellsOf e + 1) * p.cellsOf e ≤ count * p.cellsOf e := Nat.mul_le_mul_right _ h1
        rw [Nat.add_mul] at this
        omega

theorem liesAt_le {p : Program} {d : Nat} {e u : TypeId} {count off n : Nat} (h : liesAt p d e count off u n = true) : off ≤ count * p.cellsOf e := by
  induction d generalizing u n with
  | zero => simp [liesAt] at h
  | succ d ih =>
    unfold liesAt at h
    rw [Bool.or_eq_true] at h
    rcases h with h | h
    · exact rowAt_le h
    · split at h
      · exact ih h
      · cases h

/-- where an argument's slice lies -/
theorem has_seg {P : Program} {W : World} {r : Reach} {base : Nat} {a : Addr} {e : TypeId} {cap : Nat} (h : W.has P r base a e cap) {vs : List Value} (hc : ∀ i (hi : i < vs.length), W.cell? (a.add i) = some vs[i]) :
    ∃ b off, a = ⟨b, off, none⟩ ∧ Seg W b off vs := by
  obtain ⟨_, hsp, row, cells, hsh, hl⟩ := h
  obtain ⟨b, off, spot⟩ := a
  dsimp only at hsp hsh hl
  subst hsp
  refine ⟨b, off, rfl, ?_⟩
  unfold World.shape? at hsh
  split at hsh
  · rename_i cur e' fr hb
    simp only [Option.some.injEq, Prod.mk.injEq] at hsh
    obtain ⟨rfl, rfl⟩ := hsh
    have hoff : off ≤ cur.size := Nat.le_trans (liesAt_le hl) (Nat.div_mul_le_self _ _)
    have hget : ∀ i (hi : i < vs.length), cur.toList[off + i]? = some vs[i] := fun i hi => by
      have := hc i hi
      rw [add_plain] at this
      unfold World.cell? at this
      rw [hb] at this
      simpa using this
    refine ⟨cur, e', fr, cur.toList.take off, cur.toList.drop (off + vs.length), hb, ?_, by simp [hoff]⟩
    have hvs : vs = (cur.toList.drop off).take vs.length := by
      apply List.ext_getElem?
      intro i
      rcases Nat.lt_or_ge i vs.length with hi | hi
      · rw [List.getElem?_take_of_lt hi, List.getElem?_drop, hget i hi, List.getElem?_eq_getElem hi]
      · rw [List.getElem?_eq_none hi, List.getElem?_eq_none (by simp; omega)]
    have : vs ++ cur.toList.drop (off + vs.length) = cur.toList.drop off := by
      conv => lhs; arg 1; rw [hvs]
      rw [← List.drop_drop]
      exact List.take_append_drop _ _
    rw [List.append_assoc, this, List.take_append_drop]
  · cases hsh

theorem nown (b : Nat) : ¬ Mu.zero.owns b := fun h => h.elim (fun ⟨_, _, h⟩ => by cases h) id

/-- a number -/
theorem open_num {H : Type} {enc : TypeId × Value → H} {P : Program} {W : World} {base : Nat} {t : TypeId} {k : IntKind} {v : Value} {d : DataW H} {ps : List MemPlace} (ht : P.underlying t = some (.int k))
    (hval : Value.okWide P W .any base t v) (h : DataW.Trod enc P W 0 (fun _ => true) true t v d ps) : ∃ n : Int, (Lit.int k n).wf = true ∧ Rep W Mu.zero (.int k n) v := by
  obtain ⟨n, rfl, _, _, hw⟩ := open_int ht hval h
  exact ⟨n, hw, rfl, hw⟩

/-- a byte -/
theorem open_u8 {H : Type} {enc : TypeId × Value → H} {P : Program} {W : World} {base : Nat} {t : TypeId} {v : Value} {d : DataW H} {ps : List MemPlace} (ht : P.underlying t = some (.int .u8))
    (hval : Value.okWide P W .any base t v) (h : DataW.Trod enc P W 0 (fun _ => true) true t v d ps) : ∃ b : UInt8, Rep W Mu.zero (.int .u8 (b.toNat : Int)) v := by
  obtain ⟨n, hw, hr⟩ := open_num ht hval h
  have hw' : (0 : Int) ≤ n ∧ n ≤ 255 := by
    simp only [Lit.wf, Bool.and_eq_true, decide_eq_true_eq] at hw
    exact hw
  refine ⟨UInt8.ofNat n.toNat, ?_⟩
  have : ((UInt8.ofNat n.toNat).toNat : Int) = n := by
    rw [UInt8.toNat_ofNat']
    omega
  rw [this]
  exact hr

/-- the arguments read again -/
theorem trodAll_stays {H : Type} {enc : TypeId × Value → H} {P : Program} (hl : laidOutB P = true) {W W' : World} {sp : Nat → Bool} : ∀ {ts : List TypeId} {vs : List Value} {ds : List (DataW H)} {ps : List MemPlace},
    (ts.all fun t => P.readableRec t && decide (t < P.types.size)) = true → DataW.TrodAll enc P W 0 (fun _ => true) true ts vs ds ps → (∀ p ∈ ps, W.sameAt W' p) → (∀ p ∈ ps, sp p.block = true) → DataW.TrodAll enc P W' 0 sp true ts vs ds ps
  | [], vs, ds, ps, _, h, _, _ => by
    obtain ⟨rfl, rfl, rfl⟩ := trodAll_nil h
    exact trodAll_mk0
  | t :: ts, vs, ds, ps, ht, h, h1, h2 => by
    obtain ⟨v, vs', d, ds', p, q, rfl, rfl, rfl, h3, h4⟩ := trodAll_cons h
    simp only [List.all_cons, Bool.and_eq_true, decide_eq_true_eq] at ht
    exact trodAll_cons_mk (WideElems.Trod_stays hl ht.1.1 ht.1.2 h3 (fun x hx => h1 x (List.mem_append_left _ hx)) (fun x hx => h2 x (List.mem_append_left _ hx)))
      (trodAll_stays hl ht.2 h4 (fun x hx => h1 x (List.mem_append_right _ hx)) (fun x hx => h2 x (List.mem_append_right _ hx)))

theorem Kept.same {W W' : World} (h : Kept W W') (p : MemPlace) (hp : p.block < W.heap.size) : W.sameAt W' p := by
  cases p with
  | cell b off =>
    show W'.cell? ⟨b, off, none⟩ = W.cell? ⟨b, off, none⟩
    unfold World.cell?
    rw [h.2.2.2 b hp]
  | map b => exact h.2.2.2 b hp

/-- A LAW'S END: true, and the arguments read as they did. -/
theorem post_of_true {H : Type} {enc : TypeId × Value → H} {P : Program} {f : Func} {s : ChangeSpec} {apart fresh handsOn again : Bool} {W W' : World} {args : Array Value} {ds gs : List (DataW H)} {before : List MemPlace} {t : TypeId}
    (hl : laidOutB P = true) (hps : (f.params.toList.all fun t => P.readableRec t && decide (t < P.types.size)) = true) (hres : f.resultTypes = #[t]) (ht : P.underlying t = some .bool) (hv : s.vars = [])
    (hW : DataW.Whole enc P f.params.toList s.vars apart W args.toList ds gs before) (hk : Kept W W')
    (h1 : (s.fn H (ds ++ gs)).results = [.lit (.bool true)]) (h2 : (s.fn H (ds ++ gs)).args = ds) (h3 : (s.fn H (ds ++ gs)).vars = []) :
    s.post enc P f apart fresh handsOn again W args (.bool true) W' := by
  have hlt := hW.lt
  have hW' := hW
  obtain ⟨p, q, hA, hV, rfl, _, _⟩ := hW
  rw [hv] at hV
  obtain ⟨rfl, rfl⟩ := trodVars_none hV
  refine post_of_kept (pa := p) (pv := []) hW' (fun _ _ _ => ?_) (fun sp hsp => ?_) (fun _ _ => ?_) (by simp) hk (ok_one hres rfl (okWide_bool_mk ht _))
  · rw [hres, h1]
    exact trodAll_cons_mk (shut_bool ht _) trodAll_mk0
  · rw [h2]
    exact trodAll_stays hl hps hA (fun x hx => hk.same x (hlt x (by simpa using hx))) (fun x hx => hsp x (by simpa using hx))
  · rw [h3, hv]
    rfl
end Go.AW

/- Arguments that are graphs: what is read of them, and what the layer says of them. -/
namespace Go.AW
open Go Go.ChangeShapes Go.WideShapes Go.ChangeAt Go.RowKit

section
variable {H : Type} {enc : TypeId × Value → H} {P : Program} {W : World} {base : Nat}

theorem repL_app {μ : Mu} : ∀ {hs ks : List HV} {vs us : List Value}, RepL W μ hs vs → RepL W μ ks us → RepL W μ (hs ++ ks) (vs ++ us)
  | [], _, _, _, h, h' => by cases h; exact h'
  | _ :: _, _, _, _, ⟨x, xs, rfl, h1, h2⟩, h' => ⟨x, _, rfl, h1, repL_app h2 h'⟩

theorem add_adds (a : Addr) (i j : Nat) : (a.add i).add j = a.add (i + j) := by
  unfold Addr.add
  repeat' split
  all_goals simp_all [Nat.add_assoc]

theorem open_rows {α : Type} (c : EncL α) {fuel : Nat} {t e : TypeId} {cs : List Value} {x : DataW H × List MemPlace} (ht : P.underlying t = some (.slice e)) (hk : P.cellsOf e = c.k) (hone : ∀ x, ones (c.C x))
    (hel : ∀ n cs y, DataW.trod enc P W 0 (fun _ => true) true n e cs = some y → ∃ x : α, RepL W Mu.zero (c.C x) cs)
    (hhas : ∀ a len cap, cs = [.slice (some a) len cap] → W.has P .any base a e cap) (h : DataW.trod enc P W 0 (fun _ => true) true fuel t cs = some x) : ∃ l : List α, RepL W Mu.zero [slE c l] cs := by
  rcases DataW.trod_slice ht h with ⟨rfl, _⟩ | ⟨a, len, cap, elems, rest, n, _, rfl, _, _, hl, hm, hlen, hel', _, _⟩
  · refine ⟨[], _, _, rfl, ?_, rfl⟩
    show _ ∧ _
    exact ⟨(by rw [c.nil]; exact fun _ h => nomatch h), (by rw [c.nil]; simp), Nat.zero_le _, .inl ⟨rfl, rfl⟩⟩
  · have each : ∀ i, i < len → ∃ cs' x, W.cells? 0 (a.add (i * c.k)) c.k = some cs' ∧ RepL W Mu.zero (c.C x) cs' := fun i hi => by
      have h1 := hel' i hi
      rw [List.getElem?_eq_getElem (by omega), Option.bind_eq_some_iff, hk] at h1
      obtain ⟨cs', h2, h3⟩ := h1
      obtain ⟨x, hx⟩ := hel _ _ _ h3
      exact ⟨cs', x, h2, hx⟩
    have build : ∀ m, m ≤ len → ∃ (l : List α) (vs : List Value), l.length = m ∧ vs.length = m * c.k ∧ RepL W Mu.zero (c.E l) vs ∧ ∀ i (hi : i < vs.length), W.cell? (a.add i) = some vs[i] := by
      intro m
      induction m with
      | zero => exact fun _ => ⟨[], [], rfl, by simp, by rw [c.nil]; rfl, fun i hi => by simp at hi⟩
      | succ m ih =>
        intro hm
        obtain ⟨l, vs, h1, h2, h3, h4⟩ := ih (by omega)
        obtain ⟨cs', x, h5, h6⟩ := each m (by omega)
        obtain ⟨_, h7, h8⟩ := World.cells?_some h5
        refine ⟨l ++ [x], vs ++ cs', by simp [h1], by rw [List.length_append, h2, h7, Nat.succ_mul], by rw [c.append, c.one]; exact repL_app h3 h6, fun i hi => ?_⟩
        rcases Nat.lt_or_ge i vs.length with hi' | hi'
        · rw [List.getElem_append_left hi']; exact h4 i hi'
        · rw [List.getElem_append_right hi']
          rw [List.length_append] at hi
          have := h8 (i - vs.length) (by omega)
          rw [add_adds, h2, show m * c.k + (i - m * c.k) = i by omega] at this
          rw [this, List.getElem?_eq_getElem (by omega)]
          simp only [h2]
    obtain ⟨l, vs, h1, h2, h3, h4⟩ := build len (Nat.le_refl _)
    obtain ⟨b, off, rfl, hseg⟩ := has_seg (hhas _ _ _ rfl) h4
    refine ⟨l, _, _, rfl, ?_, rfl⟩
    show _ ∧ _
    refine ⟨fun d hd => ?_, c.len l, by omega, .inr ⟨b, off, cap, vs, by rw [h1], by omega, nown b, hseg, h3⟩⟩
    rw [c.hE] at hd
    obtain ⟨x, _, hdx⟩ := List.mem_flatMap.1 hd
    exact hone x d hdx

theorem open3 {t : TypeId} {f0 f1 f2 : Field} {fuel : Nat} {cs : List Value} {x : DataW H × List MemPlace} (ht : P.underlying t = some (.struct #[f0, f1, f2])) (o0 : f0.offset = 0) (o1 : f1.offset = 1) (o2 : f2.offset = 2) (c : P.cellsOf t = 3)
    (c0 : P.cellsOf f0.type = 1) (c1 : P.cellsOf f1.type = 1) (c2 : P.cellsOf f2.type = 1) (h : DataW.trod enc P W 0 (fun _ => true) true fuel t cs = some x) :
    ∃ v0 v1 v2 y0 y1 y2 n, cs = [v0, v1, v2] ∧ DataW.trod enc P W 0 (fun _ => true) true n f0.type [v0] = some y0 ∧ DataW.trod enc P W 0 (fun _ => true) true n f1.type [v1] = some y1 ∧ DataW.trod enc P W 0 (fun _ => true) true n f2.type [v2] = some y2 := by
  obtain ⟨xs, n, _, rfl, hl, hlen, hf⟩ := DataW.trod_struct ht h
  rw [c] at hl
  match cs, hl with
  | [v0, v1, v2], _ =>
    match xs, hlen with
    | [y0, y1, y2], _ =>
      refine ⟨v0, v1, v2, y0, y1, y2, n, rfl, ?_, ?_, ?_⟩
      · have := hf 0 f0 rfl; rw [o0, c0] at this; exact this
      · have := hf 1 f1 rfl; rw [o1, c1] at this; exact this
      · have := hf 2 f2 rfl; rw [o2, c2] at this; exact this

theorem rep_i64 {n : Int} {ti : TypeId} {m : Nat} {v : Value} {y : DataW H × List MemPlace} (hti : P.underlying ti = some (.int .i64)) (h : DataW.trod enc P W 0 (fun _ => true) true m ti [v] = some y) : ∃ n : Int, Rep W Mu.zero (.int .i64 n) v := by
  obtain ⟨n, hv, _, hw⟩ := DataW.trod_int hti h
  cases hv
  exact ⟨n, rfl, hw⟩

/-- a graph -/
theorem open_graph {t ti ts te : TypeId} {f0 f1 f2 e0 e1 e2 : Field} {v : Value} {d : DataW H} {ps : List MemPlace} (ht : P.underlying t = some (.struct #[f0, f1, f2])) (o : f0.offset = 0 ∧ f1.offset = 1 ∧ f2.offset = 2) (y : f0.type = ti ∧ f1.type = ti ∧ f2.type = ts)
    (c : P.cellsOf t = 3) (ci : P.cellsOf ti = 1) (cs : P.cellsOf ts = 1) (ct : P.cellTypes P.depth t = some [ti, ti, ts]) (hti : P.underlying ti = some (.int .i64)) (hts : P.underlying ts = some (.slice te))
    (hte : P.underlying te = some (.struct #[e0, e1, e2])) (oe : e0.offset = 0 ∧ e1.offset = 1 ∧ e2.offset = 2) (ye : e0.type = ti ∧ e1.type = ti ∧ e2.type = ti) (ce : P.cellsOf te = 3)
    (hval : Value.okWide P W .any base t v) (h : DataW.Trod enc P W 0 (fun _ => true) true t v d ps) : ∃ g : TLabelsStatesEdges, Rep W Mu.zero (.agg [.int .i64 g.1, .int .i64 g.2.1, slE eFromLabelTo g.2.2]) v := by
  obtain ⟨y0, y1, y2⟩ := y
  obtain ⟨z0, z1, z2⟩ := ye
  simp only [Value.okWide, ht] at hval
  obtain ⟨arr, rfl, _, hrow⟩ := hval
  obtain ⟨fuel, hf⟩ := h
  obtain ⟨v0, v1, v2, a0, a1, a2, n, hcs, h0, h1, h2⟩ := open3 ht o.1 o.2.1 o.2.2 c (by rw [y0]; exact ci) (by rw [y1]; exact ci) (by rw [y2]; exact cs) hf
  have harr : arr = #[v0, v1, v2] := by
    have : arr.toList = [v0, v1, v2] := hcs
    cases arr
    simp_all
  subst harr
  rw [y0] at h0
  rw [y1] at h1
  rw [y2] at h2
  obtain ⟨l, r0⟩ := rep_i64 (n := 0) hti h0
  obtain ⟨s, r1⟩ := rep_i64 (n := 0) hti h1
  obtain ⟨es, _, _, r2, r2', r2''⟩ := open_rows (base := base) eFromLabelTo hts ce (fun x d hd => by
      have hd : d ∈ [HV.int .i64 x.1, HV.int .i64 x.2.1, HV.int .i64 x.2.2] := hd
      simp only [List.mem_cons, List.not_mem_nil, or_false] at hd
      rcases hd with rfl | rfl | rfl <;> rfl) (fun m cs' y hy => by
      obtain ⟨w0, w1, w2, b0, b1, b2, n', rfl, k0, k1, k2⟩ := open3 hte oe.1 oe.2.1 oe.2.2 ce (by rw [z0]; exact ci) (by rw [z1]; exact ci) (by rw [z2]; exact ci) hy
      rw [z0] at k0
      rw [z1] at k1
      rw [z2] at k2
      obtain ⟨p0, q0⟩ := rep_i64 (n := 0) hti k0
      obtain ⟨p1, q1⟩ := rep_i64 (n := 0) hti k1
      obtain ⟨p2, q2⟩ := rep_i64 (n := 0) hti k2
      exact ⟨(p0, p1, p2), _, _, rfl, q0, _, _, rfl, q1, _, _, rfl, q2, rfl⟩) (fun a len cap e => by
      cases e
      obtain ⟨tys, ht1, _, hcell⟩ := hrow
      rw [ct] at ht1
      cases ht1
      obtain ⟨u, hu, hok⟩ := hcell 2 (.slice (some a) len cap) rfl
      cases hu
      simp only [Cell.okWide, hts, Cell.ok] at hok
      exact hok.2.2) h2
  cases r2
  refine ⟨(l, s, es), ?_⟩
  show _ ∧ _
  refine ⟨fun d hd => ?_, _, rfl, _, _, rfl, r0, _, _, rfl, r1, _, _, rfl, r2', rfl⟩
  simp only [List.mem_cons, List.not_mem_nil, or_false] at hd
  rcases hd with rfl | rfl | rfl <;> rfl
end
end Go.AW

namespace Go.Proofs.Ytpdednminpkobaa
open Go Go.AW Go.ChangeShapes Go.WideShapes Go.ChangeAt Go.RowKit Go.ChangeMaps
set_option linter.unusedVariables false

theorem ownM : ownKnob Try.prog.godebug = none := by kernel_rfl
theorem laidB : laidOutB Try.prog = true := by kernel_rfl

theorem wLaw (a0 : TLabelsStatesEdges) (a1 : UInt8) : Pure Try.prog 3 [HV.agg [HV.int .i64 a0.1, HV.int .i64 a0.2.1, slE eFromLabelTo a0.2.2], .int .u8 a1.toNat] (· = .bool true) := w_law11_LanguageWords (law_words a0 a1.toNat (by omega) (by have := a1.toNat_lt; omega))

set_option maxRecDepth 100000 in
theorem liftedL (os : Os) (started : os.Started) (H : Type) (enc : TypeId × Value → H) :
    ReturnsInHanded {} Try.checked os 3 .any (Rows.languageWordsSpec.pre6 enc Try.prog Try.f3 Rows.languageWordsRow.domain false) (Rows.languageWordsSpec.post enc Try.prog Try.f3 false true false false) := by
  refine returnsInHanded_of_change (C := Try.checked) ownM started (by kernel_rfl) Try.func3
    (ChangeSpec.witness6 (enc := enc) (C := Try.checked) false ⟨#[], #[.agg #[.int .i64 0, .int .i64 0, .slice none 0 0], .int .u8 0], []⟩ 8 (by kernel_rfl) (by kernel_rfl) (by kernel_rfl) (by kernel_rfl)) ?_
  intro W base args ds gs before hval0 hW hcnd _
  have hval : ∀ (j : Nat) t v, Try.f3.params[j]? = some t → args[j]? = some v → Value.okWide Try.prog W .any base t v := hval0
  have hW' := hW
  obtain ⟨p, q, hA0, hV, rfl, hfz, hnd⟩ := hW
  have hA : DataW.TrodAll enc Try.prog W 0 (fun _ => true) true Try.f3.params.toList args.toList ds p := hA0
  rw [Try.params3] at hA hval
  obtain ⟨v0, vs0, d0, ds0, p0, q0, hargs, rfl, rfl, h0, r0⟩ := trodAll_cons hA
  obtain ⟨v1, vs1, d1, ds1, p1, q1, rfl, rfl, rfl, h1, r1⟩ := trodAll_cons r0
  obtain ⟨rfl, rfl, rfl⟩ := trodAll_nil r1
  obtain rfl : args = #[v0, v1] := by cases args; simp_all
  obtain ⟨rfl, rfl⟩ := trodVars_none hV
  obtain ⟨a0, hr0⟩ := open_graph Try.underlying24 ⟨rfl, rfl, rfl⟩ ⟨rfl, rfl, rfl⟩ (by kernel_rfl) (by kernel_rfl) (by kernel_rfl) (by kernel_rfl) Try.underlying3 Try.underlying22 Try.underlying64 ⟨rfl, rfl, rfl⟩ ⟨rfl, rfl, rfl⟩ (by kernel_rfl) (hval 0 24 v0 rfl rfl) h0
  obtain ⟨a1, hr1⟩ := open_u8 Try.underlying5 (hval 1 5 v1 rfl rfl) h1
  refine (calls_of_pure (vs := [v0, v1]) (wLaw a0 a1) ⟨_, _, rfl, hr0, _, _, rfl, hr1, rfl⟩).mono fun e W' ⟨he, hk⟩ => ?_
  subst he
  exact ⟨_, rfl, post_of_true laidB (by kernel_rfl) rfl Try.underlying4 rfl hW' hk rfl rfl rfl⟩

theorem languageWordsProved : Rows.LanguageWordsSaid :=
  OpenClaim.holds_of_wide 3 Try.f3 rfl rfl rfl rfl rfl rfl rfl ⟨rfl, rfl, rfl, rfl, rfl⟩ rfl rfl rfl rfl rfl (by kernel_rfl) Try.func3 (by kernel_rfl)
    (of_decide_eq_true (by kernel_rfl)) (by unfold Func.isWrapper; first | (rw [if_pos (by decide +kernel)]; kernel_rfl) | (rw [if_neg (by decide +kernel)]; exact ⟨rfl, rfl⟩))
    (fun os started H enc _ => liftedL os started H enc)
#print axioms languageWordsProved
end Go.Proofs.Ytpdednminpkobaa
