/- The evaluation of closed code: regions, control, calls; that what it gives is so; a function's contract from its evaluation. -/
import Derived.Test.YtccnafddjjamoaaAwV
namespace Go.AW
open Go

def sops (r : Task → Option Out) (T : Tabs) (all : List Oper) : List Oper → AS → Nat → Option (AS × Nat)
  | [], s, n => some (s, n)
  | o :: rest, s, n => match o.guard with
    | none => match sop r T o s n with
      | some (s1, n1) => sops r T all rest s1 n1
      | none => none
    | some (j, want) => match all[j]? with
      | some oj => match oj.dst with
        | some d => match sget s.slots d with
          | some (.bool b) => match (b == want) with
            | true => match sop r T o (s.put (some d) (.bool want)) n with
              | some (s1, n1) => sops r T all rest s1 n1
              | none => none
            | false => sops r T all rest ((s.put (some d) (.bool !want)).put o.dst (.v undef)) n
          | _ => none
        | none => none
      | none => none

/-- what a value stands for, if nobody writes the arrays behind it any more -/
def sfrz : Nat → Heap → HV → Option HV
  | 0, _, h => some h
  | n + 1, D, h => match h with
    | .agg cs => match cs.mapM (sfrz n D) with
      | some cs => some (.agg cs)
      | none => none
    | .tup cs => match cs.mapM (sfrz n D) with
      | some cs => some (.tup cs)
      | none => none
    | .fn f fs cs => match fs.mapM (sfrz n D), cs.mapM (sfrz n D) with
      | some fs, some cs => some (.fn f fs cs)
      | _, _ => none
    | .ar id ver k off m => match hget D id with
      | some (ver', .arr _ _ cs) => guardO (Nat.beq ver ver' && Nat.ble (off + m * k) cs.length) (match ((cs.drop off).take (m * k)).mapM (sfrz n D) with
        | some cs => some (.sl k m cs)
        | none => none)
      | _ => none
    | .ptr id ver off => match hget D id with
      | some (ver', .arr _ _ cs) => guardO (Nat.beq ver ver') (match cs.mapM (sfrz n D) with
        | some cs => some (.fptr cs off)
        | none => none)
      | _ => none
    | h => some h

theorem sfrz_sound (n : Nat) (D : Heap) (ρ : Nat → Nat) : ∀ h h', sfrz n D h = some h' → frz n (renH ρ D) (h.ren ρ) = h'.ren ρ := by
  induction n with
  | zero => intro h h' e; cases e; rfl
  | succ n ih =>
    have ihL : ∀ (cs ds : List HV), cs.mapM (sfrz n D) = some ds → (renL ρ cs).map (frz n (renH ρ D)) = renL ρ ds := by
      intro cs
      induction cs with
      | nil => intro ds e; simp at e; subst e; rfl
      | cons c cs ihc =>
        intro ds e
        simp only [List.mapM_cons, Option.pure_def, Option.bind_eq_bind, Option.bind_eq_some_iff] at e
        obtain ⟨d, hd, es, he, e⟩ := e
        cases e
        simp only [renL, List.map_cons, ih _ _ hd, ihc _ he]
    intro h h' e
    unfold sfrz at e
    split at e
    · split at e
      · rename_i hc; cases e; simp only [HV.ren, frz, ihL _ _ hc]
      · cases e
    · split at e
      · rename_i hc; cases e; simp only [HV.ren, frz, ihL _ _ hc]
      · cases e
    · split at e
      · rename_i hf hc; cases e; simp only [HV.ren, frz, ihL _ _ hf, ihL _ _ hc]
      · cases e
    · split at e
      · rename_i id ver k off m _ ver' k' e' cs hg
        replace e := guardO_some e
        obtain ⟨h1, e⟩ := e
        simp only [Bool.and_eq_true] at h1
        have hv := Nat.eq_of_beq_eq_true h1.1
        subst hv
        split at e
        · rename_i ds hc
          cases e
          simp only [HV.ren, frz, hget_ren, hg, Option.map_some, AObj.ren]
          rw [if_pos ⟨trivial, by rw [renL_len]; exact Nat.le_of_ble_eq_true h1.2⟩, ← renL_drop, ← renL_take, ihL _ _ hc]
        · cases e
      · cases e
    · split at e
      · rename_i id ver off _ ver' k' e' cs hg
        replace e := guardO_some e
        obtain ⟨h1, e⟩ := e
        have hv := Nat.eq_of_beq_eq_true h1
        subst hv
        split at e
        · rename_i ds hc
          cases e
          simp only [HV.ren, frz, hget_ren, hg, Option.map_some, AObj.ren, if_true]
          rw [ihL _ _ hc]
        · cases e
      · cases e
    · cases e
      cases h <;> first | rfl | (exfalso; rename_i h1 h2 h3 h4 h5; first | exact h1 _ rfl | exact h2 _ rfl | exact h3 _ _ _ rfl | exact h4 _ _ _ _ _ rfl | exact h5 _ _ _ rfl)

theorem ACall.conv {P : Program} {f : FuncId} {args : List HV} {H : Heap} {K K' : HV → Heap → Prop} (h : ACall P f args H K) (hc : ∀ r H', K r H' → ∃ r2 H2, Conv H' r r2 H2 ∧ K' r2 H2) : ACall P f args H K' :=
  ⟨h.1, fun μ w vs hs hr => (h.2 μ w vs hs hr).mono fun _ w' ⟨v, r, H', μ', e, k, hs', hr', E⟩ => by
    obtain ⟨r2, H2, hconv, hk⟩ := hc r H' k
    obtain ⟨μ2, hs2, hr2, E2⟩ := hconv w' μ' v hs' hr'
    exact ⟨v, r2, H2, μ2, e, hk, hs2, hr2, E.trans E2⟩⟩

def sopS (r : Task → Option Out) (T : Tabs) (o : Oper) (s : AS) : Option HV :=
  match o.op with
  | .box _ x => match s.ev x with
    | some hv => match hv.cells? with
      | some cs => some (.fptr cs 0)
      | none => none
    | none => none
  | .buildSlice t m ps => guardO (Nat.ble m 16777216) (match sslice T.ty s t m ps.toList with
    | some (k, _, cs) => some (.sl k m cs)
    | none => none)
  | .call ⟨.value f, as, _⟩ => match s.ev f, as.toList.mapM s.ev with
    | some (.fn (.func g) fs cs), some hs => (match (fs ++ hs ++ cs).mapM (sfrz 8 s.heap) with
      | some as' => guardO (scL 0 as') (match r (.call g as' [] 0) with
        | some (.call rv H _) => guardO (scL 0 (fs ++ hs ++ cs) || (nf rv && nfH H)) (match sfrz 8 H rv with
          | some q => guardO (q.sc 0) (some q)
          | none => none)
        | _ => none)
      | none => none)
    | _, _ => none
  | op => sval T.ty op s

def ssteps (r : Task → Option Out) (T : Tabs) (all : List Oper) : List Oper → AS → Nat → Option AS
  | [], s, _ => some s
  | o :: rest, s, n => match o.guard with
    | none => match sopS r T o s with
      | some h => guardO (h.sc n) (ssteps r T all rest (s.put o.dst h) n)
      | none => none
    | some (j, want) => match all[j]? with
      | some oj => match oj.dst with
        | some d => match sget s.slots d with
          | some (.bool b) => match (b == want) with
            | true => match sopS r T o (s.put (some d) (.bool want)) with
              | some h => guardO (h.sc n) (ssteps r T all rest ((s.put (some d) (.bool want)).put o.dst h) n)
              | none => none
            | false => ssteps r T all rest ((s.put (some d) (.bool !want)).put o.dst (.v undef)) n
          | _ => none
        | none => none
      | none => none

def steadyKind (o : Oper) : Bool := match o.op with
  | .alloc _ | .store _ _ _ | .makeSlice _ _ _ | .makeMap _ _ | .mapUpdate _ _ _ _ | .lookup _ _ _ _ | .range _ _ | .next _ _ | .entry _ | .build _ _ => false
  | .call ⟨.builtin .append, _, _⟩ => false
  | _ => true
def callKind (o : Oper) : Bool := match o.op with
  | .call ⟨.value _, _, _⟩ | .box _ _ | .buildSlice _ _ _ => true
  | _ => false

/-- how many operations at the head change nothing -/
def greedy (r : Task → Option Out) (T : Tabs) (all : List Oper) : List Oper → AS → Nat → Nat
  | [], _, p => p
  | o :: rest, s, p => bif steadyKind o then (match o.guard with
    | none => match sopS r T o s with
      | some h => greedy r T all rest (s.put o.dst h) (p + 1)
      | none => p
    | some (j, want) => match all[j]? with
      | some oj => match oj.dst with
        | some d => match sget s.slots d with
          | some (.bool b) => match (b == want) with
            | true => match sopS r T o s with
              | some h => greedy r T all rest (s.put o.dst h) (p + 1)
              | none => p
            | false => greedy r T all rest (s.put o.dst (.v undef)) (p + 1)
          | _ => p
        | none => p
      | none => p) else p

def plain : List Oper → Nat → Nat
  | [], p => p
  | o :: rest, p => bif (steadyKind o && !callKind o) then plain rest (p + 1) else p

def sdrawP (r : Task → Option Out) (T : Tabs) (ops : Array Oper) (s : AS) (n p : Nat) : Option (AS × Nat) :=
  guardO (drawOk ops p) (match ssteps r T ops.toList (ops.toList.take p) s n with
    | some s1 => sops r T ops.toList (ops.toList.drop p) s1 n
    | none => none)

def sdraw (r : Task → Option Out) (T : Tabs) (ops : Array Oper) (s : AS) (n : Nat) : Option (AS × Nat) :=
  match sdrawP r T ops s n (greedy r T ops.toList ops.toList s 0) with
  | some x => some x
  | none => sdrawP r T ops s n (plain ops.toList 0)

def sres1 (T : TypeId → Option TyI) (s : AS) (rv : ResultVar) : Option HV :=
  match rv with
  | .tmp t => sget s.slots t
  | .cell t ty' => match T ty', sget s.slots t with
    | some U, some (.fptr cs off) => sload U cs off
    | some U, some (.ptr id ver off) => match hget s.heap id with
      | some (ver', .arr _ _ cs) => guardO (Nat.beq ver ver') (sload U cs off)
      | _ => none
    | _, _ => none

def sres (T : TypeId → Option TyI) (s : AS) : List ResultVar → Option (List HV)
  | [] => some []
  | rv :: rvs => match sres1 T s rv, sres T s rvs with
    | some h, some hs => some (h :: hs)
    | _, _ => none

/-! dropping what nothing leads to -/
mutual
def HV.refs (n : Nat) : HV → List Nat → List Nat
  | .agg cs, a | .tup cs, a | .sl _ _ cs, a | .fptr cs _, a => refsL n cs a
  | .ar id _ _ _ _, a | .ptr id _ _, a | .mp id _, a | .yl id _, a | .it id _, a => bif Nat.blt id n then a else id :: a
  | .fn _ fs cs, a => refsL n fs (refsL n cs a)
  | _, a => a
def refsL (n : Nat) : List HV → List Nat → List Nat
  | [], a => a
  | c :: cs, a => c.refs n (refsL n cs a)
end
def refsS (n : Nat) : List (Nat × HV) → List Nat → List Nat
  | [], a => a
  | (_, h) :: l, a => h.refs n (refsS n l a)
def refsE (n : Nat) : List (List UInt8 × HV) → List Nat → List Nat
  | [], a => a
  | (_, h) :: l, a => h.refs n (refsE n l a)
def AObj.refs (n : Nat) : AObj → List Nat → List Nat
  | .arr _ _ cs, a => refsL n cs a
  | .map es, a => refsE n es a
  | .iter mid _ _ _, a => bif Nat.blt mid n then a else mid :: a
  | .loop _ _ _ _ snap _ _ _, a => refsS n snap a
def oldRefs (n : Nat) : Heap → List Nat → List Nat
  | [], a => a
  | (i, _, o) :: l, a => bif Nat.blt i n then o.refs n (oldRefs n l a) else oldRefs n l a
def memN (i : Nat) : List Nat → Bool
  | [] => false
  | j :: l => bif Nat.beq i j then true else memN i l
def mark (n : Nat) (H : Heap) : Nat → List Nat → List Nat → List Nat
  | 0, _, m => m
  | _ + 1, [], m => m
  | f + 1, i :: w, m => bif memN i m then mark n H f w m else match hget H i with
    | some (_, o) => mark n H f (o.refs n w) (i :: m)
    | none => mark n H f w m
def hkeep (n : Nat) (m : List Nat) : Heap → Heap
  | [] => []
  | (i, x) :: l => bif (Nat.blt i n || memN i m) then (i, x) :: hkeep n m l else hkeep n m l
def anyNew (n : Nat) : Heap → Bool
  | [] => false
  | (i, _) :: l => bif Nat.blt i n then anyNew n l else true
def gc (n : Nat) (rv : HV) (H : Heap) : Heap := bif anyNew n H then hkeep n (mark n H 200 (rv.refs n (oldRefs n H [])) []) H else H

theorem hkeep_get (n : Nat) (m : List Nat) : ∀ (H : Heap) (id : Nat) (x : Nat × AObj), hget (hkeep n m H) id = some x → hget H id = some x
  | [], _, _, h => h
  | (i, v, o) :: l, id, x, h => by
    simp only [hkeep] at h
    simp only [hget]
    cases hb : (Nat.blt i n || memN i m) with
    | true =>
      rw [hb] at h
      simp only [cond_true, hget] at h
      split
      · rename_i e; rw [if_pos e] at h; exact h
      · rename_i e; rw [if_neg e] at h; exact hkeep_get n m l id x h
    | false =>
      rw [hb] at h
      simp only [cond_false] at h
      split
      · rename_i e
        subst e
        exfalso
        have : ∀ l : Heap, hget (hkeep n m l) id = none := fun l => by
          induction l with
          | nil => rfl
          | cons y l ih =>
            obtain ⟨j, y⟩ := y
            simp only [hkeep]
            cases hb2 : (Nat.blt j n || memN j m) with
            | true =>
              simp only [cond_true, hget]
              split
              · rename_i e; subst e; rw [hb] at hb2; cases hb2
              · exact ih
            | false => exact ih
        rw [this] at h
        cases h
      · exact hkeep_get n m l id x h

theorem gc_get {n : Nat} {rv : HV} {H : Heap} {id : Nat} {x : Nat × AObj} (h : hget (gc n rv H) id = some x) : hget H id = some x := by
  unfold gc at h
  cases hb : anyNew n H with
  | true => rw [hb] at h; exact hkeep_get _ _ _ _ _ h
  | false => rw [hb] at h; exact h

theorem hkeep_sc {k n : Nat} {m : List Nat} : ∀ {H : Heap}, scH k H = true → scH k (hkeep n m H) = true
  | [], _ => rfl
  | (i, v, o) :: l, h => by
    simp only [scH, Bool.and_eq_true] at h
    simp only [hkeep]
    cases (Nat.blt i n || memN i m) with
    | true => simp only [cond_true, scH, h.1.1.1, h.1.1.2, h.1.2, hkeep_sc h.2, Bool.and_self]
    | false => exact hkeep_sc h.2
theorem gc_sc {k n : Nat} {rv : HV} {H : Heap} (h : scH k H = true) : scH k (gc n rv H) = true := by
  unfold gc
  cases anyNew n H with
  | true => exact hkeep_sc h
  | false => exact h

theorem Step.drop {n n' : Nat} {H H1 H2 : Heap} (h : Step n n' H H1) (hd : ∀ id x, hget H2 id = some x → hget H1 id = some x) : Step n n' H H2 :=
  ⟨h.le, fun id v st pend f m snap ps a b hg x hx => h.loop id v st pend f m snap ps a b hg x (hd id x hx), fun id hid y hy => h.back id hid y (hd id y hy)⟩

mutual
theorem HV.ren_id : ∀ h : HV, h.ren (fun v => v) = h
  | .int _ _ => rfl
  | .bool _ => rfl
  | .str _ => rfl
  | .v _ => rfl
  | .agg cs => congrArg HV.agg (renL_id cs)
  | .tup cs => congrArg HV.tup (renL_id cs)
  | .sl k m cs => congrArg (HV.sl k m) (renL_id cs)
  | .ar _ _ _ _ _ => rfl
  | .ptr _ _ _ => rfl
  | .fptr cs off => congrArg (fun x => HV.fptr x off) (renL_id cs)
  | .fn f fs cs => by simp only [HV.ren]; rw [renL_id fs, renL_id cs]
  | .mp _ _ => rfl
  | .yl _ _ => rfl
  | .it _ _ => rfl
theorem renL_id : ∀ cs : List HV, renL (fun v => v) cs = cs
  | [] => rfl
  | c :: cs => by simp only [renL]; rw [HV.ren_id c, renL_id cs]
end
theorem ren_sc0 (ρ : Nat → Nat) {h : HV} (hs : h.sc 0 = true) : h.ren ρ = h := (HV.ren_agree (ρ' := fun v => v) (fun v hv => by omega) h hs).trans h.ren_id
theorem renL_sc0 (ρ : Nat → Nat) {h : List HV} (hs : scL 0 h = true) : renL ρ h = h := (renL_agree (ρ' := fun v => v) (fun v hv => by omega) h hs).trans (renL_id h)

mutual
theorem sc0_clean : ∀ h : HV, h.sc 0 = true → clean h
  | .int _ _, _ => trivial
  | .bool _, _ => trivial
  | .str _, _ => trivial
  | .v _, _ => trivial
  | .agg cs, h => sc0_cleanL cs h
  | .tup cs, h => sc0_cleanL cs h
  | .sl _ _ cs, h => sc0_cleanL cs h
  | .fptr cs _, h => sc0_cleanL cs h
  | .fn _ fs cs, h => by
    simp only [HV.sc, Bool.and_eq_true] at h
    exact ⟨sc0_cleanL fs h.1, sc0_cleanL cs h.2⟩
  | .ar _ v _ _ _, h => absurd (blt_lt h) (Nat.not_lt_zero _)
  | .ptr _ v _, h => absurd (blt_lt h) (Nat.not_lt_zero _)
  | .mp _ v, h => absurd (blt_lt h) (Nat.not_lt_zero _)
  | .yl _ v, h => absurd (blt_lt h) (Nat.not_lt_zero _)
  | .it _ v, h => absurd (blt_lt h) (Nat.not_lt_zero _)
theorem sc0_cleanL : ∀ cs : List HV, scL 0 cs = true → cleanL cs
  | [], _ => trivial
  | c :: cs, h => by
    simp only [scL, Bool.and_eq_true] at h
    exact ⟨sc0_clean c h.1, sc0_cleanL cs h.2⟩
end

def rounds (r : Task → Option Out) (top : Bool) (N : Nat) (x : Code) : Nat → AS → Nat → Option Out
  | 0, _, _ => none
  | k + 1, s, n => match r (.code top N x s n) with
    | some (.code .normal s1 n1) => rounds r top N x k s1 n1
    | o => o

def isEnd : Exit → Bool
  | .normal | .ret => true
  | _ => false

def notBusy : LoopState → Bool
  | .busy => false
  | _ => true

def strsOf : List HV → Option (List (List UInt8))
  | [] => some []
  | .str l :: cs => match strsOf cs with
    | some ls => some (l :: ls)
    | none => none
  | _ => none
def intsOf : List HV → Option (List Int)
  | [] => some []
  | .int .i64 n :: cs => match intsOf cs with
    | some ls => some (n :: ls)
    | none => none
  | _ => none

theorem strsOf_eq : ∀ {cs : List HV} {ls : List (List UInt8)}, strsOf cs = some ls → cs = ls.map .str
  | [], ls, h => by cases h; rfl
  | c :: cs, ls, h => by
    unfold strsOf at h
    split at h
    · cases h; simp_all
    · rename_i l cs' heq
      cases heq
      split at h
      · rename_i ls' hl
        cases h
        rw [strsOf_eq hl]
        rfl
      · cases h
    · cases h
theorem intsOf_eq : ∀ {cs : List HV} {ls : List Int}, intsOf cs = some ls → cs = ls.map (.int .i64)
  | [], ls, h => by cases h; rfl
  | c :: cs, ls, h => by
    unfold intsOf at h
    split at h
    · cases h; simp_all
    · rename_i l cs' heq
      cases heq
      split at h
      · rename_i ls' hl
        cases h
        rw [intsOf_eq hl]
        rfl
      · cases h
    · cases h

/-- a sort in place -/
def ssort (k : Bool) (args : List HV) (H : Heap) (n : Nat) : Option Out :=
  match args with
  | [.v (.slice none 0 0)] => some (.call (.tup []) H n)
  | [.ar id ver 1 0 m] => match hget H id with
    | some (ver', .arr 1 e cs) => match k with
      | true => match strsOf cs with
        | some ls => guardO (Nat.beq ver ver' && (Nat.beq m ls.length && Nat.blt ls.length 4611686018427387904)) (some (.call (.tup []) (hset H id ver (.arr 1 e ((isort (fun a b => decide (a ≤ b)) ls).map .str))) n))
        | none => none
      | false => match intsOf cs with
        | some ls => guardO (Nat.beq ver ver' && (Nat.beq m ls.length && Nat.blt ls.length 4611686018427387904)) (some (.call (.tup []) (hset H id ver (.arr 1 e ((isort (fun a b => decide (a ≤ b)) ls).map (.int .i64)))) n))
        | none => none
    | _ => none
  | _ => none

def step (T : Tabs) (r : Task → Option Out) : Task → Option Out
  | .code top N c s n => match c with
    | .skip => some (.code .normal s n)
    | .exit i => some (.code (.exit i) s n)
    | .ret => some (.code .ret s n)
    | .seq x y => match r (.code top N x s n) with
      | some (.code .normal s1 n1) => r (.code top N y s1 n1)
      | o => o
    | .block i x => match r (.code top N x s n) with
      | some (.code (.exit j) s1 n1) => some (.code (if j = i then .normal else .exit j) s1 n1)
      | o => o
    | .cond c x y => match s.ev c with
      | some (.bool true) => r (.code top N x s n)
      | some (.bool false) => r (.code top N y s n)
      | _ => none
    | .loop x => rounds r top N x 5000 s n
    | .region _ ops dr => guardO (ops.toList.all fun o => okd N o.dst) (match (match dr with
        | true => sdraw r T ops s n
        | false => sops r T ops.toList ops.toList s n) with
      | some (s1, n1) => some (.code .normal s1 n1)
      | none => none)
    | .rangeFunc g ps assign body => match top, s.ev g with
      | true, some (.fn (.func f) fs cs) => guardO (scL n fs && scL n cs) (match r (.call f (fs ++ [.yl n n] ++ cs) (hset s.heap n n (.loop .ready none (n + 1) N s.slots ps assign body)) (n + 2)) with
        | some (.call _ H n1) => match hget H n with
          | some (_, .loop st pend _ _ _ _ _ _) => guardO (notBusy st) (match pend with
            | none => some (.code .normal { s with heap := hset H n n (.loop .exhausted none (n + 1) N s.slots ps assign body) } n1)
            | some .ret => some (.code .ret { s with heap := hset H n n (.loop .exhausted (some .ret) (n + 1) N s.slots ps assign body) } n1)
            | some (.exit i) => some (.code (.exit i) { s with heap := hset H n n (.loop .exhausted (some (.exit i)) (n + 1) N s.slots ps assign body) } n1)
            | _ => none)
          | _ => none
        | _ => none)
      | _, _ => none
    | _ => none
  | .call f args H n => match T.sort f with
   | some k => ssort k args H n
   | none => match (match args.mapM (sfrz 8 H) with
      | some as' => guardO (scL 0 as') (T.ext f as')
      | none => none) with
    | some rv => guardO (rv.sc 0) (some (.call rv H n))
    | none => match T.fn f with
      | some fn => match fn.body with
        | some c => guardO (Nat.ble args.length fn.ntmps) (match r (.code true fn.ntmps c ⟨enumS 0 args, H⟩ n) with
          | some (.code e s1 n1) => guardO (isEnd e) (match sres T.ty s1 fn.results.toList with
            | some hs => guardO ((joinR hs).sc n1) (some (.call (joinR hs) (gc n (joinR hs) s1.heap) n1))
            | none => none)
          | _ => none)
        | none => none
      | none => none

def run (T : Tabs) : Nat → Task → Option Out
  | 0, _ => none
  | k + 1, t => step T (run T k) t

section
variable {P : Program} {T : Tabs} {N n n' : Nat} {s s' : AS} {r : Task → Option Out}

theorem sops_ok (hT : T.Ok P) (hr : Good P r) {ops : Array Oper} (hok : ops.toList.all (fun o => okd N o.dst) = true) : ∀ (l : List Oper) (i : Nat) (s : AS) (n : Nat), (∀ k, l[k]? = ops[i + k]?) → s.sc n = true → sops r T ops.toList l s n = some (s', n') →
    s'.sc n' = true ∧ Step n n' s.heap s'.heap ∧ ∀ (ρ : Nat → Nat) (ro : Option Nat) (K : AS → Prop), (∀ ρ', Agree n ρ ρ' → K (s'.ren ρ')) → AOps P ro N ops (List.range' i l.length) K (s.ren ρ)
  | [], i, s, n, _, hs, h => by
    cases h
    exact ⟨hs, Step.refl _ _, fun ρ ro K hK => AOps.nil (hK ρ (Agree.refl _ _))⟩
  | o :: l, i, s, n, hl, hs, h => by
    have ho : ops[i]? = some o := by have := hl 0; simpa using this.symm
    have hN : okd N o.dst = true := List.all_eq_true.1 hok o (by
      have := Array.getElem?_toList (xs := ops) (i := i)
      rw [ho] at this
      exact List.mem_of_getElem? this)
    have hl' : ∀ k, l[k]? = ops[i + 1 + k]? := fun k => by
      have := hl (k + 1)
      rw [List.getElem?_cons_succ] at this
      rw [this]; congr 1; omega
    -- an operation, then the rest
    have go : ∀ (s0 : AS), s0.sc n = true → s0.heap = s.heap → (match sop r T o s0 n with
        | some (s1, n1) => sops r T ops.toList l s1 n1
        | none => none) = some (s', n') → s'.sc n' = true ∧ Step n n' s.heap s'.heap ∧ ∀ (ρ : Nat → Nat) (ro : Option Nat) (K : AS → Prop), (∀ ρ', Agree n ρ ρ' → K (s'.ren ρ')) → AOp P ro N o (AOps P ro N ops (List.range' (i + 1) l.length) K) (s0.ren ρ) := by
      intro s0 hs0 hh h
      split at h
      · rename_i s1 n1 hop
        obtain ⟨h1, h2, h3⟩ := sop_ok hT hr hN hs0 hop
        obtain ⟨h4, h5, h6⟩ := sops_ok hT hr hok l (i + 1) s1 n1 hl' h1 h
        rw [hh] at h2
        refine ⟨h4, h2.trans (sc_heap_of hs) h5, fun ρ ro K hK => h3 ρ ro _ fun ρ1 ha1 => h6 ρ1 ro K fun ρ2 ha2 => hK ρ2 (ha1.trans h2.le ha2)⟩
      · cases h
    simp only [sops] at h
    split at h
    · rename_i hg
      obtain ⟨h1, h2, h3⟩ := go s hs rfl h
      exact ⟨h1, h2, fun ρ ro K hK => AOps.cons ho hg (h3 ρ ro K hK)⟩
    · rename_i j want hg
      split at h
      · rename_i oj hoj
        split at h
        · rename_i d hd
          split at h
          · rename_i b hb
            have hbr : ∀ ρ : Nat → Nat, sget (s.ren ρ).slots d = some (.bool b) := fun ρ => by
              show sget (renS ρ s.slots) d = _
              rw [sget_ren, hb]; rfl
            split at h
            · rename_i hbw
              have hbw : b = want := by simpa using hbw
              obtain ⟨h1, h2, h3⟩ := go (s.put (some d) (.bool want)) (sc_put hs rfl) rfl h
              refine ⟨h1, h2, fun ρ ro K hK => AOps.guard ho hN hg (by simpa using hoj) hd (hbr ρ) (fun _ => ?_) (fun e => by cases b <;> cases want <;> simp at e hbw)⟩
              have := h3 ρ ro K hK
              rw [ren_put] at this
              exact this
            · rename_i hbw
              have hbw : b ≠ want := by simpa using hbw
              obtain ⟨h1, h2, h3⟩ := sops_ok hT hr hok l (i + 1) _ n hl' (sc_put (sc_put hs rfl) rfl) h
              rw [put_heap', put_heap'] at h2
              refine ⟨h1, h2, fun ρ ro K hK => AOps.guard ho hN hg (by simpa using hoj) hd (hbr ρ) (fun e => absurd e hbw) fun _ => ?_⟩
              have := h3 ρ ro K hK
              rw [ren_put, ren_put] at this
              exact this
          · cases h
        · cases h
      · cases h

theorem mapM_frz {D : Heap} (ρ : Nat → Nat) : ∀ {cs ds : List HV}, cs.mapM (sfrz 8 D) = some ds → (renL ρ cs).map (frz 8 (renH ρ D)) = renL ρ ds
  | [], ds, e => by simp at e; subst e; rfl
  | c :: cs, ds, e => by
    simp only [List.mapM_cons, Option.pure_def, Option.bind_eq_bind, Option.bind_eq_some_iff] at e
    obtain ⟨d, hd, es, he, e⟩ := e
    cases e
    simp only [renL, List.map_cons, sfrz_sound 8 D ρ _ _ hd, mapM_frz ρ he]

theorem steadyKind_of {o : Oper} : True := trivial

mutual
theorem nf_ren (ρ : Nat → Nat) : ∀ h : HV, nf h = true → nf (h.ren ρ) = true
  | .int _ _, _ => rfl
  | .bool _, _ => rfl
  | .str _, _ => rfl
  | .v _, _ => rfl
  | .agg cs, h => nfL_ren ρ cs h
  | .tup cs, h => nfL_ren ρ cs h
  | .sl _ _ _, h => by cases h
  | .ar _ _ _ _ _, _ => rfl
  | .ptr _ _ _, _ => rfl
  | .fptr _ _, h => by cases h
  | .fn _ fs cs, h => by
    simp only [nf, Bool.and_eq_true] at h
    simp only [HV.ren, nf, nfL_ren ρ fs h.1, nfL_ren ρ cs h.2, Bool.and_self]
  | .mp _ _, _ => rfl
  | .yl _ _, _ => rfl
  | .it _ _, _ => rfl
theorem nfL_ren (ρ : Nat → Nat) : ∀ cs : List HV, nfL cs = true → nfL (renL ρ cs) = true
  | [], _ => rfl
  | c :: cs, h => by
    simp only [nfL, Bool.and_eq_true] at h
    simp only [renL, nfL, nf_ren ρ c h.1, nfL_ren ρ cs h.2, Bool.and_self]
end
theorem nfE_ren (ρ : Nat → Nat) : ∀ es, nfE es = true → nfE (renE ρ es) = true
  | [], _ => rfl
  | (_, c) :: cs, h => by
    simp only [nfE, Bool.and_eq_true] at h
    simp only [renE, nfE, nf_ren ρ c h.1, nfE_ren ρ cs h.2, Bool.and_self]
theorem nfH_ren (ρ : Nat → Nat) : ∀ H : Heap, nfH H = true → nfH (renH ρ H) = true
  | [], _ => rfl
  | (_, _, o) :: H, h => by
    simp only [nfH, Bool.and_eq_true] at h
    have ho : nfO (o.ren ρ) = true := by
      cases o with
      | arr k e cs => exact nfL_ren ρ cs h.1
      | map es => exact nfE_ren ρ es h.1
      | iter _ _ _ _ => rfl
      | loop _ _ _ _ _ _ _ _ => cases h.1
    simp only [renH, nfH, ho, nfH_ren ρ H h.2, Bool.and_self]

theorem sfrz_sc0 {D : Heap} (m : Nat) : ∀ (h h' : HV), h.sc 0 = true → sfrz m D h = some h' → h' = h := by
  induction m with
  | zero => intro h h' _ e; cases e; rfl
  | succ m ih =>
    have ihL : ∀ (cs ds : List HV), scL 0 cs = true → cs.mapM (sfrz m D) = some ds → ds = cs := by
      intro cs
      induction cs with
      | nil => intro ds _ e; simp at e; exact e
      | cons c cs ihc =>
        intro ds hs e
        simp only [scL, Bool.and_eq_true] at hs
        simp only [List.mapM_cons, Option.pure_def, Option.bind_eq_bind, Option.bind_eq_some_iff] at e
        obtain ⟨d, hd, es, he, e⟩ := e
        cases e
        rw [ih _ _ hs.1 hd, ihc _ hs.2 he]
    intro h h' hs e
    unfold sfrz at e
    split at e
    · split at e
      · rename_i hc; cases e; rw [ihL _ _ hs hc]
      · cases e
    · split at e
      · rename_i hc; cases e; rw [ihL _ _ hs hc]
      · cases e
    · simp only [HV.sc, Bool.and_eq_true] at hs
      split at e
      · rename_i hf hc; cases e; rw [ihL _ _ hs.1 hf, ihL _ _ hs.2 hc]
      · cases e
    · exact absurd (blt_lt hs) (Nat.not_lt_zero _)
    · exact absurd (blt_lt hs) (Nat.not_lt_zero _)
    · cases e; rfl

theorem sfrzL_sc0 {D : Heap} (m : Nat) : ∀ (cs ds : List HV), scL 0 cs = true → cs.mapM (sfrz m D) = some ds → ds = cs
  | [], ds, _, e => by simp at e; exact e
  | c :: cs, ds, hs, e => by
    simp only [scL, Bool.and_eq_true] at hs
    simp only [List.mapM_cons, Option.pure_def, Option.bind_eq_bind, Option.bind_eq_some_iff] at e
    obtain ⟨d, hd, es, he, e⟩ := e
    cases e
    rw [sfrz_sc0 m _ _ hs.1 hd, sfrzL_sc0 m _ _ hs.2 he]

theorem callS_ok (hr : Good P r) {g : FuncId} {as as' : List HV} {H H1 : Heap} {n1 : Nat} {rv q : HV} (ha : as.mapM (sfrz 8 H) = some as') (h0 : scL 0 as' = true) (hc : r (.call g as' [] 0) = some (.call rv H1 n1))
    (hn : (scL 0 as || (nf rv && nfH H1)) = true) (hf : sfrz 8 H1 rv = some q) (hq : q.sc 0 = true) (ρ : Nat → Nat) : ACallD P g (renL ρ as) (renH ρ H) q := by
  obtain ⟨h1, h2, st, hcall⟩ := hr _ _ hc h0 rfl
  have hargs : renL ρ as' = (renL ρ as).map (frz 8 (renH ρ H)) := (mapM_frz ρ ha).symm
  have hqr : ∀ ρ' : Nat → Nat, frz 8 (renH ρ' H1) (rv.ren ρ') = q := fun ρ' => by rw [sfrz_sound 8 H1 ρ' rv q hf, ren_sc0 ρ' hq]
  cases hs : scL 0 as with
  | true =>
    have e : as' = as := sfrzL_sc0 8 _ _ hs ha
    subst e
    refine ACallD.pure0 ?_
    rw [renL_sc0 ρ hs]
    have h5 := hcall ρ (fun r' H' => ∃ ρ', r' = rv.ren ρ' ∧ H' = renH ρ' H1) fun ρ' _ => ⟨ρ', rfl, rfl⟩
    rw [renL_sc0 ρ hs] at h5
    refine h5.conv ?_
    rintro r' H' ⟨ρ', rfl, rfl⟩
    exact ⟨_, _, Conv.all 8, hqr ρ', hqr ρ' ▸ sc0_clean q hq, rfl⟩
  | false =>
    rw [hs, Bool.false_or, Bool.and_eq_true] at hn
    refine ACall.lend (K := fun r' H' => ∃ ρ', r' = rv.ren ρ' ∧ H' = renH ρ' H1) 8 8 ?_ ?_ (sc0_clean q hq)
    · rw [← hargs]
      exact hcall ρ _ fun ρ' _ => ⟨ρ', rfl, rfl⟩
    · rintro r' H' ⟨ρ', rfl, rfl⟩
      exact ⟨nf_ren ρ' rv hn.1, nfH_ren ρ' H1 hn.2, hqr ρ'⟩

theorem sopS_ok (hT : T.Ok P) (hr : Good P r) {o : Oper} {q : HV} (h : sopS r T o s = some q) (ρ : Nat → Nat) {R : HV → Prop} (hq : R (q.ren ρ)) : aopS P o R (s.ren ρ) := by
  unfold sopS at h
  unfold aopS
  split at h
  · rename_i e x hop
    simp only [hop]
    split at h
    · rename_i hv hx
      split at h
      · rename_i cs hcs
        cases h
        simp only [ev_ren, hx, Option.map_some, cells_ren, hcs]
        exact hq
      · cases h
    · cases h
  · rename_i t m ps hop
    simp only [hop]
    replace h := guardO_some h
    obtain ⟨h1, h⟩ := h
    split at h
    · rename_i k e cs hsl
      cases h
      exact ⟨Nat.le_of_ble_eq_true h1, sslice_sound hT.ty hsl hq⟩
    · cases h
  · rename_i f as ts hop
    simp only [hop]
    split at h
    · rename_i g fs cs hs hf ha
      split at h
      · rename_i as' has'
        replace h := guardO_some h
        obtain ⟨h1, h⟩ := h
        split at h
        · rename_i rv H1 n1 hrc
          replace h := guardO_some h
          obtain ⟨h2, h⟩ := h
          split at h
          · rename_i q' hq'
            replace h := guardO_some h
            obtain ⟨h3, h⟩ := h
            cases h
            have := callS_ok hr has' h1 hrc h2 hq' h3 ρ
            simp only [ev_ren, hf, Option.map_some, HV.ren, evL_sc ha ρ]
            rw [← renL_append, ← renL_append]
            rw [ren_sc0 ρ h3] at hq
            exact ⟨q, this, hq⟩
          · cases h
        · cases h
      · cases h
    · cases h
  · have h' := sval_sound (P := P) hT.ty h hq
    split
    · rename_i h1 h2 h3 _ _ _ e; exact absurd e (h1 _ _)
    · rename_i h1 h2 h3 _ _ _ _ e; exact absurd e (h2 _ _ _)
    · rename_i h1 h2 h3 _ _ _ _ e; exact absurd e (h3 _ _ _)
    · exact h'

theorem ssteps_ok (hT : T.Ok P) (hr : Good P r) {all : List Oper} (ρ : Nat → Nat) {K : AS → Prop} {s1 : AS} : ∀ (l : List Oper) (s : AS), s.sc n = true → ssteps r T all l s n = some s1 → s1.sc n = true ∧ s1.heap = s.heap ∧ (K (s1.ren ρ) → asteps P all l K (s.ren ρ))
  | [], s, hs, h => by cases h; exact ⟨hs, rfl, id⟩
  | o :: l, s, hs, h => by
    have go : ∀ (s0 : AS), s0.sc n = true → s0.heap = s.heap → (match sopS r T o s0 with
        | some h => guardO (h.sc n) (ssteps r T all l (s0.put o.dst h) n)
        | none => none) = some s1 → s1.sc n = true ∧ s1.heap = s.heap ∧ (K (s1.ren ρ) → aopS P o (fun h => asteps P all l K ((s0.ren ρ).put o.dst h)) (s0.ren ρ)) := by
      intro s0 hs0 hh h
      split at h
      · rename_i q hq
        replace h := guardO_some h
        obtain ⟨h1, h⟩ := h
        obtain ⟨h2, h3, h4⟩ := ssteps_ok hT hr ρ l _ (sc_put hs0 h1) h
        rw [put_heap', hh] at h3
        refine ⟨h2, h3, fun hK => sopS_ok hT hr hq ρ ?_⟩
        have := h4 hK
        rw [ren_put] at this
        exact this
      · cases h
    simp only [ssteps] at h
    split at h
    · rename_i hg
      obtain ⟨h1, h2, h3⟩ := go s hs rfl h
      refine ⟨h1, h2, fun hK => ?_⟩
      simp only [asteps, hg]
      exact h3 hK
    · rename_i j want hg
      split at h
      · rename_i oj hoj
        split at h
        · rename_i d hd
          split at h
          · rename_i b hb
            have hbr : sget (s.ren ρ).slots d = some (.bool b) := by
              show sget (renS ρ s.slots) d = _
              rw [sget_ren, hb]; rfl
            split at h
            · rename_i hbw
              have hbw : b = want := by simpa using hbw
              obtain ⟨h1, h2, h3⟩ := go (s.put (some d) (.bool want)) (sc_put hs rfl) rfl h
              refine ⟨h1, h2, fun hK => ?_⟩
              simp only [asteps, hg, hoj, hd, hbr]
              have h4 := h3 hK
              rw [ren_put] at h4
              rw [if_pos hbw]
              exact h4
            · rename_i hbw
              have hbw : b ≠ want := by simpa using hbw
              obtain ⟨h1, h2, h3⟩ := ssteps_ok hT hr ρ l _ (sc_put (d := o.dst) (h := .v undef) (sc_put (d := some d) (h := .bool !want) hs rfl) rfl) h
              rw [put_heap', put_heap'] at h2
              refine ⟨h1, h2, fun hK => ?_⟩
              simp only [asteps, hg, hoj, hd, hbr]
              have h4 := h3 hK
              rw [ren_put, ren_put] at h4
              rw [if_neg hbw]
              exact h4
          · cases h
        · cases h
      · cases h

/-- a region -/
theorem AW.ops {ro : Option Nat} {id : Nat} {ops : Array Oper} {Q : Exit → AS → Prop} (h : AOps P ro N ops (List.range' 0 ops.toList.length) (fun s' => Q .normal s') s) : AW P ro N (.region id ops false) Q s := by
  intro w0 μ0 μ a w hs hE
  refine wpIn_region ?_
  rw [List.range_eq_range', ← Array.length_toList]
  exact h w0 μ0 μ a w _ hs hE fun μ' s' a' w' hk hs' hE' => ⟨(fun _ h => by cases h), (fun h => by cases h), _, _, hk, hs', hE'⟩

theorem sdrawP_ok (hT : T.Ok P) (hr : Good P r) {id : Nat} {ops : Array Oper} (hok : ops.toList.all (fun o => okd N o.dst) = true) {p : Nat} (hs : s.sc n = true) (h : sdrawP r T ops s n p = some (s', n')) :
    s'.sc n' = true ∧ Step n n' s.heap s'.heap ∧ ∀ (ρ : Nat → Nat) (ro : Option Nat) (Q : Exit → AS → Prop), (∀ ρ', Agree n ρ ρ' → Q .normal (s'.ren ρ')) → AW P ro N (.region id ops true) Q (s.ren ρ) := by
  unfold sdrawP at h
  replace h := guardO_some h
  obtain ⟨hd, h⟩ := h
  split at h
  · rename_i s1 hst
    have h1 := fun (ρ : Nat → Nat) (K : AS → Prop) => ssteps_ok (K := K) hT hr ρ _ _ hs hst
    have h2 := h1 (fun v => v) fun _ => True
    obtain ⟨h3, h4, h5⟩ := sops_ok hT hr hok (ops.toList.drop p) p s1 n (fun k => by rw [List.getElem?_drop, Array.getElem?_toList]) h2.1 h
    rw [h2.2.1] at h4
    refine ⟨h3, h4, fun ρ ro Q hQ => AW.drawX p (fun x => x = s1.ren ρ) hT.draw hok hd ?_ ((h1 ρ _).2.2 rfl)⟩
    rintro x rfl
    have := h5 ρ ro (fun s' => Q .normal s') hQ
    have hl : (ops.toList.drop p).length = ops.size - p := by simp
    rw [hl] at this
    exact this
  · cases h

theorem sdraw_ok (hT : T.Ok P) (hr : Good P r) {id : Nat} {ops : Array Oper} (hok : ops.toList.all (fun o => okd N o.dst) = true) (hs : s.sc n = true) (h : sdraw r T ops s n = some (s', n')) :
    s'.sc n' = true ∧ Step n n' s.heap s'.heap ∧ ∀ (ρ : Nat → Nat) (ro : Option Nat) (Q : Exit → AS → Prop), (∀ ρ', Agree n ρ ρ' → Q .normal (s'.ren ρ')) → AW P ro N (.region id ops true) Q (s.ren ρ) := by
  unfold sdraw at h
  split at h
  · rename_i x hx
    cases h
    exact sdrawP_ok hT hr hok hs hx
  · exact sdrawP_ok hT hr hok hs h

theorem sres_ok (hT : T.Ok P) (ρ : Nat → Nat) : ∀ {rvs : List ResultVar} {hs : List HV} {R : List HV → Prop}, sres T.ty s rvs = some hs → R (renL ρ hs) → resAll P (s.ren ρ) rvs R
  | [], hs, R, h, hR => by cases h; exact hR
  | rv :: rvs, hs, R, h, hR => by
    simp only [sres] at h
    split at h
    · rename_i q qs hq hqs
      cases h
      have key : ∀ R' : HV → Prop, R' (q.ren ρ) → resOne P (s.ren ρ) rv R' := by
        intro R' hR'
        cases rv with
        | tmp t =>
          have : sget (renS ρ s.slots) t = some (q.ren ρ) := by rw [sget_ren]; simp only [sres1] at hq; rw [hq]; rfl
          simp only [resOne, AS.ren, this]
          exact hR'
        | cell t t' =>
          simp only [sres1] at hq
          split at hq
          · rename_i U cs off hU hx
            have : sget (s.ren ρ).slots t = some (.fptr (renL ρ cs) off) := by show sget (renS ρ s.slots) t = _; rw [sget_ren, hx]; rfl
            simp only [resOne, hT.ty _ _ hU, this]
            exact sload_sound hq hR'
          · rename_i U id ver off hU hx
            split at hq
            · rename_i ver' k e cs hg
              replace hq := guardO_some hq
              obtain ⟨h1, hq⟩ := hq
              have hv := Nat.eq_of_beq_eq_true h1
              subst hv
              have : sget (s.ren ρ).slots t = some (.ptr id (ρ ver) off) := by show sget (renS ρ s.slots) t = _; rw [sget_ren, hx]; rfl
              simp only [resOne, hT.ty _ _ hU, this, hget_s ρ hg, AObj.ren]
              exact ⟨trivial, sload_sound hq hR'⟩
            · cases hq
          · cases hq
      exact key _ (sres_ok hT ρ hqs hR)
    · cases h

theorem thenQ_ne {k : AS → Prop} {Q : Exit → AS → Prop} {e : Exit} (he : e ≠ .normal) {s : AS} (h : Q e s) : thenQ k Q e s := by
  cases e with
  | normal => exact absurd rfl he
  | _ => exact h

theorem rounds_step (hr : Good P r) {top : Bool} {x : Code} {o : Out} : ∀ (k : Nat) (s : AS) (n : Nat), s.sc n = true → rounds r top N x k s n = some o → ∃ e s2 n2, o = .code e s2 n2 ∧ s2.sc n2 = true ∧ Step n n2 s.heap s2.heap
  | 0, _, _, _, h => by cases h
  | k + 1, s, n, hs, h => by
    simp only [rounds] at h
    split at h
    · rename_i s1 n1 hr1
      obtain ⟨h1, h2, _⟩ := hr _ _ hr1 hs
      obtain ⟨e, s2, n2, h3, h4, h5⟩ := rounds_step hr k s1 n1 h1 h
      exact ⟨e, s2, n2, h3, h4, h2.trans (sc_heap_of hs) h5⟩
    · have := hr _ _ h
      cases o with
      | code e s2 n2 => exact ⟨e, s2, n2, rfl, (this hs).1, (this hs).2.1⟩
      | call rv H n2 => exact this.elim

theorem rounds_ok (hr : Good P r) {top : Bool} {x : Code} {o : Out} (k : Nat) (h : rounds r top N x k s n = some o) : Sem P (.code top N (.loop x) s n) o := by
  cases o with
  | call rv H n2 =>
    have : ∀ (k : Nat) (s : AS) (n : Nat), rounds r top N x k s n ≠ some (.call rv H n2) := by
      intro k
      induction k with
      | zero => intro s n h; cases h
      | succ k ih =>
        intro s n h
        simp only [rounds] at h
        split at h
        · exact ih _ _ h
        · exact (hr _ _ h).elim
    exact absurd h (this k s n)
  | code e s2 n2 =>
    intro hs
    obtain ⟨e', s2', n2', he, h1, h2⟩ := rounds_step hr k s n hs h
    cases he
    refine ⟨h1, h2, fun ρ ro Q htop hQ => ?_⟩
    refine AW.loop' (fun j s0 => ∃ s1 n1 ρ1, s0 = s1.ren ρ1 ∧ s1.sc n1 = true ∧ rounds r top N x j s1 n1 = some (.code e s2 n2) ∧ Agree n ρ ρ1 ∧ n ≤ n1) ⟨k, _, AS.le_refl _, s, n, ρ, rfl, hs, h, Agree.refl _ _, Nat.le_refl _⟩ ?_
    rintro j s0 ⟨s1, n1, ρ1, rfl, hs1, hj, hag, hn⟩
    cases j with
    | zero => cases hj
    | succ j =>
      simp only [rounds] at hj
      split at hj
      · rename_i s3 n3 hr3
        obtain ⟨h3, h4, h5⟩ := hr _ _ hr3 hs1
        refine h5 ρ1 ro _ htop fun ρ' hag' => ?_
        exact ⟨j, Nat.lt_succ_self j, _, AS.le_refl _, s3, n3, ρ', rfl, h3, hj, hag.trans hn hag', Nat.le_trans hn h4.le⟩
      · rename_i hno
        obtain ⟨h3, h4, h5⟩ := hr _ _ hj hs1
        refine h5 ρ1 ro _ htop fun ρ' hag' => thenQ_ne ?_ (hQ ρ' (hag.trans hn hag'))
        rintro rfl
        exact hno _ _ hj

theorem sc_enumS : ∀ (i : Nat) (args : List HV), scL n args = true → scS n (enumS i args) = true
  | _, [], _ => rfl
  | i, a :: args, h => by
    simp only [scL, Bool.and_eq_true] at h
    simp only [enumS, scS, h.1, sc_enumS (i + 1) args h.2, Bool.and_self]

theorem renS_enumS (ρ : Nat → Nat) : ∀ (i : Nat) (args : List HV), renS ρ (enumS i args) = enumS i (renL ρ args)
  | _, [] => rfl
  | i, a :: args => by simp only [enumS, renS, renL, renS_enumS ρ (i + 1) args]

theorem scL_append {cs ds : List HV} (h : scL n cs = true) (h' : scL n ds = true) : scL n (cs ++ ds) = true := by
  induction cs with
  | nil => exact h'
  | cons c cs ih =>
    simp only [scL, Bool.and_eq_true] at h
    simp only [List.cons_append, scL, h.1, ih h.2, Bool.and_self]

theorem joinR_ren (ρ : Nat → Nat) : ∀ hs : List HV, (joinR hs).ren ρ = joinR (renL ρ hs)
  | [] => rfl
  | [h] => rfl
  | _ :: _ :: _ => rfl

theorem strs_ren (ρ : Nat → Nat) : ∀ ls : List (List UInt8), renL ρ (ls.map HV.str) = ls.map HV.str
  | [] => rfl
  | a :: ls => by simp only [List.map_cons, renL, HV.ren, strs_ren ρ ls]
theorem ints_ren (ρ : Nat → Nat) : ∀ ls : List Int, renL ρ (ls.map (HV.int .i64)) = ls.map (HV.int .i64)
  | [] => rfl
  | a :: ls => by simp only [List.map_cons, renL, HV.ren, ints_ren ρ ls]
theorem strs_sc (n : Nat) : ∀ ls : List (List UInt8), scL n (ls.map HV.str) = true
  | [] => rfl
  | a :: ls => by simp only [List.map_cons, scL, HV.sc, strs_sc n ls, Bool.and_self]
theorem ints_sc (n : Nat) : ∀ ls : List Int, scL n (ls.map (HV.int .i64)) = true
  | [] => rfl
  | a :: ls => by simp only [List.map_cons, scL, HV.sc, ints_sc n ls, Bool.and_self]

theorem ssort_ok (hT : T.Ok P) {f : FuncId} {k : Bool} (hk : T.sort f = some k) {args : List HV} {H : Heap} {o : Out} (h : ssort k args H n = some o) : Sem P (.call f args H n) o := by
  unfold ssort at h
  split at h
  · cases h
    refine fun _ hH => ⟨rfl, hH, Step.refl _ _, fun ρ K hK => ?_⟩
    cases k with
    | true => exact (hT.sortS f hk).nil _ _ (hK ρ (Agree.refl _ _))
    | false => exact (hT.sortI f hk).nil _ _ (hK ρ (Agree.refl _ _))
  · rename_i id ver m
    split at h
    · rename_i ver' e cs hg
      split at h
      · split at h
        · rename_i ls hls
          replace h := guardO_some h
          obtain ⟨h1, h⟩ := h
          cases h
          simp only [Bool.and_eq_true] at h1
          have hv := Nat.eq_of_beq_eq_true h1.1
          subst hv
          have hm := Nat.eq_of_beq_eq_true h1.2.1
          subst hm
          have hcs := strsOf_eq hls
          subst hcs
          intro _ hH
          have hlt := sch_get hH hg
          refine ⟨rfl, scH_set _ _ _ _ hH hlt.1.1 hlt.1.2 (strs_sc _ _), ⟨Nat.le_refl _, LoopKeep.set (by rw [hg]; intros; simp), Back.set (.inr ⟨_, hg⟩)⟩, fun ρ K hK => ?_⟩
          refine (hT.sortS f hk).arr _ id (ρ ver) e ls K (by rw [hget_ren, hg]; simp only [Option.map_some, AObj.ren, strs_ren]) (blt_lt h1.2.2) ?_
          have := hK ρ (Agree.refl _ _)
          rw [renH_set] at this
          simp only [AObj.ren, strs_ren, HV.ren, renL] at this
          rw [sortS_isort]
          exact this
        · cases h
      · split at h
        · rename_i ls hls
          replace h := guardO_some h
          obtain ⟨h1, h⟩ := h
          cases h
          simp only [Bool.and_eq_true] at h1
          have hv := Nat.eq_of_beq_eq_true h1.1
          subst hv
          have hm := Nat.eq_of_beq_eq_true h1.2.1
          subst hm
          have hcs := intsOf_eq hls
          subst hcs
          intro _ hH
          have hlt := sch_get hH hg
          refine ⟨rfl, scH_set _ _ _ _ hH hlt.1.1 hlt.1.2 (ints_sc _ _), ⟨Nat.le_refl _, LoopKeep.set (by rw [hg]; intros; simp), Back.set (.inr ⟨_, hg⟩)⟩, fun ρ K hK => ?_⟩
          refine (hT.sortI f hk).arr _ id (ρ ver) e ls K (by rw [hget_ren, hg]; simp only [Option.map_some, AObj.ren, ints_ren]) (blt_lt h1.2.2) ?_
          have := hK ρ (Agree.refl _ _)
          rw [renH_set] at this
          simp only [AObj.ren, ints_ren, HV.ren, renL] at this
          rw [sortI_isort]
          exact this
        · cases h
    · cases h
  · cases h

theorem step_ok (hT : T.Ok P) (hr : Good P r) : Good P (step T r) := by
  intro t o h
  cases t with
  | call f args H n =>
    simp only [step] at h
    split at h
    · rename_i k hk
      exact ssort_ok hT hk h
    split at h
    · -- a function that is known
      rename_i rv hx
      replace h := guardO_some h
      obtain ⟨h1, h⟩ := h
      cases h
      split at hx
      · rename_i as' ha
        replace hx := guardO_some hx
        obtain ⟨h2, hx⟩ := hx
        intro hargs hH
        refine ⟨HV.sc_mono (Nat.zero_le _) rv h1, hH, Step.refl _ _, fun ρ K hK => ?_⟩
        have hf := hT.ext _ _ _ hx
        have ha2 := mapM_frz ρ ha
        rw [renL_sc0 ρ h2] at ha2
        refine hf.call 8 ha2 ?_
        have := hK ρ (Agree.refl _ _)
        rw [ren_sc0 ρ h1] at this
        exact this
      · cases hx
    · split at h
      · rename_i fn hfn
        split at h
        · rename_i c hc
          replace h := guardO_some h
          obtain ⟨h1, h⟩ := h
          split at h
          · rename_i e s1 n1 hr1
            replace h := guardO_some h
            obtain ⟨h2, h⟩ := h
            split at h
            · rename_i hs hres
              replace h := guardO_some h
              obtain ⟨h3, h⟩ := h
              cases h
              intro hargs hH
              obtain ⟨h4, h5, h6⟩ := hr _ _ hr1 (by simp only [AS.sc, sc_enumS 0 args hargs, hH, Bool.and_self])
              refine ⟨h3, gc_sc (sc_heap_of h4), h5.drop fun id x hx => gc_get hx, fun ρ K hK => ?_⟩
              obtain ⟨hf, hname⟩ := hT.fn _ _ hfn
              refine ACall.of_body hf hname hc (by rw [renL_len]; exact Nat.le_of_ble_eq_true h1) ?_
              have e0 : ({ slots := enumS 0 (renL ρ args), heap := renH ρ H } : AS) = (⟨enumS 0 args, H⟩ : AS).ren ρ := by simp only [AS.ren, renS_enumS]
              rw [e0]
              refine h6 ρ none _ (fun _ => rfl) fun ρ' hag => ⟨?_, sres_ok hT ρ' hres ?_⟩
              · cases e with
                | normal => exact .inl rfl
                | ret => exact .inr rfl
                | _ => cases h2
              · refine ⟨_, renH ρ' (gc n (joinR hs) s1.heap), Conv.drop fun id x hx => ?_, ?_⟩
                · rw [hget_ren] at hx
                  cases hg : hget (gc n (joinR hs) s1.heap) id with
                  | none => rw [hg] at hx; cases hx
                  | some y =>
                    rw [hg] at hx
                    show hget (renH ρ' s1.heap) id = some x
                    rw [hget_ren, gc_get hg]
                    exact hx
                · rw [← joinR_ren]
                  exact hK ρ' hag
            · cases h
          · cases h
        · cases h
      · cases h
  | code top N c s n =>
    simp only [step] at h
    split at h
    · cases h
      exact fun hs => ⟨hs, Step.refl _ _, fun ρ ro Q _ hQ => AW.skip (hQ ρ (Agree.refl _ _))⟩
    · cases h
      exact fun hs => ⟨hs, Step.refl _ _, fun ρ ro Q _ hQ => AW.exit (hQ ρ (Agree.refl _ _))⟩
    · cases h
      exact fun hs => ⟨hs, Step.refl _ _, fun ρ ro Q _ hQ => AW.ret (hQ ρ (Agree.refl _ _))⟩
    · -- seq
      rename_i x y
      split at h
      · rename_i s1 n1 hr1
        have h2 := hr _ _ h
        cases o with
        | call rv H n2 => exact h2.elim
        | code e s2 n2 =>
          intro hs
          obtain ⟨h3, h4, h5⟩ := hr _ _ hr1 hs
          obtain ⟨h6, h7, h8⟩ := h2 h3
          refine ⟨h6, h4.trans (sc_heap_of hs) h7, fun ρ ro Q htop hQ => AW.seq (h5 ρ ro _ htop fun ρ1 ha1 => h8 ρ1 ro Q htop fun ρ2 ha2 => hQ ρ2 (ha1.trans h4.le ha2))⟩
      · rename_i hno
        have h2 := hr _ _ h
        cases o with
        | call rv H n2 => exact h2.elim
        | code e s2 n2 =>
          intro hs
          obtain ⟨h3, h4, h5⟩ := h2 hs
          exact ⟨h3, h4, fun ρ ro Q htop hQ => AW.seq (h5 ρ ro _ htop fun ρ' ha => thenQ_ne (fun e => by subst e; exact hno _ _ h) (hQ ρ' ha))⟩
    · -- block
      rename_i i x
      split at h
      · rename_i j s1 n1 hr1
        cases h
        intro hs
        obtain ⟨h3, h4, h5⟩ := hr _ _ hr1 hs
        refine ⟨h3, h4, fun ρ ro Q htop hQ => AW.block (h5 ρ ro _ htop fun ρ' ha => ?_)⟩
        have := hQ ρ' ha
        simp only [blockQ]
        split
        · rename_i e; rw [if_pos e] at this; exact this
        · rename_i e; rw [if_neg e] at this; exact this
      · rename_i hno
        have h2 := hr _ _ h
        cases o with
        | call rv H n2 => exact h2.elim
        | code e s2 n2 =>
          intro hs
          obtain ⟨h3, h4, h5⟩ := h2 hs
          refine ⟨h3, h4, fun ρ ro Q htop hQ => AW.block (h5 ρ ro _ htop fun ρ' ha => ?_)⟩
          have := hQ ρ' ha
          cases e with
          | exit j => exact absurd h (hno _ _ _)
          | _ => exact this
    · -- cond
      rename_i c x y
      split at h
      · rename_i hc
        have h2 := hr _ _ h
        cases o with
        | call rv H n2 => exact h2.elim
        | code e s2 n2 =>
          intro hs
          obtain ⟨h3, h4, h5⟩ := h2 hs
          exact ⟨h3, h4, fun ρ ro Q htop hQ => AW.cond (t := true) (by rw [ev_ren, hc]; rfl) (fun _ => h5 ρ ro Q htop hQ) (fun e => by cases e)⟩
      · rename_i hc
        have h2 := hr _ _ h
        cases o with
        | call rv H n2 => exact h2.elim
        | code e s2 n2 =>
          intro hs
          obtain ⟨h3, h4, h5⟩ := h2 hs
          exact ⟨h3, h4, fun ρ ro Q htop hQ => AW.cond (t := false) (by rw [ev_ren, hc]; rfl) (fun e => by cases e) (fun _ => h5 ρ ro Q htop hQ)⟩
      · cases h
    · exact rounds_ok hr _ h
    · -- region
      rename_i id ops dr
      replace h := guardO_some h
      obtain ⟨hok, h⟩ := h
      split at h
      · rename_i s1 n1 hop
        cases h
        intro hs
        cases dr with
        | true =>
          obtain ⟨h3, h4, h5⟩ := sdraw_ok (id := id) hT hr hok hs hop
          exact ⟨h3, h4, fun ρ ro Q _ hQ => h5 ρ ro Q hQ⟩
        | false =>
          obtain ⟨h3, h4, h5⟩ := sops_ok hT hr hok ops.toList 0 s n (fun k => by simp) hs hop
          exact ⟨h3, h4, fun ρ ro Q _ hQ => AW.ops (h5 ρ ro _ hQ)⟩
      · cases h
    · -- rangeFunc
      rename_i g ps assign body
      split at h
      · rename_i f fs cs hg
        replace h := guardO_some h
        obtain ⟨h1, h⟩ := h
        simp only [Bool.and_eq_true] at h1
        split at h
        · rename_i rv H n1 hr1
          split at h
          · rename_i v1 st' pend f1 m1 snap1 ps1 as1 bd1 hg1
            replace h := guardO_some h
            obtain ⟨h4, h⟩ := h
            -- the loop behind the iterator's call
            have fin : ∀ (pe : Option Code), pe = pend → ∀ (e : Exit), (∀ (ρ : Nat → Nat) (Q : Exit → AS → Prop) (sx : AS), Q e sx → match (generalizing := false) pe with
                | none => Q .normal sx
                | some c => AW P none N c Q sx) →
                Sem P (.code true N (.rangeFunc g ps assign body) s n) (.code e { s with heap := hset H n n (.loop .exhausted pe (n + 1) N s.slots ps assign body) } n1) := by
              intro pe hpe e hq hs
              subst hpe
              have hsh := sc_heap_of hs
              have hlsc : (AObj.loop .ready none (n + 1) N s.slots ps assign body).sc (n + 2) = true := by
                simp only [AObj.sc, scS_mono (Nat.le_add_right n 2) _ (sc_slots_of hs), Bool.and_true]
                simp [Nat.blt_eq]
              have hself : Nat.blt n (n + 2) = true := by simp [Nat.blt_eq]
              have h0 : scH (n + 2) (hset s.heap n n (.loop .ready none (n + 1) N s.slots ps assign body)) = true := scH_set _ _ _ _ (scH_mono (Nat.le_add_right n 2) _ hsh) (by omega) (by omega) hlsc
              have hargs : scL (n + 2) (fs ++ [.yl n n] ++ cs) = true := scL_append (scL_append (scL_mono (Nat.le_add_right n 2) _ h1.1) (by simp only [scL, HV.sc, hself, Bool.and_self])) (scL_mono (Nat.le_add_right n 2) _ h1.2)
              obtain ⟨h2, h3, st, hc⟩ := hr _ _ hr1 hargs h0
              have st0 : Step n (n + 2) s.heap (hset s.heap n n (.loop .ready none (n + 1) N s.slots ps assign body)) :=
                ⟨by omega, LoopKeep.set (by rw [sch_fresh hsh]; intros; simp), Back.set (.inl (Nat.le_refl _))⟩
              have st1 := st0.trans hsh st
              have hgl : hget (hset s.heap n n (.loop .ready none (n + 1) N s.slots ps assign body)) n = some (n, .loop .ready none (n + 1) N s.slots ps assign body) := by rw [hget_hset, if_pos rfl]
              obtain ⟨_, _, he1⟩ := st.loop _ _ _ _ _ _ _ _ _ _ hgl _ hg1
              cases he1
              have hls1 : (AObj.loop .exhausted pe (n + 1) N s.slots ps assign body).sc n1 = true := by
                simp only [AObj.sc, scS_mono st1.le _ (sc_slots_of hs), Bool.and_true]
                have := st.le
                simp [Nat.blt_eq]; omega
              have hn1 : n < n1 := by have := st.le; omega
              refine ⟨by simp only [AS.sc, scS_mono st1.le _ (sc_slots_of hs), scH_set _ n n _ h3 hn1 hn1 hls1, Bool.and_self], st1.trans hsh ⟨Nat.le_refl _, LoopKeep.setL hg1, Back.set (.inr ⟨_, hg1⟩)⟩, fun ρ ro Q htop hQ => ?_⟩
              have hro : ro = none := htop rfl
              subst hro
              have hg' : (s.ren ρ).ev g = some (.fn (.func f) (renL ρ fs) (renL ρ cs)) := by rw [ev_ren, hg]; rfl
              refine AW.rangeFunc n hg' fun fn ver => ?_
              have hu := Agree.upd n ver ρ
              have ha1 : Agree n ρ (upd (upd ρ n ver) (n + 1) fn) := hu.trans (Nat.le_succ n) (Agree.upd (n + 1) fn _)
              have e0 : hset (s.ren ρ).heap n ver (.loop .ready none fn N (s.ren ρ).slots ps assign body) = renH (upd (upd ρ n ver) (n + 1) fn) (hset s.heap n n (.loop .ready none (n + 1) N s.slots ps assign body)) := by
                rw [renH_set]
                simp only [AObj.ren, AS.ren]
                rw [renH_agree ha1 _ hsh, renS_agree ha1 _ (sc_slots_of hs), upd_at]
                simp [upd]
              have e1 : renL ρ fs ++ [.yl n ver] ++ renL ρ cs = renL (upd (upd ρ n ver) (n + 1) fn) (fs ++ [.yl n n] ++ cs) := by
                rw [renL_append, renL_append, renL_agree ha1 _ h1.1, renL_agree ha1 _ h1.2]
                simp only [renL, HV.ren]
                have : upd (upd ρ n ver) (n + 1) fn n = ver := by simp [upd]
                rw [this]
              rw [e0, e1]
              refine hc _ _ fun ρ' hag => ?_
              have hv : ρ' n = ver := by rw [← hag n (by omega)]; simp [upd]
              have hfn : ρ' (n + 1) = fn := by rw [← hag (n + 1) (by omega)]; simp [upd]
              have ha2 : Agree n ρ ρ' := ha1.trans (Nat.le_add_right n 2) hag
              have hsl : renS ρ' s.slots = (s.ren ρ).slots := (renS_agree ha2 _ (sc_slots_of hs)).symm
              have hQ' := hQ ρ' ha2
              have e2 : (({ s with heap := hset H n n (.loop .exhausted pe (n + 1) N s.slots ps assign body) } : AS)).ren ρ' = { s.ren ρ with heap := hset (renH ρ' H) n ver (.loop .exhausted pe fn N (s.ren ρ).slots ps assign body) } := by
                simp only [AS.ren, renH_set, AObj.ren, hv, hfn]
                rw [renS_agree ha2 _ (sc_slots_of hs)]
              rw [e2] at hQ'
              refine ⟨st', pe, ?_, ?_, ?_⟩
              · rw [hget_ren, hg1]
                simp only [Option.map_some, AObj.ren, hv, hfn, hsl]
              · rintro rfl; cases h4
              · have := hq ρ Q _ hQ'
                cases pe with
                | none => exact this
                | some c => exact this
            split at h
            · cases h
              exact fin none rfl .normal (fun ρ Q sx hx => hx)
            · cases h
              exact fin (some .ret) rfl .ret (fun ρ Q sx hx => AW.ret hx)
            · cases h
              exact fin (some (.exit _)) rfl (.exit _) (fun ρ Q sx hx => AW.exit hx)
            · cases h
          · cases h
        · cases h
      · cases h
    · cases h

theorem run_ok (hT : T.Ok P) : ∀ k, Good P (run T k)
  | 0 => fun _ _ h => by cases h
  | k + 1 => step_ok hT (run_ok hT k)

/-- a contract from the evaluation -/
theorem Fresh.of_run (hT : T.Ok P) {f : FuncId} {args : List HV} {k n1 : Nat} {rv q : HV} {H : Heap} (h : run T k (.call f args [] 0) = some (.call rv H n1)) (ha : scL 0 args = true) (hn : (nf rv && nfH H) = true)
    (hf : sfrz 8 H rv = some q) (hq : q.sc 0 = true) : Fresh P f args q := by
  obtain ⟨_, _, _, hcall⟩ := run_ok hT k _ _ h ha rfl
  have h5 := hcall (fun v => v) (fun r' H' => ∃ ρ', r' = rv.ren ρ' ∧ H' = renH ρ' H) fun ρ' _ => ⟨ρ', rfl, rfl⟩
  rw [renL_id] at h5
  simp only [Bool.and_eq_true] at hn
  refine ⟨sc0_clean q hq, _, 8, h5, ?_⟩
  rintro r' H' ⟨ρ', rfl, rfl⟩
  exact ⟨nf_ren ρ' rv hn.1, nfH_ren ρ' H hn.2, by rw [sfrz_sound 8 H ρ' rv q hf, ren_sc0 ρ' hq]⟩
end
end Go.AW
