import Derived.Test.YtlddcjolelmpmaaGreatWr3
namespace Go.AW
open Go
set_option linter.unusedSimpArgs false
noncomputable def sops (r : Task → Option Out) (T : Tabs) (all : List Oper) : List Oper → AS → Nat → Option (AS × Nat)
 | [], s, n => some (s, n)
 | o :: rest, s, n => match o.guard with
  | none => match sop r T o s n with
   | some (s1, n1) => sops r T all rest s1 n1
   | none => none
  | some (j, want) => match all[j]? with
   | some oj => match oj.dst with
    | some d => match sgetR s.slots d with
     | some (.bool b) => match (b == want) with
      | true => match sop r T o (s.putR (some d) (.bool want)) n with
       | some (s1, n1) => sops r T all rest s1 n1
       | none => none
      | false => sops r T all rest ((s.putR (some d) (.bool !want)).putR o.dst (.v undef)) n
     | _ => none
    | none => none
   | none => none
noncomputable def sfrz : Nat → Heap → HV → Option HV
 | 0, _, h => some h
 | n + 1, D, h => match h with
  | .agg cs => match cs.mapM (sfrz n D) with
   | some cs => some (.agg cs)
   | none => none
  | .tup cs => match cs.mapM (sfrz n D) with
   | some cs => some (.tup cs)
   | none => none
  | .fn f fs cs => match fs.mapM (sfrz n D), cs.mapM (sfrz n D) with
   | some fs, some cs => some (.fn f fs cs)
   | _, _ => none
  | .ar id ver k off m => match hgetR D id with
   | some (ver', .arr _ _ cs) => guardO (Nat.beq ver ver' && Nat.ble (off + m * k) cs.length) (match ((cs.drop off).take (m * k)).mapM (sfrz n D) with
    | some cs => some (.sl k m cs)
    | none => none)
   | _ => none
  | .ptr id ver off => match hgetR D id with
   | some (ver', .arr _ _ cs) => guardO (Nat.beq ver ver') (match cs.mapM (sfrz n D) with
    | some cs => some (.fptr cs off)
    | none => none)
   | _ => none
  | h => some h
theorem sfrz_sound (n : Nat) (D : Heap) (ρ : Nat → Nat) : ∀ h h', sfrz n D h = some h' → frz n (renH ρ D) (h.ren ρ) = h'.ren ρ := by
 induction n with
 | zero => intro h h' e; cases e; rfl
 | succ n ih =>
  have ihL : ∀ (cs ds : List HV), cs.mapM (sfrz n D) = some ds → (renL ρ cs).map (frz n (renH ρ D)) = renL ρ ds := by
   intro cs
   induction cs with
   | nil => intro ds e; simp at e; subst e; rfl
   | cons c cs ihc =>
    intro ds e
    simp only [List.mapM_cons, Option.pure_def, Option.bind_eq_bind, Option.bind_eq_some_iff] at e
    obtain ⟨d, hd, es, he, e⟩ := e
    cases e
    simp only [renL, List.map_cons, ih _ _ hd, ihc _ he]
  intro h h' e
  unfold sfrz at e
  simp only [hgetR_eq] at e
  split at e
  ·split at e
   ·rename_i hc; cases e; simp only [HV.ren, frz, ihL _ _ hc]
   ·cases e
  ·split at e
   ·rename_i hc; cases e; simp only [HV.ren, frz, ihL _ _ hc]
   ·cases e
  ·split at e
   ·rename_i hf hc; cases e; simp only [HV.ren, frz, ihL _ _ hf, ihL _ _ hc]
   ·cases e
  ·split at e
   ·rename_i id ver k off m _ ver' k' e' cs hg
    replace e := guardO_some e
    obtain ⟨h1, e⟩ := e
    simp only [Bool.and_eq_true] at h1
    have hv := Nat.eq_of_beq_eq_true h1.1
    subst hv
    split at e
    ·rename_i ds hc
     cases e
     simp only [HV.ren, frz, hget_ren, hg, Option.map_some, AObj.ren]
     rw [if_pos ⟨trivial, by rw [renL_len]; exact Nat.le_of_ble_eq_true h1.2⟩, ← renL_drop, ← renL_take, ihL _ _ hc]
    ·cases e
   ·cases e
  ·split at e
   ·rename_i id ver off _ ver' k' e' cs hg
    replace e := guardO_some e
    obtain ⟨h1, e⟩ := e
    have hv := Nat.eq_of_beq_eq_true h1
    subst hv
    split at e
    ·rename_i ds hc
     cases e
     simp only [HV.ren, frz, hget_ren, hg, Option.map_some, AObj.ren, if_true]
     rw [ihL _ _ hc]
    ·cases e
   ·cases e
  ·cases e
   cases h <;> first | rfl | (exfalso; rename_i h1 h2 h3 h4 h5; first | exact h1 _ rfl | exact h2 _ rfl | exact h3 _ _ _ rfl | exact h4 _ _ _ _ _ rfl | exact h5 _ _ _ rfl)
theorem ACall.conv {P : Program} {f : FuncId} {args : List HV} {H : Heap} {K K' : HV → Heap → Prop} (h : ACall P f args H K) (hc : ∀ r H', K r H' → ∃ r2 H2, Conv H' r r2 H2 ∧ K' r2 H2) : ACall P f args H K' :=
 ⟨h.1, fun μ w vs hs hr => (h.2 μ w vs hs hr).mono fun _ w' ⟨v, r, H', μ', e, k, hs', hr', E⟩ => by
  obtain ⟨r2, H2, hconv, hk⟩ := hc r H' k
  obtain ⟨μ2, hs2, hr2, E2⟩ := hconv w' μ' v hs' hr'
  exact ⟨v, r2, H2, μ2, e, hk, hs2, hr2, E.trans E2⟩⟩
noncomputable def spBox (s : AS) (x : Operand) : Option HV := match s.evR x with
  | some hv => match hv.cells? with
   | some cs => some (.fptr cs 0)
   | none => none
  | none => none
noncomputable def spBuild (T : Tabs) (s : AS) (t : TypeId) (m : Nat) (ps : Array (Nat × Operand)) : Option HV := guardO (Nat.ble m 16777216) (match sslice T.ty s t m ps.toList with
  | some (k, _, cs) => some (.sl k m cs)
  | none => none)
noncomputable def spCall (r : Task → Option Out) (s : AS) (f : Operand) (aa : Array Operand) : Option HV := match s.evR f, aa.toList.mapM s.evR with
  | some (.fn (.func g) fs cs), some hs => (match (fs ++ hs ++ cs).mapM (sfrz 8 s.heap) with
   | some as' => guardO (scL 0 as') (match r (.call g as' [] 0) with
    | some (.call rv H _) => guardO (scL 0 (fs ++ hs ++ cs) || (nf rv && nfH H)) (match sfrz 8 H rv with
     | some q => guardO (q.sc 0) (some q)
     | none => none)
    | _ => none)
   | none => none)
  | _, _ => none
noncomputable def sopS (r : Task → Option Out) (T : Tabs) (o : Oper) (s : AS) : Option HV :=
 match o.op with
 | .box _ x => spBox s x
 | .buildSlice t m ps => spBuild T s t m ps
 | .call ⟨.value f, aa, _⟩ => spCall r s f aa
 | op => sval T.ty op s
noncomputable def ssteps (r : Task → Option Out) (T : Tabs) (all : List Oper) : List Oper → AS → Nat → Option AS
 | [], s, _ => some s
 | o :: rest, s, n => match o.guard with
  | none => match sopS r T o s with
   | some h => guardO (h.sc n) (ssteps r T all rest (s.putR o.dst h) n)
   | none => none
  | some (j, want) => match all[j]? with
   | some oj => match oj.dst with
    | some d => match sgetR s.slots d with
     | some (.bool b) => match (b == want) with
      | true => match sopS r T o (s.putR (some d) (.bool want)) with
       | some h => guardO (h.sc n) (ssteps r T all rest ((s.putR (some d) (.bool want)).putR o.dst h) n)
       | none => none
      | false => ssteps r T all rest ((s.putR (some d) (.bool !want)).putR o.dst (.v undef)) n
     | _ => none
    | none => none
   | none => none
def steadyKind (o : Oper) : Bool := match o.op with
 | .alloc _ | .store _ _ _ | .makeSlice _ _ _ | .makeMap _ _ | .mapUpdate _ _ _ _ | .insert _ _ _ _ | .lookup _ _ _ _ | .range _ _ | .next _ _ | .entry _ | .build _ _ => false
 | .call ⟨.builtin .append, _, _⟩ => false
 | _ => true
def callKind (o : Oper) : Bool := match o.op with
 | .call ⟨.value _, _, _⟩ | .box _ _ | .buildSlice _ _ _ => true
 | _ => false
def fnB : HV → Bool
 | .fn _ _ (_ :: _) => true
 | _ => false
noncomputable def greedy (r : Task → Option Out) (T : Tabs) (all : List Oper) : List Oper → AS → Nat → Nat
 | [], _, p => p
 | o :: rest, s, p => bif steadyKind o then (match o.guard with
  | none => match sopS r T o s with
   | some h => bif fnB h && callKind o then p else greedy r T all rest (s.putR o.dst h) (p + 1)
   | none => p
  | some (j, want) => match all[j]? with
   | some oj => match oj.dst with
    | some d => match sgetR s.slots d with
     | some (.bool b) => match (b == want) with
      | true => match sopS r T o s with
       | some h => greedy r T all rest (s.putR o.dst h) (p + 1)
       | none => p
      | false => greedy r T all rest (s.putR o.dst (.v undef)) (p + 1)
     | _ => p
    | none => p
   | none => p) else p
def plain : List Oper → Nat → Nat
 | [], p => p
 | o :: rest, p => bif (steadyKind o && !callKind o) then plain rest (p + 1) else p
noncomputable def sdrawP (r : Task → Option Out) (T : Tabs) (ops : Array Oper) (s : AS) (n p : Nat) : Option (AS × Nat) :=
 guardO (drawOk ops p) (match ssteps r T ops.toList (ops.toList.take p) s n with
  | some s1 => sops r T ops.toList (ops.toList.drop p) s1 n
  | none => none)
noncomputable def sdraw (r : Task → Option Out) (T : Tabs) (ops : Array Oper) (s : AS) (n : Nat) : Option (AS × Nat) :=
 match sdrawP r T ops s n (greedy r T ops.toList ops.toList s 0) with
 | some x => some x
 | none => sdrawP r T ops s n (plain ops.toList 0)
noncomputable def sres1 (T : TypeId → Option TyI) (s : AS) (rv : ResultVar) : Option HV :=
 match rv with
 | .tmp t => sgetR s.slots t
 | .cell t ty' => match T ty', sgetR s.slots t with
  | some U, some (.fptr cs off) => sload U cs off
  | some U, some (.ptr id ver off) => match hgetR s.heap id with
   | some (ver', .arr _ _ cs) => guardO (Nat.beq ver ver') (sload U cs off)
   | _ => none
  | _, _ => none
noncomputable def sres (T : TypeId → Option TyI) (s : AS) : List ResultVar → Option (List HV)
 | [] => some []
 | rv :: rvs => match sres1 T s rv, sres T s rvs with
  | some h, some hs => some (h :: hs)
  | _, _ => none
mutual
def HV.refs (n : Nat) : HV → List Nat → List Nat
 | .agg cs, a | .tup cs, a | .sl _ _ cs, a | .fptr cs _, a => refsL n cs a
 | .ar id _ _ _ _, a | .ptr id _ _, a | .mp id _, a | .yl id _, a | .it id _, a => bif Nat.blt id n then a else id :: a
 | .fn _ fs cs, a => refsL n fs (refsL n cs a)
 | _, a => a
def refsL (n : Nat) : List HV → List Nat → List Nat
 | [], a => a
 | c :: cs, a => c.refs n (refsL n cs a)
end
def refsS (n : Nat) : List (Nat × HV) → List Nat → List Nat
 | [], a => a
 | (_, h) :: l, a => h.refs n (refsS n l a)
def refsE (n : Nat) : List (List UInt8 × HV) → List Nat → List Nat
 | [], a => a
 | (_, h) :: l, a => h.refs n (refsE n l a)
def AObj.refs (n : Nat) : AObj → List Nat → List Nat
 | .arr _ _ cs, a => refsL n cs a
 | .map es, a => refsE n es a
 | .iter mid _ _ _, a => bif Nat.blt mid n then a else mid :: a
 | .loop _ _ _ _ snap _ _ _, a => refsS n snap a
def oldRefs (n : Nat) : Heap → List Nat → List Nat
 | [], a => a
 | (i, _, o) :: l, a => bif Nat.blt i n then o.refs n (oldRefs n l a) else oldRefs n l a
def memN (i : Nat) : List Nat → Bool
 | [] => false
 | j :: l => bif Nat.beq i j then true else memN i l
def mark (n : Nat) (H : Heap) : Nat → List Nat → List Nat → List Nat
 | 0, _, m => m
 | _ + 1, [], m => m
 | f + 1, i :: w, m => bif memN i m then mark n H f w m else match hget H i with
  | some (_, o) => mark n H f (o.refs n w) (i :: m)
  | none => mark n H f w m
def hkeep (n : Nat) (m : List Nat) : Heap → Heap
 | [] => []
 | (i, x) :: l => bif (Nat.blt i n || memN i m) then (i, x) :: hkeep n m l else hkeep n m l
def anyNew (n : Nat) : Heap → Bool
 | [] => false
 | (i, _) :: l => bif Nat.blt i n then anyNew n l else true
def gc (n : Nat) (rv : HV) (H : Heap) : Heap := bif anyNew n H then hkeep n (mark n H 200 (rv.refs n (oldRefs n H [])) []) H else H
theorem hkeep_get (n : Nat) (m : List Nat) : ∀ (H : Heap) (id : Nat) (x : Nat × AObj), hget (hkeep n m H) id = some x → hget H id = some x
 | [], _, _, h => h
 | (i, v, o) :: l, id, x, h => by
  simp only [hkeep] at h
  simp only [hget]
  cases hb : (Nat.blt i n || memN i m) with
  | true =>
   rw [hb] at h
   simp only [cond_true, hget] at h
   split
   ·rename_i e; rw [if_pos e] at h; exact h
   ·rename_i e; rw [if_neg e] at h; exact hkeep_get n m l id x h
  | false =>
   rw [hb] at h
   simp only [cond_false] at h
   split
   ·rename_i e
    subst e
    exfalso
    have : ∀ l : Heap, hget (hkeep n m l) id = none := fun l => by
     induction l with
     | nil => rfl
     | cons y l ih =>
      obtain ⟨j, y⟩ := y
      simp only [hkeep]
      cases hb2 : (Nat.blt j n || memN j m) with
      | true =>
       simp only [cond_true, hget]
       split
       ·rename_i e; subst e; rw [hb] at hb2; cases hb2
       ·exact ih
      | false => exact ih
    rw [this] at h
    cases h
   ·exact hkeep_get n m l id x h
theorem gc_get {n : Nat} {rv : HV} {H : Heap} {id : Nat} {x : Nat × AObj} (h : hget (gc n rv H) id = some x) : hget H id = some x := by
 unfold gc at h
 cases hb : anyNew n H with
 | true => rw [hb] at h; exact hkeep_get _ _ _ _ _ h
 | false => rw [hb] at h; exact h
theorem hkeep_sc {k n : Nat} {m : List Nat} : ∀ {H : Heap}, scH k H = true → scH k (hkeep n m H) = true
 | [], _ => rfl
 | (i, v, o) :: l, h => by
  simp only [scH, Bool.and_eq_true] at h
  simp only [hkeep]
  cases (Nat.blt i n || memN i m) with
  | true => simp only [cond_true, scH, h.1.1.1, h.1.1.2, h.1.2, hkeep_sc h.2, Bool.and_self]
  | false => exact hkeep_sc h.2
theorem gc_sc {k n : Nat} {rv : HV} {H : Heap} (h : scH k H = true) : scH k (gc n rv H) = true := by
 unfold gc
 cases anyNew n H with
 | true => exact hkeep_sc h
 | false => exact h
theorem Step.drop {n n' : Nat} {H H1 H2 : Heap} (h : Step n n' H H1) (hd : ∀ id x, hget H2 id = some x → hget H1 id = some x) : Step n n' H H2 :=
 ⟨h.le, fun id v st pend f m snap ps a b hg x hx => h.loop id v st pend f m snap ps a b hg x (hd id x hx), fun id hid y hy => h.back id hid y (hd id y hy)⟩
mutual
theorem HV.ren_id : ∀ h : HV, h.ren (fun v => v) = h
 | .int _ _ => rfl
 | .bool _ => rfl
 | .str _ => rfl
 | .v _ => rfl
 | .agg cs => congrArg HV.agg (renL_id cs)
 | .tup cs => congrArg HV.tup (renL_id cs)
 | .sl k m cs => congrArg (HV.sl k m) (renL_id cs)
 | .ar _ _ _ _ _ => rfl
 | .ptr _ _ _ => rfl
 | .fptr cs off => congrArg (fun x => HV.fptr x off) (renL_id cs)
 | .fn f fs cs => by simp only [HV.ren]; rw [renL_id fs, renL_id cs]
 | .mp _ _ => rfl
 | .yl _ _ => rfl
 | .it _ _ => rfl
theorem renL_id : ∀ cs : List HV, renL (fun v => v) cs = cs
 | [] => rfl
 | c :: cs => by simp only [renL]; rw [HV.ren_id c, renL_id cs]
end
theorem ren_sc0 (ρ : Nat → Nat) {h : HV} (hs : h.sc 0 = true) : h.ren ρ = h := (HV.ren_agree (ρ' := fun v => v) (fun v hv => by omega) h hs).trans h.ren_id
theorem renL_sc0 (ρ : Nat → Nat) {h : List HV} (hs : scL 0 h = true) : renL ρ h = h := (renL_agree (ρ' := fun v => v) (fun v hv => by omega) h hs).trans (renL_id h)
mutual
theorem sc0_clean : ∀ h : HV, h.sc 0 = true → clean h
 | .int _ _, _ => trivial
 | .bool _, _ => trivial
 | .str _, _ => trivial
 | .v _, _ => trivial
 | .agg cs, h => sc0_cleanL cs h
 | .tup cs, h => sc0_cleanL cs h
 | .sl _ _ cs, h => sc0_cleanL cs h
 | .fptr cs _, h => sc0_cleanL cs h
 | .fn _ fs cs, h => by
  simp only [HV.sc, Bool.and_eq_true] at h
  exact ⟨sc0_cleanL fs h.1, sc0_cleanL cs h.2⟩
 | .ar _ v _ _ _, h => absurd (blt_lt h) (Nat.not_lt_zero _)
 | .ptr _ v _, h => absurd (blt_lt h) (Nat.not_lt_zero _)
 | .mp _ v, h => absurd (blt_lt h) (Nat.not_lt_zero _)
 | .yl _ v, h => absurd (blt_lt h) (Nat.not_lt_zero _)
 | .it _ v, h => absurd (blt_lt h) (Nat.not_lt_zero _)
theorem sc0_cleanL : ∀ cs : List HV, scL 0 cs = true → cleanL cs
 | [], _ => trivial
 | c :: cs, h => by
  simp only [scL, Bool.and_eq_true] at h
  exact ⟨sc0_clean c h.1, sc0_cleanL cs h.2⟩
end
noncomputable def rounds (r : Task → Option Out) (top : Bool) (N : Nat) (x : Code) : Nat → AS → Nat → Option Out
 | 0, _, _ => none
 | k + 1, s, n => match r (.code top N x s n) with
  | some (.code .normal s1 n1) => rounds r top N x k s1 n1
  | o => o
def isEnd : Exit → Bool
 | .normal | .ret => true
 | _ => false
def notBusy : LoopState → Bool
 | .busy => false
 | _ => true
def strsOf : List HV → Option (List (List UInt8))
 | [] => some []
 | .str l :: cs => match strsOf cs with
  | some ls => some (l :: ls)
  | none => none
 | _ => none
def intsOf : List HV → Option (List Int)
 | [] => some []
 | .int .i64 n :: cs => match intsOf cs with
  | some ls => some (n :: ls)
  | none => none
 | _ => none
theorem strsOf_eq : ∀ {cs : List HV} {ls : List (List UInt8)}, strsOf cs = some ls → cs = ls.map .str
 | [], ls, h => by cases h; rfl
 | c :: cs, ls, h => by
  unfold strsOf at h
  split at h
  ·cases h; simp_all
  ·rename_i l cs' heq
   cases heq
   split at h
   ·rename_i ls' hl
    cases h
    rw [strsOf_eq hl]
    rfl
   ·cases h
  ·cases h
theorem intsOf_eq : ∀ {cs : List HV} {ls : List Int}, intsOf cs = some ls → cs = ls.map (.int .i64)
 | [], ls, h => by cases h; rfl
 | c :: cs, ls, h => by
  unfold intsOf at h
  split at h
  ·cases h; simp_all
  ·rename_i l cs' heq
   cases heq
   split at h
   ·rename_i ls' hl
    cases h
    rw [intsOf_eq hl]
    rfl
   ·cases h
  ·cases h
noncomputable def ssort (k : Bool) (args : List HV) (H : Heap) (n : Nat) : Option Out :=
 match args with
 | [.v (.slice none 0 0)] => some (.call (.tup []) H n)
 | [.ar id ver 1 0 m] => match hgetR H id with
  | some (ver', .arr 1 e cs) => match k with
   | true => match strsOf cs with
    | some ls => guardO (Nat.beq ver ver' && (Nat.beq m ls.length && Nat.blt ls.length 4611686018427387904)) (some (.call (.tup []) (hsetR H id ver (.arr 1 e ((isort (fun a b => decide (a ≤ b)) ls).map .str))) n))
    | none => none
   | false => match intsOf cs with
    | some ls => guardO (Nat.beq ver ver' && (Nat.beq m ls.length && Nat.blt ls.length 4611686018427387904)) (some (.call (.tup []) (hsetR H id ver (.arr 1 e ((isort (fun a b => decide (a ≤ b)) ls).map (.int .i64)))) n))
    | none => none
  | _ => none
 | _ => none
noncomputable def stRegion (T : Tabs) (r : Task → Option Out) (ops : Array Oper) (dr : Bool) (N : Nat) (s : AS) (n : Nat) : Option Out := guardO (ops.toList.all fun o => okd N o.dst) (match (match dr with
        | true => sdraw r T ops s n
        | false => sops r T ops.toList ops.toList s n) with
      | some (s1, n1) => some (.code .normal s1 n1)
      | none => none)
noncomputable def stRange (r : Task → Option Out) (top : Bool) (N : Nat) (g : Operand) (ps : Array Tmp) (assign body : Code) (s : AS) (n : Nat) : Option Out := match top, s.evR g with
      | true, some (.fn (.func f) fs cs) => guardO (scL n fs && scL n cs) (match r (.call f (fs ++ [.yl n n] ++ cs) (hsetR s.heap n n (.loop .ready none (n + 1) N s.slots ps assign body)) (n + 2)) with
        | some (.call _ H n1) => match hgetR H n with
          | some (_, .loop st pend _ _ _ _ _ _) => guardO (notBusy st) (match pend with
            | none => some (.code .normal { s with heap := hsetR H n n (.loop .exhausted none (n + 1) N s.slots ps assign body) } n1)
            | some .ret => some (.code .ret { s with heap := hsetR H n n (.loop .exhausted (some .ret) (n + 1) N s.slots ps assign body) } n1)
            | some (.exit i) => some (.code (.exit i) { s with heap := hsetR H n n (.loop .exhausted (some (.exit i)) (n + 1) N s.slots ps assign body) } n1)
            | _ => none)
          | _ => none
        | _ => none)
      | _, _ => none
noncomputable def stBody (T : Tabs) (r : Task → Option Out) (fn : Func) (c : Code) (args : List HV) (H : Heap) (n : Nat) : Option Out := guardO (Nat.ble args.length fn.ntmps) (match r (.code true fn.ntmps c ⟨enumS 0 args, H⟩ n) with
          | some (.code e s1 n1) => guardO (isEnd e) (match sres T.ty s1 fn.results.toList with
            | some hs => guardO ((joinR hs).sc n1) (some (.call (joinR hs) (gc n (joinR hs) s1.heap) n1))
            | none => none)
          | _ => none)
noncomputable def stCall (T : Tabs) (r : Task → Option Out) (f : FuncId) (args : List HV) (H : Heap) (n : Nat) : Option Out := match T.sort f with
   | some k => ssort k args H n
   | none => match guardO (scL 0 args) (T.extP f args) with
    | some rv => guardO (rv.sc 0) (some (.call rv H n))
    | none => match (match args.mapM (sfrz 8 H) with
      | some as' => guardO (scL 0 as') (T.ext f as')
      | none => none) with
     | some rv => guardO (rv.sc 0) (some (.call rv H n))
     | none => match T.fn f with
      | some fn => match fn.body with
        | some c => stBody T r fn c args H n
        | none => none
      | none => none
noncomputable def stCut (T : Tabs) (r : Task → Option Out) (top : Bool) (N : Nat) (ks : Option (List Nat)) (y : Code) (s : AS) (n : Nat) : Option Out := match ks with
      | some ks => keepK s.slots ks fun l => r (.code top N y ⟨l, s.heap⟩ n)
      | none => r (.code top N y s n)
noncomputable def stSeq (T : Tabs) (r : Task → Option Out) (top : Bool) (N : Nat) (x y : Code) (s : AS) (n : Nat) : Option Out := match r (.code top N x s n) with
      | some (.code .normal s1 n1) => stCut T r top N (match x with
        | .region id _ _ => T.keep N id
        | _ => none) y s1 n1
      | o => o
noncomputable def stBlock (r : Task → Option Out) (top : Bool) (N : Nat) (i : Nat) (x : Code) (s : AS) (n : Nat) : Option Out := match r (.code top N x s n) with
      | some (.code (.exit j) s1 n1) => some (.code (if j = i then .normal else .exit j) s1 n1)
      | o => o
noncomputable def stCond (r : Task → Option Out) (top : Bool) (N : Nat) (c : Operand) (x y : Code) (s : AS) (n : Nat) : Option Out := match s.evR c with
      | some (.bool true) => r (.code top N x s n)
      | some (.bool false) => r (.code top N y s n)
      | _ => none
noncomputable def stCode (T : Tabs) (r : Task → Option Out) (top : Bool) (N : Nat) (c : Code) (s : AS) (n : Nat) : Option Out := match c with
  | .skip => some (.code .normal s n)
  | .exit i => some (.code (.exit i) s n)
  | .ret => some (.code .ret s n)
  | .seq x y => stSeq T r top N x y s n
  | .block i x => stBlock r top N i x s n
  | .cond c x y => stCond r top N c x y s n
  | .loop x => rounds r top N x 5000 s n
  | .region _ ops dr => stRegion T r ops dr N s n
  | .rangeFunc g ps assign body => stRange r top N g ps assign body s n
  | _ => none
noncomputable def step (T : Tabs) (r : Task → Option Out) : Task → Option Out
 | .code top N c s n => stCode T r top N c s n
 | .call f args H n => stCall T r f args H n
noncomputable def run (T : Tabs) : Nat → Task → Option Out
 | 0, _ => none
 | k + 1, t => step T (run T k) t
section
variable {P : Program} {T : Tabs} {N n n' : Nat} {s s' : AS} {r : Task → Option Out}
theorem sops_ok (hT : T.Ok P) (hr : Good P r) {ops : Array Oper} (hok : ops.toList.all (fun o => okd N o.dst) = true) : ∀ (l : List Oper) (i : Nat) (s : AS) (n : Nat), (∀ k, l[k]? = ops[i + k]?) → s.sc n = true → sops r T ops.toList l s n = some (s', n') →
  s'.sc n' = true ∧ Step n n' s.heap s'.heap ∧ ∀ (ρ : Nat → Nat) (ro : Option Nat) (K : AS → Prop), (∀ ρ', Agree n ρ ρ' → K (s'.ren ρ')) → AOps P ro N ops (List.range' i l.length) K (s.ren ρ)
 | [], i, s, n, _, hs, h => by
  cases h
  exact ⟨hs, Step.refl _ _, fun ρ ro K hK => AOps.nil (hK ρ (Agree.refl _ _))⟩
 | o :: l, i, s, n, hl, hs, h => by
  have ho : ops[i]? = some o := by have := hl 0; simpa using this.symm
  have hN : okd N o.dst = true := List.all_eq_true.1 hok o (by
   have := Array.getElem?_toList (xs := ops) (i := i)
   rw [ho] at this
   exact List.mem_of_getElem? this)
  have hl' : ∀ k, l[k]? = ops[i + 1 + k]? := fun k => by
   have := hl (k + 1)
   rw [List.getElem?_cons_succ] at this
   rw [this]; congr 1; omega
  -- an operation, then the rest
  have go : ∀ (s0 : AS), s0.sc n = true → s0.heap = s.heap → (match sop r T o s0 n with
    | some (s1, n1) => sops r T ops.toList l s1 n1
    | none => none) = some (s', n') → s'.sc n' = true ∧ Step n n' s.heap s'.heap ∧ ∀ (ρ : Nat → Nat) (ro : Option Nat) (K : AS → Prop), (∀ ρ', Agree n ρ ρ' → K (s'.ren ρ')) → AOp P ro N o (AOps P ro N ops (List.range' (i + 1) l.length) K) (s0.ren ρ) := by
   intro s0 hs0 hh h
   split at h
   ·rename_i s1 n1 hop
    obtain ⟨h1, h2, h3⟩ := sop_ok hT hr hN hs0 hop
    obtain ⟨h4, h5, h6⟩ := sops_ok hT hr hok l (i + 1) s1 n1 hl' h1 h
    rw [hh] at h2
    refine ⟨h4, h2.trans (sc_heap_of hs) h5, fun ρ ro K hK => h3 ρ ro _ fun ρ1 ha1 => h6 ρ1 ro K fun ρ2 ha2 => hK ρ2 (ha1.trans h2.le ha2)⟩
   ·cases h
  simp only [sops, sgetR_eq, putR_eq] at h
  split at h
  ·rename_i hg
   obtain ⟨h1, h2, h3⟩ := go s hs rfl h
   exact ⟨h1, h2, fun ρ ro K hK => AOps.cons ho hg (h3 ρ ro K hK)⟩
  ·rename_i j want hg
   split at h
   ·rename_i oj hoj
    split at h
    ·rename_i d hd
     split at h
     ·rename_i b hb
      have hbr : ∀ ρ : Nat → Nat, sget (s.ren ρ).slots d = some (.bool b) := fun ρ => by
       show sget (renS ρ s.slots) d = _
       rw [sget_ren, hb]; rfl
      split at h
      ·rename_i hbw
       have hbw : b = want := by simpa using hbw
       obtain ⟨h1, h2, h3⟩ := go (s.put (some d) (.bool want)) (sc_put hs rfl) rfl h
       refine ⟨h1, h2, fun ρ ro K hK => AOps.guard ho hN hg (by simpa using hoj) hd (hbr ρ) (fun _ => ?_) (fun e => by cases b <;> cases want <;> simp at e hbw)⟩
       have := h3 ρ ro K hK
       rw [ren_put] at this
       exact this
      ·rename_i hbw
       have hbw : b ≠ want := by simpa using hbw
       obtain ⟨h1, h2, h3⟩ := sops_ok hT hr hok l (i + 1) _ n hl' (sc_put (sc_put hs rfl) rfl) h
       rw [put_heap', put_heap'] at h2
       refine ⟨h1, h2, fun ρ ro K hK => AOps.guard ho hN hg (by simpa using hoj) hd (hbr ρ) (fun e => absurd e hbw) fun _ => ?_⟩
       have := h3 ρ ro K hK
       rw [ren_put, ren_put] at this
       exact this
     ·cases h
    ·cases h
   ·cases h
theorem mapM_frz {D : Heap} (ρ : Nat → Nat) : ∀ {cs ds : List HV}, cs.mapM (sfrz 8 D) = some ds → (renL ρ cs).map (frz 8 (renH ρ D)) = renL ρ ds
 | [], ds, e => by simp at e; subst e; rfl
 | c :: cs, ds, e => by
  simp only [List.mapM_cons, Option.pure_def, Option.bind_eq_bind, Option.bind_eq_some_iff] at e
  obtain ⟨d, hd, es, he, e⟩ := e
  cases e
  simp only [renL, List.map_cons, sfrz_sound 8 D ρ _ _ hd, mapM_frz ρ he]
mutual
theorem nf_ren (ρ : Nat → Nat) : ∀ h : HV, nf h = true → nf (h.ren ρ) = true
 | .int _ _, _ => rfl
 | .bool _, _ => rfl
 | .str _, _ => rfl
 | .v _, _ => rfl
 | .agg cs, h => nfL_ren ρ cs h
 | .tup cs, h => nfL_ren ρ cs h
 | .sl _ _ _, h => by cases h
 | .ar _ _ _ _ _, _ => rfl
 | .ptr _ _ _, _ => rfl
 | .fptr _ _, h => by cases h
 | .fn _ fs cs, h => by
  simp only [nf, Bool.and_eq_true] at h
  simp only [HV.ren, nf, nfL_ren ρ fs h.1, nfL_ren ρ cs h.2, Bool.and_self]
 | .mp _ _, _ => rfl
 | .yl _ _, _ => rfl
 | .it _ _, _ => rfl
theorem nfL_ren (ρ : Nat → Nat) : ∀ cs : List HV, nfL cs = true → nfL (renL ρ cs) = true
 | [], _ => rfl
 | c :: cs, h => by
  simp only [nfL, Bool.and_eq_true] at h
  simp only [renL, nfL, nf_ren ρ c h.1, nfL_ren ρ cs h.2, Bool.and_self]
end
theorem nfE_ren (ρ : Nat → Nat) : ∀ es, nfE es = true → nfE (renE ρ es) = true
 | [], _ => rfl
 | (_, c) :: cs, h => by
  simp only [nfE, Bool.and_eq_true] at h
  simp only [renE, nfE, nf_ren ρ c h.1, nfE_ren ρ cs h.2, Bool.and_self]
theorem nfH_ren (ρ : Nat → Nat) : ∀ H : Heap, nfH H = true → nfH (renH ρ H) = true
 | [], _ => rfl
 | (_, _, o) :: H, h => by
  simp only [nfH, Bool.and_eq_true] at h
  have ho : nfO (o.ren ρ) = true := by
   cases o with
   | arr k e cs => exact nfL_ren ρ cs h.1
   | map es => exact nfE_ren ρ es h.1
   | iter _ _ _ _ => rfl
   | loop _ _ _ _ _ _ _ _ => cases h.1
  simp only [renH, nfH, ho, nfH_ren ρ H h.2, Bool.and_self]
theorem sfrz_sc0 {D : Heap} (m : Nat) : ∀ (h h' : HV), h.sc 0 = true → sfrz m D h = some h' → h' = h := by
 induction m with
 | zero => intro h h' _ e; cases e; rfl
 | succ m ih =>
  have ihL : ∀ (cs ds : List HV), scL 0 cs = true → cs.mapM (sfrz m D) = some ds → ds = cs := by
   intro cs
   induction cs with
   | nil => intro ds _ e; simp at e; exact e
   | cons c cs ihc =>
    intro ds hs e
    simp only [scL, Bool.and_eq_true] at hs
    simp only [List.mapM_cons, Option.pure_def, Option.bind_eq_bind, Option.bind_eq_some_iff] at e
    obtain ⟨d, hd, es, he, e⟩ := e
    cases e
    rw [ih _ _ hs.1 hd, ihc _ hs.2 he]
  intro h h' hs e
  unfold sfrz at e
  split at e
  ·split at e
   ·rename_i hc; cases e; rw [ihL _ _ hs hc]
   ·cases e
  ·split at e
   ·rename_i hc; cases e; rw [ihL _ _ hs hc]
   ·cases e
  ·simp only [HV.sc, Bool.and_eq_true] at hs
   split at e
   ·rename_i hf hc; cases e; rw [ihL _ _ hs.1 hf, ihL _ _ hs.2 hc]
   ·cases e
  ·exact absurd (blt_lt hs) (Nat.not_lt_zero _)
  ·exact absurd (blt_lt hs) (Nat.not_lt_zero _)
  ·cases e; rfl
theorem sfrzL_sc0 {D : Heap} (m : Nat) : ∀ (cs ds : List HV), scL 0 cs = true → cs.mapM (sfrz m D) = some ds → ds = cs
 | [], ds, _, e => by simp at e; exact e
 | c :: cs, ds, hs, e => by
  simp only [scL, Bool.and_eq_true] at hs
  simp only [List.mapM_cons, Option.pure_def, Option.bind_eq_bind, Option.bind_eq_some_iff] at e
  obtain ⟨d, hd, es, he, e⟩ := e
  cases e
  rw [sfrz_sc0 m _ _ hs.1 hd, sfrzL_sc0 m _ _ hs.2 he]
theorem callS_ok (hr : Good P r) {g : FuncId} {aa as' : List HV} {H H1 : Heap} {n1 : Nat} {rv q : HV} (ha : aa.mapM (sfrz 8 H) = some as') (h0 : scL 0 as' = true) (hc : r (.call g as' [] 0) = some (.call rv H1 n1))
  (hn : (scL 0 aa || (nf rv && nfH H1)) = true) (hf : sfrz 8 H1 rv = some q) (hq : q.sc 0 = true) (ρ : Nat → Nat) : ACallD P g (renL ρ aa) (renH ρ H) q := by
 obtain ⟨h1, h2, st, hcall⟩ := hr _ _ hc h0 rfl
 have hargs : renL ρ as' = (renL ρ aa).map (frz 8 (renH ρ H)) := (mapM_frz ρ ha).symm
 have hqr : ∀ ρ' : Nat → Nat, frz 8 (renH ρ' H1) (rv.ren ρ') = q := fun ρ' => by rw [sfrz_sound 8 H1 ρ' rv q hf, ren_sc0 ρ' hq]
 cases hs : scL 0 aa with
 | true =>
  have e : as' = aa := sfrzL_sc0 8 _ _ hs ha
  subst e
  refine ACallD.pure0 ?_
  rw [renL_sc0 ρ hs]
  have h5 := hcall ρ (fun r' H' => ∃ ρ', r' = rv.ren ρ' ∧ H' = renH ρ' H1) fun ρ' _ => ⟨ρ', rfl, rfl⟩
  rw [renL_sc0 ρ hs] at h5
  refine h5.conv ?_
  rintro r' H' ⟨ρ', rfl, rfl⟩
  exact ⟨_, _, Conv.all 8, hqr ρ', hqr ρ' ▸ sc0_clean q hq, rfl⟩
 | false =>
  rw [hs, Bool.false_or, Bool.and_eq_true] at hn
  refine ACall.lend (K := fun r' H' => ∃ ρ', r' = rv.ren ρ' ∧ H' = renH ρ' H1) 8 8 ?_ ?_ (sc0_clean q hq)
  ·rw [← hargs]
   exact hcall ρ _ fun ρ' _ => ⟨ρ', rfl, rfl⟩
  ·rintro r' H' ⟨ρ', rfl, rfl⟩
   exact ⟨nf_ren ρ' rv hn.1, nfH_ren ρ' H1 hn.2, hqr ρ'⟩
theorem sopS_ok (hT : T.Ok P) (hr : Good P r) {o : Oper} {q : HV} (h : sopS r T o s = some q) (ρ : Nat → Nat) {R : HV → Prop} (hq : R (q.ren ρ)) : aopS P o R (s.ren ρ) := by
 unfold sopS at h
 unfold aopS
 split at h
 ·rename_i e x hop
  simp only [hop]
  unfold spBox at h
  try simp only [evR_eq, hgetR_eq, hsetR_eq, sgetR_eq, putR_eq, aslR_eq, apartsR_eq] at h
  split at h
  ·rename_i hv hx
   split at h
   ·rename_i cs hcs
    cases h
    simp only [ev_ren, hx, Option.map_some, cells_ren, hcs]
    exact hq
   ·cases h
  ·cases h
 ·rename_i t m ps hop
  simp only [hop]
  unfold spBuild at h
  try simp only [evR_eq, hgetR_eq, hsetR_eq, sgetR_eq, putR_eq, aslR_eq, apartsR_eq] at h
  replace h := guardO_some h
  obtain ⟨h1, h⟩ := h
  split at h
  ·rename_i k e cs hsl
   cases h
   exact ⟨Nat.le_of_ble_eq_true h1, sslice_sound hT.ty hsl hq⟩
  ·cases h
 ·rename_i f aa ts hop
  simp only [hop]
  unfold spCall at h
  try simp only [evR_eq, hgetR_eq, hsetR_eq, sgetR_eq, putR_eq, aslR_eq, apartsR_eq] at h
  split at h
  ·rename_i g fs cs hs hf ha
   split at h
   ·rename_i as' has'
    replace h := guardO_some h
    obtain ⟨h1, h⟩ := h
    split at h
    ·rename_i rv H1 n1 hrc
     replace h := guardO_some h
     obtain ⟨h2, h⟩ := h
     split at h
     ·rename_i q' hq'
      replace h := guardO_some h
      obtain ⟨h3, h⟩ := h
      cases h
      have := callS_ok hr has' h1 hrc h2 hq' h3 ρ
      simp only [ev_ren, hf, Option.map_some, HV.ren, evL_sc ha ρ]
      rw [← renL_append, ← renL_append]
      rw [ren_sc0 ρ h3] at hq
      exact ⟨q, this, hq⟩
     ·cases h
    ·cases h
   ·cases h
  ·cases h
 ·have h' := sval_sound (P := P) hT.ty h hq
  split
  ·rename_i h1 h2 h3 _ _ _ e; exact absurd e (h1 _ _)
  ·rename_i h1 h2 h3 _ _ _ _ e; exact absurd e (h2 _ _ _)
  ·rename_i e; rw [e] at h'; exact h'.elim
  ·rename_i h1 h2 h3 _ _ _ _ e; exact absurd e (h3 _ _ _)
  ·exact h'
theorem ssteps_ok (hT : T.Ok P) (hr : Good P r) {all : List Oper} (ρ : Nat → Nat) {K : AS → Prop} {s1 : AS} : ∀ (l : List Oper) (s : AS), s.sc n = true → ssteps r T all l s n = some s1 → s1.sc n = true ∧ s1.heap = s.heap ∧ (K (s1.ren ρ) → asteps P all l K (s.ren ρ))
 | [], s, hs, h => by cases h; exact ⟨hs, rfl, id⟩
 | o :: l, s, hs, h => by
  have go : ∀ (s0 : AS), s0.sc n = true → s0.heap = s.heap → (match sopS r T o s0 with
    | some h => guardO (h.sc n) (ssteps r T all l (s0.put o.dst h) n)
    | none => none) = some s1 → s1.sc n = true ∧ s1.heap = s.heap ∧ (K (s1.ren ρ) → aopS P o (fun h => asteps P all l K ((s0.ren ρ).put o.dst h)) (s0.ren ρ)) := by
   intro s0 hs0 hh h
   split at h
   ·rename_i q hq
    replace h := guardO_some h
    obtain ⟨h1, h⟩ := h
    obtain ⟨h2, h3, h4⟩ := ssteps_ok hT hr ρ l _ (sc_put hs0 h1) h
    rw [put_heap', hh] at h3
    refine ⟨h2, h3, fun hK => sopS_ok hT hr hq ρ ?_⟩
    have := h4 hK
    rw [ren_put] at this
    exact this
   ·cases h
  simp only [ssteps, sgetR_eq, putR_eq] at h
  split at h
  ·rename_i hg
   obtain ⟨h1, h2, h3⟩ := go s hs rfl h
   refine ⟨h1, h2, fun hK => ?_⟩
   simp only [asteps, hg]
   exact h3 hK
  ·rename_i j want hg
   split at h
   ·rename_i oj hoj
    split at h
    ·rename_i d hd
     split at h
     ·rename_i b hb
      have hbr : sget (s.ren ρ).slots d = some (.bool b) := by
       show sget (renS ρ s.slots) d = _
       rw [sget_ren, hb]; rfl
      split at h
      ·rename_i hbw
       have hbw : b = want := by simpa using hbw
       obtain ⟨h1, h2, h3⟩ := go (s.put (some d) (.bool want)) (sc_put hs rfl) rfl h
       refine ⟨h1, h2, fun hK => ?_⟩
       simp only [asteps, hg, hoj, hd, hbr]
       have h4 := h3 hK
       rw [ren_put] at h4
       rw [if_pos hbw]
       exact h4
      ·rename_i hbw
       have hbw : b ≠ want := by simpa using hbw
       obtain ⟨h1, h2, h3⟩ := ssteps_ok hT hr ρ l _ (sc_put (d := o.dst) (h := .v undef) (sc_put (d := some d) (h := .bool !want) hs rfl) rfl) h
       rw [put_heap', put_heap'] at h2
       refine ⟨h1, h2, fun hK => ?_⟩
       simp only [asteps, hg, hoj, hd, hbr]
       have h4 := h3 hK
       rw [ren_put, ren_put] at h4
       rw [if_neg hbw]
       exact h4
     ·cases h
    ·cases h
   ·cases h
theorem AW.ops {ro : Option Nat} {id : Nat} {ops : Array Oper} {Q : Exit → AS → Prop} (h : AOps P ro N ops (List.range' 0 ops.toList.length) (fun s' => Q .normal s') s) : AW P ro N (.region id ops false) Q s := by
 intro w0 μ0 μ a w hs hE
 refine wpIn_region ?_
 rw [List.range_eq_range', ← Array.length_toList]
 exact h w0 μ0 μ a w _ hs hE fun μ' s' a' w' hk hs' hE' => ⟨(fun _ h => by cases h), (fun h => by cases h), _, _, hk, hs', hE'⟩
theorem sdrawP_ok (hT : T.Ok P) (hr : Good P r) {id : Nat} {ops : Array Oper} (hok : ops.toList.all (fun o => okd N o.dst) = true) {p : Nat} (hs : s.sc n = true) (h : sdrawP r T ops s n p = some (s', n')) :
  s'.sc n' = true ∧ Step n n' s.heap s'.heap ∧ ∀ (ρ : Nat → Nat) (ro : Option Nat) (Q : Exit → AS → Prop), (∀ ρ', Agree n ρ ρ' → Q .normal (s'.ren ρ')) → AW P ro N (.region id ops true) Q (s.ren ρ) := by
 unfold sdrawP at h
 replace h := guardO_some h
 obtain ⟨hd, h⟩ := h
 split at h
 ·rename_i s1 hst
  have h1 := fun (ρ : Nat → Nat) (K : AS → Prop) => ssteps_ok (K := K) hT hr ρ _ _ hs hst
  have h2 := h1 (fun v => v) fun _ => True
  obtain ⟨h3, h4, h5⟩ := sops_ok hT hr hok (ops.toList.drop p) p s1 n (fun k => by rw [List.getElem?_drop, Array.getElem?_toList]) h2.1 h
  rw [h2.2.1] at h4
  refine ⟨h3, h4, fun ρ ro Q hQ => AW.drawX p (fun x => x = s1.ren ρ) hT.draw hok hd ?_ ((h1 ρ _).2.2 rfl)⟩
  rintro x rfl
  have := h5 ρ ro (fun s' => Q .normal s') hQ
  have hl : (ops.toList.drop p).length = ops.size - p := by simp
  rw [hl] at this
  exact this
 ·cases h
theorem sdraw_ok (hT : T.Ok P) (hr : Good P r) {id : Nat} {ops : Array Oper} (hok : ops.toList.all (fun o => okd N o.dst) = true) (hs : s.sc n = true) (h : sdraw r T ops s n = some (s', n')) :
  s'.sc n' = true ∧ Step n n' s.heap s'.heap ∧ ∀ (ρ : Nat → Nat) (ro : Option Nat) (Q : Exit → AS → Prop), (∀ ρ', Agree n ρ ρ' → Q .normal (s'.ren ρ')) → AW P ro N (.region id ops true) Q (s.ren ρ) := by
 unfold sdraw at h
 split at h
 ·rename_i x hx
  cases h
  exact sdrawP_ok hT hr hok hs hx
 ·exact sdrawP_ok hT hr hok hs h
theorem sres_ok (hT : T.Ok P) (ρ : Nat → Nat) : ∀ {rvs : List ResultVar} {hs : List HV} {R : List HV → Prop}, sres T.ty s rvs = some hs → R (renL ρ hs) → resAll P (s.ren ρ) rvs R
 | [], hs, R, h, hR => by cases h; exact hR
 | rv :: rvs, hs, R, h, hR => by
  simp only [sres] at h
  split at h
  ·rename_i q qs hq hqs
   cases h
   have key : ∀ R' : HV → Prop, R' (q.ren ρ) → resOne P (s.ren ρ) rv R' := by
    intro R' hR'
    cases rv with
    | tmp t =>
     have : sget (renS ρ s.slots) t = some (q.ren ρ) := by rw [sget_ren]; simp only [sres1, sgetR_eq, hgetR_eq] at hq; rw [hq]; rfl
     simp only [resOne, AS.ren, this]
     exact hR'
    | cell t t' =>
     simp only [sres1, sgetR_eq, hgetR_eq] at hq
     split at hq
     ·rename_i U cs off hU hx
      have : sget (s.ren ρ).slots t = some (.fptr (renL ρ cs) off) := by show sget (renS ρ s.slots) t = _; rw [sget_ren, hx]; rfl
      simp only [resOne, hT.ty _ _ hU, this]
      exact sload_sound hq hR'
     ·rename_i U id ver off hU hx
      split at hq
      ·rename_i ver' k e cs hg
       replace hq := guardO_some hq
       obtain ⟨h1, hq⟩ := hq
       have hv := Nat.eq_of_beq_eq_true h1
       subst hv
       have : sget (s.ren ρ).slots t = some (.ptr id (ρ ver) off) := by show sget (renS ρ s.slots) t = _; rw [sget_ren, hx]; rfl
       simp only [resOne, hT.ty _ _ hU, this, hget_s ρ hg, AObj.ren]
       exact ⟨trivial, sload_sound hq hR'⟩
      ·cases hq
     ·cases hq
   exact key _ (sres_ok hT ρ hqs hR)
  ·cases h
theorem thenQ_ne {k : AS → Prop} {Q : Exit → AS → Prop} {e : Exit} (he : e ≠ .normal) {s : AS} (h : Q e s) : thenQ k Q e s := by
 cases e with
 | normal => exact absurd rfl he
 | _ => exact h
theorem rounds_step (hr : Good P r) {top : Bool} {x : Code} {o : Out} : ∀ (k : Nat) (s : AS) (n : Nat), s.sc n = true → rounds r top N x k s n = some o → ∃ e s2 n2, o = .code e s2 n2 ∧ s2.sc n2 = true ∧ Step n n2 s.heap s2.heap
 | 0, _, _, _, h => by cases h
 | k + 1, s, n, hs, h => by
  simp only [rounds] at h
  split at h
  ·rename_i s1 n1 hr1
   obtain ⟨h1, h2, _⟩ := hr _ _ hr1 hs
   obtain ⟨e, s2, n2, h3, h4, h5⟩ := rounds_step hr k s1 n1 h1 h
   exact ⟨e, s2, n2, h3, h4, h2.trans (sc_heap_of hs) h5⟩
  ·have := hr _ _ h
   cases o with
   | code e s2 n2 => exact ⟨e, s2, n2, rfl, (this hs).1, (this hs).2.1⟩
   | call rv H n2 => exact this.elim
theorem rounds_ok (hr : Good P r) {top : Bool} {x : Code} {o : Out} (k : Nat) (h : rounds r top N x k s n = some o) : Sem P (.code top N (.loop x) s n) o := by
 cases o with
 | call rv H n2 =>
  have : ∀ (k : Nat) (s : AS) (n : Nat), rounds r top N x k s n ≠ some (.call rv H n2) := by
   intro k
   induction k with
   | zero => intro s n h; cases h
   | succ k ih =>
    intro s n h
    simp only [rounds] at h
    split at h
    ·exact ih _ _ h
    ·exact (hr _ _ h).elim
  exact absurd h (this k s n)
 | code e s2 n2 =>
  intro hs
  obtain ⟨e', s2', n2', he, h1, h2⟩ := rounds_step hr k s n hs h
  cases he
  refine ⟨h1, h2, fun ρ ro Q htop hQ => ?_⟩
  refine AW.loop' (fun j s0 => ∃ s1 n1 ρ1, s0 = s1.ren ρ1 ∧ s1.sc n1 = true ∧ rounds r top N x j s1 n1 = some (.code e s2 n2) ∧ Agree n ρ ρ1 ∧ n ≤ n1) ⟨k, _, AS.le_refl _, s, n, ρ, rfl, hs, h, Agree.refl _ _, Nat.le_refl _⟩ ?_
  rintro j s0 ⟨s1, n1, ρ1, rfl, hs1, hj, hag, hn⟩
  cases j with
  | zero => cases hj
  | succ j =>
   simp only [rounds] at hj
   split at hj
   ·rename_i s3 n3 hr3
    obtain ⟨h3, h4, h5⟩ := hr _ _ hr3 hs1
    refine h5 ρ1 ro _ htop fun ρ' hag' => ?_
    exact ⟨j, Nat.lt_succ_self j, _, AS.le_refl _, s3, n3, ρ', rfl, h3, hj, hag.trans hn hag', Nat.le_trans hn h4.le⟩
   ·rename_i hno
    obtain ⟨h3, h4, h5⟩ := hr _ _ hj hs1
    refine h5 ρ1 ro _ htop fun ρ' hag' => thenQ_ne ?_ (hQ ρ' (hag.trans hn hag'))
    rintro rfl
    exact hno _ _ hj
theorem sc_enumS : ∀ (i : Nat) (args : List HV), scL n args = true → scS n (enumS i args) = true
 | _, [], _ => rfl
 | i, a :: args, h => by
  simp only [scL, Bool.and_eq_true] at h
  simp only [enumS, scS, h.1, sc_enumS (i + 1) args h.2, Bool.and_self]
theorem renS_enumS (ρ : Nat → Nat) : ∀ (i : Nat) (args : List HV), renS ρ (enumS i args) = enumS i (renL ρ args)
 | _, [] => rfl
 | i, a :: args => by simp only [enumS, renS, renL, renS_enumS ρ (i + 1) args]
theorem scL_append {cs ds : List HV} (h : scL n cs = true) (h' : scL n ds = true) : scL n (cs ++ ds) = true := by
 induction cs with
 | nil => exact h'
 | cons c cs ih =>
  simp only [scL, Bool.and_eq_true] at h
  simp only [List.cons_append, scL, h.1, ih h.2, Bool.and_self]
theorem joinR_ren (ρ : Nat → Nat) : ∀ hs : List HV, (joinR hs).ren ρ = joinR (renL ρ hs)
 | [] => rfl
 | [h] => rfl
 | _ :: _ :: _ => rfl
theorem strs_ren (ρ : Nat → Nat) : ∀ ls : List (List UInt8), renL ρ (ls.map HV.str) = ls.map HV.str
 | [] => rfl
 | a :: ls => by simp only [List.map_cons, renL, HV.ren, strs_ren ρ ls]
theorem ints_ren (ρ : Nat → Nat) : ∀ ls : List Int, renL ρ (ls.map (HV.int .i64)) = ls.map (HV.int .i64)
 | [] => rfl
 | a :: ls => by simp only [List.map_cons, renL, HV.ren, ints_ren ρ ls]
theorem strs_sc (n : Nat) : ∀ ls : List (List UInt8), scL n (ls.map HV.str) = true
 | [] => rfl
 | a :: ls => by simp only [List.map_cons, scL, HV.sc, strs_sc n ls, Bool.and_self]
theorem ints_sc (n : Nat) : ∀ ls : List Int, scL n (ls.map (HV.int .i64)) = true
 | [] => rfl
 | a :: ls => by simp only [List.map_cons, scL, HV.sc, ints_sc n ls, Bool.and_self]
theorem ssort_ok (hT : T.Ok P) {f : FuncId} {k : Bool} (hk : T.sort f = some k) {args : List HV} {H : Heap} {o : Out} (h : ssort k args H n = some o) : Sem P (.call f args H n) o := by
 unfold ssort at h
 simp only [hgetR_eq, hsetR_eq] at h
 split at h
 ·cases h
  refine fun _ hH => ⟨rfl, hH, Step.refl _ _, fun ρ K hK => ?_⟩
  cases k with
  | true => exact (hT.sortS f hk).nil _ _ (hK ρ (Agree.refl _ _))
  | false => exact (hT.sortI f hk).nil _ _ (hK ρ (Agree.refl _ _))
 ·rename_i id ver m
  split at h
  ·rename_i ver' e cs hg
   split at h
   ·split at h
    ·rename_i ls hls
     replace h := guardO_some h
     obtain ⟨h1, h⟩ := h
     cases h
     simp only [Bool.and_eq_true] at h1
     have hv := Nat.eq_of_beq_eq_true h1.1
     subst hv
     have hm := Nat.eq_of_beq_eq_true h1.2.1
     subst hm
     have hcs := strsOf_eq hls
     subst hcs
     intro _ hH
     have hlt := sch_get hH hg
     refine ⟨rfl, scH_set _ _ _ _ hH hlt.1.1 hlt.1.2 (strs_sc _ _), ⟨Nat.le_refl _, LoopKeep.set (by rw [hg]; intros; simp), Back.set (.inr ⟨_, hg⟩)⟩, fun ρ K hK => ?_⟩
     refine (hT.sortS f hk).arr _ id (ρ ver) e ls K (by rw [hget_ren, hg]; simp only [Option.map_some, AObj.ren, strs_ren]) (blt_lt h1.2.2) ?_
     have := hK ρ (Agree.refl _ _)
     rw [renH_set] at this
     simp only [AObj.ren, strs_ren, HV.ren, renL] at this
     rw [sortS_isort]
     exact this
    ·cases h
   ·split at h
    ·rename_i ls hls
     replace h := guardO_some h
     obtain ⟨h1, h⟩ := h
     cases h
     simp only [Bool.and_eq_true] at h1
     have hv := Nat.eq_of_beq_eq_true h1.1
     subst hv
     have hm := Nat.eq_of_beq_eq_true h1.2.1
     subst hm
     have hcs := intsOf_eq hls
     subst hcs
     intro _ hH
     have hlt := sch_get hH hg
     refine ⟨rfl, scH_set _ _ _ _ hH hlt.1.1 hlt.1.2 (ints_sc _ _), ⟨Nat.le_refl _, LoopKeep.set (by rw [hg]; intros; simp), Back.set (.inr ⟨_, hg⟩)⟩, fun ρ K hK => ?_⟩
     refine (hT.sortI f hk).arr _ id (ρ ver) e ls K (by rw [hget_ren, hg]; simp only [Option.map_some, AObj.ren, ints_ren]) (blt_lt h1.2.2) ?_
     have := hK ρ (Agree.refl _ _)
     rw [renH_set] at this
     simp only [AObj.ren, ints_ren, HV.ren, renL] at this
     rw [sortI_isort]
     exact this
    ·cases h
  ·cases h
 ·cases h
theorem stCut_ok (hr : Good P r) {top : Bool} {ks : Option (List Nat)} {y : Code} {o : Out} (h : stCut T r top N ks y s n = some o) : Sem P (.code top N y s n) o := by
 unfold stCut at h
 split at h
 ·rename_i ks
  rw [keepK_eq] at h
  have h2 := hr _ _ h
  cases o with
  | call rv H n2 => exact h2.elim
  | code e s2 n2 =>
   intro hs
   simp only [AS.sc, Bool.and_eq_true] at hs
   obtain ⟨h6, h7, h8⟩ := h2 (by simp only [AS.sc, Bool.and_eq_true]; exact ⟨keepL_sc hs.1 ks, hs.2⟩)
   exact ⟨h6, h7, fun ρ ro Q htop hQ => AW.weaken (h8 ρ ro Q htop hQ) (keepL_le ρ s ks)⟩
 ·exact hr _ _ h
theorem step_ok (hT : T.Ok P) (hr : Good P r) : Good P (step T r) := by
 intro t o h
 cases t with
 | call f args H n =>
  simp only [step, stCall, stBody] at h
  split at h
  ·rename_i k hk
   exact ssort_ok hT hk h
  split at h
  ·-- a pure function that is known
   rename_i rv hx
   replace h := guardO_some h
   obtain ⟨h1, h⟩ := h
   cases h
   replace hx := guardO_some hx
   obtain ⟨h2, hx⟩ := hx
   intro hargs hH
   refine ⟨HV.sc_mono (Nat.zero_le _) rv h1, hH, Step.refl _ _, fun ρ K hK => ?_⟩
   have hf := hT.extP _ _ _ hx
   rw [renL_sc0 ρ h2]
   refine ACall.pure0 hf fun r hr => ?_
   subst hr
   have := hK ρ (Agree.refl _ _)
   rw [ren_sc0 ρ h1] at this
   exact this
  split at h
  ·-- a function that is known
   rename_i rv hx
   replace h := guardO_some h
   obtain ⟨h1, h⟩ := h
   cases h
   split at hx
   ·rename_i as' ha
    replace hx := guardO_some hx
    obtain ⟨h2, hx⟩ := hx
    intro hargs hH
    refine ⟨HV.sc_mono (Nat.zero_le _) rv h1, hH, Step.refl _ _, fun ρ K hK => ?_⟩
    have hf := hT.ext _ _ _ hx
    have ha2 := mapM_frz ρ ha
    rw [renL_sc0 ρ h2] at ha2
    refine hf.call 8 ha2 ?_
    have := hK ρ (Agree.refl _ _)
    rw [ren_sc0 ρ h1] at this
    exact this
   ·cases hx
  ·split at h
   ·rename_i fn hfn
    split at h
    ·rename_i c hc
     replace h := guardO_some h
     obtain ⟨h1, h⟩ := h
     split at h
     ·rename_i e s1 n1 hr1
      replace h := guardO_some h
      obtain ⟨h2, h⟩ := h
      split at h
      ·rename_i hs hres
       replace h := guardO_some h
       obtain ⟨h3, h⟩ := h
       cases h
       intro hargs hH
       obtain ⟨h4, h5, h6⟩ := hr _ _ hr1 (by simp only [AS.sc, sc_enumS 0 args hargs, hH, Bool.and_self])
       refine ⟨h3, gc_sc (sc_heap_of h4), h5.drop fun id x hx => gc_get hx, fun ρ K hK => ?_⟩
       obtain ⟨hf, hname⟩ := hT.fn _ _ hfn
       refine ACall.of_body hf hname hc (by rw [renL_len]; exact Nat.le_of_ble_eq_true h1) ?_
       have e0 : ({ slots := enumS 0 (renL ρ args), heap := renH ρ H } : AS) = (⟨enumS 0 args, H⟩ : AS).ren ρ := by simp only [AS.ren, renS_enumS]
       rw [e0]
       refine h6 ρ none _ (fun _ => rfl) fun ρ' hag => ⟨?_, sres_ok hT ρ' hres ?_⟩
       ·cases e with
        | normal => exact .inl rfl
        | ret => exact .inr rfl
        | _ => cases h2
       ·refine ⟨_, renH ρ' (gc n (joinR hs) s1.heap), Conv.drop fun id x hx => ?_, ?_⟩
        ·rw [hget_ren] at hx
         cases hg : hget (gc n (joinR hs) s1.heap) id with
         | none => rw [hg] at hx; cases hx
         | some y =>
          rw [hg] at hx
          show hget (renH ρ' s1.heap) id = some x
          rw [hget_ren, gc_get hg]
          exact hx
        ·rw [← joinR_ren]
         exact hK ρ' hag
      ·cases h
     ·cases h
    ·cases h
   ·cases h
 | code top N c s n =>
  simp only [step, stCode] at h
  split at h
  ·cases h
   exact fun hs => ⟨hs, Step.refl _ _, fun ρ ro Q _ hQ => AW.skip (hQ ρ (Agree.refl _ _))⟩
  ·cases h
   exact fun hs => ⟨hs, Step.refl _ _, fun ρ ro Q _ hQ => AW.exit (hQ ρ (Agree.refl _ _))⟩
  ·cases h
   exact fun hs => ⟨hs, Step.refl _ _, fun ρ ro Q _ hQ => AW.ret (hQ ρ (Agree.refl _ _))⟩
  ·-- seq
   unfold stSeq at h
   try simp only [evR_eq, hgetR_eq, hsetR_eq, sgetR_eq, putR_eq, aslR_eq, apartsR_eq] at h
   rename_i x y
   split at h
   ·rename_i s1 n1 hr1
    have h2 := stCut_ok hr h
    cases o with
    | call rv H n2 => exact h2.elim
    | code e s2 n2 =>
     intro hs
     obtain ⟨h3, h4, h5⟩ := hr _ _ hr1 hs
     obtain ⟨h6, h7, h8⟩ := h2 h3
     refine ⟨h6, h4.trans (sc_heap_of hs) h7, fun ρ ro Q htop hQ => AW.seq (h5 ρ ro _ htop fun ρ1 ha1 => h8 ρ1 ro Q htop fun ρ2 ha2 => hQ ρ2 (ha1.trans h4.le ha2))⟩
   ·rename_i hno
    have h2 := hr _ _ h
    cases o with
    | call rv H n2 => exact h2.elim
    | code e s2 n2 =>
     intro hs
     obtain ⟨h3, h4, h5⟩ := h2 hs
     exact ⟨h3, h4, fun ρ ro Q htop hQ => AW.seq (h5 ρ ro _ htop fun ρ' ha => thenQ_ne (fun e => by subst e; exact hno _ _ h) (hQ ρ' ha))⟩
  ·-- block
   unfold stBlock at h
   try simp only [evR_eq, hgetR_eq, hsetR_eq, sgetR_eq, putR_eq, aslR_eq, apartsR_eq] at h
   rename_i i x
   split at h
   ·rename_i j s1 n1 hr1
    cases h
    intro hs
    obtain ⟨h3, h4, h5⟩ := hr _ _ hr1 hs
    refine ⟨h3, h4, fun ρ ro Q htop hQ => AW.block (h5 ρ ro _ htop fun ρ' ha => ?_)⟩
    have := hQ ρ' ha
    simp only [blockQ]
    split
    ·rename_i e; rw [if_pos e] at this; exact this
    ·rename_i e; rw [if_neg e] at this; exact this
   ·rename_i hno
    have h2 := hr _ _ h
    cases o with
    | call rv H n2 => exact h2.elim
    | code e s2 n2 =>
     intro hs
     obtain ⟨h3, h4, h5⟩ := h2 hs
     refine ⟨h3, h4, fun ρ ro Q htop hQ => AW.block (h5 ρ ro _ htop fun ρ' ha => ?_)⟩
     have := hQ ρ' ha
     cases e with
     | exit j => exact absurd h (hno _ _ _)
     | _ => exact this
  ·-- cond
   unfold stCond at h
   try simp only [evR_eq, hgetR_eq, hsetR_eq, sgetR_eq, putR_eq, aslR_eq, apartsR_eq] at h
   rename_i c x y
   split at h
   ·rename_i hc
    have h2 := hr _ _ h
    cases o with
    | call rv H n2 => exact h2.elim
    | code e s2 n2 =>
     intro hs
     obtain ⟨h3, h4, h5⟩ := h2 hs
     exact ⟨h3, h4, fun ρ ro Q htop hQ => AW.cond (t := true) (by rw [ev_ren, hc]; rfl) (fun _ => h5 ρ ro Q htop hQ) (fun e => by cases e)⟩
   ·rename_i hc
    have h2 := hr _ _ h
    cases o with
    | call rv H n2 => exact h2.elim
    | code e s2 n2 =>
     intro hs
     obtain ⟨h3, h4, h5⟩ := h2 hs
     exact ⟨h3, h4, fun ρ ro Q htop hQ => AW.cond (t := false) (by rw [ev_ren, hc]; rfl) (fun e => by cases e) (fun _ => h5 ρ ro Q htop hQ)⟩
   ·cases h
  ·exact rounds_ok hr _ h
  ·-- region
   unfold stRegion at h
   try simp only [evR_eq, hgetR_eq, hsetR_eq, sgetR_eq, putR_eq, aslR_eq, apartsR_eq] at h
   rename_i id ops dr
   replace h := guardO_some h
   obtain ⟨hok, h⟩ := h
   split at h
   ·rename_i s1 n1 hop
    cases h
    intro hs
    cases dr with
    | true =>
     obtain ⟨h3, h4, h5⟩ := sdraw_ok (id := id) hT hr hok hs hop
     exact ⟨h3, h4, fun ρ ro Q _ hQ => h5 ρ ro Q hQ⟩
    | false =>
     obtain ⟨h3, h4, h5⟩ := sops_ok hT hr hok ops.toList 0 s n (fun k => by simp) hs hop
     exact ⟨h3, h4, fun ρ ro Q _ hQ => AW.ops (h5 ρ ro _ hQ)⟩
   ·cases h
  ·-- rangeFunc
   unfold stRange at h
   try simp only [evR_eq, hgetR_eq, hsetR_eq, sgetR_eq, putR_eq, aslR_eq, apartsR_eq] at h
   rename_i g ps assign body
   split at h
   ·rename_i f fs cs hg
    replace h := guardO_some h
    obtain ⟨h1, h⟩ := h
    simp only [Bool.and_eq_true] at h1
    split at h
    ·rename_i rv H n1 hr1
     split at h
     ·rename_i v1 st' pend f1 m1 snap1 ps1 as1 bd1 hg1
      replace h := guardO_some h
      obtain ⟨h4, h⟩ := h
      -- the loop behind the iterator's call
      have fin : ∀ (pe : Option Code), pe = pend → ∀ (e : Exit), (∀ (ρ : Nat → Nat) (Q : Exit → AS → Prop) (sx : AS), Q e sx → match (generalizing := false) pe with
        | none => Q .normal sx
        | some c => AW P none N c Q sx) →
        Sem P (.code true N (.rangeFunc g ps assign body) s n) (.code e { s with heap := hset H n n (.loop .exhausted pe (n + 1) N s.slots ps assign body) } n1) := by
       intro pe hpe e hq hs
       subst hpe
       have hsh := sc_heap_of hs
       have hlsc : (AObj.loop .ready none (n + 1) N s.slots ps assign body).sc (n + 2) = true := by
        simp only [AObj.sc, scS_mono (Nat.le_add_right n 2) _ (sc_slots_of hs), Bool.and_true]
        simp [Nat.blt_eq]
       have hself : Nat.blt n (n + 2) = true := by simp [Nat.blt_eq]
       have h0 : scH (n + 2) (hset s.heap n n (.loop .ready none (n + 1) N s.slots ps assign body)) = true := scH_set _ _ _ _ (scH_mono (Nat.le_add_right n 2) _ hsh) (by omega) (by omega) hlsc
       have hargs : scL (n + 2) (fs ++ [.yl n n] ++ cs) = true := scL_append (scL_append (scL_mono (Nat.le_add_right n 2) _ h1.1) (by simp only [scL, HV.sc, hself, Bool.and_self])) (scL_mono (Nat.le_add_right n 2) _ h1.2)
       obtain ⟨h2, h3, st, hc⟩ := hr _ _ hr1 hargs h0
       have st0 : Step n (n + 2) s.heap (hset s.heap n n (.loop .ready none (n + 1) N s.slots ps assign body)) :=
        ⟨by omega, LoopKeep.set (by rw [sch_fresh hsh]; intros; simp), Back.set (.inl (Nat.le_refl _))⟩
       have st1 := st0.trans hsh st
       have hgl : hget (hset s.heap n n (.loop .ready none (n + 1) N s.slots ps assign body)) n = some (n, .loop .ready none (n + 1) N s.slots ps assign body) := by rw [hget_hset, if_pos rfl]
       obtain ⟨_, _, he1⟩ := st.loop _ _ _ _ _ _ _ _ _ _ hgl _ hg1
       cases he1
       have hls1 : (AObj.loop .exhausted pe (n + 1) N s.slots ps assign body).sc n1 = true := by
        simp only [AObj.sc, scS_mono st1.le _ (sc_slots_of hs), Bool.and_true]
        have := st.le
        simp [Nat.blt_eq]; omega
       have hn1 : n < n1 := by have := st.le; omega
       refine ⟨by simp only [AS.sc, scS_mono st1.le _ (sc_slots_of hs), scH_set _ n n _ h3 hn1 hn1 hls1, Bool.and_self], st1.trans hsh ⟨Nat.le_refl _, LoopKeep.setL hg1, Back.set (.inr ⟨_, hg1⟩)⟩, fun ρ ro Q htop hQ => ?_⟩
       have hro : ro = none := htop rfl
       subst hro
       have hg' : (s.ren ρ).ev g = some (.fn (.func f) (renL ρ fs) (renL ρ cs)) := by rw [ev_ren, hg]; rfl
       refine AW.rangeFunc n hg' fun fn ver => ?_
       have hu := Agree.upd n ver ρ
       have ha1 : Agree n ρ (upd (upd ρ n ver) (n + 1) fn) := hu.trans (Nat.le_succ n) (Agree.upd (n + 1) fn _)
       have e0 : hset (s.ren ρ).heap n ver (.loop .ready none fn N (s.ren ρ).slots ps assign body) = renH (upd (upd ρ n ver) (n + 1) fn) (hset s.heap n n (.loop .ready none (n + 1) N s.slots ps assign body)) := by
        rw [renH_set]
        simp only [AObj.ren, AS.ren]
        rw [renH_agree ha1 _ hsh, renS_agree ha1 _ (sc_slots_of hs), upd_at]
        simp [upd]
       have e1 : renL ρ fs ++ [.yl n ver] ++ renL ρ cs = renL (upd (upd ρ n ver) (n + 1) fn) (fs ++ [.yl n n] ++ cs) := by
        rw [renL_append, renL_append, renL_agree ha1 _ h1.1, renL_agree ha1 _ h1.2]
        simp only [renL, HV.ren]
        have : upd (upd ρ n ver) (n + 1) fn n = ver := by simp [upd]
        rw [this]
       rw [e0, e1]
       refine hc _ _ fun ρ' hag => ?_
       have hv : ρ' n = ver := by rw [← hag n (by omega)]; simp [upd]
       have hfn : ρ' (n + 1) = fn := by rw [← hag (n + 1) (by omega)]; simp [upd]
       have ha2 : Agree n ρ ρ' := ha1.trans (Nat.le_add_right n 2) hag
       have hsl : renS ρ' s.slots = (s.ren ρ).slots := (renS_agree ha2 _ (sc_slots_of hs)).symm
       have hQ' := hQ ρ' ha2
       have e2 : (({ s with heap := hset H n n (.loop .exhausted pe (n + 1) N s.slots ps assign body) } : AS)).ren ρ' = { s.ren ρ with heap := hset (renH ρ' H) n ver (.loop .exhausted pe fn N (s.ren ρ).slots ps assign body) } := by
        simp only [AS.ren, renH_set, AObj.ren, hv, hfn]
        rw [renS_agree ha2 _ (sc_slots_of hs)]
       rw [e2] at hQ'
       refine ⟨st', pe, ?_, ?_, ?_⟩
       ·rw [hget_ren, hg1]
        simp only [Option.map_some, AObj.ren, hv, hfn, hsl]
       ·rintro rfl; cases h4
       ·have := hq ρ Q _ hQ'
        cases pe with
        | none => exact this
        | some c => exact this
      split at h
      ·cases h
       exact fin none rfl .normal (fun ρ Q sx hx => hx)
      ·cases h
       exact fin (some .ret) rfl .ret (fun ρ Q sx hx => AW.ret hx)
      ·cases h
       exact fin (some (.exit _)) rfl (.exit _) (fun ρ Q sx hx => AW.exit hx)
      ·cases h
     ·cases h
    ·cases h
   ·cases h
  ·cases h
theorem run_ok (hT : T.Ok P) : ∀ k, Good P (run T k)
 | 0 => fun _ _ h => by cases h
 | k + 1 => step_ok hT (run_ok hT k)
theorem Fresh.of_run (hT : T.Ok P) {f : FuncId} {args : List HV} {k n1 : Nat} {rv q : HV} {H : Heap} (h : run T k (.call f args [] 0) = some (.call rv H n1)) (ha : scL 0 args = true) (hn : (nf rv && nfH H) = true)
  (hf : sfrz 8 H rv = some q) (hq : q.sc 0 = true) : Fresh P f args q := by
 obtain ⟨_, _, _, hcall⟩ := run_ok hT k _ _ h ha rfl
 have h5 := hcall (fun v => v) (fun r' H' => ∃ ρ', r' = rv.ren ρ' ∧ H' = renH ρ' H) fun ρ' _ => ⟨ρ', rfl, rfl⟩
 rw [renL_id] at h5
 simp only [Bool.and_eq_true] at hn
 refine ⟨sc0_clean q hq, _, 8, h5, ?_⟩
 rintro r' H' ⟨ρ', rfl, rfl⟩
 exact ⟨nf_ren ρ' rv hn.1, nfH_ren ρ' H hn.2, by rw [sfrz_sound 8 H ρ' rv q hf, ren_sc0 ρ' hq]⟩
end
end Go.AW
namespace Go.AW
open Go
mutual
def HV.same : HV → HV → Bool
 | .int .i64 n, .int .i64 m => decide (n = m)
 | .int .u8 n, .int .u8 m => decide (n = m)
 | .int .u64 n, .int .u64 m => decide (n = m)
 | .int .u32 n, .int .u32 m => decide (n = m)
 | .bool b, .bool c => b == c
 | .str l, .str k => decide (l = k)
 | .agg cs, .agg ds => sameL cs ds
 | .tup cs, .tup ds => sameL cs ds
 | .sl k n cs, .sl k' n' ds => Nat.beq k k' && Nat.beq n n' && sameL cs ds
 | .v (.slice none 0 0), .v (.slice none 0 0) => true
 | _, _ => false
def sameL : List HV → List HV → Bool
 | [], [] => true
 | c :: cs, d :: ds => c.same d && sameL cs ds
 | _, _ => false
end
mutual
theorem HV.same_eq : ∀ a b : HV, a.same b = true → a = b
 | .int k n, b, h => by
  cases b with
  | int k' m => cases k <;> cases k' <;> simp [HV.same] at h <;> rw [h]
  | _ => cases k <;> simp [HV.same] at h
 | .bool x, b, h => by
  cases b <;> simp [HV.same] at h
  rw [h]
 | .str x, b, h => by
  cases b <;> simp [HV.same] at h
  rw [h]
 | .v x, b, h => by
  unfold HV.same at h
  split at h <;> simp_all
 | .agg cs, b, h => by
  cases b with
  | agg ds => simp only [HV.same] at h; rw [sameL_eq cs ds h]
  | _ => simp [HV.same] at h
 | .tup cs, b, h => by
  cases b with
  | tup ds => simp only [HV.same] at h; rw [sameL_eq cs ds h]
  | _ => simp [HV.same] at h
 | .sl k n cs, b, h => by
  cases b with
  | sl k' n' ds =>
   simp only [HV.same, Bool.and_eq_true] at h
   rw [Nat.eq_of_beq_eq_true h.1.1, Nat.eq_of_beq_eq_true h.1.2, sameL_eq cs ds h.2]
  | _ => simp [HV.same] at h
 | .ar _ _ _ _ _, b, h => by cases b <;> simp [HV.same] at h
 | .ptr _ _ _, b, h => by cases b <;> simp [HV.same] at h
 | .fptr _ _, b, h => by cases b <;> simp [HV.same] at h
 | .fn _ _ _, b, h => by cases b <;> simp [HV.same] at h
 | .mp _ _, b, h => by cases b <;> simp [HV.same] at h
 | .yl _ _, b, h => by cases b <;> simp [HV.same] at h
 | .it _ _, b, h => by cases b <;> simp [HV.same] at h
theorem sameL_eq : ∀ a b : List HV, sameL a b = true → a = b
 | [], [], _ => rfl
 | [], _ :: _, h => by simp [sameL] at h
 | _ :: _, [], h => by simp [sameL] at h
 | c :: cs, d :: ds, h => by
  simp only [sameL, Bool.and_eq_true] at h
  rw [HV.same_eq c d h.1, sameL_eq cs ds h.2]
end
def elook : List (FuncId × List HV × HV) → FuncId → List HV → Option HV
 | [], _, _ => none
 | (g, aa, q) :: l, f, args => bif (Nat.beq g f && sameL aa args) then some q else elook l f args
theorem elook_ok {P : Program} : ∀ {l : List (FuncId × List HV × HV)}, (∀ e ∈ l, Fresh P e.1 e.2.1 e.2.2) → ∀ f args r, elook l f args = some r → Fresh P f args r
 | [], _, _, _, _, h => by cases h
 | (g, aa, q) :: l, hl, f, args, r, h => by
  simp only [elook] at h
  cases hb : (Nat.beq g f && sameL aa args) with
  | true =>
   rw [hb] at h
   cases h
   simp only [Bool.and_eq_true] at hb
   have h1 := Nat.eq_of_beq_eq_true hb.1
   have h2 := sameL_eq _ _ hb.2
   subst h1 h2
   exact hl _ (List.mem_cons_self ..)
  | false =>
   rw [hb] at h
   exact elook_ok (fun e he => hl e (List.mem_cons_of_mem _ he)) f args r h
noncomputable def comes (T : Tabs) (k : Nat) (f : FuncId) (args : List HV) (q : HV) : Bool :=
 match run T k (.call f args [] 0) with
 | some (.call rv H _) => scL 0 args && (nf rv && nfH H) && (match sfrz 8 H rv with
  | some r => r.sc 0 && r.same q
  | none => false)
 | _ => false
theorem Fresh.of_comes {P : Program} {T : Tabs} (hT : T.Ok P) {k : Nat} {f : FuncId} {args : List HV} {q : HV} (h : comes T k f args q = true) : Fresh P f args q := by
 unfold comes at h
 split at h
 ·rename_i rv H n1 hr
  simp only [Bool.and_eq_true] at h
  obtain ⟨⟨h1, h2⟩, h3⟩ := h
  split at h3
  ·rename_i r hr'
   simp only [Bool.and_eq_true] at h3
   have := HV.same_eq _ _ h3.2
   subst this
   exact Fresh.of_run hT hr h1 (by simp only [h2.1, h2.2, Bool.and_self]) hr' h3.1
  ·cases h3
 ·cases h
noncomputable def comesP (T : Tabs) (k : Nat) (f : FuncId) (args : List HV) (q : HV) : Bool :=
 match run T k (.call f args [] 0) with
 | some (.call rv H _) => scL 0 args && (match sfrz 8 H rv with
  | some r => r.sc 0 && r.same q
  | none => false)
 | _ => false
theorem Pure.of_comes {P : Program} {T : Tabs} (hT : T.Ok P) {k : Nat} {f : FuncId} {args : List HV} {q : HV} (h : comesP T k f args q = true) : Pure P f args (· = q) := by
 unfold comesP at h
 split at h
 ·rename_i rv H n1 hr
  simp only [Bool.and_eq_true] at h
  obtain ⟨h1, h3⟩ := h
  split at h3
  ·rename_i r hf
   simp only [Bool.and_eq_true] at h3
   have := HV.same_eq _ _ h3.2
   subst this
   obtain ⟨_, _, _, hcall⟩ := run_ok hT k _ _ hr h1 rfl
   have h5 := hcall (fun v => v) (fun r' H' => ∃ ρ', r' = rv.ren ρ' ∧ H' = renH ρ' H) fun ρ' _ => ⟨ρ', rfl, rfl⟩
   rw [renL_id] at h5
   refine h5.conv ?_
   rintro r' H' ⟨ρ', rfl, rfl⟩
   exact ⟨_, _, Conv.all 8, by rw [sfrz_sound 8 H ρ' rv _ hf, ren_sc0 ρ' h3.1], by rw [sfrz_sound 8 H ρ' rv _ hf, ren_sc0 ρ' h3.1]; exact sc0_clean _ h3.1, rfl⟩
  ·cases h3
 ·cases h
end Go.AW
namespace Go.AW
open Go Go.Proofs
theorem namesT_ok : Tryz.prog.funcs.toList.all (fun x => !(x.name == "runtime.NumGoroutine")) = true := by kernel_rfl
theorem fnT_ok (f : FuncId) (x : Func) (h : Tryz.prog.funcs[f]? = some x) : (x.name == "runtime.NumGoroutine") = false := by
 have := List.all_eq_true.1 namesT_ok x (by
  rw [← Array.getElem?_toList] at h
  exact List.mem_of_getElem? h)
 simpa using this
def tabsE (P : Program) (l l' : List (FuncId × List HV × HV)) : Tabs where
 extP := elook l'
 ty := ty P
 fn := fun f => P.funcs[f]?
 ext := elook l
 sort := fun _ => none
 keep := fun _ _ => none
theorem elookP_ok {P : Program} : ∀ {l : List (FuncId × List HV × HV)}, (∀ e ∈ l, Pure P e.1 e.2.1 (· = e.2.2)) → ∀ f args r, elook l f args = some r → Pure P f args (· = r)
 | [], _, _, _, _, h => by cases h
 | (g, aa, q) :: l, hl, f, args, r, h => by
  simp only [elook] at h
  cases hb : (Nat.beq g f && sameL aa args) with
  | true =>
   rw [hb] at h
   cases h
   simp only [Bool.and_eq_true] at hb
   have h1 := Nat.eq_of_beq_eq_true hb.1
   have h2 := sameL_eq _ _ hb.2
   subst h1 h2
   exact hl _ (List.mem_cons_self ..)
  | false =>
   rw [hb] at h
   exact elookP_ok (fun e he => hl e (List.mem_cons_of_mem _ he)) f args r h
theorem tabsE_ok {P : Program} {l l' : List (FuncId × List HV × HV)} (hn : ∀ (f : FuncId) (x : Func), P.funcs[f]? = some x → (x.name == "runtime.NumGoroutine") = false) (hd : P.follows .mixedOrders = true) (hl : ∀ e ∈ l, Fresh P e.1 e.2.1 e.2.2) (hl' : ∀ e ∈ l', Pure P e.1 e.2.1 (· = e.2.2)) : (tabsE P l l').Ok P where
 extP := fun f args r h => elookP_ok hl' f args r h
 ty := fun _ _ h => h
 fn := fun f x h => ⟨h, hn f x h⟩
 ext := fun f args r h => elook_ok hl f args r h
 sortS := fun f h => by cases h
 sortI := fun f h => by cases h
 draw := hd
theorem tabsT_ok {l l' : List (FuncId × List HV × HV)} (hl : ∀ e ∈ l, Fresh Tryz.prog e.1 e.2.1 e.2.2) (hl' : ∀ e ∈ l', Pure Tryz.prog e.1 e.2.1 (· = e.2.2)) : (tabsE Tryz.prog l l').Ok Tryz.prog := tabsE_ok fnT_ok follows hl hl'
theorem tabs0_ok : (tabsE Tryz.prog [] []).Ok Tryz.prog := tabsT_ok (fun _ h => by cases h) (fun _ h => by cases h)
theorem w_math_bits_Len64 {p0 : Int} {r : Int} (h : m_math_bits_Len64 p0 = some r) : Pure Tryz.prog 117 [HV.int .u64 p0] (· = HV.int .i64 r) := by
 have hall : ∀ x ∈ [(1 : Int), 2, 3, 4, 5, 6], ∀ r, m_math_bits_Len64 x = some r → Pure Tryz.prog 117 [HV.int .u64 x] (· = HV.int .i64 r) := by
  intro x hx r h
  simp only [List.mem_cons, List.not_mem_nil, or_false] at hx
  rcases hx with rfl | rfl | rfl | rfl | rfl | rfl
  all_goals (cases h; exact Pure.of_comes (k := 1000) tabs0_ok (by kernel_rfl))
 refine hall p0 ?_ r h
 unfold m_math_bits_Len64 at h
 simp only [List.mem_cons, List.not_mem_nil, or_false]
 split at h
 ·omega
 ·split at h
  ·omega
  ·split at h
   ·omega
   ·cases h
end Go.AW
namespace Go.AW
open Go
set_option linter.unusedVariables false
noncomputable def m_integer_short (p0 : List (Int)) (p1 : Int) : Option ((List (Int)) × Int) :=
 if 0 ≤ (((p0).length : Int) : Int) ∧ (((p0).length : Int) : Int) ≤ ((p0).length : Int) ∧ (((p0).length : Int) : Int) * 4 ≤ 281474976710656 then
  (loopW (S := Int × Int × (List Int)) (X := (List Int) × Int) (fun a3 =>
      if 0 ≤ a3.2.1 then
       (idx p0 a3.2.1).bind fun x7 =>
       if (IntKind.wrap .u64 p1) ≠ 0 then
        if (IntKind.wrap .u64 p1) ≠ 0 then
         (idx a3.2.2 a3.2.1).bind fun x91101 =>
         some (Stp.next (Int.tmod (IntKind.wrap .u64 (BitVec.ofInt (IntKind.bits .u64) (IntKind.wrap .u64 (a3.1 * 2 ^ (min (32 : Int).toNat (IntKind.bits .u64)))) ||| BitVec.ofInt (IntKind.bits .u64) (IntKind.wrap .u64 x7)).toNat) (IntKind.wrap .u64 p1), IntKind.wrap .i64 (a3.2.1 - 1), (a3.2.2).set (a3.2.1).toNat (IntKind.wrap .u32 (IntKind.wrap .u64 (Int.tdiv (IntKind.wrap .u64 (BitVec.ofInt (IntKind.bits .u64) (IntKind.wrap .u64 (a3.1 * 2 ^ (min (32 : Int).toNat (IntKind.bits .u64)))) ||| BitVec.ofInt (IntKind.bits .u64) (IntKind.wrap .u64 x7)).toNat) (IntKind.wrap .u64 p1))))))
        else none
       else none
      else
       some (Stp.exit (a3.2.2, a3.1))) (0, IntKind.wrap .i64 (((p0).length : Int) - 1), List.replicate (((p0).length : Int)).toNat (0 : Int))).bind fun a10 =>
  (m_integer_trim a10.1).bind fun x12 =>
  some (x12, IntKind.wrap .u32 a10.2)
 else none
theorem SR.frzH {w : World} {μ : Mu} {H D H' : Heap} (n : Nat) (h : SR w μ H) (hD : ∀ id x, hget D id = some x → hget H id = some x ∧ hget H' id = none)
  (hs : ∀ id ver o, hget H' id = some (ver, o) → hget H id = some (ver, o) ∨ ∃ k e cs, hget H id = some (ver, .arr k e cs) ∧ o = .arr k e (cs.map (frz n D))) : SR w (μ.cut H') H' where
 ok := fun id ver b hb => h.ok id ver b (Mu.cut_some hb)
 has := fun id ver o ho => by
  rcases hs id ver o ho with h1 | ⟨k, e, cs, h1, rfl⟩
  ·obtain ⟨l, hl, hor⟩ := h.has id ver o h1
   exact ⟨l, by simp [Mu.cut, ho, hl], hor.evo (Evo.cut w μ H') h.ok (fun _ _ => rfl) (fun _ _ _ _ _ _ _ _ => rfl)⟩
  ·obtain ⟨l, hl, hor⟩ := h.has id ver _ h1
   refine ⟨l, by simp [Mu.cut, ho, hl], ?_⟩
   cases l with
   | none =>
    have : cs = [] := hor
    subst this
    exact (rfl : ([] : List HV).map (frz n D) = [])
   | some b =>
    obtain ⟨h0, cur, vs, rest, hrow, hcl, hrl⟩ := hor
    exact ⟨ones_frz h0, cur, vs, rest, hrow, hcl, RepL.mapF (fun c x _ => frz_rep h hD n c x) hrl⟩
 only := fun id x hx => by
  simp only [Mu.cut] at hx
  split at hx
  ·rename_i hi; exact Option.isSome_iff_exists.1 hi
  ·cases hx
 inj := fun i j v u b hi hj => h.inj i j v u b (Mu.cut_some hi) (Mu.cut_some hj)
 held := fun b hb => ⟨(h.held b hb).1, fun ⟨id, ver, hl⟩ => (h.held b hb).2 ⟨id, ver, Mu.cut_some hl⟩⟩
def leO (n : Nat) (D : Heap) (l : Heap) : Heap → Prop
 | [] => True
 | (i, v, o) :: l' => (hget l i = some (v, o) ∨ ∃ k e cs, hget l i = some (v, .arr k e cs) ∧ o = .arr k e (cs.map (frz n D))) ∧ leO n D l l'
theorem leO_get {n : Nat} {D l : Heap} : ∀ {l' : Heap}, leO n D l l' → ∀ t v o, hget l' t = some (v, o) → hget l t = some (v, o) ∨ ∃ k e cs, hget l t = some (v, .arr k e cs) ∧ o = .arr k e (cs.map (frz n D))
 | [], _, _, _, _, h => by cases h
 | (i, g, u) :: l', h, t, v, o, ht => by
  simp only [hget] at ht
  split at ht
  ·rename_i e; subst e; cases ht; exact h.1
  ·exact leO_get h.2 t v o ht
theorem to_fill {s : AS} {G : AS → Prop} (n : Nat) (D : Heap) (s' : AS) (h1 : leF n D s.slots s'.slots) (h2 : leO n D s.heap s'.heap) (h3 : leH s.heap D) (h4 : noneH s'.heap D) (h : G s') : s.to G := by
 intro ro N B μ a w hs
 have hD : ∀ id x, hget D id = some x → hget s.heap id = some x ∧ hget s'.heap id = none := fun id x hx => ⟨leH_get h3 id x hx, noneH_get h4 id x hx⟩
 refine ⟨μ.cut s'.heap, s', h, ⟨hs.size, hs.sr.frzH n hD (leO_get h2), fun t hv ht => ?_, hs.marks.evo (Evo.cut w μ s'.heap), hs.ro.evo (Evo.cut w μ s'.heap)⟩, Evo.cut w μ s'.heap⟩
 obtain ⟨g, hg, rfl⟩ := leF_get h1 t hv ht
 exact ⟨(hs.slot t g hg).1, frz_rep hs.sr hD n g _ (hs.slot t g hg).2⟩
theorem LeL.ones : ∀ {aa bs : List HV} (_ : LeL aa bs), ones aa → ones bs
 | _, _, .nil, h => h
 | _, _, .cons h h', h0 => fun c hc => by
  rcases List.mem_cons.1 hc with rfl | hc
  ·have := h0 _ (List.mem_cons_self ..)
   cases h with
   | refl => exact this
   | nil => rfl
   | empty => rfl
  ·exact LeL.ones h' (fun d hd => h0 d (List.mem_cons_of_mem _ hd)) c hc
section
variable {P : Program} {ro : Option Nat} {N : Nat} {all : Array Oper} {s : AS} {rest : List Oper} {o : Oper} {K : AS → Prop} {fid : Nat} {sl : List (Nat × HV)} {H : Heap}
theorem AOps.to {is : List Nat} (h : s.to (AOps P ro N all is K)) : AOps P ro N all is K s := fun w0 μ0 μ a w Q hs hE hK => by
 obtain ⟨μ1, t, ht, hs1, E1⟩ := h ro N w0.heap.size μ a w hs
 exact ht w0 μ0 μ1 a w Q hs1 (hE.trans E1) hK
theorem b_to {l : List Oper} (h : s.to (bops P ro N all l K)) : bops P ro N all l K s := fun hok i hi => AOps.to (to_mono h fun t ht => ht hok i hi)
end
end Go.AW
namespace Go.AW
open Go Go.Proofs
set_option maxHeartbeats 1600000
set_option maxRecDepth 100000
set_option linter.unusedVariables false
theorem w_integer_trim {p0 : List (Int)} {r : (List (Int))} (h : m_integer_trim p0 = some r) : Pure Tryz.prog 124 [slE (encM (HV.int .u32)) p0] (· = slE (encM (HV.int .u32)) r) := by
 unfold m_integer_trim at h
 refine Pure.of_body Tryz.func124 rfl rfl (lb rfl) fun hf => ?_
 unfold Tryz.f124
 dsimp only [enumS, Nat.reduceAdd]
 refine AW.rgs rfl fun K hK => mv rfl rfl ?_
 refine bf hK ⟨[(0, slE (encM (HV.int .u32)) p0)], []⟩ ?_
 refine AW.seq (AW.lpX h up_then (S := (List Int)) (V := Unit) (fun a v => ⟨[(0, slE (encM (HV.int .u32)) a)], []⟩) ?_ (X := (List Int)) (W := Unit) (fun a v => ⟨[(0, slE (encM (HV.int .u32)) a)], []⟩) (fun a12 w13 h => ?_) (fun a1 w2 st3 h => ?_))
 ·exact to_L ⟨(), rfl⟩
 ·refine AW.rgs rfl fun K hK => mv rfl rfl (mv rfl rfl ?_)
  refine bf hK ⟨[(2, slE (encM (HV.int .u32)) a12)], []⟩ ?_
  refine AW.ret ?_
  have h := Option.some.inj h
  subst h
  exact ret_pure (hs := [slE (encM (HV.int .u32)) a12]) (.inr rfl) (resT rfl rfl) rfl (clean_slE fun _ _ => ⟨trivial, trivial⟩)
 refine AW.seq ?_
 refine AW.seqJ h (S := Bool) (V := Unit) (fun a v => ⟨[(0, slE (encM (HV.int .u32)) a1), (14, .bool a)], []⟩) (fun a5 w6 h => ?_) (fun k7 h => ?_)
 ·refine AW.cond rfl (fun hc => ?_) (fun hc => ?_)
  ·have h := ifT hc h
   refine AW.skip ?_
   refine AW.block ?_
   refine AW.rg rfl fun K hK => mv rfl rfl (mv rfl rfl (bv rfl (v_lenF rfl rfl ty107 rfl) (bv rfl (v_bin rfl rfl b_sub) ?_)))
   obtain ⟨h8, h⟩ := ifN h
   refine bv rfl (v_sliceF (encM (HV.int .u32)) ty107 es107 rfl rfl rfl h8) (mv rfl rfl ?_)
   refine b_nil (hK _ ?_)
   exact to_L ⟨(a1.take (IntKind.wrap .i64 (((a1).length : Int) - 1)).toNat).drop (0 : Int).toNat, (), h, rfl⟩
  have h := ifF (bF' hc) h
  refine AW.exit ?_
  exact to_L ⟨a1, (), h, rfl⟩
 refine AW.rg rfl fun K hK => mv rfl rfl (bv rfl (v_lenF rfl rfl ty107 rfl) (bv rfl (v_bin rfl rfl b_gtr) (mv rfl rfl ?_)))
 by_cases hg11 : 0 < ((a1).length : Int)
 ·have h := ifT hg11 h
  refine b_T rfl rfl rfl rfl (decide_eq_true hg11) (o_val rfl (mv_val rfl rfl).2 ?_)
  refine b_T rfl rfl rfl rfl rfl (o_val rfl (mv_val rfl rfl).2 ?_)
  refine b_T rfl rfl rfl rfl rfl (o_val rfl (v_lenF rfl rfl ty107 rfl) ?_)
  refine b_T rfl rfl rfl rfl rfl (o_val rfl (v_bin rfl rfl b_sub) ?_)
  obtain ⟨x9, h10, h⟩ := bS h
  refine b_T rfl rfl rfl rfl rfl (o_val rfl (v_idxF ty107 es107 rfl rfl (idx_lt h10)) ?_)
  refine b_T rfl rfl rfl rfl rfl (o_val rfl (v_loadF ty105 rfl (l_cell (encM (HV.int .u32)) h10 (o := 0) rfl rfl)) ?_)
  refine b_T rfl rfl rfl rfl rfl (o_val rfl (v_bin rfl rfl b_eql) ?_)
  refine bv rfl (v_pickT rfl rfl rfl) ?_
  refine b_nil (hK _ ?_)
  exact to_L ⟨decide (x9 = 0), (), h, rfl⟩
 have h := ifF hg11 h
 refine b_F rfl rfl rfl rfl rfl (decide_eq_false hg11) ?_
 refine b_F rfl rfl rfl rfl rfl rfl ?_
 refine b_F rfl rfl rfl rfl rfl rfl ?_
 refine b_F rfl rfl rfl rfl rfl rfl ?_
 refine b_F rfl rfl rfl rfl rfl rfl ?_
 refine b_F rfl rfl rfl rfl rfl rfl ?_
 refine b_F rfl rfl rfl rfl rfl rfl ?_
 refine bv rfl (v_pickF rfl rfl rfl) ?_
 refine b_nil (hK _ ?_)
 exact to_L ⟨false, (), h, rfl⟩
theorem w_integer_number {p0 : Bool} {p1 : List (Int)} {r : TNegMag} (h : m_integer_number p0 p1 = some r) : Pure Tryz.prog 71 [.bool p0, slE (encM (HV.int .u32)) p1] (· = HV.agg [.bool r.1, .str r.2]) := by
 unfold m_integer_number at h
 refine Pure.of_body Tryz.func71 rfl rfl (lb rfl) fun hf => ?_
 unfold Tryz.f71
 dsimp only [enumS, Nat.reduceAdd]
 refine AW.rgs rfl fun K hK => b_op rfl (o_alloc (fid := 71) (zs := [.bool false, .str nS]) 71004 rfl rfl ty42 rfl (fun v1 => ?_))
 refine bf hK ⟨[(0, .bool p0), (1, slE (encM (HV.int .u32)) p1), (4, .ptr 71004 v1 0)], [(71004, v1, .arr 2 42 [.bool false, .str nS])]⟩ ?_
 refine AW.rgs rfl fun K hK => mv rfl rfl ?_
 obtain ⟨x2, h3, h⟩ := bS h
 refine b_op rfl (o_call rfl rfl rfl rfl (ACallD.pure0 (w_integer_trim h3)) ?_)
 refine mv rfl rfl ?_
 refine bf hK ⟨[(0, .bool p0), (1, slE (encM (HV.int .u32)) x2), (4, .ptr 71004 v1 0)], [(71004, v1, .arr 2 42 [.bool false, .str nS])]⟩ ?_
 refine AW.seq ?_
 refine AW.rgs rfl fun K hK => mv rfl rfl (bv rfl (v_lenF rfl rfl ty107 rfl) (bv rfl (v_bin rfl rfl b_eql) ?_))
 refine bf hK ⟨[(0, .bool p0), (1, slE (encM (HV.int .u32)) x2), (4, .ptr 71004 v1 0), (13, .bool (decide (((x2).length : Int) = 0)))], [(71004, v1, .arr 2 42 [.bool false, .str nS])]⟩ ?_
 refine AW.cond rfl (fun hc => ?_) (fun hc => ?_)
 ·obtain ⟨hc, h⟩ := cT hc h
  refine AW.rgs rfl fun K hK => b_op rfl (o_build (cs := [.bool false, .str nS]) rfl (bl_of ty42 rfl rfl rfl rfl) ?_)
  refine b_op rfl (o_store (cs := [.bool false, .str nS]) (zs := [.bool false, .str nS]) rfl rfl rfl ty42 rfl rfl rfl rfl rfl ?_)
  refine bf hK ⟨[(4, .ptr 71004 v1 0)], [(71004, v1, .arr 2 42 [.bool false, .str nS])]⟩ ?_
  refine AW.ret ?_
  have h := Option.some.inj h
  subst h
  exact ret_pure (hs := [.agg [.bool false, .str nS]]) (.inr rfl) (resP ty42 rfl rfl (l_litA rfl (lb rfl) rfl) rfl) rfl ⟨trivial, trivial, trivial⟩
 obtain ⟨hc, h⟩ := cF hc h
 refine AW.skip ?_
 refine AW.rgs rfl fun K hK => mv rfl rfl (bv rfl (v_lenF rfl rfl ty107 rfl) (bv rfl (v_bin rfl rfl b_mul) ?_))
 obtain ⟨h5, h⟩ := ifN h
 refine b_op rfl (o_makeE (fid := 71) eU8 (0 : Int) 71018 rfl rfl ty28 rfl rfl ty5 rfl rfl h5 (fun v4 => ?_))
 refine mv rfl rfl ?_
 refine bf hK ⟨[(0, .bool p0), (1, slE (encM (HV.int .u32)) x2), (4, .ptr 71004 v1 0), (5, .ar 71018 v4 eU8.k 0 ((List.replicate (0 : Int).toNat (0 : Int)).length))], [(71004, v1, .arr 2 42 [.bool false, .str nS]), (71018, v4, .arr eU8.k 5 (eU8.E (List.replicate (0 : Int).toNat (0 : Int))))]⟩ ?_
 refine AW.seq ?_
 refine AW.rgs rfl fun K hK => mv rfl rfl (bv rfl (v_lenF rfl rfl ty107 rfl) (bv rfl (v_bin rfl rfl b_sub) (mv rfl rfl ?_)))
 refine bf hK ⟨[(0, .bool p0), (1, slE (encM (HV.int .u32)) x2), (4, .ptr 71004 v1 0), (5, .ar 71018 v4 eU8.k 0 ((List.replicate (0 : Int).toNat (0 : Int)).length)), (6, hI (IntKind.wrap .i64 (((x2).length : Int) - 1)))], [(71004, v1, .arr 2 42 [.bool false, .str nS]), (71018, v4, .arr eU8.k 5 (eU8.E (List.replicate (0 : Int).toNat (0 : Int))))]⟩ ?_
 refine AW.lpX h (by first | exact up_then | exact up_to) (S := Int × (List Int)) (V := Nat) (fun a v => ⟨[(0, .bool p0), (1, slE (encM (HV.int .u32)) x2), (4, .ptr 71004 v1 0), (5, .ar 71018 v eU8.k 0 ((a.2).length)), (6, hI a.1)], [(71004, v1, .arr 2 42 [.bool false, .str nS]), (71018, v, .arr eU8.k 5 (eU8.E a.2))]⟩) ?_ (X := (List Int)) (W := Nat) (fun a v => ⟨[(0, .bool p0), (4, .ptr 71004 v1 0), (5, .ar 71018 v eU8.k 0 ((a).length))], [(71004, v1, .arr 2 42 [.bool false, .str nS]), (71018, v, .arr eU8.k 5 (eU8.E a))]⟩) (fun a28 w29 h => ?_) (fun a6 w7 st8 h => ?_)
 ·exact to_L ⟨v4, rfl⟩
 ·refine AW.to (to_frz 2 [(71018, w29, .arr eU8.k 5 (eU8.E a28))] ⟨[(0, .bool p0), (4, .ptr 71004 v1 0), (5, slE eU8 a28)], [(71004, v1, .arr 2 42 [.bool false, .str nS])]⟩ ⟨⟨_, rfl, rfl⟩, ⟨_, rfl, rfl⟩, ⟨_, rfl, frz_slE eU8 (l := a28) rfl fun _ _ => rfl⟩, trivial⟩ ⟨rfl, trivial⟩ ⟨rfl, trivial⟩ ⟨rfl, trivial⟩ ?_)
  refine AW.rgs rfl fun K hK => mv rfl rfl (mv rfl rfl (bv rfl (v_convB (l := a28) ty28 ty5 ty9 rfl) ?_))
  refine b_op rfl (o_build (cs := [.bool p0, .str (a28.map fun (n : Int) => UInt8.ofNat n.toNat)]) rfl (bl_of ty42 rfl rfl rfl rfl) ?_)
  refine b_op rfl (o_store (cs := [.bool p0, .str (a28.map fun (n : Int) => UInt8.ofNat n.toNat)]) (zs := [.bool p0, .str (a28.map fun (n : Int) => UInt8.ofNat n.toNat)]) rfl rfl rfl ty42 rfl rfl rfl rfl rfl ?_)
  refine bf hK ⟨[(4, .ptr 71004 v1 0)], [(71004, v1, .arr 2 42 [.bool p0, .str (a28.map fun (n : Int) => UInt8.ofNat n.toNat)])]⟩ ?_
  refine AW.ret ?_
  have h := Option.some.inj h
  subst h
  exact ret_pure (hs := [.agg [.bool p0, .str (a28.map fun (n : Int) => UInt8.ofNat n.toNat)]]) (.inr rfl) (resP ty42 rfl rfl (l_litA rfl (lb rfl) rfl) rfl) rfl ⟨trivial, trivial, trivial⟩
 refine AW.seq ?_
 refine AW.rgs rfl fun K hK => mv rfl rfl (bv rfl (v_bin rfl rfl b_geq) ?_)
 refine bf hK ⟨[(0, .bool p0), (1, slE (encM (HV.int .u32)) x2), (4, .ptr 71004 v1 0), (5, .ar 71018 w7 eU8.k 0 ((a6.2).length)), (6, hI a6.1), (23, .bool (decide (0 ≤ a6.1)))], [(71004, v1, .arr 2 42 [.bool false, .str nS]), (71018, w7, .arr eU8.k 5 (eU8.E a6.2))]⟩ ?_
 refine AW.cond rfl (fun hc => ?_) (fun hc => ?_)
 ·obtain ⟨hc, h⟩ := cT hc h
  refine AW.skip ?_
  refine AW.seq (AW.block ?_)
  refine AW.rgs rfl fun K hK => mv rfl rfl ?_
  refine bf hK ⟨[(0, .bool p0), (1, slE (encM (HV.int .u32)) x2), (4, .ptr 71004 v1 0), (5, .ar 71018 w7 eU8.k 0 ((a6.2).length)), (6, hI a6.1), (7, hI 3)], [(71004, v1, .arr 2 42 [.bool false, .str nS]), (71018, w7, .arr eU8.k 5 (eU8.E a6.2))]⟩ ?_
  refine AW.lpX h (by first | exact up_then | exact up_to) (S := Int × (List Int)) (V := Nat) (fun a v => ⟨[(0, .bool p0), (1, slE (encM (HV.int .u32)) x2), (4, .ptr 71004 v1 0), (5, .ar 71018 v eU8.k 0 ((a.2).length)), (6, hI a6.1), (7, hI a.1)], [(71004, v1, .arr 2 42 [.bool false, .str nS]), (71018, v, .arr eU8.k 5 (eU8.E a.2))]⟩) ?_ (X := (List Int)) (W := Nat) (fun a v => ⟨[(0, .bool p0), (1, slE (encM (HV.int .u32)) x2), (4, .ptr 71004 v1 0), (5, .ar 71018 v eU8.k 0 ((a).length)), (6, hI a6.1)], [(71004, v1, .arr 2 42 [.bool false, .str nS]), (71018, v, .arr eU8.k 5 (eU8.E a))]⟩) (fun a26 w27 h => ?_) (fun a10 w11 st12 h => ?_)
  ·exact to_L ⟨w7, rfl⟩
  ·refine AW.rg rfl fun K hK => mv rfl rfl (bv rfl (v_bin rfl rfl b_sub) (mv rfl rfl ?_))
   refine b_nil (hK _ ?_)
   exact to_L ⟨(IntKind.wrap .i64 (a6.1 - 1), a26), w27, h, rfl⟩
  refine AW.seq ?_
  refine AW.rgs rfl fun K hK => mv rfl rfl (bv rfl (v_bin rfl rfl b_geq) ?_)
  refine bf hK ⟨[(0, .bool p0), (1, slE (encM (HV.int .u32)) x2), (4, .ptr 71004 v1 0), (5, .ar 71018 w11 eU8.k 0 ((a10.2).length)), (6, hI a6.1), (7, hI a10.1), (27, .bool (decide (0 ≤ a10.1)))], [(71004, v1, .arr 2 42 [.bool false, .str nS]), (71018, w11, .arr eU8.k 5 (eU8.E a10.2))]⟩ ?_
  refine AW.cond rfl (fun hc => ?_) (fun hc => ?_)
  ·obtain ⟨hc, h⟩ := cT hc h
   refine AW.skip ?_
   refine AW.seqJ h (S := (List Int)) (V := Nat) (fun a v => ⟨[(0, .bool p0), (1, slE (encM (HV.int .u32)) x2), (4, .ptr 71004 v1 0), (5, .ar 71018 v eU8.k 0 ((a).length)), (6, hI a6.1), (7, hI a10.1)], [(71004, v1, .arr 2 42 [.bool false, .str nS]), (71018, v, .arr eU8.k 5 (eU8.E a))]⟩) (fun a14 w15 h => ?_) (fun k16 h => ?_)
   ·refine AW.rg rfl fun K hK => mv rfl rfl (bv rfl (v_bin rfl rfl b_sub) (mv rfl rfl ?_))
    refine b_nil (hK _ ?_)
    exact to_L ⟨(IntKind.wrap .i64 (a10.1 - 1), a14), w15, h, rfl⟩
   refine AW.block ?_
   refine AW.rgs rfl fun K hK => mv rfl rfl (mv rfl rfl ?_)
   obtain ⟨x17, h18, h⟩ := bS h
   refine bv rfl (v_idxF ty107 es107 rfl rfl (idx_lt h18)) (bv rfl (v_loadF ty105 rfl (l_cell (encM (HV.int .u32)) h18 (o := 0) rfl rfl)) (mv rfl rfl (bv rfl (v_bin rfl rfl b_mul) ?_)))
   obtain ⟨h19, h⟩ := ifN h
   refine bv rfl (v_bin rfl rfl (b_shr h19)) (bv rfl (v_convI ty105 ty5 rfl) (mv rfl rfl ?_))
   refine bf hK ⟨[(0, .bool p0), (1, slE (encM (HV.int .u32)) x2), (4, .ptr 71004 v1 0), (5, .ar 71018 w11 eU8.k 0 ((a10.2).length)), (6, hI a6.1), (7, hI a10.1), (8, .int .u8 (IntKind.wrap .u8 (Int.fdiv x17 (2 ^ (min ((IntKind.wrap .i64 (8 * a10.1))).toNat (IntKind.bits .u32))))))], [(71004, v1, .arr 2 42 [.bool false, .str nS]), (71018, w11, .arr eU8.k 5 (eU8.E a10.2))]⟩ ?_
   refine AW.seqJ h (S := Bool) (V := Unit) (fun a v => ⟨[(0, .bool p0), (1, slE (encM (HV.int .u32)) x2), (4, .ptr 71004 v1 0), (5, .ar 71018 w11 eU8.k 0 ((a10.2).length)), (6, hI a6.1), (7, hI a10.1), (8, .int .u8 (IntKind.wrap .u8 (Int.fdiv x17 (2 ^ (min ((IntKind.wrap .i64 (8 * a10.1))).toNat (IntKind.bits .u32)))))), (44, .bool a)], [(71004, v1, .arr 2 42 [.bool false, .str nS]), (71018, w11, .arr eU8.k 5 (eU8.E a10.2))]⟩) (fun a20 w21 h => ?_) (fun k22 h => ?_)
   ·refine AW.cond rfl (fun hc => ?_) (fun hc => ?_)
    ·have h := ifT hc h
     refine AW.rg rfl fun K hK => mv rfl rfl (mv rfl rfl ?_)
     refine b_op rfl (o_bsl rfl rfl (as_of (cs := [.int .u8 (IntKind.wrap .u8 (Int.fdiv x17 (2 ^ (min ((IntKind.wrap .i64 (8 * a10.1))).toNat (IntKind.bits .u32)))))]) ty28 ty5 rfl rfl rfl rfl rfl) ?_)
     obtain ⟨h24, h⟩ := ifN h
     refine b_op rfl (o_appE eU8 (l := a10.2) (m := [IntKind.wrap .u8 (Int.fdiv x17 (2 ^ (min ((IntKind.wrap .i64 (8 * a10.1))).toNat (IntKind.bits .u32))))]) rfl rfl ty28 ty28 ty5 rfl rfl rfl rfl rfl h24 (fun v23 => ?_))
     refine mv rfl rfl ?_
     refine b_nil (hK _ ?_)
     exact to_L ⟨a10.2 ++ [IntKind.wrap .u8 (Int.fdiv x17 (2 ^ (min ((IntKind.wrap .i64 (8 * a10.1))).toNat (IntKind.bits .u32))))], v23, h, rfl⟩
    have h := ifF (bF' hc) h
    refine AW.skip ?_
    exact to_L ⟨a10.2, w11, h, rfl⟩
   refine AW.rg rfl fun K hK => mv rfl rfl (bv rfl (v_bin rfl rfl b_neq) (mv rfl rfl ?_))
   by_cases hg25 : (IntKind.wrap .u8 (Int.fdiv x17 (2 ^ (min ((IntKind.wrap .i64 (8 * a10.1))).toNat (IntKind.bits .u32))))) ≠ 0
   ·have h := ifT hg25 h
    refine b_F rfl rfl rfl rfl rfl (decide_eq_true hg25) ?_
    refine b_F rfl rfl rfl rfl rfl rfl ?_
    refine b_F rfl rfl rfl rfl rfl rfl ?_
    refine bv rfl (v_pickT rfl rfl rfl) ?_
    refine b_nil (hK _ ?_)
    exact to_L ⟨true, (), h, rfl⟩
   have h := ifF hg25 h
   refine b_T rfl rfl rfl rfl (decide_eq_false hg25) (o_val rfl (mv_val rfl rfl).2 ?_)
   refine b_T rfl rfl rfl rfl rfl (o_val rfl (v_lenA rfl rfl ty28 rfl rfl) ?_)
   refine b_T rfl rfl rfl rfl rfl (o_val rfl (v_bin rfl rfl b_gtr) ?_)
   refine bv rfl (v_pickF rfl rfl rfl) ?_
   refine b_nil (hK _ ?_)
   exact to_L ⟨decide (0 < (((a10.2).length : Nat) : Int)), (), h, rfl⟩
  obtain ⟨hc, h⟩ := cF hc h
  refine AW.exit ?_
  exact to_L ⟨a10.2, w11, h, rfl⟩
 obtain ⟨hc, h⟩ := cF hc h
 refine AW.exit ?_
 exact to_L ⟨a6.2, w7, h, rfl⟩
theorem w_integer_short {p0 : List (Int)} {p1 : Int} {r : (List (Int)) × Int} (h : m_integer_short p0 p1 = some r) : Pure Tryz.prog 200 [slE (encM (HV.int .u32)) p0, .int .u32 p1] (· = HV.tup [slE (encM (HV.int .u32)) r.1, .int .u32 r.2]) := by
 unfold m_integer_short at h
 refine Pure.of_body Tryz.func200 rfl rfl (lb rfl) fun hf => ?_
 unfold Tryz.f200
 dsimp only [enumS, Nat.reduceAdd]
 refine AW.rgs rfl fun K hK => mv rfl rfl (mv rfl rfl ?_)
 refine bf hK ⟨[(0, slE (encM (HV.int .u32)) p0), (1, .int .u32 p1)], []⟩ ?_
 refine AW.rgs rfl fun K hK => mv rfl rfl (bv rfl (v_lenF rfl rfl ty107 rfl) ?_)
 obtain ⟨h2, h⟩ := ifN h
 refine b_op rfl (o_makeE (fid := 200) (encM (HV.int .u32)) (0 : Int) 200012 rfl rfl ty107 rfl rfl ty105 rfl rfl h2 (fun v1 => ?_))
 refine mv rfl rfl ?_
 refine bf hK ⟨[(0, slE (encM (HV.int .u32)) p0), (1, .int .u32 p1), (6, .ar 200012 v1 (encM (HV.int .u32)).k 0 ((List.replicate (((p0).length : Int)).toNat (0 : Int)).length))], [(200012, v1, .arr (encM (HV.int .u32)).k 105 ((encM (HV.int .u32)).E (List.replicate (((p0).length : Int)).toNat (0 : Int))))]⟩ ?_
 refine AW.rgs rfl fun K hK => mv rfl rfl ?_
 refine bf hK ⟨[(0, slE (encM (HV.int .u32)) p0), (1, .int .u32 p1), (6, .ar 200012 v1 (encM (HV.int .u32)).k 0 ((List.replicate (((p0).length : Int)).toNat (0 : Int)).length)), (7, .int .u64 0)], [(200012, v1, .arr (encM (HV.int .u32)).k 105 ((encM (HV.int .u32)).E (List.replicate (((p0).length : Int)).toNat (0 : Int))))]⟩ ?_
 refine AW.seq ?_
 refine AW.rgs rfl fun K hK => mv rfl rfl (bv rfl (v_lenF rfl rfl ty107 rfl) (bv rfl (v_bin rfl rfl b_sub) (mv rfl rfl ?_)))
 refine bf hK ⟨[(0, slE (encM (HV.int .u32)) p0), (1, .int .u32 p1), (6, .ar 200012 v1 (encM (HV.int .u32)).k 0 ((List.replicate (((p0).length : Int)).toNat (0 : Int)).length)), (7, .int .u64 0), (8, hI (IntKind.wrap .i64 (((p0).length : Int) - 1)))], [(200012, v1, .arr (encM (HV.int .u32)).k 105 ((encM (HV.int .u32)).E (List.replicate (((p0).length : Int)).toNat (0 : Int))))]⟩ ?_
 refine AW.lpX h (by first | exact up_then | exact up_to) (S := Int × Int × (List Int)) (V := Unit) (fun a v => ⟨[(0, slE (encM (HV.int .u32)) p0), (1, .int .u32 p1), (6, .ar 200012 v1 (encM (HV.int .u32)).k 0 ((a.2.2).length)), (7, .int .u64 a.1), (8, hI a.2.1)], [(200012, v1, .arr (encM (HV.int .u32)).k 105 ((encM (HV.int .u32)).E a.2.2))]⟩) ?_ (X := (List Int) × Int) (W := Unit) (fun a v => ⟨[(6, .ar 200012 v1 (encM (HV.int .u32)).k 0 ((a.1).length)), (7, .int .u64 a.2)], [(200012, v1, .arr (encM (HV.int .u32)).k 105 ((encM (HV.int .u32)).E a.1))]⟩) (fun a10 w11 h => ?_) (fun a3 w4 st5 h => ?_)
 ·exact to_L ⟨(), rfl⟩
 ·refine AW.to (to_frz 2 [(200012, v1, .arr (encM (HV.int .u32)).k 105 ((encM (HV.int .u32)).E a10.1))] ⟨[(6, slE (encM (HV.int .u32)) a10.1), (7, .int .u64 a10.2)], []⟩ ⟨⟨_, rfl, frz_slE (encM (HV.int .u32)) (l := a10.1) rfl fun _ _ => rfl⟩, ⟨_, rfl, rfl⟩, trivial⟩ trivial ⟨rfl, trivial⟩ ⟨rfl, trivial⟩ ?_)
  refine AW.rgs rfl fun K hK => mv rfl rfl ?_
  obtain ⟨x12, h13, h⟩ := bS h
  refine b_op rfl (o_call rfl rfl rfl rfl (ACallD.pure0 (w_integer_trim h13)) ?_)
  refine mv rfl rfl (bv rfl (v_convI ty103 ty105 rfl) (mv rfl rfl (mv rfl rfl ?_)))
  refine bf hK ⟨[(4, slE (encM (HV.int .u32)) x12), (5, .int .u32 (IntKind.wrap .u32 a10.2))], []⟩ ?_
  refine AW.ret ?_
  have h := Option.some.inj h
  subst h
  exact ret_pure (hs := [slE (encM (HV.int .u32)) x12, .int .u32 (IntKind.wrap .u32 a10.2)]) (.inr rfl) (resT rfl (resT rfl rfl)) rfl ⟨(clean_slE fun _ _ => ⟨trivial, trivial⟩), trivial, trivial⟩
 refine AW.seq ?_
 refine AW.rgs rfl fun K hK => mv rfl rfl (bv rfl (v_bin rfl rfl b_geq) ?_)
 refine bf hK ⟨[(0, slE (encM (HV.int .u32)) p0), (1, .int .u32 p1), (6, .ar 200012 v1 (encM (HV.int .u32)).k 0 ((a3.2.2).length)), (7, .int .u64 a3.1), (8, hI a3.2.1), (17, .bool (decide (0 ≤ a3.2.1)))], [(200012, v1, .arr (encM (HV.int .u32)).k 105 ((encM (HV.int .u32)).E a3.2.2))]⟩ ?_
 refine AW.cond rfl (fun hc => ?_) (fun hc => ?_)
 ·obtain ⟨hc, h⟩ := cT hc h
  refine AW.skip ?_
  refine AW.seq (AW.block ?_)
  refine AW.rgs rfl fun K hK => mv rfl rfl (bv rfl (v_bin rfl rfl (b_shl (by decide))) (mv rfl rfl (mv rfl rfl ?_)))
  obtain ⟨x7, h8, h⟩ := bS h
  refine bv rfl (v_idxF ty107 es107 rfl rfl (idx_lt h8)) (bv rfl (v_loadF ty105 rfl (l_cell (encM (HV.int .u32)) h8 (o := 0) rfl rfl)) (bv rfl (v_convI ty105 ty103 rfl) (bv rfl (v_bin rfl rfl b_or) (mv rfl rfl ?_))))
  refine bf hK ⟨[(0, slE (encM (HV.int .u32)) p0), (1, .int .u32 p1), (6, .ar 200012 v1 (encM (HV.int .u32)).k 0 ((a3.2.2).length)), (8, hI a3.2.1), (9, .int .u64 (IntKind.wrap .u64 (BitVec.ofInt (IntKind.bits .u64) (IntKind.wrap .u64 (a3.1 * 2 ^ (min (32 : Int).toNat (IntKind.bits .u64)))) ||| BitVec.ofInt (IntKind.bits .u64) (IntKind.wrap .u64 x7)).toNat))], [(200012, v1, .arr (encM (HV.int .u32)).k 105 ((encM (HV.int .u32)).E a3.2.2))]⟩ ?_
  refine AW.dl follows fun K hK F hF => ?_
  obtain ⟨h90501, h⟩ := ifN h
  obtain ⟨h91001, h⟩ := ifN h
  obtain ⟨x91101, h91102, h⟩ := bS h
  refine l_go (L' := []) hF rfl (s' := ⟨[(0, slE (encM (HV.int .u32)) p0), (1, .int .u32 p1), (6, .ar 200012 v1 (encM (HV.int .u32)).k 0 ((a3.2.2).length)), (8, hI a3.2.1), (9, .int .u64 (IntKind.wrap .u64 (BitVec.ofInt (IntKind.bits .u64) (IntKind.wrap .u64 (a3.1 * 2 ^ (min (32 : Int).toNat (IntKind.bits .u64)))) ||| BitVec.ofInt (IntKind.bits .u64) (IntKind.wrap .u64 x7)).toNat))], [(200012, v1, .arr (encM (HV.int .u32)).k 105 ((encM (HV.int .u32)).E a3.2.2))]⟩) ?_ (le_q rfl rfl)
  have g9_14 : F [0, 1, 2, 3, 4, 5, 6, 7, 8, 9, 10, 11, 12, 13] ⟨[(0, slE (encM (HV.int .u32)) p0), (1, .int .u32 p1), (6, .ar 200012 v1 (encM (HV.int .u32)).k 0 ((a3.2.2).length)), (7, .int .u64 (Int.tmod (IntKind.wrap .u64 (BitVec.ofInt (IntKind.bits .u64) (IntKind.wrap .u64 (a3.1 * 2 ^ (min (32 : Int).toNat (IntKind.bits .u64)))) ||| BitVec.ofInt (IntKind.bits .u64) (IntKind.wrap .u64 x7)).toNat) (IntKind.wrap .u64 p1))), (8, hI a3.2.1)], [(200012, v1, .arr (encM (HV.int .u32)).k 105 ((encM (HV.int .u32)).E ((a3.2.2).set (a3.2.1).toNat (IntKind.wrap .u32 (IntKind.wrap .u64 (Int.tdiv (IntKind.wrap .u64 (BitVec.ofInt (IntKind.bits .u64) (IntKind.wrap .u64 (a3.1 * 2 ^ (min (32 : Int).toNat (IntKind.bits .u64)))) ||| BitVec.ofInt (IntKind.bits .u64) (IntKind.wrap .u64 x7)).toNat) (IntKind.wrap .u64 p1)))))))]⟩ := by
   refine l_done hF rfl rfl (hK _ (AW.to (to_le (s' := ⟨[(0, slE (encM (HV.int .u32)) p0), (1, .int .u32 p1), (6, .ar 200012 v1 (encM (HV.int .u32)).k 0 (((a3.2.2).set (a3.2.1).toNat (IntKind.wrap .u32 (IntKind.wrap .u64 (Int.tdiv (IntKind.wrap .u64 (BitVec.ofInt (IntKind.bits .u64) (IntKind.wrap .u64 (a3.1 * 2 ^ (min (32 : Int).toNat (IntKind.bits .u64)))) ||| BitVec.ofInt (IntKind.bits .u64) (IntKind.wrap .u64 x7)).toNat) (IntKind.wrap .u64 p1))))).length)), (7, .int .u64 (Int.tmod (IntKind.wrap .u64 (BitVec.ofInt (IntKind.bits .u64) (IntKind.wrap .u64 (a3.1 * 2 ^ (min (32 : Int).toNat (IntKind.bits .u64)))) ||| BitVec.ofInt (IntKind.bits .u64) (IntKind.wrap .u64 x7)).toNat) (IntKind.wrap .u64 p1))), (8, hI a3.2.1)], [(200012, v1, .arr (encM (HV.int .u32)).k 105 ((encM (HV.int .u32)).E ((a3.2.2).set (a3.2.1).toNat (IntKind.wrap .u32 (IntKind.wrap .u64 (Int.tdiv (IntKind.wrap .u64 (BitVec.ofInt (IntKind.bits .u64) (IntKind.wrap .u64 (a3.1 * 2 ^ (min (32 : Int).toNat (IntKind.bits .u64)))) ||| BitVec.ofInt (IntKind.bits .u64) (IntKind.wrap .u64 x7)).toNat) (IntKind.wrap .u64 p1)))))))]⟩) (AS.le_of ⟨rfl, rfl, arl (by first | rfl | simp only [List.length_set, sortI_len, sortS_len]), rfl, rfl, trivial⟩ ⟨rfl, trivial⟩) ?_)))
   refine AW.rg rfl fun K hK => mv rfl rfl (bv rfl (v_bin rfl rfl b_sub) (mv rfl rfl ?_))
   refine b_nil (hK _ ?_)
   exact to_L ⟨(Int.tmod (IntKind.wrap .u64 (BitVec.ofInt (IntKind.bits .u64) (IntKind.wrap .u64 (a3.1 * 2 ^ (min (32 : Int).toNat (IntKind.bits .u64)))) ||| BitVec.ofInt (IntKind.bits .u64) (IntKind.wrap .u64 x7)).toNat) (IntKind.wrap .u64 p1), IntKind.wrap .i64 (a3.2.1 - 1), (a3.2.2).set (a3.2.1).toNat (IntKind.wrap .u32 (IntKind.wrap .u64 (Int.tdiv (IntKind.wrap .u64 (BitVec.ofInt (IntKind.bits .u64) (IntKind.wrap .u64 (a3.1 * 2 ^ (min (32 : Int).toNat (IntKind.bits .u64)))) ||| BitVec.ofInt (IntKind.bits .u64) (IntKind.wrap .u64 x7)).toNat) (IntKind.wrap .u64 p1))))), (), h, rfl⟩
  have g9_13 : F [0, 1, 2, 3, 4, 5, 6, 7, 8, 9, 10, 11, 12] ⟨[(0, slE (encM (HV.int .u32)) p0), (1, .int .u32 p1), (6, .ar 200012 v1 (encM (HV.int .u32)).k 0 ((a3.2.2).length)), (8, hI a3.2.1), (38, .int .u64 (Int.tmod (IntKind.wrap .u64 (BitVec.ofInt (IntKind.bits .u64) (IntKind.wrap .u64 (a3.1 * 2 ^ (min (32 : Int).toNat (IntKind.bits .u64)))) ||| BitVec.ofInt (IntKind.bits .u64) (IntKind.wrap .u64 x7)).toNat) (IntKind.wrap .u64 p1)))], [(200012, v1, .arr (encM (HV.int .u32)).k 105 ((encM (HV.int .u32)).E ((a3.2.2).set (a3.2.1).toNat (IntKind.wrap .u32 (IntKind.wrap .u64 (Int.tdiv (IntKind.wrap .u64 (BitVec.ofInt (IntKind.bits .u64) (IntKind.wrap .u64 (a3.1 * 2 ^ (min (32 : Int).toNat (IntKind.bits .u64)))) ||| BitVec.ofInt (IntKind.bits .u64) (IntKind.wrap .u64 x7)).toNat) (IntKind.wrap .u64 p1)))))))]⟩ := by
   refine l_step hF rfl [13] rfl rfl ⟨?_, trivial⟩
   ·exact l_ov rfl rfl rfl rfl (mv_val rfl rfl).2 (lg hF (g9_14))
  have g9_12 : F [0, 1, 2, 3, 4, 5, 6, 7, 8, 9, 10, 11] ⟨[(0, slE (encM (HV.int .u32)) p0), (1, .int .u32 p1), (6, .ar 200012 v1 (encM (HV.int .u32)).k 0 ((a3.2.2).length)), (8, hI a3.2.1), (34, .int .u32 (IntKind.wrap .u32 (IntKind.wrap .u64 (Int.tdiv (IntKind.wrap .u64 (BitVec.ofInt (IntKind.bits .u64) (IntKind.wrap .u64 (a3.1 * 2 ^ (min (32 : Int).toNat (IntKind.bits .u64)))) ||| BitVec.ofInt (IntKind.bits .u64) (IntKind.wrap .u64 x7)).toNat) (IntKind.wrap .u64 p1))))), (38, .int .u64 (Int.tmod (IntKind.wrap .u64 (BitVec.ofInt (IntKind.bits .u64) (IntKind.wrap .u64 (a3.1 * 2 ^ (min (32 : Int).toNat (IntKind.bits .u64)))) ||| BitVec.ofInt (IntKind.bits .u64) (IntKind.wrap .u64 x7)).toNat) (IntKind.wrap .u64 p1))), (39, .ptr 200012 v1 ((a3.2.1).toNat * (encM (HV.int .u32)).k))], [(200012, v1, .arr (encM (HV.int .u32)).k 105 ((encM (HV.int .u32)).E a3.2.2))]⟩ := by
   refine l_step hF rfl [12] rfl rfl ⟨?_, trivial⟩
   ·refine l_op rfl rfl rfl (o_storeE (encM (HV.int .u32)) (l := a3.2.2) (j := a3.2.1) (v := IntKind.wrap .u32 (IntKind.wrap .u64 (Int.tdiv (IntKind.wrap .u64 (BitVec.ofInt (IntKind.bits .u64) (IntKind.wrap .u64 (a3.1 * 2 ^ (min (32 : Int).toNat (IntKind.bits .u64)))) ||| BitVec.ofInt (IntKind.bits .u64) (IntKind.wrap .u64 x7)).toNat) (IntKind.wrap .u64 p1)))) rfl rfl rfl ty105 rfl rfl rfl (idx_lt h91102) ?_)
    exact b_nil (lg hF (g9_13))
  have g9_11 : F [0, 1, 2, 3, 4, 5, 6, 7, 8, 9, 10] ⟨[(0, slE (encM (HV.int .u32)) p0), (1, .int .u32 p1), (6, .ar 200012 v1 (encM (HV.int .u32)).k 0 ((a3.2.2).length)), (8, hI a3.2.1), (28, .ar 200012 v1 (encM (HV.int .u32)).k 0 ((a3.2.2).length)), (29, hI a3.2.1), (34, .int .u32 (IntKind.wrap .u32 (IntKind.wrap .u64 (Int.tdiv (IntKind.wrap .u64 (BitVec.ofInt (IntKind.bits .u64) (IntKind.wrap .u64 (a3.1 * 2 ^ (min (32 : Int).toNat (IntKind.bits .u64)))) ||| BitVec.ofInt (IntKind.bits .u64) (IntKind.wrap .u64 x7)).toNat) (IntKind.wrap .u64 p1))))), (38, .int .u64 (Int.tmod (IntKind.wrap .u64 (BitVec.ofInt (IntKind.bits .u64) (IntKind.wrap .u64 (a3.1 * 2 ^ (min (32 : Int).toNat (IntKind.bits .u64)))) ||| BitVec.ofInt (IntKind.bits .u64) (IntKind.wrap .u64 x7)).toNat) (IntKind.wrap .u64 p1)))], [(200012, v1, .arr (encM (HV.int .u32)).k 105 ((encM (HV.int .u32)).E a3.2.2))]⟩ := by
   refine l_take (i := 11) hF rfl rfl rfl (v_idxA ty107 es107 rfl rfl (idx_lt h91102) rfl) ?_
   exact lg hF (g9_12)
  have g9_10 : F [0, 1, 2, 3, 4, 5, 6, 7, 8, 9] ⟨[(0, slE (encM (HV.int .u32)) p0), (1, .int .u32 p1), (6, .ar 200012 v1 (encM (HV.int .u32)).k 0 ((a3.2.2).length)), (8, hI a3.2.1), (28, .ar 200012 v1 (encM (HV.int .u32)).k 0 ((a3.2.2).length)), (29, hI a3.2.1), (34, .int .u32 (IntKind.wrap .u32 (IntKind.wrap .u64 (Int.tdiv (IntKind.wrap .u64 (BitVec.ofInt (IntKind.bits .u64) (IntKind.wrap .u64 (a3.1 * 2 ^ (min (32 : Int).toNat (IntKind.bits .u64)))) ||| BitVec.ofInt (IntKind.bits .u64) (IntKind.wrap .u64 x7)).toNat) (IntKind.wrap .u64 p1))))), (35, .int .u64 (IntKind.wrap .u64 (BitVec.ofInt (IntKind.bits .u64) (IntKind.wrap .u64 (a3.1 * 2 ^ (min (32 : Int).toNat (IntKind.bits .u64)))) ||| BitVec.ofInt (IntKind.bits .u64) (IntKind.wrap .u64 x7)).toNat)), (37, .int .u64 (IntKind.wrap .u64 p1))], [(200012, v1, .arr (encM (HV.int .u32)).k 105 ((encM (HV.int .u32)).E a3.2.2))]⟩ := by
   refine l_takeW (i := 10) hF rfl rfl rfl (f_bin rfl rfl rfl (b_rem h91001) rfl) ?_
   exact lg hF (g9_11)
  have g9_9 : F [0, 1, 2, 3, 4, 5, 6, 7, 8] ⟨[(0, slE (encM (HV.int .u32)) p0), (1, .int .u32 p1), (6, .ar 200012 v1 (encM (HV.int .u32)).k 0 ((a3.2.2).length)), (8, hI a3.2.1), (28, .ar 200012 v1 (encM (HV.int .u32)).k 0 ((a3.2.2).length)), (29, hI a3.2.1), (34, .int .u32 (IntKind.wrap .u32 (IntKind.wrap .u64 (Int.tdiv (IntKind.wrap .u64 (BitVec.ofInt (IntKind.bits .u64) (IntKind.wrap .u64 (a3.1 * 2 ^ (min (32 : Int).toNat (IntKind.bits .u64)))) ||| BitVec.ofInt (IntKind.bits .u64) (IntKind.wrap .u64 x7)).toNat) (IntKind.wrap .u64 p1))))), (35, .int .u64 (IntKind.wrap .u64 (BitVec.ofInt (IntKind.bits .u64) (IntKind.wrap .u64 (a3.1 * 2 ^ (min (32 : Int).toNat (IntKind.bits .u64)))) ||| BitVec.ofInt (IntKind.bits .u64) (IntKind.wrap .u64 x7)).toNat)), (36, .int .u32 p1)], [(200012, v1, .arr (encM (HV.int .u32)).k 105 ((encM (HV.int .u32)).E a3.2.2))]⟩ := by
   refine l_takeW (i := 9) hF rfl rfl rfl (f_convI rfl ty105 ty103 rfl) ?_
   exact lg hF (g9_10)
  have g9_8 : F [0, 1, 2, 3, 4, 5, 6, 7] ⟨[(0, slE (encM (HV.int .u32)) p0), (1, .int .u32 p1), (6, .ar 200012 v1 (encM (HV.int .u32)).k 0 ((a3.2.2).length)), (8, hI a3.2.1), (28, .ar 200012 v1 (encM (HV.int .u32)).k 0 ((a3.2.2).length)), (29, hI a3.2.1), (34, .int .u32 (IntKind.wrap .u32 (IntKind.wrap .u64 (Int.tdiv (IntKind.wrap .u64 (BitVec.ofInt (IntKind.bits .u64) (IntKind.wrap .u64 (a3.1 * 2 ^ (min (32 : Int).toNat (IntKind.bits .u64)))) ||| BitVec.ofInt (IntKind.bits .u64) (IntKind.wrap .u64 x7)).toNat) (IntKind.wrap .u64 p1))))), (35, .int .u64 (IntKind.wrap .u64 (BitVec.ofInt (IntKind.bits .u64) (IntKind.wrap .u64 (a3.1 * 2 ^ (min (32 : Int).toNat (IntKind.bits .u64)))) ||| BitVec.ofInt (IntKind.bits .u64) (IntKind.wrap .u64 x7)).toNat))], [(200012, v1, .arr (encM (HV.int .u32)).k 105 ((encM (HV.int .u32)).E a3.2.2))]⟩ := by
   refine l_take (i := 8) hF rfl rfl rfl (mv_val rfl rfl).2 ?_
   exact lg hF (g9_9)
  have g9_7 : F [0, 1, 2, 3, 4, 5, 6] ⟨[(0, slE (encM (HV.int .u32)) p0), (1, .int .u32 p1), (6, .ar 200012 v1 (encM (HV.int .u32)).k 0 ((a3.2.2).length)), (8, hI a3.2.1), (9, .int .u64 (IntKind.wrap .u64 (BitVec.ofInt (IntKind.bits .u64) (IntKind.wrap .u64 (a3.1 * 2 ^ (min (32 : Int).toNat (IntKind.bits .u64)))) ||| BitVec.ofInt (IntKind.bits .u64) (IntKind.wrap .u64 x7)).toNat)), (28, .ar 200012 v1 (encM (HV.int .u32)).k 0 ((a3.2.2).length)), (29, hI a3.2.1), (34, .int .u32 (IntKind.wrap .u32 (IntKind.wrap .u64 (Int.tdiv (IntKind.wrap .u64 (BitVec.ofInt (IntKind.bits .u64) (IntKind.wrap .u64 (a3.1 * 2 ^ (min (32 : Int).toNat (IntKind.bits .u64)))) ||| BitVec.ofInt (IntKind.bits .u64) (IntKind.wrap .u64 x7)).toNat) (IntKind.wrap .u64 p1)))))], [(200012, v1, .arr (encM (HV.int .u32)).k 105 ((encM (HV.int .u32)).E a3.2.2))]⟩ := by
   refine l_take (i := 7) hF rfl rfl rfl (mv_val rfl rfl).2 ?_
   exact lg hF (g9_8)
  have g9_6 : F [0, 1, 2, 3, 4, 5] ⟨[(0, slE (encM (HV.int .u32)) p0), (1, .int .u32 p1), (6, .ar 200012 v1 (encM (HV.int .u32)).k 0 ((a3.2.2).length)), (8, hI a3.2.1), (9, .int .u64 (IntKind.wrap .u64 (BitVec.ofInt (IntKind.bits .u64) (IntKind.wrap .u64 (a3.1 * 2 ^ (min (32 : Int).toNat (IntKind.bits .u64)))) ||| BitVec.ofInt (IntKind.bits .u64) (IntKind.wrap .u64 x7)).toNat)), (28, .ar 200012 v1 (encM (HV.int .u32)).k 0 ((a3.2.2).length)), (29, hI a3.2.1), (33, .int .u64 (IntKind.wrap .u64 (Int.tdiv (IntKind.wrap .u64 (BitVec.ofInt (IntKind.bits .u64) (IntKind.wrap .u64 (a3.1 * 2 ^ (min (32 : Int).toNat (IntKind.bits .u64)))) ||| BitVec.ofInt (IntKind.bits .u64) (IntKind.wrap .u64 x7)).toNat) (IntKind.wrap .u64 p1))))], [(200012, v1, .arr (encM (HV.int .u32)).k 105 ((encM (HV.int .u32)).E a3.2.2))]⟩ := by
   refine l_takeW (i := 6) hF rfl rfl rfl (f_convI rfl ty103 ty105 rfl) ?_
   exact lg hF (g9_7)
  have g9_5 : F [0, 1, 2, 3, 4] ⟨[(0, slE (encM (HV.int .u32)) p0), (1, .int .u32 p1), (6, .ar 200012 v1 (encM (HV.int .u32)).k 0 ((a3.2.2).length)), (8, hI a3.2.1), (9, .int .u64 (IntKind.wrap .u64 (BitVec.ofInt (IntKind.bits .u64) (IntKind.wrap .u64 (a3.1 * 2 ^ (min (32 : Int).toNat (IntKind.bits .u64)))) ||| BitVec.ofInt (IntKind.bits .u64) (IntKind.wrap .u64 x7)).toNat)), (28, .ar 200012 v1 (encM (HV.int .u32)).k 0 ((a3.2.2).length)), (29, hI a3.2.1), (30, .int .u64 (IntKind.wrap .u64 (BitVec.ofInt (IntKind.bits .u64) (IntKind.wrap .u64 (a3.1 * 2 ^ (min (32 : Int).toNat (IntKind.bits .u64)))) ||| BitVec.ofInt (IntKind.bits .u64) (IntKind.wrap .u64 x7)).toNat)), (32, .int .u64 (IntKind.wrap .u64 p1))], [(200012, v1, .arr (encM (HV.int .u32)).k 105 ((encM (HV.int .u32)).E a3.2.2))]⟩ := by
   refine l_takeW (i := 5) hF rfl rfl rfl (f_bin rfl rfl rfl (b_quo h90501) rfl) ?_
   exact lg hF (g9_6)
  have g9_4 : F [0, 1, 2, 3] ⟨[(0, slE (encM (HV.int .u32)) p0), (1, .int .u32 p1), (6, .ar 200012 v1 (encM (HV.int .u32)).k 0 ((a3.2.2).length)), (8, hI a3.2.1), (9, .int .u64 (IntKind.wrap .u64 (BitVec.ofInt (IntKind.bits .u64) (IntKind.wrap .u64 (a3.1 * 2 ^ (min (32 : Int).toNat (IntKind.bits .u64)))) ||| BitVec.ofInt (IntKind.bits .u64) (IntKind.wrap .u64 x7)).toNat)), (28, .ar 200012 v1 (encM (HV.int .u32)).k 0 ((a3.2.2).length)), (29, hI a3.2.1), (30, .int .u64 (IntKind.wrap .u64 (BitVec.ofInt (IntKind.bits .u64) (IntKind.wrap .u64 (a3.1 * 2 ^ (min (32 : Int).toNat (IntKind.bits .u64)))) ||| BitVec.ofInt (IntKind.bits .u64) (IntKind.wrap .u64 x7)).toNat)), (31, .int .u32 p1)], [(200012, v1, .arr (encM (HV.int .u32)).k 105 ((encM (HV.int .u32)).E a3.2.2))]⟩ := by
   refine l_takeW (i := 4) hF rfl rfl rfl (f_convI rfl ty105 ty103 rfl) ?_
   exact lg hF (g9_5)
  have g9_3 : F [0, 1, 2] ⟨[(0, slE (encM (HV.int .u32)) p0), (1, .int .u32 p1), (6, .ar 200012 v1 (encM (HV.int .u32)).k 0 ((a3.2.2).length)), (8, hI a3.2.1), (9, .int .u64 (IntKind.wrap .u64 (BitVec.ofInt (IntKind.bits .u64) (IntKind.wrap .u64 (a3.1 * 2 ^ (min (32 : Int).toNat (IntKind.bits .u64)))) ||| BitVec.ofInt (IntKind.bits .u64) (IntKind.wrap .u64 x7)).toNat)), (28, .ar 200012 v1 (encM (HV.int .u32)).k 0 ((a3.2.2).length)), (29, hI a3.2.1), (30, .int .u64 (IntKind.wrap .u64 (BitVec.ofInt (IntKind.bits .u64) (IntKind.wrap .u64 (a3.1 * 2 ^ (min (32 : Int).toNat (IntKind.bits .u64)))) ||| BitVec.ofInt (IntKind.bits .u64) (IntKind.wrap .u64 x7)).toNat))], [(200012, v1, .arr (encM (HV.int .u32)).k 105 ((encM (HV.int .u32)).E a3.2.2))]⟩ := by
   refine l_take (i := 3) hF rfl rfl rfl (mv_val rfl rfl).2 ?_
   exact lg hF (g9_4)
  have g9_2 : F [0, 1] ⟨[(0, slE (encM (HV.int .u32)) p0), (1, .int .u32 p1), (6, .ar 200012 v1 (encM (HV.int .u32)).k 0 ((a3.2.2).length)), (8, hI a3.2.1), (9, .int .u64 (IntKind.wrap .u64 (BitVec.ofInt (IntKind.bits .u64) (IntKind.wrap .u64 (a3.1 * 2 ^ (min (32 : Int).toNat (IntKind.bits .u64)))) ||| BitVec.ofInt (IntKind.bits .u64) (IntKind.wrap .u64 x7)).toNat)), (28, .ar 200012 v1 (encM (HV.int .u32)).k 0 ((a3.2.2).length)), (29, hI a3.2.1)], [(200012, v1, .arr (encM (HV.int .u32)).k 105 ((encM (HV.int .u32)).E a3.2.2))]⟩ := by
   refine l_take (i := 2) hF rfl rfl rfl (mv_val rfl rfl).2 ?_
   exact lg hF (g9_3)
  have g9_1 : F [0] ⟨[(0, slE (encM (HV.int .u32)) p0), (1, .int .u32 p1), (6, .ar 200012 v1 (encM (HV.int .u32)).k 0 ((a3.2.2).length)), (8, hI a3.2.1), (9, .int .u64 (IntKind.wrap .u64 (BitVec.ofInt (IntKind.bits .u64) (IntKind.wrap .u64 (a3.1 * 2 ^ (min (32 : Int).toNat (IntKind.bits .u64)))) ||| BitVec.ofInt (IntKind.bits .u64) (IntKind.wrap .u64 x7)).toNat)), (28, .ar 200012 v1 (encM (HV.int .u32)).k 0 ((a3.2.2).length))], [(200012, v1, .arr (encM (HV.int .u32)).k 105 ((encM (HV.int .u32)).E a3.2.2))]⟩ := by
   refine l_take (i := 1) hF rfl rfl rfl (mv_val rfl rfl).2 ?_
   exact lg hF (g9_2)
  have g9_0 : F [] ⟨[(0, slE (encM (HV.int .u32)) p0), (1, .int .u32 p1), (6, .ar 200012 v1 (encM (HV.int .u32)).k 0 ((a3.2.2).length)), (8, hI a3.2.1), (9, .int .u64 (IntKind.wrap .u64 (BitVec.ofInt (IntKind.bits .u64) (IntKind.wrap .u64 (a3.1 * 2 ^ (min (32 : Int).toNat (IntKind.bits .u64)))) ||| BitVec.ofInt (IntKind.bits .u64) (IntKind.wrap .u64 x7)).toNat))], [(200012, v1, .arr (encM (HV.int .u32)).k 105 ((encM (HV.int .u32)).E a3.2.2))]⟩ := by
   refine l_take (i := 0) hF rfl rfl rfl (mv_val rfl rfl).2 ?_
   exact lg hF (g9_1)
  exact g9_0
 obtain ⟨hc, h⟩ := cF hc h
 refine AW.exit ?_
 exact to_L ⟨(a3.2.2, a3.1), (), h, rfl⟩
end Go.AW

namespace Go.AW
open Go
structure Lq {α : Type} (x y : Option α) : Prop where
 ap : ∀ r, x = some r → y = some r
theorem Lq.refl {α : Type} (x : Option α) : Lq x x := ⟨fun _ h => h⟩
theorem Lq.none {α : Type} {y : Option α} : Lq Option.none y := ⟨fun _ h => by cases h⟩
theorem Lq.bind {α β : Type} {x y : Option α} {f g : α → Option β} (h : Lq x y) (hk : ∀ a, Lq (f a) (g a)) : Lq (x.bind f) (y.bind g) := by
 refine ⟨fun r hr => ?_⟩
 obtain ⟨a, ha, hf⟩ := bS hr
 rw [h.ap a ha]
 exact (hk a).ap r hf
theorem Lq.ite {α : Type} {p : Prop} [Decidable p] {a a' b b' : Option α} (h1 : Lq a a') (h2 : Lq b b') : Lq (if p then a else b) (if p then a' else b') := by
 refine ⟨fun r hr => ?_⟩
 by_cases hp : p
 ·rw [if_pos hp] at hr ⊢; exact h1.ap r hr
 ·rw [if_neg hp] at hr ⊢; exact h2.ap r hr
theorem Lq.jp {S R : Type} {M M' : S → Option R} {B B' : (S → Option R) → Option R} (hM : ∀ a, Lq (M a) (M' a)) (hB : ∀ k k' : S → Option R, (∀ a, Lq (k a) (k' a)) → Lq (B k) (B' k')) : Lq (Go.AW.jp M B) (Go.AW.jp M' B') := hB _ _ hM
theorem iter_mono {S X : Type} {f g : S → Option (Stp S X)} (h : ∀ s, Lq (f s) (g s)) : ∀ (n : Nat) (s : S) (r : X), iter f n s = some r → iter g n s = some r
 | 0, _, _, hr => hr
 | n + 1, s, r, hr => by
  simp only [iter] at hr ⊢
  split at hr
  ·rename_i s' hs
   rw [(h s).ap _ hs]
   exact iter_mono h n s' r hr
  ·rename_i x hs
   rw [(h s).ap _ hs]
   exact hr
  ·cases hr
def loopE {S X : Type} (body : S → Option (Stp S X)) (s : S) : Option X := iter body 1000000 s
theorem Lq.loop {S X : Type} {f g : S → Option (Stp S X)} {s : S} (h : ∀ s, Lq (f s) (g s)) : Lq (loopE f s) (loopW g s) := ⟨fun r hr => loopW_of (iter_mono h _ s r hr)⟩
theorem Lq.lpO {V R Y : Type} {x y : Option (Ou V R)} {M M' : V → Option Y} {Rt Rt' : R → Option Y} (h : Lq x y) (hM : ∀ v, Lq (M v) (M' v)) (hR : ∀ r, Lq (Rt r) (Rt' r)) : Lq (Go.AW.lpO x M Rt) (Go.AW.lpO y M' Rt') := by
 refine ⟨fun r hr => ?_⟩
 unfold Go.AW.lpO at hr ⊢
 split at hr
 ·rename_i v
  rw [h.ap _ rfl]; exact (hM v).ap r hr
 ·rename_i v
  rw [h.ap _ rfl]; exact (hR v).ap r hr
 ·cases hr
theorem forL_mono {S α X : Type} {f g : S → α → Option (Stp S X)} (h : ∀ s a, Lq (f s a) (g s a)) : ∀ (l : List α) (s : S) (r : Ou S X), forL f l s = some r → forL g l s = some r
 | [], _, _, hr => hr
 | x :: l, s, r, hr => by
  simp only [forL] at hr ⊢
  split at hr
  ·rename_i s' hs
   rw [(h s x).ap _ hs]
   exact forL_mono h l s' r hr
  ·rename_i y hs
   rw [(h s x).ap _ hs]
   exact hr
  ·cases hr
theorem Lq.forL {S α X : Type} {f g : S → α → Option (Stp S X)} {l : List α} {s : S} (h : ∀ s a, Lq (f s a) (g s a)) : Lq (Go.AW.forL f l s) (Go.AW.forL g l s) := ⟨forL_mono h l s⟩
set_option linter.unusedVariables false
def c_integer_trim (p0 : List (Int)) : Option ((List (Int))) :=
 (loopE (S := (List Int)) (X := (List Int)) (fun a1 =>
   jp (fun (a5 : Bool) =>
    if a5 = true then
     if 0 ≤ (0 : Int) ∧ (0 : Int) ≤ IntKind.wrap .i64 (((a1).length : Int) - 1) ∧ IntKind.wrap .i64 (((a1).length : Int) - 1) ≤ (a1.length : Int) then
      some (Stp.next ((a1.take (IntKind.wrap .i64 (((a1).length : Int) - 1)).toNat).drop (0 : Int).toNat))
     else none
    else
     some (Stp.exit a1))
    fun k7 =>
    if 0 < ((a1).length : Int) then
     (idx a1 (IntKind.wrap .i64 (((a1).length : Int) - 1))).bind fun x9 =>
     k7 (decide (x9 = 0))
    else
     k7 false) p0).bind fun a12 =>
 some a12
set_option maxHeartbeats 1600000 in
theorem le_integer_trim {p0 : List (Int)} : Lq (c_integer_trim p0) (m_integer_trim p0) := by
 unfold c_integer_trim m_integer_trim
 repeat' with_reducible first | intro _ | exact Lq.refl _ | exact Lq.none | apply Lq.ite | apply Lq.bind | apply Lq.jp | apply Lq.loop | apply Lq.lpO | apply Lq.forL | apply_assumption
def c_integer_number (p0 : Bool) (p1 : List (Int)) : Option (TNegMag) :=
 (c_integer_trim p1).bind fun x2 =>
 if ((x2).length : Int) = 0 then
  some (false, ([] : List UInt8))
 else
  if 0 ≤ (0 : Int) ∧ (0 : Int) ≤ IntKind.wrap .i64 (4 * ((x2).length : Int)) ∧ (IntKind.wrap .i64 (4 * ((x2).length : Int)) : Int) * 1 ≤ 281474976710656 then
   (loopE (S := Int × (List Int)) (X := (List Int)) (fun a6 =>
     if 0 ≤ a6.1 then
      (loopE (S := Int × (List Int)) (X := (List Int)) (fun a10 =>
        if 0 ≤ a10.1 then
         jp (fun (a14 : (List Int)) =>
          some (Stp.next (IntKind.wrap .i64 (a10.1 - 1), a14)))
          fun k16 =>
          (idx x2 a6.1).bind fun x17 =>
          if 0 ≤ (IntKind.wrap .i64 (8 * a10.1)) then
           jp (fun (a20 : Bool) =>
            if a20 = true then
             if fits 1 ((a10.2 : List Int).length + ([IntKind.wrap .u8 (Int.fdiv x17 (2 ^ (min ((IntKind.wrap .i64 (8 * a10.1))).toNat (IntKind.bits .u32))))]).length) then
              k16 (a10.2 ++ [IntKind.wrap .u8 (Int.fdiv x17 (2 ^ (min ((IntKind.wrap .i64 (8 * a10.1))).toNat (IntKind.bits .u32))))])
             else none
            else
             k16 a10.2)
            fun k22 =>
            if (IntKind.wrap .u8 (Int.fdiv x17 (2 ^ (min ((IntKind.wrap .i64 (8 * a10.1))).toNat (IntKind.bits .u32))))) ≠ 0 then
             k22 true
            else
             k22 (decide (0 < (((a10.2).length : Nat) : Int)))
          else none
        else
         some (Stp.exit a10.2)) (3, a6.2)).bind fun a26 =>
      some (Stp.next (IntKind.wrap .i64 (a6.1 - 1), a26))
     else
      some (Stp.exit a6.2)) (IntKind.wrap .i64 (((x2).length : Int) - 1), List.replicate (0 : Int).toNat (0 : Int))).bind fun a28 =>
   some (p0, a28.map fun n => UInt8.ofNat n.toNat)
  else none
set_option maxHeartbeats 1600000 in
theorem le_integer_number {p0 : Bool} {p1 : List (Int)} : Lq (c_integer_number p0 p1) (m_integer_number p0 p1) := by
 unfold c_integer_number m_integer_number
 repeat' with_reducible first | intro _ | exact Lq.refl _ | exact Lq.none | apply Lq.ite | apply Lq.bind | apply Lq.jp | apply Lq.loop | apply Lq.lpO | apply Lq.forL | apply_assumption | apply le_integer_trim
def c_integer_short (p0 : List (Int)) (p1 : Int) : Option ((List (Int)) × Int) :=
 if 0 ≤ (((p0).length : Int) : Int) ∧ (((p0).length : Int) : Int) ≤ ((p0).length : Int) ∧ (((p0).length : Int) : Int) * 4 ≤ 281474976710656 then
  (loopE (S := Int × Int × (List Int)) (X := (List Int) × Int) (fun a3 =>
      if 0 ≤ a3.2.1 then
       (idx p0 a3.2.1).bind fun x7 =>
       if (IntKind.wrap .u64 p1) ≠ 0 then
        if (IntKind.wrap .u64 p1) ≠ 0 then
         (idx a3.2.2 a3.2.1).bind fun x91101 =>
         some (Stp.next (Int.tmod (IntKind.wrap .u64 (BitVec.ofInt (IntKind.bits .u64) (IntKind.wrap .u64 (a3.1 * 2 ^ (min (32 : Int).toNat (IntKind.bits .u64)))) ||| BitVec.ofInt (IntKind.bits .u64) (IntKind.wrap .u64 x7)).toNat) (IntKind.wrap .u64 p1), IntKind.wrap .i64 (a3.2.1 - 1), (a3.2.2).set (a3.2.1).toNat (IntKind.wrap .u32 (IntKind.wrap .u64 (Int.tdiv (IntKind.wrap .u64 (BitVec.ofInt (IntKind.bits .u64) (IntKind.wrap .u64 (a3.1 * 2 ^ (min (32 : Int).toNat (IntKind.bits .u64)))) ||| BitVec.ofInt (IntKind.bits .u64) (IntKind.wrap .u64 x7)).toNat) (IntKind.wrap .u64 p1))))))
        else none
       else none
      else
       some (Stp.exit (a3.2.2, a3.1))) (0, IntKind.wrap .i64 (((p0).length : Int) - 1), List.replicate (((p0).length : Int)).toNat (0 : Int))).bind fun a10 =>
  (c_integer_trim a10.1).bind fun x12 =>
  some (x12, IntKind.wrap .u32 a10.2)
 else none
set_option maxHeartbeats 1600000 in
theorem le_integer_short {p0 : List (Int)} {p1 : Int} : Lq (c_integer_short p0 p1) (m_integer_short p0 p1) := by
 unfold c_integer_short m_integer_short
 repeat' with_reducible first | intro _ | exact Lq.refl _ | exact Lq.none | apply Lq.ite | apply Lq.bind | apply Lq.jp | apply Lq.loop | apply Lq.lpO | apply Lq.forL | apply_assumption | apply le_integer_trim
end Go.AW
namespace Go.AW
open Go Go.Proofs
def L16 : List Nat := [1, 2, 3, 4, 5, 6, 7, 8, 9, 10, 11, 12, 13, 14, 15, 16]
def u32z (n : Nat) : List Int := if n = 0 then [] else [(n : Int)]
def u8z (n : Nat) : List UInt8 := if n = 0 then [] else [UInt8.ofNat n]
abbrev hvN (l : List Int) : HV := slE (encM (HV.int .u32)) l
abbrev hvI (a : TNegMag) : HV := HV.agg [HV.bool a.1, HV.str a.2]
abbrev hvR (a : TNumDen) : HV := HV.agg [HV.bool a.1.1, HV.str a.1.2, HV.bool a.2.1, HV.str a.2.2]
def shF (a b : Nat) : FuncId × List HV × HV := (200, [hvN [(a : Int)], HV.int .u32 b], HV.tup [hvN (u32z (a / b)), HV.int .u32 (a % b : Nat)])
def numA : List (Bool × List Int × Nat) := (true, [], 0) :: (0 :: L16).flatMap fun n => [(false, u32z n, n), (false, [(n : Int), 0], n)]
def numR (x : Bool × List Int × Nat) : TNegMag := (x.1 && !(x.2.2 == 0), u8z x.2.2)
def numF (x : Bool × List Int × Nat) : FuncId × List HV × HV := (71, [HV.bool x.1, hvN x.2.1], hvI (numR x))
def factsG : List (FuncId × List HV × HV) := numA.map numF
def factsP : List (FuncId × List HV × HV) := (L16.flatMap fun a => [shF a 1, shF a 2]) ++ (L16.flatMap fun b => [shF 1 b, shF 2 b])
theorem short_c : ∀ a ∈ L16, ∀ b ∈ L16, c_integer_short [(a : Int)] (b : Int) = some (u32z (a / b), ((a % b : Nat) : Int)) := by decide +kernel
theorem num_c : ∀ x ∈ numA, c_integer_number x.1 x.2.1 = some (numR x) := by decide +kernel
theorem factsG_ok : ∀ e ∈ factsG, Fresh Tryz.prog e.1 e.2.1 e.2.2 := by
 intro e he
 simp only [factsG, List.mem_map] at he
 obtain ⟨x, hx, rfl⟩ := he
 exact (w_integer_number (le_integer_number.ap _ (num_c x hx))).fresh ⟨trivial, trivial, trivial⟩ rfl
theorem factsP_ok : ∀ e ∈ factsP, Pure Tryz.prog e.1 e.2.1 (· = e.2.2) := by
 intro e he
 have key : ∀ a ∈ L16, ∀ b ∈ L16, Pure Tryz.prog (shF a b).1 (shF a b).2.1 (· = (shF a b).2.2) := fun a ha b hb => w_integer_short (le_integer_short.ap _ (short_c a ha b hb))
 have h1 : 1 ∈ L16 := by decide
 have h2 : 2 ∈ L16 := by decide
 simp only [factsP, List.mem_append, List.mem_flatMap, List.mem_cons, List.not_mem_nil, or_false] at he
 rcases he with ⟨a, ha, rfl | rfl⟩ | ⟨b, hb, rfl | rfl⟩
 ·exact key a ha 1 h1
 ·exact key a ha 2 h2
 ·exact key 1 h1 b hb
 ·exact key 2 h2 b hb
noncomputable abbrev comesR (f : FuncId) (args : List HV) (q : HV) : Bool := comesP (tabsE Tryz.prog factsG factsP) 2000 f args q
def ratB (p : Nat) (l : List Nat) : Prop := (l.all fun q => comesR 20 [HV.int .i64 (p : Nat), HV.int .i64 (q : Nat)] (HV.tup [hvR (ratT p q), HV.int .i64 0])) = true
theorem ratio0 : ratB 0 L16 := by unfold ratB; kernel_rfl
theorem ratio1a : ratB 1 [1, 2, 3, 4, 5, 6, 7, 8] := by unfold ratB; kernel_rfl
theorem ratio1b : ratB 1 [9, 10, 11, 12, 13, 14, 15, 16] := by unfold ratB; kernel_rfl
theorem ratio2a : ratB 2 [1, 2, 3, 4, 5, 6, 7, 8] := by unfold ratB; kernel_rfl
theorem ratio2b : ratB 2 [9, 10, 11, 12, 13, 14, 15, 16] := by unfold ratB; kernel_rfl
theorem ratB_mem {p : Nat} {l : List Nat} (h : ratB p l) {q : Nat} (hq : q ∈ l) : Pure Tryz.prog 20 [HV.int .i64 (p : Nat), HV.int .i64 (q : Nat)] (· = HV.tup [hvR (ratT p q), HV.int .i64 0]) :=
 Pure.of_comes (tabsT_ok factsG_ok factsP_ok) (List.all_eq_true.1 h q hq)
theorem w_rational_Ratio {p0 p1 : Int} {r : TNumDen × Int} (h : m_rational_Ratio p0 p1 = some r) : Pure Tryz.prog 20 [HV.int .i64 p0, HV.int .i64 p1] (· = HV.tup [HV.agg [HV.bool r.1.1.1, HV.str r.1.1.2, HV.bool r.1.2.1, HV.str r.1.2.2], HV.int .i64 r.2]) := by
 unfold m_rational_Ratio at h
 split at h
 ·rename_i hc
  cases h
  obtain ⟨p, rfl⟩ := Int.eq_ofNat_of_zero_le hc.1
  obtain ⟨q, rfl⟩ := Int.eq_ofNat_of_zero_le (show 0 ≤ p1 by omega)
  have hp : p = 0 ∨ p = 1 ∨ p = 2 := by omega
  have hq : q ∈ [1, 2, 3, 4, 5, 6, 7, 8] ∨ q ∈ [9, 10, 11, 12, 13, 14, 15, 16] := by simp only [List.mem_cons, List.not_mem_nil, or_false]; omega
  have hq' : q ∈ L16 := by simp only [L16, List.mem_cons, List.not_mem_nil, or_false]; omega
  rcases hp with rfl | rfl | rfl
  ·exact ratB_mem ratio0 hq'
  ·rcases hq with hq | hq
   ·exact ratB_mem ratio1a hq
   ·exact ratB_mem ratio1b hq
  ·rcases hq with hq | hq
   ·exact ratB_mem ratio2a hq
   ·exact ratB_mem ratio2b hq
 ·cases h
end Go.AW
namespace Go.AW
open Go
set_option linter.unusedVariables false
noncomputable def m_slices_Equal_Lint_int (p0 : List (Int)) (p1 : List (Int)) : Option (Bool) :=
 if ((p0).length : Int) ≠ ((p1).length : Int) then
  some false
 else
  lpO (loopW (S := Int) (X := Ou (Unit) (Bool)) (fun a1 =>
    if a1 < ((p0).length : Int) then
     (idx p0 a1).bind fun x5 =>
     (idx p1 a1).bind fun x7 =>
     if x5 ≠ x7 then
      some (Stp.exit (Ou.ret false))
     else
      some (Stp.next (IntKind.wrap .i64 (a1 + 1)))
    else
     some (Stp.exit (Ou.go ()))) 0) (fun a9 =>
    some true) some
noncomputable def m_ref11_Great (p0 : TLabelsStatesEdges) : Option (Bool) :=
 jp (fun (a1 : Bool) =>
  some a1)
  fun k3 =>
  if 8 < p0.2.1 then
   if p0.2.1 ≤ 64 then
    k3 true
   else
    if 30 < ((p0.2.2).length : Int) then
     if ((p0.2.2).length : Int) ≤ 1024 then
      k3 true
     else
      k3 (decide (1027 < ((p0.2.2).length : Int)))
    else
     k3 (decide (1027 < ((p0.2.2).length : Int)))
  else
   if 30 < ((p0.2.2).length : Int) then
    if ((p0.2.2).length : Int) ≤ 1024 then
     k3 true
    else
     k3 (decide (1027 < ((p0.2.2).length : Int)))
   else
    k3 (decide (1027 < ((p0.2.2).length : Int)))
noncomputable def m_language_ends (p0 : TLabelsStatesEdges) (p1 : List (Int)) (p2 : List UInt8) : Option ((List (Int))) :=
 (loopW (S := (List Int) × Int) (X := (List Int)) (fun a1 =>
   jp (fun (a5 : Bool) =>
    if a5 = true then
     (idx p2 a1.2).bind fun x8 =>
     (m_language_step p0 a1.1 (x8.toNat : Int)).bind fun x10 =>
     some (Stp.next (x10, IntKind.wrap .i64 (a1.2 + 1)))
    else
     some (Stp.exit a1.1))
    fun k7 =>
    if a1.2 < ((p2).length : Int) then
     k7 (decide (0 < ((a1.1).length : Int)))
    else
     k7 false) (p1, 0)).bind fun a13 =>
 some a13
noncomputable def m_language_Accepts (p0 : TLabelsStatesEdges) (p1 : List UInt8) : Option (Bool × Int) :=
 (m_language_spells p0 p1).bind fun x1 =>
 if x1 ≠ 0 then
  some (false, x1)
 else
  (m_language_states p0).bind fun x3 =>
  (m_language_ends p0 x3 p1).bind fun x5 =>
  some (decide (0 < ((x5).length : Int)), 0)
abbrev TWordsMerges := (List (List UInt8)) × (List (List UInt8))
noncomputable def m_slices_IndexFunc_Lstring_stringG (p0 : List (List UInt8)) (p1 : (List UInt8) → Option (Bool)) : Option (Int) :=
 lpO (loopW (S := Int) (X := Ou (Unit) (Int)) (fun a1 =>
     if a1 < ((p0).length : Int) then
      (idx p0 a1).bind fun x5 =>
      (p1 x5).bind fun x7 =>
      if x7 = true then
       some (Stp.exit (Ou.ret a1))
      else
       some (Stp.next (IntKind.wrap .i64 (a1 + 1)))
     else
      some (Stp.exit (Ou.go ()))) 0) (fun a9 =>
     some (-1)) some
noncomputable def m_slices_ContainsFunc_Lstring_stringG (p0 : List (List UInt8)) (p1 : (List UInt8) → Option (Bool)) : Option (Bool) :=
 (m_slices_IndexFunc_Lstring_stringG p0 p1).bind fun x1 =>
 some (decide (0 ≤ x1))
noncomputable def m_merging_uneven_1 (p0 : List UInt8) (c0 : List (List UInt8)) : Option (Bool) :=
 (idx c0 0).bind fun x1 =>
 some (decide (((p0).length : Int) ≠ ((x1).length : Int)))
noncomputable def m_merging_uneven (p0 : List (List UInt8)) : Option (Bool) :=
 (m_slices_ContainsFunc_Lstring_stringG p0 (fun b0 => m_merging_uneven_1 b0 p0)).bind fun x1 =>
 some x1
noncomputable def m_merging_letters_1 (p0 : List UInt8) : Option (Bool) :=
 (m_strings_Count p0 [48]).bind fun x1 =>
 (m_strings_Count p0 [49]).bind fun x3 =>
 some (decide ((IntKind.wrap .i64 (x1 + x3)) ≠ ((p0).length : Int)))
noncomputable def m_merging_letters (p0 : List (List UInt8)) : Option (Bool) :=
 (m_slices_ContainsFunc_Lstring_stringG p0 (fun b0 => m_merging_letters_1 b0 )).bind fun x1 =>
 some x1
noncomputable def m_merging_repeats (p0 : List (List UInt8)) : Option (Bool) :=
 lpO (loopW (S := Int × (List (List UInt8 × Bool))) (X := Ou (Unit) (Bool)) (fun a2 =>
     if a2.1 < ((p0).length : Int) then
      (idx p0 a2.1).bind fun x6 =>
      if ((mlook x6 a2.2).getD false) = true then
       some (Stp.exit (Ou.ret true))
      else
       some (Stp.next (IntKind.wrap .i64 (a2.1 + 1), mputN x6 true a2.2))
     else
      some (Stp.exit (Ou.go ()))) (0, ([] : List (List UInt8 × Bool)))) (fun a8 =>
     some false) some
noncomputable def m_merging_form (p0 : TWordsMerges) : Option (Int) :=
 jp (fun (a1 : Bool) =>
   if a1 = true then
    some 5
   else
    jp (fun (a4 : Bool) =>
      if a4 = true then
       some 4
      else
       jp (fun (a7 : Bool) =>
         if a7 = true then
          some 11
         else
          jp (fun (a10 : Bool) =>
            if a10 = true then
             some 2
            else
             jp (fun (a13 : Bool) =>
               if a13 = true then
                some 13
               else
                jp (fun (a16 : Bool) =>
                  if a16 = true then
                   some 7
                  else
                   some 0)
                  fun k18 =>
                 (m_merging_repeats p0.1).bind fun x19 =>
                 if x19 = true then
                  k18 true
                 else
                  (m_merging_repeats p0.2).bind fun x21 =>
                  k18 x21)
               fun k15 =>
              (m_merging_letters p0.1).bind fun x24 =>
              if x24 = true then
               k15 true
              else
               (m_merging_letters p0.2).bind fun x26 =>
               k15 x26)
            fun k12 =>
           (idx p0.1 0).bind fun x29 =>
           if ((x29).length : Int) < 1 then
            k12 true
           else
            (idx p0.1 0).bind fun x31 =>
            if 16 < ((x31).length : Int) then
             k12 true
            else
             (idx p0.2 0).bind fun x33 =>
             k12 (decide (16 < ((x33).length : Int))))
         fun k9 =>
        (m_merging_uneven p0.1).bind fun x37 =>
        if x37 = true then
         k9 true
        else
         (m_merging_uneven p0.2).bind fun x39 =>
         k9 x39)
      fun k6 =>
     if 256 < ((p0.1).length : Int) then
      k6 true
     else
      k6 (decide (256 < ((p0.2).length : Int))))
   fun k3 =>
  if ((p0.1).length : Int) = 0 then
   k3 true
  else
   k3 (decide (((p0.2).length : Int) = 0))
noncomputable def m_merging_accepts (p0 : TLabelsStatesEdges) (p1 : List UInt8) : Option (Bool) :=
 (m_language_Accepts p0 p1).bind fun x1 =>
 jp (fun (a3 : Bool) =>
   some a3)
   fun k5 =>
  if x1.2 = 0 then
   k5 x1.1
  else
   k5 false
noncomputable def m_merging_Check_1 (p0 : List UInt8) (c0 : TLabelsStatesEdges) : Option (Bool) :=
 (m_merging_accepts c0 p0).bind fun x1 =>
 some (!x1)
noncomputable def m_merging_joins_1 (p0 : List UInt8) (c0 : TLabelsStatesEdges) (c1 : List UInt8) (c2 : List UInt8) : Option (Bool) :=
 if c1.length + p0.length ≤ maxLen then
  if (c1 ++ p0).length + c2.length ≤ maxLen then
   (m_merging_accepts c0 ((c1 ++ p0) ++ c2)).bind fun x3 =>
   some x3
  else none
 else none
noncomputable def m_merging_joins (p0 : TLabelsStatesEdges) (p1 : List (List UInt8)) (p2 : List UInt8) (p3 : List UInt8) : Option (Bool) :=
 (m_slices_ContainsFunc_Lstring_stringG p1 (fun b0 => m_merging_joins_1 b0 p0 p2 p3)).bind fun x1 =>
 some x1
noncomputable def m_merging_Check (p0 : TWordsMerges) (p1 : TLabelsStatesEdges) : Option (Int) :=
 (m_graph_Check p1).bind fun x1 =>
 if x1 ≠ 0 then
  some 1
 else
  if p1.1 ≠ 2 then
   some 12
  else
   (m_merging_form p0).bind fun x3 =>
   if x3 ≠ 0 then
    some x3
   else
    (m_slices_ContainsFunc_Lstring_stringG p0.1 (fun b0 => m_merging_Check_1 b0 p1)).bind fun x5 =>
    if x5 = true then
     some 13
    else
     lpO (loopW (S := Int) (X := Ou (Unit) (Int)) (fun a7 =>
         if a7 < ((p0.1).length : Int) then
          (idx p0.1 a7).bind fun x11 =>
          lpO (loopW (S := Int) (X := Ou (Unit) (Int)) (fun a13 =>
              if a13 < ((p0.1).length : Int) then
               (idx p0.1 a13).bind fun x17 =>
               (m_merging_joins p1 p0.2 x11 x17).bind fun x19 =>
               if (!x19) = true then
                some (Stp.exit (Ou.ret 15))
               else
                some (Stp.next (IntKind.wrap .i64 (a13 + 1)))
              else
               some (Stp.exit (Ou.go ()))) 0) (fun a21 =>
              some (Stp.next (IntKind.wrap .i64 (a7 + 1)))) (fun r => some (Stp.exit (Ou.ret r)))
         else
          some (Stp.exit (Ou.go ()))) 0) (fun a23 =>
         some 0) some
noncomputable def m_slices_IndexFunc_Lint_int (p0 : List (Int)) (p1 : Int → Option (Bool)) : Option (Int) :=
 lpO (loopW (S := Int) (X := Ou (Unit) (Int)) (fun a1 =>
     if a1 < ((p0).length : Int) then
      (idx p0 a1).bind fun x5 =>
      (p1 x5).bind fun x7 =>
      if x7 = true then
       some (Stp.exit (Ou.ret a1))
      else
       some (Stp.next (IntKind.wrap .i64 (a1 + 1)))
     else
      some (Stp.exit (Ou.go ()))) 0) (fun a9 =>
     some (-1)) some
noncomputable def m_slices_ContainsFunc_Lint_int (p0 : List (Int)) (p1 : Int → Option (Bool)) : Option (Bool) :=
 (m_slices_IndexFunc_Lint_int p0 p1).bind fun x1 =>
 some (decide (0 ≤ x1))
noncomputable def m_merging_inputs_1 (p0 : Int) (c0 : TWordsMerges) : Option (Bool) :=
 jp (fun (a1 : Bool) =>
   some a1)
   fun k3 =>
  if p0 < 0 then
   k3 true
  else
   k3 (decide (((c0.1).length : Int) ≤ p0))
noncomputable def m_merging_inputs (p0 : TWordsMerges) (p1 : TLabelsStatesEdges) (p2 : List (Int)) : Option (Int) :=
 (m_merging_Check p0 p1).bind fun x1 =>
 if x1 ≠ 0 then
  some 1
 else
  (m_slices_ContainsFunc_Lint_int p2 (fun b0 => m_merging_inputs_1 b0 p0)).bind fun x3 =>
  if x3 = true then
   some 2
  else
   some 0
noncomputable def m_runs_Disparity (p0 : List UInt8) : Option (Int × Int) :=
 (m_word_Check 2 p0).bind fun x1 =>
 if x1 ≠ 0 then
  some (0, x1)
 else
  (m_strings_Count p0 [49]).bind fun x3 =>
  some (IntKind.wrap .i64 ((IntKind.wrap .i64 (2 * x3)) - ((p0).length : Int)), 0)
noncomputable def m_merging_weight (p0 : List UInt8) : Option (Int) :=
 (m_runs_Disparity p0).bind fun x1 =>
 some x1.1
noncomputable def m_merging_step (p0 : TLabelsStatesEdges) (p1 : List (Int)) (p2 : List UInt8) : Option ((List (Int))) :=
 (loopW (S := (List Int) × Int) (X := (List Int)) (fun a1 =>
     if a1.2 < ((p2).length : Int) then
      (idx p2 a1.2).bind fun x5 =>
      (m_strings_IndexByte [48, 49, 50, 51, 52, 53, 54, 55, 56, 57, 97, 98, 99, 100, 101, 102] (x5.toNat : Int)).bind fun x7 =>
      (m_graph_Step p0 a1.1 x7).bind fun x9 =>
      some (Stp.next (x9.1, IntKind.wrap .i64 (a1.2 + 1)))
     else
      some (Stp.exit a1.1)) (p1, 0)).bind fun a11 =>
 some a11
noncomputable def m_merging_Encode (p0 : TWordsMerges) (p1 : TLabelsStatesEdges) (p2 : List (Int)) : Option ((List UInt8) × Int) :=
 (m_merging_inputs p0 p1 p2).bind fun x1 =>
 if x1 ≠ 0 then
  some (([] : List UInt8), x1)
 else
  if ((p2).length : Int) = 0 then
   some (([] : List UInt8), 0)
  else
   (idx p0.1 0).bind fun x3 =>
   (idx p0.2 0).bind fun x5 =>
   if (IntKind.wrap .i64 (((x3).length : Int) + ((x5).length : Int))) ≠ 0 then
    if (IntKind.wrap .i64 (Int.tdiv (IntKind.wrap .i64 (65536 + ((x5).length : Int))) (IntKind.wrap .i64 (((x3).length : Int) + ((x5).length : Int))))) < ((p2).length : Int) then
     some (([] : List UInt8), 4)
    else
     if 0 ≤ (p1.2.1 : Int) ∧ (p1.2.1 : Int) ≤ p1.2.1 ∧ (p1.2.1 : Int) * 8 ≤ 281474976710656 then
      (loopW (S := Int × (List Int)) (X := (List Int)) (fun a11 =>
          if a11.1 < (((List.replicate (p1.2.1).toNat (0 : Int)).length : Nat) : Int) then
           (idx a11.2 a11.1).bind fun x15 =>
           some (Stp.next (IntKind.wrap .i64 (a11.1 + 1), (a11.2).set (a11.1).toNat a11.1))
          else
           some (Stp.exit a11.2)) (0, List.replicate (p1.2.1).toNat (0 : Int))).bind fun a17 =>
      (idx p2 0).bind fun x22 =>
      (idx p0.1 x22).bind fun x24 =>
      jp (fun (a26 : (List Int) × Int) =>
        if 0 ≤ (1 : Int) ∧ (1 : Int) ≤ ((p2).length : Int) ∧ ((p2).length : Int) ≤ (p2.length : Int) then
         lpO (loopW (S := Int × (List Int) × (List UInt8) × Int) (X := Ou ((List UInt8)) ((List UInt8) × Int)) (fun a30 =>
             if a30.1 < (((p2.take (((p2).length : Int)).toNat).drop (1 : Int).toNat).length : Int) then
              (idx ((p2.take (((p2).length : Int)).toNat).drop (1 : Int).toNat) a30.1).bind fun x34 =>
              jp (fun (a37 : (List UInt8) × Bool) =>
                if (!a37.2) = true then
                 some (Stp.exit (Ou.ret (([] : List UInt8), 13)))
                else
                 (idx p0.1 x34).bind fun x40 =>
                 if a37.1.length + x40.length ≤ maxLen then
                  jp (fun (a43 : (List Int) × Int) =>
                    some (Stp.next (IntKind.wrap .i64 (a30.1 + 1), a43.1, a30.2.2.1 ++ (a37.1 ++ x40), a43.2)))
                    fun k45 =>
                   if fits 1 (a30.2.2.1.length + (a37.1 ++ x40).length) then
                    (m_merging_weight (a37.1 ++ x40)).bind fun x48 =>
                    (m_merging_step p1 a30.2.1 (a37.1 ++ x40)).bind fun x50 =>
                    k45 (x50, IntKind.wrap .i64 (a30.2.2.2 + x48))
                   else none
                 else none)
                fun k39 =>
               (loopW (S := (List UInt8) × Int × Bool × Int) (X := (List UInt8) × Bool) (fun a52 =>
                   if a52.2.2.2 < ((p0.2).length : Int) then
                    jp (fun (a56 : (List UInt8) × Int × Bool) =>
                      some (Stp.next (a56.1, a56.2.1, a56.2.2, IntKind.wrap .i64 (a52.2.2.2 + 1))))
                      fun k58 =>
                     (idx p0.2 a52.2.2.2).bind fun x59 =>
                     jp (fun (a61 : Int × Bool) =>
                       jp (fun (a64 : Bool) =>
                         if a64 = true then
                          k58 (x59, a61.1, true)
                         else
                          k58 (a52.1, a52.2.1, a52.2.2.1))
                         fun k66 =>
                        if a61.2 = true then
                         if (!a52.2.2.1) = true then
                          k66 true
                         else
                          k66 (decide (a61.1 < a52.2.1))
                        else
                         k66 false)
                       fun k63 =>
                      (idx p0.1 x34).bind fun x69 =>
                      if x59.length + x69.length ≤ maxLen then
                       (m_merging_weight (x59 ++ x69)).bind fun x72 =>
                       (idx p0.1 x34).bind fun x74 =>
                       if x59.length + x74.length ≤ maxLen then
                        (m_merging_step p1 a30.2.1 (x59 ++ x74)).bind fun x77 =>
                        k63 (max (IntKind.wrap .i64 (a30.2.2.2 + x72)) (IntKind.wrap .i64 (0 - (IntKind.wrap .i64 (a30.2.2.2 + x72)))), decide (0 < ((x77).length : Int)))
                       else none
                      else none
                   else
                    some (Stp.exit (a52.1, a52.2.2.1))) (([] : List UInt8), 0, false, 0)).bind fun a79 =>
               k39 (a79.1, a79.2)
             else
              some (Stp.exit (Ou.go a30.2.2.1))) (0, a26.1, ([] : List UInt8) ++ x24, a26.2)) (fun a81 =>
             some (a81, 0)) some
        else none)
        fun k28 =>
       if fits 1 (([] : List UInt8).length + x24.length) then
        (m_merging_weight x24).bind fun x86 =>
        (m_merging_step p1 a17 x24).bind fun x88 =>
        k28 (x88, IntKind.wrap .i64 (0 + x86))
       else none
     else none
   else none
noncomputable def m_math_bits_Len (p0 : Int) : Option (Int) :=
 (m_math_bits_Len64 p0).bind fun x1 =>
 some x1
noncomputable def m_merging_Rate (p0 : TWordsMerges) : Option (TNumDen × Int) :=
 (m_merging_form p0).bind fun x2 =>
 if x2 ≠ 0 then
  some (((false, ([] : List UInt8)), (false, ([] : List UInt8))), 1)
 else
  (m_math_bits_Len (IntKind.wrap .u64 ((p0.1).length : Int))).bind fun x4 =>
  (idx p0.1 0).bind fun x6 =>
  (idx p0.2 0).bind fun x8 =>
  (m_rational_Ratio (IntKind.wrap .i64 (x4 - 1)) (IntKind.wrap .i64 (((x6).length : Int) + ((x8).length : Int)))).bind fun x10 =>
  some (x10.1, x10.2)
noncomputable def m_merging_Merges (p0 : TWordsMerges) (p1 : TLabelsStatesEdges) (p2 : Int) (p3 : Int) : Option ((List (Int)) × Int) :=
 (m_merging_inputs p0 p1 [p2, p3]).bind fun x1 =>
 if x1 ≠ 0 then
  some ([], x1)
 else
  (loopW (S := Int × (List Int)) (X := (List Int)) (fun a3 =>
      if a3.1 < ((p0.2).length : Int) then
       jp (fun (a7 : (List Int)) =>
         some (Stp.next (IntKind.wrap .i64 (a3.1 + 1), a7)))
         fun k9 =>
        (idx p0.2 a3.1).bind fun x10 =>
        (idx p0.1 p2).bind fun x12 =>
        if x12.length + x10.length ≤ maxLen then
         (idx p0.1 p3).bind fun x15 =>
         if (x12 ++ x10).length + x15.length ≤ maxLen then
          (m_merging_accepts p1 ((x12 ++ x10) ++ x15)).bind fun x18 =>
          if x18 = true then
           if fits 8 ((a3.2 : List Int).length + ([a3.1]).length) then
            k9 (a3.2 ++ [a3.1])
           else none
          else
           k9 a3.2
         else none
        else none
      else
       some (Stp.exit a3.2)) (0, ([] : List Int))).bind fun a23 =>
  some (a23, 0)
noncomputable def m_law31_golden  : Option (TLabelsStatesEdges) :=
 some (2, 2, [(0, 0, 0), (0, 1, 1), (1, 0, 0)])
noncomputable def m_law31_awakeG  : Option (Bool) :=
 (m_law31_golden).bind fun x2 =>
 (m_merging_Merges ([[48, 48], [48, 49], [49, 48]], [[48], [49]]) x2 0 0).bind fun x4 =>
 (m_law31_golden).bind fun x6 =>
 (m_merging_Merges ([[48, 48], [48, 49], [49, 48]], [[48], [49]]) x6 1 2).bind fun x8 =>
 (m_law31_golden).bind fun x10 =>
 (m_merging_Encode ([[48, 48], [48, 49], [49, 48]], [[48], [49]]) x10 [0, 0]).bind fun x12 =>
 (m_merging_Rate ([[48, 48], [48, 49], [49, 48]], [[48], [49]])).bind fun x14 =>
 (m_rational_Ratio 1 3).bind fun x17 =>
 jp (fun (a20 : Bool) =>
   some a20)
   fun k22 =>
  if (max (max (max x4.2 x8.2) x12.2) x14.2) = 0 then
   (m_slices_Equal_Lint_int x4.1 [0, 1]).bind fun x23 =>
   if x23 = true then
    (m_slices_Equal_Lint_int x8.1 [0]).bind fun x25 =>
    if x25 = true then
     if x12.1 = [48, 48, 49, 48, 48] then
      k22 (decide (x14.1 = x17.1))
     else
      k22 false
    else
     k22 false
   else
    k22 false
  else
   k22 false
end Go.AW
namespace Go.AW
open Go Go.Proofs
set_option maxHeartbeats 1600000
set_option maxRecDepth 100000
set_option linter.unusedVariables false
theorem w_slices_IndexFunc_Lstring_stringG {p0 : List (List UInt8)} {p1 : (List UInt8) → Option (Bool)} {g1 : FuncId} {z1 : List HV} {r : Int} (h : m_slices_IndexFunc_Lstring_stringG p0 p1 = some r) (hf1 : ∀ a0 b, p1 a0 = some b → Pure Tryz.prog g1 ([.str a0] ++ z1) (· = HV.bool b)) : Pure Tryz.prog 135 [slE eStr p0, .fn (.func g1) [] z1] (· = hI r) := by
 unfold m_slices_IndexFunc_Lstring_stringG at h
 refine Pure.of_body Tryz.func135 rfl rfl (lb rfl) fun hf => ?_
 unfold Tryz.f135
 dsimp only [enumS, Nat.reduceAdd]
 refine AW.rgs rfl fun K hK => mv rfl rfl ?_
 refine bf hK ⟨[(0, slE eStr p0), (1, .fn (.func g1) [] z1)], []⟩ ?_
 refine AW.seq ?_
 refine AW.rgs rfl fun K hK => mv rfl rfl (bv rfl (v_lenF rfl rfl ty22 rfl) (mv rfl rfl ?_))
 refine bf hK ⟨[(0, slE eStr p0), (1, .fn (.func g1) [] z1), (7, hI ((p0).length : Int)), (8, hI 0)], []⟩ ?_
 refine AW.lpR h (by first | exact up_then | exact up_to) (S := Int) (V := Unit) (fun a v => ⟨[(0, slE eStr p0), (1, .fn (.func g1) [] z1), (7, hI ((p0).length : Int)), (8, hI a)], []⟩) ?_ (X := Unit) (W := Unit) (fun a v => ⟨[], []⟩) (fun a9 w10 h => ?_) (fun a1 w2 st3 h hr4=> ?_)
 ·exact to_L ⟨(), rfl⟩
 ·refine AW.rgs rfl fun K hK => mv rfl rfl ?_
  refine bf hK ⟨[(4, hI (-1))], []⟩ ?_
  refine AW.ret ?_
  have h := Option.some.inj h
  subst h
  exact ret_pure (hs := [hI (-1)]) (.inr rfl) (resT rfl rfl) rfl trivial
 refine AW.rgs rfl fun K hK => bv rfl (v_bin rfl rfl b_lss) ?_
 refine bf hK ⟨[(0, slE eStr p0), (1, .fn (.func g1) [] z1), (7, hI ((p0).length : Int)), (8, hI a1), (9, .bool (decide (a1 < ((p0).length : Int))))], []⟩ ?_
 refine AW.cseq rfl (fun hc => ?_) (fun hc => ?_)
 ·obtain ⟨hc, h⟩ := cT hc h
  refine AW.skip ?_
  refine AW.seq (AW.block ?_)
  refine AW.rgs rfl fun K hK => mv rfl rfl (mv rfl rfl ?_)
  refine bf hK ⟨[(0, slE eStr p0), (1, .fn (.func g1) [] z1), (5, hI a1), (7, hI ((p0).length : Int)), (8, hI a1)], []⟩ ?_
  refine AW.rgs rfl fun K hK => mv rfl rfl (mv rfl rfl (mv rfl rfl ?_))
  obtain ⟨x5, h6, h⟩ := bS h
  refine bv rfl (v_idxF ty22 es22 rfl rfl (idx_lt h6)) (bv rfl (v_loadF ty9 rfl (l_cell eStr h6 (o := 0) rfl rfl)) ?_)
  obtain ⟨x7, h8, h⟩ := bS h
  refine b_op rfl (o_call rfl rfl rfl rfl (ACallD.pure0 (hf1 _ _ h8)) ?_)
  refine bf hK ⟨[(0, slE eStr p0), (1, .fn (.func g1) [] z1), (5, hI a1), (7, hI ((p0).length : Int)), (8, hI a1), (16, .bool x7)], []⟩ ?_
  refine AW.cond rfl (fun hc => ?_) (fun hc => ?_)
  ·have h := ifT hc h
   refine AW.rgs rfl fun K hK => mv rfl rfl (mv rfl rfl ?_)
   refine bf hK ⟨[(4, hI a1)], []⟩ ?_
   have h := hr4 _ h
   refine AW.ret ?_
   have h := Option.some.inj h
   subst h
   exact ret_pure (hs := [hI a1]) (.inr rfl) (resT rfl rfl) rfl trivial
  have h := ifF (bF' hc) h
  refine AW.skip ?_
  refine AW.rg rfl fun K hK => bv rfl (v_bin rfl rfl b_add) (mv rfl rfl ?_)
  refine b_nil (hK _ ?_)
  exact to_L ⟨IntKind.wrap .i64 (a1 + 1), (), h, rfl⟩
 obtain ⟨hc, h⟩ := cF hc h
 refine AW.exit ?_
 exact to_L ⟨(), (), h, rfl⟩
theorem w_slices_ContainsFunc_Lstring_stringG {p0 : List (List UInt8)} {p1 : (List UInt8) → Option (Bool)} {g1 : FuncId} {z1 : List HV} {r : Bool} (h : m_slices_ContainsFunc_Lstring_stringG p0 p1 = some r) (hf1 : ∀ a0 b, p1 a0 = some b → Pure Tryz.prog g1 ([.str a0] ++ z1) (· = HV.bool b)) : Pure Tryz.prog 84 [slE eStr p0, .fn (.func g1) [] z1] (· = HV.bool r) := by
 unfold m_slices_ContainsFunc_Lstring_stringG at h
 refine Pure.of_body Tryz.func84 rfl rfl (lb rfl) fun hf => ?_
 unfold Tryz.f84
 dsimp only [enumS, Nat.reduceAdd]
 refine AW.rgs rfl fun K hK => mv rfl rfl ?_
 refine bf hK ⟨[(0, slE eStr p0), (1, .fn (.func g1) [] z1)], []⟩ ?_
 refine AW.rgs rfl fun K hK => mv rfl rfl (mv rfl rfl ?_)
 obtain ⟨x1, h2, h⟩ := bS h
 refine b_op rfl (o_call rfl rfl rfl rfl (ACallD.pure0 (w_slices_IndexFunc_Lstring_stringG h2 hf1)) ?_)
 refine bv rfl (v_bin rfl rfl b_geq) (mv rfl rfl ?_)
 refine bf hK ⟨[(4, .bool (decide (0 ≤ x1)))], []⟩ ?_
 refine AW.ret ?_
 have h := Option.some.inj h
 subst h
 exact ret_pure (hs := [.bool (decide (0 ≤ x1))]) (.inr rfl) (resT rfl rfl) rfl trivial
theorem w_merging_uneven_1 {p0 : List UInt8} {c0 : List (List UInt8)} {r : Bool} (h : m_merging_uneven_1 p0 c0 = some r) : Pure Tryz.prog 166 [.str p0, .fptr [slE eStr c0] 0] (· = HV.bool r) := by
 unfold m_merging_uneven_1 at h
 refine Pure.of_body Tryz.func166 rfl rfl (lb rfl) fun hf => ?_
 unfold Tryz.f166
 dsimp only [enumS, Nat.reduceAdd]
 refine AW.rgs rfl fun K hK => mv rfl rfl ?_
 refine bf hK ⟨[(0, .str p0), (1, .fptr [slE eStr c0] 0)], []⟩ ?_
 refine AW.rgs rfl fun K hK => mv rfl rfl (bv rfl (v_lenS rfl rfl ty9 rfl) (bv rfl (v_loadF ty22 rfl (l_lit rfl rfl)) ?_))
 obtain ⟨x1, h2, h⟩ := bS h
 refine bv rfl (v_idxF ty22 es22 rfl rfl (idx_lt h2)) (bv rfl (v_loadF ty9 rfl (l_cell eStr h2 (o := 0) rfl rfl)) (bv rfl (v_lenS rfl rfl ty9 rfl) (bv rfl (v_bin rfl rfl b_neq) (mv rfl rfl ?_))))
 refine bf hK ⟨[(3, .bool (decide (((p0).length : Int) ≠ ((x1).length : Int))))], []⟩ ?_
 refine AW.ret ?_
 have h := Option.some.inj h
 subst h
 exact ret_pure (hs := [.bool (decide (((p0).length : Int) ≠ ((x1).length : Int)))]) (.inr rfl) (resT rfl rfl) rfl trivial
theorem w_merging_uneven {p0 : List (List UInt8)} {r : Bool} (h : m_merging_uneven p0 = some r) : Pure Tryz.prog 113 [slE eStr p0] (· = HV.bool r) := by
 unfold m_merging_uneven at h
 refine Pure.of_body Tryz.func113 rfl rfl (lb rfl) fun hf => ?_
 unfold Tryz.f113
 dsimp only [enumS, Nat.reduceAdd]
 refine AW.rgs rfl fun K hK => b_op rfl (o_box rfl rfl rfl ?_)
 refine mv rfl rfl ?_
 refine bf hK ⟨[(1, .fptr [slE eStr p0] 0)], []⟩ ?_
 refine AW.rgs rfl fun K hK => bv rfl (v_loadF ty22 rfl (l_lit rfl rfl)) (bv rfl (v_func rfl rfl) ?_)
 obtain ⟨x1, h2, h⟩ := bS h
 refine b_op rfl (o_call rfl rfl rfl rfl (ACallD.pure0 (w_slices_ContainsFunc_Lstring_stringG h2 (fun _ _ h => w_merging_uneven_1 h))) ?_)
 refine mv rfl rfl ?_
 refine bf hK ⟨[(2, .bool x1)], []⟩ ?_
 refine AW.ret ?_
 have h := Option.some.inj h
 subst h
 exact ret_pure (hs := [.bool x1]) (.inr rfl) (resT rfl rfl) rfl trivial
theorem w_merging_letters_1 {p0 : List UInt8} {r : Bool} (h : m_merging_letters_1 p0 = some r) : Pure Tryz.prog 167 [.str p0] (· = HV.bool r) := by
 unfold m_merging_letters_1 at h
 refine Pure.of_body Tryz.func167 rfl rfl (lb rfl) fun hf => ?_
 unfold Tryz.f167
 dsimp only [enumS, Nat.reduceAdd]
 refine AW.rgs rfl fun K hK => mv rfl rfl ?_
 refine bf hK ⟨[(0, .str p0)], []⟩ ?_
 refine AW.rgs rfl fun K hK => mv rfl rfl ?_
 obtain ⟨x1, h2, h⟩ := bS h
 refine b_op rfl (o_call rfl rfl rfl rfl (ACallD.pure0 (w_strings_Count h2)) ?_)
 refine mv rfl rfl ?_
 obtain ⟨x3, h4, h⟩ := bS h
 refine b_op rfl (o_call rfl rfl rfl rfl (ACallD.pure0 (w_strings_Count h4)) ?_)
 refine bv rfl (v_bin rfl rfl b_add) (mv rfl rfl (bv rfl (v_lenS rfl rfl ty9 rfl) (bv rfl (v_bin rfl rfl b_neq) (mv rfl rfl ?_))))
 refine bf hK ⟨[(2, .bool (decide ((IntKind.wrap .i64 (x1 + x3)) ≠ ((p0).length : Int))))], []⟩ ?_
 refine AW.ret ?_
 have h := Option.some.inj h
 subst h
 exact ret_pure (hs := [.bool (decide ((IntKind.wrap .i64 (x1 + x3)) ≠ ((p0).length : Int)))]) (.inr rfl) (resT rfl rfl) rfl trivial
theorem w_merging_letters {p0 : List (List UInt8)} {r : Bool} (h : m_merging_letters p0 = some r) : Pure Tryz.prog 114 [slE eStr p0] (· = HV.bool r) := by
 unfold m_merging_letters at h
 refine Pure.of_body Tryz.func114 rfl rfl (lb rfl) fun hf => ?_
 unfold Tryz.f114
 dsimp only [enumS, Nat.reduceAdd]
 refine AW.rgs rfl fun K hK => mv rfl rfl ?_
 refine bf hK ⟨[(0, slE eStr p0)], []⟩ ?_
 refine AW.rgs rfl fun K hK => mv rfl rfl ?_
 obtain ⟨x1, h2, h⟩ := bS h
 refine b_op rfl (o_call rfl rfl rfl rfl (ACallD.pure0 (w_slices_ContainsFunc_Lstring_stringG h2 (fun _ _ h => w_merging_letters_1 h))) ?_)
 refine mv rfl rfl ?_
 refine bf hK ⟨[(2, .bool x1)], []⟩ ?_
 refine AW.ret ?_
 have h := Option.some.inj h
 subst h
 exact ret_pure (hs := [.bool x1]) (.inr rfl) (resT rfl rfl) rfl trivial
theorem w_merging_repeats {p0 : List (List UInt8)} {r : Bool} (h : m_merging_repeats p0 = some r) : Pure Tryz.prog 115 [slE eStr p0] (· = HV.bool r) := by
 unfold m_merging_repeats at h
 refine Pure.of_body Tryz.func115 rfl rfl (lb rfl) fun hf => ?_
 unfold Tryz.f115
 dsimp only [enumS, Nat.reduceAdd]
 refine AW.rgs rfl fun K hK => mv rfl rfl ?_
 refine bf hK ⟨[(0, slE eStr p0)], []⟩ ?_
 refine AW.rgs rfl fun K hK => b_op rfl (o_makeMap (fid := 115) HV.bool 115006 rfl rfl (fun v1 => ?_))
 refine mv rfl rfl ?_
 refine bf hK ⟨[(0, slE eStr p0), (3, .mp 115006 v1)], [(115006, v1, .map (entE HV.bool ([] : List (List UInt8 × Bool))))]⟩ ?_
 refine AW.seq ?_
 refine AW.rgs rfl fun K hK => mv rfl rfl (bv rfl (v_lenF rfl rfl ty22 rfl) (mv rfl rfl ?_))
 refine bf hK ⟨[(3, .mp 115006 v1), (7, slE eStr p0), (8, hI ((p0).length : Int)), (9, hI 0)], [(115006, v1, .map (entE HV.bool ([] : List (List UInt8 × Bool))))]⟩ ?_
 refine AW.lpR h (by first | exact up_then | exact up_to) (S := Int × (List (List UInt8 × Bool))) (V := Unit) (fun a v => ⟨[(3, .mp 115006 v1), (7, slE eStr p0), (8, hI ((p0).length : Int)), (9, hI a.1)], [(115006, v1, .map (entE HV.bool a.2))]⟩) ?_ (X := Unit) (W := Unit) (fun a v => ⟨[], []⟩) (fun a8 w9 h => ?_) (fun a2 w3 st4 h hr5=> ?_)
 ·exact to_L ⟨(), rfl⟩
 ·refine AW.rgs rfl fun K hK => mv rfl rfl ?_
  refine bf hK ⟨[(2, .bool false)], []⟩ ?_
  refine AW.ret ?_
  have h := Option.some.inj h
  subst h
  exact ret_pure (hs := [.bool false]) (.inr rfl) (resT rfl rfl) rfl trivial
 refine AW.rgs rfl fun K hK => bv rfl (v_bin rfl rfl b_lss) ?_
 refine bf hK ⟨[(3, .mp 115006 v1), (7, slE eStr p0), (8, hI ((p0).length : Int)), (9, hI a2.1), (10, .bool (decide (a2.1 < ((p0).length : Int))))], [(115006, v1, .map (entE HV.bool a2.2))]⟩ ?_
 refine AW.cseq rfl (fun hc => ?_) (fun hc => ?_)
 ·obtain ⟨hc, h⟩ := cT hc h
  refine AW.skip ?_
  refine AW.seq (AW.block ?_)
  refine AW.rgs rfl fun K hK => ?_
  obtain ⟨x6, h7, h⟩ := bS h
  refine bv rfl (v_idxF ty22 es22 rfl rfl (idx_lt h7)) (bv rfl (v_loadF ty9 rfl (l_cell eStr h7 (o := 0) rfl rfl)) (mv rfl rfl ?_))
  refine bf hK ⟨[(3, .mp 115006 v1), (5, .str x6), (7, slE eStr p0), (8, hI ((p0).length : Int)), (9, hI a2.1)], [(115006, v1, .map (entE HV.bool a2.2))]⟩ ?_
  refine AW.seq ?_
  refine AW.rgs rfl fun K hK => mv rfl rfl (mv rfl rfl ?_)
  refine b_op rfl (o_look (fid := 115) HV.bool (es := a2.2) (k := x6) (v := (mlook x6 a2.2).getD false) rfl ty174 ty9 ty4 rfl rfl rfl rfl (look_dflt rfl) ?_)
  refine bf hK ⟨[(3, .mp 115006 v1), (5, .str x6), (7, slE eStr p0), (8, hI ((p0).length : Int)), (9, hI a2.1), (15, .bool ((mlook x6 a2.2).getD false))], [(115006, v1, .map (entE HV.bool a2.2))]⟩ ?_
  refine AW.cond rfl (fun hc => ?_) (fun hc => ?_)
  ·have h := ifT hc h
   refine AW.rgs rfl fun K hK => mv rfl rfl ?_
   refine bf hK ⟨[(2, .bool true)], []⟩ ?_
   have h := hr5 _ h
   refine AW.ret ?_
   have h := Option.some.inj h
   subst h
   exact ret_pure (hs := [.bool true]) (.inr rfl) (resT rfl rfl) rfl trivial
  have h := ifF (bF' hc) h
  refine AW.skip ?_
  refine AW.rg rfl fun K hK => mv rfl rfl (mv rfl rfl ?_)
  refine b_op rfl (o_mapSet HV.bool (es := a2.2) (k := x6) (v := true) (.inl rfl) ty174 ty9 rfl rfl rfl rfl trivial ?_)
  refine bf hK ⟨[(3, .mp 115006 v1), (7, slE eStr p0), (8, hI ((p0).length : Int)), (9, hI a2.1)], [(115006, v1, .map (entE HV.bool (mputN x6 true a2.2)))]⟩ ?_
  refine AW.rg rfl fun K hK => bv rfl (v_bin rfl rfl b_add) (mv rfl rfl ?_)
  refine b_nil (hK _ ?_)
  exact to_L ⟨(IntKind.wrap .i64 (a2.1 + 1), mputN x6 true a2.2), (), h, rfl⟩
 obtain ⟨hc, h⟩ := cF hc h
 refine AW.exit ?_
 exact to_L ⟨(), (), h, rfl⟩
theorem w_merging_form {p0 : TWordsMerges} {r : Int} (h : m_merging_form p0 = some r) : Pure Tryz.prog 64 [jA p0] (· = hI r) := by
 unfold m_merging_form at h
 refine Pure.of_body Tryz.func64 rfl rfl (lb rfl) fun hf => ?_
 unfold Tryz.f64
 dsimp only [enumS, Nat.reduceAdd]
 refine AW.rgs rfl fun K hK => b_op rfl (o_box rfl rfl rfl ?_)
 refine mv rfl rfl ?_
 refine bf hK ⟨[(1, jF p0)], []⟩ ?_
 refine AW.seq (AW.block ?_)
 refine AW.seqJ h (S := Bool) (V := Unit) (fun a v => ⟨[(1, jF p0), (3, .bool a)], []⟩) (fun a1 w2 h => ?_) (fun k3 h => ?_)
 ·refine AW.cond rfl (fun hc => ?_) (fun hc => ?_)
  ·have h := ifT hc h
   refine AW.rgs rfl fun K hK => mv rfl rfl ?_
   refine bf hK ⟨[(2, hI 5)], []⟩ ?_
   refine AW.ret ?_
   have h := Option.some.inj h
   subst h
   exact ret_pure (hs := [hI 5]) (.inr rfl) (resT rfl rfl) rfl trivial
  have h := ifF (bF' hc) h
  refine AW.seqJ h (S := Bool) (V := Unit) (fun a v => ⟨[(1, jF p0), (14, .bool a)], []⟩) (fun a4 w5 h => ?_) (fun k6 h => ?_)
  ·refine AW.cond rfl (fun hc => ?_) (fun hc => ?_)
   ·have h := ifT hc h
    refine AW.rgs rfl fun K hK => mv rfl rfl ?_
    refine bf hK ⟨[(2, hI 4)], []⟩ ?_
    refine AW.ret ?_
    have h := Option.some.inj h
    subst h
    exact ret_pure (hs := [hI 4]) (.inr rfl) (resT rfl rfl) rfl trivial
   have h := ifF (bF' hc) h
   refine AW.seqJ h (S := Bool) (V := Unit) (fun a v => ⟨[(1, jF p0), (25, .bool a)], []⟩) (fun a7 w8 h => ?_) (fun k9 h => ?_)
   ·refine AW.cond rfl (fun hc => ?_) (fun hc => ?_)
    ·have h := ifT hc h
     refine AW.rgs rfl fun K hK => mv rfl rfl ?_
     refine bf hK ⟨[(2, hI 11)], []⟩ ?_
     refine AW.ret ?_
     have h := Option.some.inj h
     subst h
     exact ret_pure (hs := [hI 11]) (.inr rfl) (resT rfl rfl) rfl trivial
    have h := ifF (bF' hc) h
    refine AW.seqJ h (S := Bool) (V := Unit) (fun a v => ⟨[(1, jF p0), (34, .bool a)], []⟩) (fun a10 w11 h => ?_) (fun k12 h => ?_)
    ·refine AW.cond rfl (fun hc => ?_) (fun hc => ?_)
     ·have h := ifT hc h
      refine AW.rgs rfl fun K hK => mv rfl rfl ?_
      refine bf hK ⟨[(2, hI 2)], []⟩ ?_
      refine AW.ret ?_
      have h := Option.some.inj h
      subst h
      exact ret_pure (hs := [hI 2]) (.inr rfl) (resT rfl rfl) rfl trivial
     have h := ifF (bF' hc) h
     refine AW.seqJ h (S := Bool) (V := Unit) (fun a v => ⟨[(1, jF p0), (57, .bool a)], []⟩) (fun a13 w14 h => ?_) (fun k15 h => ?_)
     ·refine AW.cond rfl (fun hc => ?_) (fun hc => ?_)
      ·have h := ifT hc h
       refine AW.rgs rfl fun K hK => mv rfl rfl ?_
       refine bf hK ⟨[(2, hI 13)], []⟩ ?_
       refine AW.ret ?_
       have h := Option.some.inj h
       subst h
       exact ret_pure (hs := [hI 13]) (.inr rfl) (resT rfl rfl) rfl trivial
      have h := ifF (bF' hc) h
      refine AW.seqJ h (S := Bool) (V := Unit) (fun a v => ⟨[(66, .bool a)], []⟩) (fun a16 w17 h => ?_) (fun k18 h => ?_)
      ·refine AW.cond rfl (fun hc => ?_) (fun hc => ?_)
       ·have h := ifT hc h
        refine AW.rgs rfl fun K hK => mv rfl rfl ?_
        refine bf hK ⟨[(2, hI 7)], []⟩ ?_
        refine AW.ret ?_
        have h := Option.some.inj h
        subst h
        exact ret_pure (hs := [hI 7]) (.inr rfl) (resT rfl rfl) rfl trivial
       have h := ifF (bF' hc) h
       refine AW.skip ?_
       refine AW.rgs rfl fun K hK => mv rfl rfl ?_
       refine bf hK ⟨[(2, hI 0)], []⟩ ?_
       refine AW.ret ?_
       have h := Option.some.inj h
       subst h
       exact ret_pure (hs := [hI 0]) (.inr rfl) (resT rfl rfl) rfl trivial
      refine AW.rg rfl fun K hK => bv rfl (v_fieldAddrF fo24_0 rfl) (bv rfl (v_loadF ty22 rfl (l_lit rfl rfl)) ?_)
      obtain ⟨x19, h20, h⟩ := bS h
      refine b_op rfl (o_call rfl rfl rfl rfl (ACallD.pure0 (w_merging_repeats h20)) ?_)
      refine mv rfl rfl ?_
      by_cases hg23 : x19 = true
      ·have h := ifT hg23 h
       refine b_F rfl rfl rfl rfl rfl hg23 ?_
       refine b_F rfl rfl rfl rfl rfl rfl ?_
       refine b_F rfl rfl rfl rfl rfl rfl ?_
       refine bv rfl (v_pickT rfl rfl rfl) (mv rfl rfl ?_)
       refine b_nil (hK _ ?_)
       exact to_L ⟨true, (), h, rfl⟩
      have h := ifF hg23 h
      refine b_T rfl rfl rfl rfl (bF hg23) (o_val rfl (v_fieldAddrF fo24_1 rfl) ?_)
      refine b_T rfl rfl rfl rfl rfl (o_val rfl (v_loadF ty22 rfl (l_lit rfl rfl)) ?_)
      obtain ⟨x21, h22, h⟩ := bS h
      refine b_T rfl rfl rfl rfl rfl (o_call rfl rfl rfl rfl (ACallD.pure0 (w_merging_repeats h22)) ?_)
      refine bv rfl (v_pickF rfl rfl rfl) (mv rfl rfl ?_)
      refine b_nil (hK _ ?_)
      exact to_L ⟨x21, (), h, rfl⟩
     refine AW.rg rfl fun K hK => bv rfl (v_fieldAddrF fo24_0 rfl) (bv rfl (v_loadF ty22 rfl (l_lit rfl rfl)) ?_)
     obtain ⟨x24, h25, h⟩ := bS h
     refine b_op rfl (o_call rfl rfl rfl rfl (ACallD.pure0 (w_merging_letters h25)) ?_)
     refine mv rfl rfl ?_
     by_cases hg28 : x24 = true
     ·have h := ifT hg28 h
      refine b_F rfl rfl rfl rfl rfl hg28 ?_
      refine b_F rfl rfl rfl rfl rfl rfl ?_
      refine b_F rfl rfl rfl rfl rfl rfl ?_
      refine bv rfl (v_pickT rfl rfl rfl) (mv rfl rfl ?_)
      refine b_nil (hK _ ?_)
      exact to_L ⟨true, (), h, rfl⟩
     have h := ifF hg28 h
     refine b_T rfl rfl rfl rfl (bF hg28) (o_val rfl (v_fieldAddrF fo24_1 rfl) ?_)
     refine b_T rfl rfl rfl rfl rfl (o_val rfl (v_loadF ty22 rfl (l_lit rfl rfl)) ?_)
     obtain ⟨x26, h27, h⟩ := bS h
     refine b_T rfl rfl rfl rfl rfl (o_call rfl rfl rfl rfl (ACallD.pure0 (w_merging_letters h27)) ?_)
     refine bv rfl (v_pickF rfl rfl rfl) (mv rfl rfl ?_)
     refine b_nil (hK _ ?_)
     exact to_L ⟨x26, (), h, rfl⟩
    refine AW.rg rfl fun K hK => bv rfl (v_fieldAddrF fo24_0 rfl) (bv rfl (v_loadF ty22 rfl (l_lit rfl rfl)) ?_)
    obtain ⟨x29, h30, h⟩ := bS h
    refine bv rfl (v_idxF ty22 es22 rfl rfl (idx_lt h30)) (bv rfl (v_loadF ty9 rfl (l_cell eStr h30 (o := 0) rfl rfl)) (bv rfl (v_lenS rfl rfl ty9 rfl) (bv rfl (v_bin rfl rfl b_lss) (mv rfl rfl ?_))))
    by_cases hg36 : ((x29).length : Int) < 1
    ·have h := ifT hg36 h
     refine b_F rfl rfl rfl rfl rfl (decide_eq_true hg36) ?_
     refine b_F rfl rfl rfl rfl rfl rfl ?_
     refine b_F rfl rfl rfl rfl rfl rfl ?_
     refine b_F rfl rfl rfl rfl rfl rfl ?_
     refine b_F rfl rfl rfl rfl rfl rfl ?_
     refine b_F rfl rfl rfl rfl rfl rfl ?_
     refine bv rfl (v_pickT rfl rfl rfl) (mv rfl rfl ?_)
     refine b_F rfl rfl rfl rfl rfl rfl ?_
     refine b_F rfl rfl rfl rfl rfl rfl ?_
     refine b_F rfl rfl rfl rfl rfl rfl ?_
     refine b_F rfl rfl rfl rfl rfl rfl ?_
     refine b_F rfl rfl rfl rfl rfl rfl ?_
     refine b_F rfl rfl rfl rfl rfl rfl ?_
     refine bv rfl (v_pickT rfl rfl rfl) (mv rfl rfl ?_)
     refine b_nil (hK _ ?_)
     exact to_L ⟨true, (), h, rfl⟩
    have h := ifF hg36 h
    refine b_T rfl rfl rfl rfl (decide_eq_false hg36) (o_val rfl (v_fieldAddrF fo24_0 rfl) ?_)
    refine b_T rfl rfl rfl rfl rfl (o_val rfl (v_loadF ty22 rfl (l_lit rfl rfl)) ?_)
    obtain ⟨x31, h32, h⟩ := bS h
    refine b_T rfl rfl rfl rfl rfl (o_val rfl (v_idxF ty22 es22 rfl rfl (idx_lt h32)) ?_)
    refine b_T rfl rfl rfl rfl rfl (o_val rfl (v_loadF ty9 rfl (l_cell eStr h32 (o := 0) rfl rfl)) ?_)
    refine b_T rfl rfl rfl rfl rfl (o_val rfl (v_lenS rfl rfl ty9 rfl) ?_)
    refine b_T rfl rfl rfl rfl rfl (o_val rfl (v_bin rfl rfl b_gtr) ?_)
    refine bv rfl (v_pickF rfl rfl rfl) (mv rfl rfl ?_)
    by_cases hg35 : 16 < ((x31).length : Int)
    ·have h := ifT hg35 h
     refine b_F rfl rfl rfl rfl rfl (decide_eq_true hg35) ?_
     refine b_F rfl rfl rfl rfl rfl rfl ?_
     refine b_F rfl rfl rfl rfl rfl rfl ?_
     refine b_F rfl rfl rfl rfl rfl rfl ?_
     refine b_F rfl rfl rfl rfl rfl rfl ?_
     refine b_F rfl rfl rfl rfl rfl rfl ?_
     refine bv rfl (v_pickT rfl rfl rfl) (mv rfl rfl ?_)
     refine b_nil (hK _ ?_)
     exact to_L ⟨true, (), h, rfl⟩
    have h := ifF hg35 h
    refine b_T rfl rfl rfl rfl (decide_eq_false hg35) (o_val rfl (v_fieldAddrF fo24_1 rfl) ?_)
    refine b_T rfl rfl rfl rfl rfl (o_val rfl (v_loadF ty22 rfl (l_lit rfl rfl)) ?_)
    obtain ⟨x33, h34, h⟩ := bS h
    refine b_T rfl rfl rfl rfl rfl (o_val rfl (v_idxF ty22 es22 rfl rfl (idx_lt h34)) ?_)
    refine b_T rfl rfl rfl rfl rfl (o_val rfl (v_loadF ty9 rfl (l_cell eStr h34 (o := 0) rfl rfl)) ?_)
    refine b_T rfl rfl rfl rfl rfl (o_val rfl (v_lenS rfl rfl ty9 rfl) ?_)
    refine b_T rfl rfl rfl rfl rfl (o_val rfl (v_bin rfl rfl b_gtr) ?_)
    refine bv rfl (v_pickF rfl rfl rfl) (mv rfl rfl ?_)
    refine b_nil (hK _ ?_)
    exact to_L ⟨decide (16 < ((x33).length : Int)), (), h, rfl⟩
   refine AW.rg rfl fun K hK => bv rfl (v_fieldAddrF fo24_0 rfl) (bv rfl (v_loadF ty22 rfl (l_lit rfl rfl)) ?_)
   obtain ⟨x37, h38, h⟩ := bS h
   refine b_op rfl (o_call rfl rfl rfl rfl (ACallD.pure0 (w_merging_uneven h38)) ?_)
   refine mv rfl rfl ?_
   by_cases hg41 : x37 = true
   ·have h := ifT hg41 h
    refine b_F rfl rfl rfl rfl rfl hg41 ?_
    refine b_F rfl rfl rfl rfl rfl rfl ?_
    refine b_F rfl rfl rfl rfl rfl rfl ?_
    refine bv rfl (v_pickT rfl rfl rfl) (mv rfl rfl ?_)
    refine b_nil (hK _ ?_)
    exact to_L ⟨true, (), h, rfl⟩
   have h := ifF hg41 h
   refine b_T rfl rfl rfl rfl (bF hg41) (o_val rfl (v_fieldAddrF fo24_1 rfl) ?_)
   refine b_T rfl rfl rfl rfl rfl (o_val rfl (v_loadF ty22 rfl (l_lit rfl rfl)) ?_)
   obtain ⟨x39, h40, h⟩ := bS h
   refine b_T rfl rfl rfl rfl rfl (o_call rfl rfl rfl rfl (ACallD.pure0 (w_merging_uneven h40)) ?_)
   refine bv rfl (v_pickF rfl rfl rfl) (mv rfl rfl ?_)
   refine b_nil (hK _ ?_)
   exact to_L ⟨x39, (), h, rfl⟩
  refine AW.rg rfl fun K hK => bv rfl (v_fieldAddrF fo24_0 rfl) (bv rfl (v_loadF ty22 rfl (l_lit rfl rfl)) (bv rfl (v_lenF rfl rfl ty22 rfl) (bv rfl (v_bin rfl rfl b_gtr) (mv rfl rfl ?_))))
  by_cases hg42 : 256 < ((p0.1).length : Int)
  ·have h := ifT hg42 h
   refine b_F rfl rfl rfl rfl rfl (decide_eq_true hg42) ?_
   refine b_F rfl rfl rfl rfl rfl rfl ?_
   refine b_F rfl rfl rfl rfl rfl rfl ?_
   refine b_F rfl rfl rfl rfl rfl rfl ?_
   refine bv rfl (v_pickT rfl rfl rfl) (mv rfl rfl ?_)
   refine b_nil (hK _ ?_)
   exact to_L ⟨true, (), h, rfl⟩
  have h := ifF hg42 h
  refine b_T rfl rfl rfl rfl (decide_eq_false hg42) (o_val rfl (v_fieldAddrF fo24_1 rfl) ?_)
  refine b_T rfl rfl rfl rfl rfl (o_val rfl (v_loadF ty22 rfl (l_lit rfl rfl)) ?_)
  refine b_T rfl rfl rfl rfl rfl (o_val rfl (v_lenF rfl rfl ty22 rfl) ?_)
  refine b_T rfl rfl rfl rfl rfl (o_val rfl (v_bin rfl rfl b_gtr) ?_)
  refine bv rfl (v_pickF rfl rfl rfl) (mv rfl rfl ?_)
  refine b_nil (hK _ ?_)
  exact to_L ⟨decide (256 < ((p0.2).length : Int)), (), h, rfl⟩
 refine AW.rg rfl fun K hK => bv rfl (v_fieldAddrF fo24_0 rfl) (bv rfl (v_loadF ty22 rfl (l_lit rfl rfl)) (bv rfl (v_lenF rfl rfl ty22 rfl) (bv rfl (v_bin rfl rfl b_eql) (mv rfl rfl ?_))))
 by_cases hg43 : ((p0.1).length : Int) = 0
 ·have h := ifT hg43 h
  refine b_F rfl rfl rfl rfl rfl (decide_eq_true hg43) ?_
  refine b_F rfl rfl rfl rfl rfl rfl ?_
  refine b_F rfl rfl rfl rfl rfl rfl ?_
  refine b_F rfl rfl rfl rfl rfl rfl ?_
  refine bv rfl (v_pickT rfl rfl rfl) (mv rfl rfl ?_)
  refine b_nil (hK _ ?_)
  exact to_L ⟨true, (), h, rfl⟩
 have h := ifF hg43 h
 refine b_T rfl rfl rfl rfl (decide_eq_false hg43) (o_val rfl (v_fieldAddrF fo24_1 rfl) ?_)
 refine b_T rfl rfl rfl rfl rfl (o_val rfl (v_loadF ty22 rfl (l_lit rfl rfl)) ?_)
 refine b_T rfl rfl rfl rfl rfl (o_val rfl (v_lenF rfl rfl ty22 rfl) ?_)
 refine b_T rfl rfl rfl rfl rfl (o_val rfl (v_bin rfl rfl b_eql) ?_)
 refine bv rfl (v_pickF rfl rfl rfl) (mv rfl rfl ?_)
 refine b_nil (hK _ ?_)
 exact to_L ⟨decide (((p0.2).length : Int) = 0), (), h, rfl⟩
theorem w_graph_list {p0 : TFromLabelTo} {r : (List (Int))} (h : m_graph_list p0 = some r) : Pure Tryz.prog 134 [.agg [hI p0.1, hI p0.2.1, hI p0.2.2]] (· = slE eInt r) := by
 unfold m_graph_list at h
 refine Pure.of_body Tryz.func134 rfl rfl (lb rfl) fun hf => ?_
 unfold Tryz.f134
 dsimp only [enumS, Nat.reduceAdd]
 refine AW.rgs rfl fun K hK => b_op rfl (o_box rfl rfl rfl ?_)
 refine mv rfl rfl ?_
 refine bf hK ⟨[(1, .fptr [hI p0.1, hI p0.2.1, hI p0.2.2] 0)], []⟩ ?_
 refine AW.rgs rfl fun K hK => bv rfl (v_fieldAddrF fo128_0 rfl) (bv rfl (v_loadF ty3 rfl (l_lit rfl rfl)) (bv rfl (v_fieldAddrF fo128_1 rfl) (bv rfl (v_loadF ty3 rfl (l_lit rfl rfl)) (bv rfl (v_fieldAddrF fo128_2 rfl) (bv rfl (v_loadF ty3 rfl (l_lit rfl rfl)) ?_)))))
 refine b_op rfl (o_bsl rfl rfl (as_of (cs := [hI p0.1, hI p0.2.1, hI p0.2.2]) ty31 ty3 rfl rfl rfl rfl rfl) ?_)
 refine mv rfl rfl ?_
 refine bf hK ⟨[(2, slE eInt [p0.1, p0.2.1, p0.2.2])], []⟩ ?_
 refine AW.ret ?_
 have h := Option.some.inj h
 subst h
 exact ret_pure (hs := [slE eInt [p0.1, p0.2.1, p0.2.2]]) (.inr rfl) (resT rfl rfl) rfl (clean_slE fun _ _ => ⟨trivial, trivial⟩)
theorem w_cmp_isNaN_int {p0 : Int} {r : Bool} (h : m_cmp_isNaN_int p0 = some r) : Pure Tryz.prog 125 [hI p0] (· = HV.bool r) := by
 unfold m_cmp_isNaN_int at h
 refine Pure.of_body Tryz.func125 rfl rfl (lb rfl) fun hf => ?_
 unfold Tryz.f125
 dsimp only [enumS, Nat.reduceAdd]
 refine AW.rgs rfl fun K hK => mv rfl rfl ?_
 refine bf hK ⟨[(0, hI p0)], []⟩ ?_
 refine AW.rgs rfl fun K hK => mv rfl rfl (mv rfl rfl (bv rfl (v_bin rfl rfl b_neq) (mv rfl rfl ?_)))
 refine bf hK ⟨[(2, .bool (decide (p0 ≠ p0)))], []⟩ ?_
 refine AW.ret ?_
 have h := Option.some.inj h
 subst h
 exact ret_pure (hs := [.bool (decide (p0 ≠ p0))]) (.inr rfl) (resT rfl rfl) rfl trivial
theorem w_cmp_Compare_int {p0 : Int} {p1 : Int} {r : Int} (h : m_cmp_Compare_int p0 p1 = some r) : Pure Tryz.prog 211 [hI p0, hI p1] (· = hI r) := by
 unfold m_cmp_Compare_int at h
 refine Pure.of_body Tryz.func211 rfl rfl (lb rfl) fun hf => ?_
 unfold Tryz.f211
 dsimp only [enumS, Nat.reduceAdd]
 refine AW.rgs rfl fun K hK => mv rfl rfl ?_
 refine bf hK ⟨[(0, hI p0), (1, hI p1)], []⟩ ?_
 refine AW.rgs rfl fun K hK => mv rfl rfl ?_
 obtain ⟨x1, h2, h⟩ := bS h
 refine b_op rfl (o_call rfl rfl rfl rfl (ACallD.pure0 (w_cmp_isNaN_int h2)) ?_)
 refine mv rfl rfl ?_
 refine bf hK ⟨[(0, hI p0), (1, hI p1), (5, .bool x1)], []⟩ ?_
 refine AW.rgs rfl fun K hK => mv rfl rfl ?_
 obtain ⟨x3, h4, h⟩ := bS h
 refine b_op rfl (o_call rfl rfl rfl rfl (ACallD.pure0 (w_cmp_isNaN_int h4)) ?_)
 refine mv rfl rfl ?_
 refine bf hK ⟨[(0, hI p0), (1, hI p1), (5, .bool x1), (6, .bool x3)], []⟩ ?_
 refine AW.seq ?_
 refine AW.rgs rfl fun K hK => mv rfl rfl ?_
 refine bf hK ⟨[(0, hI p0), (1, hI p1), (6, .bool x3), (11, .bool x1)], []⟩ ?_
 refine AW.cond rfl (fun hc => ?_) (fun hc => ?_)
 ·have h := ifT hc h
  refine AW.seq ?_
  refine AW.rgs rfl fun K hK => mv rfl rfl ?_
  refine bf hK ⟨[(12, .bool x3)], []⟩ ?_
  refine AW.cond rfl (fun hc => ?_) (fun hc => ?_)
  ·have h := ifT hc h
   refine AW.rgs rfl fun K hK => mv rfl rfl ?_
   refine bf hK ⟨[(4, hI 0)], []⟩ ?_
   refine AW.ret ?_
   have h := Option.some.inj h
   subst h
   exact ret_pure (hs := [hI 0]) (.inr rfl) (resT rfl rfl) rfl trivial
  have h := ifF (bF' hc) h
  refine AW.skip ?_
  refine AW.rgs rfl fun K hK => mv rfl rfl ?_
  refine bf hK ⟨[(4, hI (-1))], []⟩ ?_
  refine AW.ret ?_
  have h := Option.some.inj h
  subst h
  exact ret_pure (hs := [hI (-1)]) (.inr rfl) (resT rfl rfl) rfl trivial
 have h := ifF (bF' hc) h
 refine AW.skip ?_
 refine AW.seq ?_
 refine AW.rgs rfl fun K hK => mv rfl rfl ?_
 refine bf hK ⟨[(0, hI p0), (1, hI p1), (13, .bool x3)], []⟩ ?_
 refine AW.cond rfl (fun hc => ?_) (fun hc => ?_)
 ·have h := ifT hc h
  refine AW.rgs rfl fun K hK => mv rfl rfl ?_
  refine bf hK ⟨[(4, hI 1)], []⟩ ?_
  refine AW.ret ?_
  have h := Option.some.inj h
  subst h
  exact ret_pure (hs := [hI 1]) (.inr rfl) (resT rfl rfl) rfl trivial
 have h := ifF (bF' hc) h
 refine AW.skip ?_
 refine AW.seq ?_
 refine AW.rgs rfl fun K hK => mv rfl rfl (mv rfl rfl (bv rfl (v_bin rfl rfl b_lss) ?_))
 refine bf hK ⟨[(0, hI p0), (1, hI p1), (16, .bool (decide (p0 < p1)))], []⟩ ?_
 refine AW.cond rfl (fun hc => ?_) (fun hc => ?_)
 ·obtain ⟨hc, h⟩ := cT hc h
  refine AW.rgs rfl fun K hK => mv rfl rfl ?_
  refine bf hK ⟨[(4, hI (-1))], []⟩ ?_
  refine AW.ret ?_
  have h := Option.some.inj h
  subst h
  exact ret_pure (hs := [hI (-1)]) (.inr rfl) (resT rfl rfl) rfl trivial
 obtain ⟨hc, h⟩ := cF hc h
 refine AW.skip ?_
 refine AW.seq ?_
 refine AW.rgs rfl fun K hK => mv rfl rfl (mv rfl rfl (bv rfl (v_bin rfl rfl b_gtr) ?_))
 refine bf hK ⟨[(19, .bool (decide (p1 < p0)))], []⟩ ?_
 refine AW.cond rfl (fun hc => ?_) (fun hc => ?_)
 ·obtain ⟨hc, h⟩ := cT hc h
  refine AW.rgs rfl fun K hK => mv rfl rfl ?_
  refine bf hK ⟨[(4, hI 1)], []⟩ ?_
  refine AW.ret ?_
  have h := Option.some.inj h
  subst h
  exact ret_pure (hs := [hI 1]) (.inr rfl) (resT rfl rfl) rfl trivial
 obtain ⟨hc, h⟩ := cF hc h
 refine AW.skip ?_
 refine AW.rgs rfl fun K hK => mv rfl rfl ?_
 refine bf hK ⟨[(4, hI 0)], []⟩ ?_
 refine AW.ret ?_
 have h := Option.some.inj h
 subst h
 exact ret_pure (hs := [hI 0]) (.inr rfl) (resT rfl rfl) rfl trivial
theorem w_slices_Compare_Lint_int {p0 : List (Int)} {p1 : List (Int)} {r : Int} (h : m_slices_Compare_Lint_int p0 p1 = some r) : Pure Tryz.prog 180 [slE eInt p0, slE eInt p1] (· = hI r) := by
 unfold m_slices_Compare_Lint_int at h
 refine Pure.of_body Tryz.func180 rfl rfl (lb rfl) fun hf => ?_
 unfold Tryz.f180
 dsimp only [enumS, Nat.reduceAdd]
 refine AW.rgs rfl fun K hK => mv rfl rfl ?_
 refine bf hK ⟨[(0, slE eInt p0), (1, slE eInt p1)], []⟩ ?_
 refine AW.seq ?_
 refine AW.rgs rfl fun K hK => mv rfl rfl (bv rfl (v_lenF rfl rfl ty31 rfl) (mv rfl rfl ?_))
 refine bf hK ⟨[(0, slE eInt p0), (1, slE eInt p1), (9, slE eInt p0), (10, hI ((p0).length : Int)), (11, hI 0)], []⟩ ?_
 refine AW.lpR h (by first | exact up_then | exact up_to) (S := Int) (V := Unit) (fun a v => ⟨[(0, slE eInt p0), (1, slE eInt p1), (9, slE eInt p0), (10, hI ((p0).length : Int)), (11, hI a)], []⟩) ?_ (X := Unit) (W := Unit) (fun a v => ⟨[(0, slE eInt p0), (1, slE eInt p1)], []⟩) (fun a11 w12 h => ?_) (fun a1 w2 st3 h hr4=> ?_)
 ·exact to_L ⟨(), rfl⟩
 ·refine AW.seq ?_
  refine AW.rgs rfl fun K hK => mv rfl rfl (bv rfl (v_lenF rfl rfl ty31 rfl) (mv rfl rfl (bv rfl (v_lenF rfl rfl ty31 rfl) (bv rfl (v_bin rfl rfl b_lss) ?_))))
  refine bf hK ⟨[(35, .bool (decide (((p0).length : Int) < ((p1).length : Int))))], []⟩ ?_
  refine AW.cond rfl (fun hc => ?_) (fun hc => ?_)
  ·obtain ⟨hc, h⟩ := cT hc h
   refine AW.rgs rfl fun K hK => mv rfl rfl ?_
   refine bf hK ⟨[(4, hI (-1))], []⟩ ?_
   refine AW.ret ?_
   have h := Option.some.inj h
   subst h
   exact ret_pure (hs := [hI (-1)]) (.inr rfl) (resT rfl rfl) rfl trivial
  obtain ⟨hc, h⟩ := cF hc h
  refine AW.skip ?_
  refine AW.rgs rfl fun K hK => mv rfl rfl ?_
  refine bf hK ⟨[(4, hI 0)], []⟩ ?_
  refine AW.ret ?_
  have h := Option.some.inj h
  subst h
  exact ret_pure (hs := [hI 0]) (.inr rfl) (resT rfl rfl) rfl trivial
 refine AW.rgs rfl fun K hK => bv rfl (v_bin rfl rfl b_lss) ?_
 refine bf hK ⟨[(0, slE eInt p0), (1, slE eInt p1), (9, slE eInt p0), (10, hI ((p0).length : Int)), (11, hI a1), (12, .bool (decide (a1 < ((p0).length : Int))))], []⟩ ?_
 refine AW.cseq rfl (fun hc => ?_) (fun hc => ?_)
 ·obtain ⟨hc, h⟩ := cT hc h
  refine AW.skip ?_
  refine AW.seq (AW.block ?_)
  refine AW.rgs rfl fun K hK => mv rfl rfl ?_
  obtain ⟨x5, h6, h⟩ := bS h
  refine bv rfl (v_idxF ty31 es31 rfl rfl (idx_lt h6)) (bv rfl (v_loadF ty3 rfl (l_cell eInt h6 (o := 0) rfl rfl)) (mv rfl rfl (mv rfl rfl ?_)))
  refine bf hK ⟨[(0, slE eInt p0), (1, slE eInt p1), (5, hI a1), (6, hI x5), (9, slE eInt p0), (10, hI ((p0).length : Int)), (11, hI a1)], []⟩ ?_
  refine AW.seq ?_
  refine AW.rgs rfl fun K hK => mv rfl rfl (mv rfl rfl (bv rfl (v_lenF rfl rfl ty31 rfl) (bv rfl (v_bin rfl rfl b_geq) ?_)))
  refine bf hK ⟨[(0, slE eInt p0), (1, slE eInt p1), (5, hI a1), (6, hI x5), (9, slE eInt p0), (10, hI ((p0).length : Int)), (11, hI a1), (19, .bool (decide (((p1).length : Int) ≤ a1)))], []⟩ ?_
  refine AW.cond rfl (fun hc => ?_) (fun hc => ?_)
  ·obtain ⟨hc, h⟩ := cT hc h
   refine AW.rgs rfl fun K hK => mv rfl rfl ?_
   refine bf hK ⟨[(4, hI 1)], []⟩ ?_
   have h := hr4 _ h
   refine AW.ret ?_
   have h := Option.some.inj h
   subst h
   exact ret_pure (hs := [hI 1]) (.inr rfl) (resT rfl rfl) rfl trivial
  obtain ⟨hc, h⟩ := cF hc h
  refine AW.skip ?_
  refine AW.rgs rfl fun K hK => mv rfl rfl (mv rfl rfl ?_)
  obtain ⟨x7, h8, h⟩ := bS h
  refine bv rfl (v_idxF ty31 es31 rfl rfl (idx_lt h8)) (bv rfl (v_loadF ty3 rfl (l_cell eInt h8 (o := 0) rfl rfl)) (mv rfl rfl ?_))
  refine bf hK ⟨[(0, slE eInt p0), (1, slE eInt p1), (6, hI x5), (7, hI x7), (9, slE eInt p0), (10, hI ((p0).length : Int)), (11, hI a1)], []⟩ ?_
  refine AW.rgs rfl fun K hK => mv rfl rfl (mv rfl rfl ?_)
  obtain ⟨x9, h10, h⟩ := bS h
  refine b_op rfl (o_call rfl rfl rfl rfl (ACallD.pure0 (w_cmp_Compare_int h10)) ?_)
  refine mv rfl rfl ?_
  refine bf hK ⟨[(0, slE eInt p0), (1, slE eInt p1), (8, hI x9), (9, slE eInt p0), (10, hI ((p0).length : Int)), (11, hI a1)], []⟩ ?_
  refine AW.rgs rfl fun K hK => mv rfl rfl (bv rfl (v_bin rfl rfl b_neq) ?_)
  refine bf hK ⟨[(0, slE eInt p0), (1, slE eInt p1), (8, hI x9), (9, slE eInt p0), (10, hI ((p0).length : Int)), (11, hI a1), (28, .bool (decide (x9 ≠ 0)))], []⟩ ?_
  refine AW.cond rfl (fun hc => ?_) (fun hc => ?_)
  ·obtain ⟨hc, h⟩ := cT hc h
   refine AW.rgs rfl fun K hK => mv rfl rfl (mv rfl rfl ?_)
   refine bf hK ⟨[(4, hI x9)], []⟩ ?_
   have h := hr4 _ h
   refine AW.ret ?_
   have h := Option.some.inj h
   subst h
   exact ret_pure (hs := [hI x9]) (.inr rfl) (resT rfl rfl) rfl trivial
  obtain ⟨hc, h⟩ := cF hc h
  refine AW.skip ?_
  refine AW.rg rfl fun K hK => bv rfl (v_bin rfl rfl b_add) (mv rfl rfl ?_)
  refine b_nil (hK _ ?_)
  exact to_L ⟨IntKind.wrap .i64 (a1 + 1), (), h, rfl⟩
 obtain ⟨hc, h⟩ := cF hc h
 refine AW.exit ?_
 exact to_L ⟨(), (), h, rfl⟩
theorem w_graph_by_api_Edge_1 {p0 : TFromLabelTo} {p1 : TFromLabelTo} {r : Int} (h : m_graph_by_api_Edge_1 p0 p1 = some r) : Pure Tryz.prog 179 [.agg [hI p0.1, hI p0.2.1, hI p0.2.2], .agg [hI p1.1, hI p1.2.1, hI p1.2.2], .fptr [.fn (.func 134) [] []] 0] (· = hI r) := by
 unfold m_graph_by_api_Edge_1 at h
 refine Pure.of_body Tryz.func179 rfl rfl (lb rfl) fun hf => ?_
 unfold Tryz.f179
 dsimp only [enumS, Nat.reduceAdd]
 refine AW.rgs rfl fun K hK => b_op rfl (o_box rfl rfl rfl ?_)
 refine b_op rfl (o_box rfl rfl rfl ?_)
 refine mv rfl rfl ?_
 refine bf hK ⟨[(2, .fptr [.fn (.func 134) [] []] 0), (3, .fptr [hI p0.1, hI p0.2.1, hI p0.2.2] 0), (4, .fptr [hI p1.1, hI p1.2.1, hI p1.2.2] 0)], []⟩ ?_
 refine AW.dgs 8 follows rfl rfl fun K hK => ?_
 refine sv rfl (v_loadF ty149 rfl (l_lit rfl rfl)) ?_
 refine sv rfl (v_loadF ty128 rfl (l_litA rfl (lb rfl) rfl)) ?_
 obtain ⟨x1, h2, h⟩ := bS h
 refine s_op rfl rfl (ops_call rfl rfl rfl rfl (ACallD.pure0 (w_graph_list h2)) ?_)
 refine sv rfl (v_loadF ty149 rfl (l_lit rfl rfl)) ?_
 refine sv rfl (v_loadF ty128 rfl (l_litA rfl (lb rfl) rfl)) ?_
 obtain ⟨x3, h4, h⟩ := bS h
 refine s_op rfl rfl (ops_call rfl rfl rfl rfl (ACallD.pure0 (w_graph_list h4)) ?_)
 obtain ⟨x5, h6, h⟩ := bS h
 refine s_op rfl rfl (ops_call rfl rfl rfl rfl (ACallD.pure0 (w_slices_Compare_Lint_int h6)) ?_)
 refine sm rfl rfl ?_
 refine s_nil ?_
 refine bf hK ⟨[(5, hI x5)], []⟩ ?_
 refine AW.ret ?_
 have h := Option.some.inj h
 subst h
 exact ret_pure (hs := [hI x5]) (.inr rfl) (resT rfl rfl) rfl trivial
theorem w_graph_by_api_Edge  : Pure Tryz.prog 133 [.fn (.func 134) [] []] (· = HV.fn (.func 179) [] [.fptr [.fn (.func 134) [] []] 0]) := by
 refine Pure.of_body Tryz.func133 rfl rfl (lb rfl) fun hf => ?_
 unfold Tryz.f133
 dsimp only [enumS, Nat.reduceAdd]
 refine AW.rgs rfl fun K hK => b_op rfl (o_box rfl rfl rfl ?_)
 refine mv rfl rfl ?_
 refine bf hK ⟨[(1, .fptr [.fn (.func 134) [] []] 0)], []⟩ ?_
 refine AW.rgs rfl fun K hK => bv rfl (v_func rfl rfl) (mv rfl rfl ?_)
 refine bf hK ⟨[(2, .fn (.func 179) [] [.fptr [.fn (.func 134) [] []] 0])], []⟩ ?_
 refine AW.ret ?_
 exact ret_pure (hs := [.fn (.func 179) [] [.fptr [.fn (.func 134) [] []] 0]]) (.inr rfl) (resT rfl rfl) rfl ⟨trivial, ⟨⟨⟨trivial, trivial⟩, trivial⟩, trivial⟩⟩
theorem w_graph_Check {p0 : TLabelsStatesEdges} {r : Int} (h : m_graph_Check p0 = some r) : Pure Tryz.prog 83 [gA p0] (· = hI r) := by
 unfold m_graph_Check at h
 refine Pure.of_body Tryz.func83 rfl rfl (lb rfl) fun hf => ?_
 unfold Tryz.f83
 dsimp only [enumS, Nat.reduceAdd]
 refine AW.rgs rfl fun K hK => b_op rfl (o_box rfl rfl rfl ?_)
 refine mv rfl rfl ?_
 refine bf hK ⟨[(1, gF p0)], []⟩ ?_
 refine AW.seq (AW.block ?_)
 refine AW.seqJ h (S := Bool) (V := Unit) (fun a v => ⟨[(1, gF p0), (6, .bool a)], []⟩) (fun a1 w2 h => ?_) (fun k3 h => ?_)
 ·refine AW.cond rfl (fun hc => ?_) (fun hc => ?_)
  ·have h := ifT hc h
   refine AW.rgs rfl fun K hK => mv rfl rfl ?_
   refine bf hK ⟨[(2, hI 12)], []⟩ ?_
   refine AW.ret ?_
   have h := Option.some.inj h
   subst h
   exact ret_pure (hs := [hI 12]) (.inr rfl) (resT rfl rfl) rfl trivial
  have h := ifF (bF' hc) h
  refine AW.rgs rfl fun K hK => bv rfl (v_fieldAddrF fo27_1 rfl) (bv rfl (v_loadF ty3 rfl (l_lit rfl rfl)) (bv rfl (v_bin rfl rfl b_lss) (mv rfl rfl ?_)))
  refine bf hK ⟨[(1, gF p0), (15, .bool (decide (p0.2.1 < 0)))], []⟩ ?_
  refine AW.cond rfl (fun hc => ?_) (fun hc => ?_)
  ·obtain ⟨hc, h⟩ := cT hc h
   refine AW.rgs rfl fun K hK => mv rfl rfl ?_
   refine bf hK ⟨[(2, hI 2)], []⟩ ?_
   refine AW.ret ?_
   have h := Option.some.inj h
   subst h
   exact ret_pure (hs := [hI 2]) (.inr rfl) (resT rfl rfl) rfl trivial
  obtain ⟨hc, h⟩ := cF hc h
  refine AW.seqJ h (S := Bool) (V := Unit) (fun a v => ⟨[(1, gF p0), (19, .bool a)], []⟩) (fun a4 w5 h => ?_) (fun k6 h => ?_)
  ·refine AW.cond rfl (fun hc => ?_) (fun hc => ?_)
   ·have h := ifT hc h
    refine AW.rgs rfl fun K hK => mv rfl rfl ?_
    refine bf hK ⟨[(2, hI 4)], []⟩ ?_
    refine AW.ret ?_
    have h := Option.some.inj h
    subst h
    exact ret_pure (hs := [hI 4]) (.inr rfl) (resT rfl rfl) rfl trivial
   have h := ifF (bF' hc) h
   refine AW.skip ?_
   refine AW.rgs rfl fun K hK => b_op rfl (o_call rfl rfl rfl rfl (ACallD.pure0 (w_graph_by_api_Edge )) ?_)
   refine mv rfl rfl ?_
   refine bf hK ⟨[(1, gF p0), (3, .fn (.func 179) [] [.fptr [.fn (.func 134) [] []] 0])], []⟩ ?_
   refine AW.seq ?_
   refine AW.rgs rfl fun K hK => bv rfl (v_fieldAddrF fo27_2 rfl) (bv rfl (v_loadF ty25 rfl (l_lit rfl rfl)) (bv rfl (v_lenF rfl rfl ty25 rfl) (mv rfl rfl ?_)))
   refine bf hK ⟨[(1, gF p0), (3, .fn (.func 179) [] [.fptr [.fn (.func 134) [] []] 0]), (31, slE eFromLabelTo p0.2.2), (32, hI ((p0.2.2).length : Int)), (33, hI 0)], []⟩ ?_
   refine AW.lpR h (by first | exact up_then | exact up_to) (S := Int) (V := Unit) (fun a v => ⟨[(1, gF p0), (3, .fn (.func 179) [] [.fptr [.fn (.func 134) [] []] 0]), (31, slE eFromLabelTo p0.2.2), (32, hI ((p0.2.2).length : Int)), (33, hI a)], []⟩) ?_ (X := Unit) (W := Unit) (fun a v => ⟨[], []⟩) (fun a27 w28 h => ?_) (fun a7 w8 st9 h hr10=> ?_)
   ·exact to_L ⟨(), rfl⟩
   ·refine AW.rgs rfl fun K hK => mv rfl rfl ?_
    refine bf hK ⟨[(2, hI 0)], []⟩ ?_
    refine AW.ret ?_
    have h := Option.some.inj h
    subst h
    exact ret_pure (hs := [hI 0]) (.inr rfl) (resT rfl rfl) rfl trivial
   refine AW.rgs rfl fun K hK => bv rfl (v_bin rfl rfl b_lss) ?_
   refine bf hK ⟨[(1, gF p0), (3, .fn (.func 179) [] [.fptr [.fn (.func 134) [] []] 0]), (31, slE eFromLabelTo p0.2.2), (32, hI ((p0.2.2).length : Int)), (33, hI a7), (34, .bool (decide (a7 < ((p0.2.2).length : Int))))], []⟩ ?_
   refine AW.cseq rfl (fun hc => ?_) (fun hc => ?_)
   ·obtain ⟨hc, h⟩ := cT hc h
    refine AW.skip ?_
    refine AW.seq (AW.block ?_)
    refine AW.rgs rfl fun K hK => mv rfl rfl ?_
    obtain ⟨x11, h12, h⟩ := bS h
    refine bv rfl (v_idxF ty25 es25 rfl rfl (idx_lt h12)) (bv rfl (v_loadF ty128 rfl (l_agg eFromLabelTo h12 rfl rfl)) ?_)
    refine b_op rfl (o_alloc (fid := 83) (zs := [hI 0, hI 0, hI 0]) 83005 rfl rfl ty128 rfl (fun v13 => ?_))
    refine mv rfl rfl ?_
    refine b_op rfl (o_store (cs := [hI x11.1, hI x11.2.1, hI x11.2.2]) (zs := [hI x11.1, hI x11.2.1, hI x11.2.2]) rfl rfl rfl ty128 rfl rfl rfl rfl rfl ?_)
    refine bf hK ⟨[(1, gF p0), (3, .fn (.func 179) [] [.fptr [.fn (.func 134) [] []] 0]), (4, hI a7), (5, .ptr 83005 v13 0), (31, slE eFromLabelTo p0.2.2), (32, hI ((p0.2.2).length : Int)), (33, hI a7)], [(83005, v13, .arr 3 128 [hI x11.1, hI x11.2.1, hI x11.2.2])]⟩ ?_
    refine AW.seq ?_
    refine AW.seqJ h (S := Bool) (V := Unit) (fun a v => ⟨[(1, gF p0), (3, .fn (.func 179) [] [.fptr [.fn (.func 134) [] []] 0]), (4, hI a7), (5, .ptr 83005 v13 0), (31, slE eFromLabelTo p0.2.2), (32, hI ((p0.2.2).length : Int)), (33, hI a7), (62, .bool a)], [(83005, v13, .arr 3 128 [hI x11.1, hI x11.2.1, hI x11.2.2])]⟩) (fun a14 w15 h => ?_) (fun k16 h => ?_)
    ·refine AW.cond rfl (fun hc => ?_) (fun hc => ?_)
     ·have h := ifT hc h
      refine AW.rgs rfl fun K hK => mv rfl rfl ?_
      refine bf hK ⟨[(2, hI 2)], []⟩ ?_
      have h := hr10 _ h
      refine AW.ret ?_
      have h := Option.some.inj h
      subst h
      exact ret_pure (hs := [hI 2]) (.inr rfl) (resT rfl rfl) rfl trivial
     have h := ifF (bF' hc) h
     refine AW.skip ?_
     refine AW.seqJ h (S := Bool) (V := Unit) (fun a v => ⟨[(1, gF p0), (3, .fn (.func 179) [] [.fptr [.fn (.func 134) [] []] 0]), (31, slE eFromLabelTo p0.2.2), (32, hI ((p0.2.2).length : Int)), (33, hI a7), (76, .bool a)], []⟩) (fun a17 w18 h => ?_) (fun k19 h => ?_)
     ·refine AW.cond rfl (fun hc => ?_) (fun hc => ?_)
      ·have h := ifT hc h
       refine AW.rgs rfl fun K hK => mv rfl rfl ?_
       refine bf hK ⟨[(2, hI 10)], []⟩ ?_
       have h := hr10 _ h
       refine AW.ret ?_
       have h := Option.some.inj h
       subst h
       exact ret_pure (hs := [hI 10]) (.inr rfl) (resT rfl rfl) rfl trivial
      have h := ifF (bF' hc) h
      refine AW.skip ?_
      refine AW.rg rfl fun K hK => bv rfl (v_bin rfl rfl b_add) (mv rfl rfl ?_)
      refine b_nil (hK _ ?_)
      exact to_L ⟨IntKind.wrap .i64 (a7 + 1), (), h, rfl⟩
     refine AW.dg 14 follows rfl rfl fun K hK => ?_
     refine sm rfl rfl ?_
     refine sv rfl (v_bin rfl rfl b_gtr) ?_
     refine sm rfl rfl ?_
     by_cases hg24 : 0 < a7
     ·have h := ifT hg24 h
      refine s_T rfl rfl rfl rfl rfl (decide_eq_true hg24) (ops_val rfl (mv_val rfl rfl).2 ?_)
      refine s_T rfl rfl rfl rfl rfl rfl (ops_val rfl (v_fieldAddrF fo27_2 rfl) ?_)
      refine s_T rfl rfl rfl rfl rfl rfl (ops_val rfl (v_loadF ty25 rfl (l_lit rfl rfl)) ?_)
      refine s_T rfl rfl rfl rfl rfl rfl (ops_val rfl (mv_val rfl rfl).2 ?_)
      refine s_T rfl rfl rfl rfl rfl rfl (ops_val rfl (v_bin rfl rfl b_sub) ?_)
      obtain ⟨x20, h21, h⟩ := bS h
      refine s_T rfl rfl rfl rfl rfl rfl (ops_val rfl (v_idxF ty25 es25 rfl rfl (idx_lt h21)) ?_)
      refine s_T rfl rfl rfl rfl rfl rfl (ops_val rfl (v_loadF ty128 rfl (l_agg eFromLabelTo h21 rfl rfl)) ?_)
      refine s_T rfl rfl rfl rfl rfl rfl (ops_val rfl (v_loadP ty128 rfl rfl (l_litA rfl (lb rfl) rfl)) ?_)
      obtain ⟨x22, h23, h⟩ := bS h
      refine s_T rfl rfl rfl rfl rfl rfl (ops_call rfl rfl rfl rfl (ACallD.pure0 (w_graph_by_api_Edge_1 h23)) ?_)
      refine s_T rfl rfl rfl rfl rfl rfl (ops_val rfl (v_bin rfl rfl b_geq) ?_)
      refine sv rfl (v_pickT rfl rfl rfl) ?_
      refine s_nil ?_
      refine b_nil (hK _ ?_)
      exact to_L ⟨decide (0 ≤ x22), (), h, rfl⟩
     have h := ifF hg24 h
     refine s_F rfl rfl rfl rfl rfl (decide_eq_false hg24) ?_
     refine s_F rfl rfl rfl rfl rfl rfl ?_
     refine s_F rfl rfl rfl rfl rfl rfl ?_
     refine s_F rfl rfl rfl rfl rfl rfl ?_
     refine s_F rfl rfl rfl rfl rfl rfl ?_
     refine s_F rfl rfl rfl rfl rfl rfl ?_
     refine s_F rfl rfl rfl rfl rfl rfl ?_
     refine s_F rfl rfl rfl rfl rfl rfl ?_
     refine s_F rfl rfl rfl rfl rfl rfl ?_
     refine s_F rfl rfl rfl rfl rfl rfl ?_
     refine sv rfl (v_pickF rfl rfl rfl) ?_
     refine s_nil ?_
     refine b_nil (hK _ ?_)
     exact to_L ⟨false, (), h, rfl⟩
    refine AW.rg rfl fun K hK => bv rfl (v_fieldAddrP fo128_0 rfl rfl) (bv rfl (v_loadP ty3 rfl rfl (l_lit rfl rfl)) (bv rfl (v_fieldAddrP fo128_1 rfl rfl) (bv rfl (v_loadP ty3 rfl rfl (l_lit rfl rfl)) (bv rfl (v_fieldAddrP fo128_2 rfl rfl) (bv rfl (v_loadP ty3 rfl rfl (l_lit rfl rfl)) ?_)))))
    refine bv rfl (v_min3 rfl rfl rfl rfl) (bv rfl (v_bin rfl rfl b_lss) (mv rfl rfl ?_))
    by_cases hg26 : (min (min x11.1 x11.2.1) x11.2.2) < 0
    ·have h := ifT hg26 h
     refine b_F rfl rfl rfl rfl rfl (decide_eq_true hg26) ?_
     refine b_F rfl rfl rfl rfl rfl rfl ?_
     refine b_F rfl rfl rfl rfl rfl rfl ?_
     refine b_F rfl rfl rfl rfl rfl rfl ?_
     refine b_F rfl rfl rfl rfl rfl rfl ?_
     refine b_F rfl rfl rfl rfl rfl rfl ?_
     refine b_F rfl rfl rfl rfl rfl rfl ?_
     refine b_F rfl rfl rfl rfl rfl rfl ?_
     refine bv rfl (v_pickT rfl rfl rfl) (mv rfl rfl ?_)
     refine b_F rfl rfl rfl rfl rfl rfl ?_
     refine b_F rfl rfl rfl rfl rfl rfl ?_
     refine b_F rfl rfl rfl rfl rfl rfl ?_
     refine b_F rfl rfl rfl rfl rfl rfl ?_
     refine b_F rfl rfl rfl rfl rfl rfl ?_
     refine bv rfl (v_pickT rfl rfl rfl) ?_
     refine b_nil (hK _ ?_)
     exact to_L ⟨true, (), h, rfl⟩
    have h := ifF hg26 h
    refine b_T rfl rfl rfl rfl (decide_eq_false hg26) (o_val rfl (v_fieldAddrP fo128_0 rfl rfl) ?_)
    refine b_T rfl rfl rfl rfl rfl (o_val rfl (v_loadP ty3 rfl rfl (l_lit rfl rfl)) ?_)
    refine b_T rfl rfl rfl rfl rfl (o_val rfl (v_fieldAddrP fo128_2 rfl rfl) ?_)
    refine b_T rfl rfl rfl rfl rfl (o_val rfl (v_loadP ty3 rfl rfl (l_lit rfl rfl)) ?_)
    refine b_T rfl rfl rfl rfl rfl (o_val rfl (v_max rfl rfl rfl) ?_)
    refine b_T rfl rfl rfl rfl rfl (o_val rfl (v_fieldAddrF fo27_1 rfl) ?_)
    refine b_T rfl rfl rfl rfl rfl (o_val rfl (v_loadF ty3 rfl (l_lit rfl rfl)) ?_)
    refine b_T rfl rfl rfl rfl rfl (o_val rfl (v_bin rfl rfl b_geq) ?_)
    refine bv rfl (v_pickF rfl rfl rfl) (mv rfl rfl ?_)
    by_cases hg25 : p0.2.1 ≤ (max x11.1 x11.2.2)
    ·have h := ifT hg25 h
     refine b_F rfl rfl rfl rfl rfl (decide_eq_true hg25) ?_
     refine b_F rfl rfl rfl rfl rfl rfl ?_
     refine b_F rfl rfl rfl rfl rfl rfl ?_
     refine b_F rfl rfl rfl rfl rfl rfl ?_
     refine b_F rfl rfl rfl rfl rfl rfl ?_
     refine bv rfl (v_pickT rfl rfl rfl) ?_
     refine b_nil (hK _ ?_)
     exact to_L ⟨true, (), h, rfl⟩
    have h := ifF hg25 h
    refine b_T rfl rfl rfl rfl (decide_eq_false hg25) (o_val rfl (v_fieldAddrP fo128_1 rfl rfl) ?_)
    refine b_T rfl rfl rfl rfl rfl (o_val rfl (v_loadP ty3 rfl rfl (l_lit rfl rfl)) ?_)
    refine b_T rfl rfl rfl rfl rfl (o_val rfl (v_fieldAddrF fo27_0 rfl) ?_)
    refine b_T rfl rfl rfl rfl rfl (o_val rfl (v_loadF ty3 rfl (l_lit rfl rfl)) ?_)
    refine b_T rfl rfl rfl rfl rfl (o_val rfl (v_bin rfl rfl b_geq) ?_)
    refine bv rfl (v_pickF rfl rfl rfl) ?_
    refine b_nil (hK _ ?_)
    exact to_L ⟨decide (p0.1 ≤ x11.2.1), (), h, rfl⟩
   obtain ⟨hc, h⟩ := cF hc h
   refine AW.exit ?_
   exact to_L ⟨(), (), h, rfl⟩
  refine AW.rg rfl fun K hK => bv rfl (v_fieldAddrF fo27_1 rfl) (bv rfl (v_loadF ty3 rfl (l_lit rfl rfl)) (bv rfl (v_bin rfl rfl b_gtr) (mv rfl rfl ?_)))
  by_cases hg29 : 64 < p0.2.1
  ·have h := ifT hg29 h
   refine b_F rfl rfl rfl rfl rfl (decide_eq_true hg29) ?_
   refine b_F rfl rfl rfl rfl rfl rfl ?_
   refine b_F rfl rfl rfl rfl rfl rfl ?_
   refine b_F rfl rfl rfl rfl rfl rfl ?_
   refine bv rfl (v_pickT rfl rfl rfl) (mv rfl rfl ?_)
   refine b_nil (hK _ ?_)
   exact to_L ⟨true, (), h, rfl⟩
  have h := ifF hg29 h
  refine b_T rfl rfl rfl rfl (decide_eq_false hg29) (o_val rfl (v_fieldAddrF fo27_2 rfl) ?_)
  refine b_T rfl rfl rfl rfl rfl (o_val rfl (v_loadF ty25 rfl (l_lit rfl rfl)) ?_)
  refine b_T rfl rfl rfl rfl rfl (o_val rfl (v_lenF rfl rfl ty25 rfl) ?_)
  refine b_T rfl rfl rfl rfl rfl (o_val rfl (v_bin rfl rfl b_gtr) ?_)
  refine bv rfl (v_pickF rfl rfl rfl) (mv rfl rfl ?_)
  refine b_nil (hK _ ?_)
  exact to_L ⟨decide (1024 < ((p0.2.2).length : Int)), (), h, rfl⟩
 refine AW.rg rfl fun K hK => bv rfl (v_fieldAddrF fo27_0 rfl) (bv rfl (v_loadF ty3 rfl (l_lit rfl rfl)) (bv rfl (v_bin rfl rfl b_lss) (mv rfl rfl ?_)))
 by_cases hg30 : p0.1 < 1
 ·have h := ifT hg30 h
  refine b_F rfl rfl rfl rfl rfl (decide_eq_true hg30) ?_
  refine b_F rfl rfl rfl rfl rfl rfl ?_
  refine b_F rfl rfl rfl rfl rfl rfl ?_
  refine bv rfl (v_pickT rfl rfl rfl) (mv rfl rfl ?_)
  refine b_nil (hK _ ?_)
  exact to_L ⟨true, (), h, rfl⟩
 have h := ifF hg30 h
 refine b_T rfl rfl rfl rfl (decide_eq_false hg30) (o_val rfl (v_fieldAddrF fo27_0 rfl) ?_)
 refine b_T rfl rfl rfl rfl rfl (o_val rfl (v_loadF ty3 rfl (l_lit rfl rfl)) ?_)
 refine b_T rfl rfl rfl rfl rfl (o_val rfl (v_bin rfl rfl b_gtr) ?_)
 refine bv rfl (v_pickF rfl rfl rfl) (mv rfl rfl ?_)
 refine b_nil (hK _ ?_)
 exact to_L ⟨decide (256 < p0.1), (), h, rfl⟩
theorem w_word_known {p0 : Int} {r : Bool} (h : m_word_known p0 = some r) : Pure Tryz.prog 140 [hI p0] (· = HV.bool r) := by
 unfold m_word_known at h
 refine Pure.of_body Tryz.func140 rfl rfl (lb rfl) fun hf => ?_
 unfold Tryz.f140
 dsimp only [enumS, Nat.reduceAdd]
 refine AW.rgs rfl fun K hK => mv rfl rfl ?_
 refine bf hK ⟨[(0, hI p0)], []⟩ ?_
 refine AW.seqJ h (S := Bool) (V := Unit) (fun a v => ⟨[(2, .bool a)], []⟩) (fun a1 w2 h => ?_) (fun k3 h => ?_)
 ·refine AW.ret ?_
  have h := Option.some.inj h
  subst h
  exact ret_pure (hs := [.bool a1]) (.inr rfl) (resT rfl rfl) rfl trivial
 refine AW.rg rfl fun K hK => mv rfl rfl (bv rfl (v_bin rfl rfl b_geq) (mv rfl rfl ?_))
 by_cases hg4 : 1 ≤ p0
 ·have h := ifT hg4 h
  refine b_T rfl rfl rfl rfl (decide_eq_true hg4) (o_val rfl (mv_val rfl rfl).2 ?_)
  refine b_T rfl rfl rfl rfl rfl (o_val rfl (v_bin rfl rfl b_leq) ?_)
  refine bv rfl (v_pickT rfl rfl rfl) (mv rfl rfl ?_)
  refine b_nil (hK _ ?_)
  exact to_L ⟨decide (p0 ≤ 16), (), h, rfl⟩
 have h := ifF hg4 h
 refine b_F rfl rfl rfl rfl rfl (decide_eq_false hg4) ?_
 refine b_F rfl rfl rfl rfl rfl rfl ?_
 refine bv rfl (v_pickF rfl rfl rfl) (mv rfl rfl ?_)
 refine b_nil (hK _ ?_)
 exact to_L ⟨false, (), h, rfl⟩
theorem w_word_Check {p0 : Int} {p1 : List UInt8} {r : Int} (h : m_word_Check p0 p1 = some r) : Pure Tryz.prog 92 [hI p0, .str p1] (· = hI r) := by
 unfold m_word_Check at h
 refine Pure.of_body Tryz.func92 rfl rfl (lb rfl) fun hf => ?_
 unfold Tryz.f92
 dsimp only [enumS, Nat.reduceAdd]
 refine AW.rgs rfl fun K hK => mv rfl rfl ?_
 refine bf hK ⟨[(0, hI p0), (1, .str p1)], []⟩ ?_
 refine AW.seq (AW.block ?_)
 refine AW.rgs rfl fun K hK => mv rfl rfl ?_
 obtain ⟨x1, h2, h⟩ := bS h
 refine b_op rfl (o_call rfl rfl rfl rfl (ACallD.pure0 (w_word_known h2)) ?_)
 refine bv rfl (v_not rfl) (mv rfl rfl ?_)
 refine bf hK ⟨[(0, hI p0), (1, .str p1), (6, .bool (!x1))], []⟩ ?_
 refine AW.cond rfl (fun hc => ?_) (fun hc => ?_)
 ·have h := ifT hc h
  refine AW.rgs rfl fun K hK => mv rfl rfl ?_
  refine bf hK ⟨[(4, hI 12)], []⟩ ?_
  refine AW.ret ?_
  have h := Option.some.inj h
  subst h
  exact ret_pure (hs := [hI 12]) (.inr rfl) (resT rfl rfl) rfl trivial
 have h := ifF (bF' hc) h
 refine AW.rgs rfl fun K hK => mv rfl rfl (bv rfl (v_lenS rfl rfl ty9 rfl) (bv rfl (v_bin rfl rfl b_gtr) (mv rfl rfl ?_)))
 refine bf hK ⟨[(0, hI p0), (1, .str p1), (10, .bool (decide (65536 < ((p1).length : Int))))], []⟩ ?_
 refine AW.cond rfl (fun hc => ?_) (fun hc => ?_)
 ·obtain ⟨hc, h⟩ := cT hc h
  refine AW.rgs rfl fun K hK => mv rfl rfl ?_
  refine bf hK ⟨[(4, hI 4)], []⟩ ?_
  refine AW.ret ?_
  have h := Option.some.inj h
  subst h
  exact ret_pure (hs := [hI 4]) (.inr rfl) (resT rfl rfl) rfl trivial
 obtain ⟨hc, h⟩ := cF hc h
 refine AW.skip ?_
 refine AW.seq ?_
 refine AW.rgs rfl fun K hK => mv rfl rfl (bv rfl (v_lenS rfl rfl ty9 rfl) (mv rfl rfl ?_))
 refine bf hK ⟨[(0, hI p0), (1, .str p1), (15, hI ((p1).length : Int)), (16, hI 0)], []⟩ ?_
 refine AW.lpR h (by first | exact up_then | exact up_to) (S := Int) (V := Unit) (fun a v => ⟨[(0, hI p0), (1, .str p1), (15, hI ((p1).length : Int)), (16, hI a)], []⟩) ?_ (X := Unit) (W := Unit) (fun a v => ⟨[], []⟩) (fun a12 w13 h => ?_) (fun a3 w4 st5 h hr6=> ?_)
 ·exact to_L ⟨(), rfl⟩
 ·refine AW.rgs rfl fun K hK => mv rfl rfl ?_
  refine bf hK ⟨[(4, hI 0)], []⟩ ?_
  refine AW.ret ?_
  have h := Option.some.inj h
  subst h
  exact ret_pure (hs := [hI 0]) (.inr rfl) (resT rfl rfl) rfl trivial
 refine AW.rgs rfl fun K hK => bv rfl (v_bin rfl rfl b_lss) ?_
 refine bf hK ⟨[(0, hI p0), (1, .str p1), (15, hI ((p1).length : Int)), (16, hI a3), (17, .bool (decide (a3 < ((p1).length : Int))))], []⟩ ?_
 refine AW.cseq rfl (fun hc => ?_) (fun hc => ?_)
 ·obtain ⟨hc, h⟩ := cT hc h
  refine AW.skip ?_
  refine AW.seq (AW.block ?_)
  refine AW.rgs rfl fun K hK => mv rfl rfl (mv rfl rfl ?_)
  refine bf hK ⟨[(0, hI p0), (1, .str p1), (5, hI a3), (15, hI ((p1).length : Int)), (16, hI a3)], []⟩ ?_
  refine AW.dgs 7 follows rfl rfl fun K hK => ?_
  refine sm rfl rfl ?_
  obtain ⟨h7, h⟩ := ifN h
  refine sv rfl (v_sliceS ty9 rfl rfl rfl h7) ?_
  refine sm rfl rfl ?_
  refine sm rfl rfl ?_
  obtain ⟨x8, h9, h⟩ := bS h
  refine sv rfl (v_idxS ty9 rfl rfl h9) ?_
  obtain ⟨x10, h11, h⟩ := bS h
  refine s_op rfl rfl (ops_call rfl rfl rfl rfl (ACallD.pure0 (w_strings_IndexByte h11)) ?_)
  refine sv rfl (v_bin rfl rfl b_lss) ?_
  refine s_nil ?_
  refine bf hK ⟨[(0, hI p0), (1, .str p1), (15, hI ((p1).length : Int)), (16, hI a3), (25, .bool (decide (x10 < 0)))], []⟩ ?_
  refine AW.cond rfl (fun hc => ?_) (fun hc => ?_)
  ·obtain ⟨hc, h⟩ := cT hc h
   refine AW.rgs rfl fun K hK => mv rfl rfl ?_
   refine bf hK ⟨[(4, hI 13)], []⟩ ?_
   have h := hr6 _ h
   refine AW.ret ?_
   have h := Option.some.inj h
   subst h
   exact ret_pure (hs := [hI 13]) (.inr rfl) (resT rfl rfl) rfl trivial
  obtain ⟨hc, h⟩ := cF hc h
  refine AW.skip ?_
  refine AW.rg rfl fun K hK => bv rfl (v_bin rfl rfl b_add) (mv rfl rfl ?_)
  refine b_nil (hK _ ?_)
  exact to_L ⟨IntKind.wrap .i64 (a3 + 1), (), h, rfl⟩
 obtain ⟨hc, h⟩ := cF hc h
 refine AW.exit ?_
 exact to_L ⟨(), (), h, rfl⟩
theorem w_language_check {p0 : TLabelsStatesEdges} {r : Int} (h : m_language_check p0 = some r) : Pure Tryz.prog 110 [gA p0] (· = hI r) := by
 unfold m_language_check at h
 refine Pure.of_body Tryz.func110 rfl rfl (lb rfl) fun hf => ?_
 unfold Tryz.f110
 dsimp only [enumS, Nat.reduceAdd]
 refine AW.rgs rfl fun K hK => b_op rfl (o_box rfl rfl rfl ?_)
 refine mv rfl rfl ?_
 refine bf hK ⟨[(1, gF p0)], []⟩ ?_
 refine AW.seq (AW.block ?_)
 refine AW.rgs rfl fun K hK => bv rfl (v_loadF ty27 rfl (l_litA rfl (lb rfl) rfl)) ?_
 obtain ⟨x1, h2, h⟩ := bS h
 refine b_op rfl (o_call rfl rfl rfl rfl (ACallD.pure0 (w_graph_Check h2)) ?_)
 refine bv rfl (v_bin rfl rfl b_neq) (mv rfl rfl ?_)
 refine bf hK ⟨[(1, gF p0), (3, .bool (decide (x1 ≠ 0)))], []⟩ ?_
 refine AW.cond rfl (fun hc => ?_) (fun hc => ?_)
 ·obtain ⟨hc, h⟩ := cT hc h
  refine AW.rgs rfl fun K hK => mv rfl rfl ?_
  refine bf hK ⟨[(2, hI 1)], []⟩ ?_
  refine AW.ret ?_
  have h := Option.some.inj h
  subst h
  exact ret_pure (hs := [hI 1]) (.inr rfl) (resT rfl rfl) rfl trivial
 obtain ⟨hc, h⟩ := cF hc h
 refine AW.rgs rfl fun K hK => bv rfl (v_fieldAddrF fo27_0 rfl) (bv rfl (v_loadF ty3 rfl (l_lit rfl rfl)) (bv rfl (v_bin rfl rfl b_gtr) (mv rfl rfl ?_)))
 refine bf hK ⟨[(7, .bool (decide (16 < p0.1)))], []⟩ ?_
 refine AW.cond rfl (fun hc => ?_) (fun hc => ?_)
 ·obtain ⟨hc, h⟩ := cT hc h
  refine AW.rgs rfl fun K hK => mv rfl rfl ?_
  refine bf hK ⟨[(2, hI 12)], []⟩ ?_
  refine AW.ret ?_
  have h := Option.some.inj h
  subst h
  exact ret_pure (hs := [hI 12]) (.inr rfl) (resT rfl rfl) rfl trivial
 obtain ⟨hc, h⟩ := cF hc h
 refine AW.skip ?_
 refine AW.rgs rfl fun K hK => mv rfl rfl ?_
 refine bf hK ⟨[(2, hI 0)], []⟩ ?_
 refine AW.ret ?_
 have h := Option.some.inj h
 subst h
 exact ret_pure (hs := [hI 0]) (.inr rfl) (resT rfl rfl) rfl trivial
theorem w_language_spells {p0 : TLabelsStatesEdges} {p1 : List UInt8} {r : Int} (h : m_language_spells p0 p1 = some r) : Pure Tryz.prog 60 [gA p0, .str p1] (· = hI r) := by
 unfold m_language_spells at h
 refine Pure.of_body Tryz.func60 rfl rfl (lb rfl) fun hf => ?_
 unfold Tryz.f60
 dsimp only [enumS, Nat.reduceAdd]
 refine AW.rgs rfl fun K hK => b_op rfl (o_box rfl rfl rfl ?_)
 refine mv rfl rfl ?_
 refine bf hK ⟨[(1, .str p1), (2, gF p0)], []⟩ ?_
 refine AW.seq ?_
 refine AW.rgs rfl fun K hK => bv rfl (v_loadF ty27 rfl (l_litA rfl (lb rfl) rfl)) ?_
 obtain ⟨x1, h2, h⟩ := bS h
 refine b_op rfl (o_call rfl rfl rfl rfl (ACallD.pure0 (w_language_check h2)) ?_)
 refine mv rfl rfl ?_
 refine bf hK ⟨[(1, .str p1), (2, gF p0), (5, hI x1)], []⟩ ?_
 refine AW.rgs rfl fun K hK => mv rfl rfl (bv rfl (v_bin rfl rfl b_neq) ?_)
 refine bf hK ⟨[(1, .str p1), (2, gF p0), (5, hI x1), (9, .bool (decide (x1 ≠ 0)))], []⟩ ?_
 refine AW.cond rfl (fun hc => ?_) (fun hc => ?_)
 ·obtain ⟨hc, h⟩ := cT hc h
  refine AW.rgs rfl fun K hK => mv rfl rfl (mv rfl rfl ?_)
  refine bf hK ⟨[(4, hI x1)], []⟩ ?_
  refine AW.ret ?_
  have h := Option.some.inj h
  subst h
  exact ret_pure (hs := [hI x1]) (.inr rfl) (resT rfl rfl) rfl trivial
 obtain ⟨hc, h⟩ := cF hc h
 refine AW.skip ?_
 refine AW.rgs rfl fun K hK => bv rfl (v_fieldAddrF fo27_0 rfl) (bv rfl (v_loadF ty3 rfl (l_lit rfl rfl)) (mv rfl rfl ?_))
 obtain ⟨x3, h4, h⟩ := bS h
 refine b_op rfl (o_call rfl rfl rfl rfl (ACallD.pure0 (w_word_Check h4)) ?_)
 refine mv rfl rfl ?_
 refine bf hK ⟨[(4, hI x3)], []⟩ ?_
 refine AW.ret ?_
 have h := Option.some.inj h
 subst h
 exact ret_pure (hs := [hI x3]) (.inr rfl) (resT rfl rfl) rfl trivial
theorem w_graph_checkSet {p0 : TLabelsStatesEdges} {p1 : List (Int)} {r : Int} (h : m_graph_checkSet p0 p1 = some r) : Pure Tryz.prog 158 [gA p0, slE eInt p1] (· = hI r) := by
 unfold m_graph_checkSet at h
 refine Pure.of_body Tryz.func158 rfl rfl (lb rfl) fun hf => ?_
 unfold Tryz.f158
 dsimp only [enumS, Nat.reduceAdd]
 refine AW.rgs rfl fun K hK => b_op rfl (o_box rfl rfl rfl ?_)
 refine mv rfl rfl ?_
 refine bf hK ⟨[(1, slE eInt p1), (2, gF p0)], []⟩ ?_
 refine AW.seq ?_
 refine AW.rgs rfl fun K hK => mv rfl rfl (bv rfl (v_lenF rfl rfl ty31 rfl) (mv rfl rfl ?_))
 refine bf hK ⟨[(1, slE eInt p1), (2, gF p0), (7, slE eInt p1), (8, hI ((p1).length : Int)), (9, hI 0)], []⟩ ?_
 refine AW.lpR h (by first | exact up_then | exact up_to) (S := Int) (V := Unit) (fun a v => ⟨[(1, slE eInt p1), (2, gF p0), (7, slE eInt p1), (8, hI ((p1).length : Int)), (9, hI a)], []⟩) ?_ (X := Unit) (W := Unit) (fun a v => ⟨[], []⟩) (fun a17 w18 h => ?_) (fun a1 w2 st3 h hr4=> ?_)
 ·exact to_L ⟨(), rfl⟩
 ·refine AW.rgs rfl fun K hK => mv rfl rfl ?_
  refine bf hK ⟨[(4, hI 0)], []⟩ ?_
  refine AW.ret ?_
  have h := Option.some.inj h
  subst h
  exact ret_pure (hs := [hI 0]) (.inr rfl) (resT rfl rfl) rfl trivial
 refine AW.rgs rfl fun K hK => bv rfl (v_bin rfl rfl b_lss) ?_
 refine bf hK ⟨[(1, slE eInt p1), (2, gF p0), (7, slE eInt p1), (8, hI ((p1).length : Int)), (9, hI a1), (10, .bool (decide (a1 < ((p1).length : Int))))], []⟩ ?_
 refine AW.cseq rfl (fun hc => ?_) (fun hc => ?_)
 ·obtain ⟨hc, h⟩ := cT hc h
  refine AW.skip ?_
  refine AW.seq (AW.block ?_)
  refine AW.rgs rfl fun K hK => mv rfl rfl ?_
  obtain ⟨x5, h6, h⟩ := bS h
  refine bv rfl (v_idxF ty31 es31 rfl rfl (idx_lt h6)) (bv rfl (v_loadF ty3 rfl (l_cell eInt h6 (o := 0) rfl rfl)) (mv rfl rfl (mv rfl rfl ?_)))
  refine bf hK ⟨[(1, slE eInt p1), (2, gF p0), (5, hI a1), (6, hI x5), (7, slE eInt p1), (8, hI ((p1).length : Int)), (9, hI a1)], []⟩ ?_
  refine AW.seq ?_
  refine AW.seqJ h (S := Bool) (V := Unit) (fun a v => ⟨[(1, slE eInt p1), (2, gF p0), (5, hI a1), (6, hI x5), (7, slE eInt p1), (8, hI ((p1).length : Int)), (9, hI a1), (21, .bool a)], []⟩) (fun a7 w8 h => ?_) (fun k9 h => ?_)
  ·refine AW.cond rfl (fun hc => ?_) (fun hc => ?_)
   ·have h := ifT hc h
    refine AW.rgs rfl fun K hK => mv rfl rfl ?_
    refine bf hK ⟨[(4, hI 25)], []⟩ ?_
    have h := hr4 _ h
    refine AW.ret ?_
    have h := Option.some.inj h
    subst h
    exact ret_pure (hs := [hI 25]) (.inr rfl) (resT rfl rfl) rfl trivial
   have h := ifF (bF' hc) h
   refine AW.skip ?_
   refine AW.seqJ h (S := Bool) (V := Unit) (fun a v => ⟨[(1, slE eInt p1), (2, gF p0), (7, slE eInt p1), (8, hI ((p1).length : Int)), (9, hI a1), (32, .bool a)], []⟩) (fun a10 w11 h => ?_) (fun k12 h => ?_)
   ·refine AW.cond rfl (fun hc => ?_) (fun hc => ?_)
    ·have h := ifT hc h
     refine AW.rgs rfl fun K hK => mv rfl rfl ?_
     refine bf hK ⟨[(4, hI 10)], []⟩ ?_
     have h := hr4 _ h
     refine AW.ret ?_
     have h := Option.some.inj h
     subst h
     exact ret_pure (hs := [hI 10]) (.inr rfl) (resT rfl rfl) rfl trivial
    have h := ifF (bF' hc) h
    refine AW.skip ?_
    refine AW.rg rfl fun K hK => bv rfl (v_bin rfl rfl b_add) (mv rfl rfl ?_)
    refine b_nil (hK _ ?_)
    exact to_L ⟨IntKind.wrap .i64 (a1 + 1), (), h, rfl⟩
   refine AW.rg rfl fun K hK => mv rfl rfl (bv rfl (v_bin rfl rfl b_gtr) (mv rfl rfl ?_))
   by_cases hg15 : 0 < a1
   ·have h := ifT hg15 h
    refine b_T rfl rfl rfl rfl (decide_eq_true hg15) (o_val rfl (mv_val rfl rfl).2 ?_)
    refine b_T rfl rfl rfl rfl rfl (o_val rfl (mv_val rfl rfl).2 ?_)
    refine b_T rfl rfl rfl rfl rfl (o_val rfl (mv_val rfl rfl).2 ?_)
    refine b_T rfl rfl rfl rfl rfl (o_val rfl (v_bin rfl rfl b_sub) ?_)
    obtain ⟨x13, h14, h⟩ := bS h
    refine b_T rfl rfl rfl rfl rfl (o_val rfl (v_idxF ty31 es31 rfl rfl (idx_lt h14)) ?_)
    refine b_T rfl rfl rfl rfl rfl (o_val rfl (v_loadF ty3 rfl (l_cell eInt h14 (o := 0) rfl rfl)) ?_)
    refine b_T rfl rfl rfl rfl rfl (o_val rfl (v_bin rfl rfl b_leq) ?_)
    refine bv rfl (v_pickT rfl rfl rfl) ?_
    refine b_nil (hK _ ?_)
    exact to_L ⟨decide (x5 ≤ x13), (), h, rfl⟩
   have h := ifF hg15 h
   refine b_F rfl rfl rfl rfl rfl (decide_eq_false hg15) ?_
   refine b_F rfl rfl rfl rfl rfl rfl ?_
   refine b_F rfl rfl rfl rfl rfl rfl ?_
   refine b_F rfl rfl rfl rfl rfl rfl ?_
   refine b_F rfl rfl rfl rfl rfl rfl ?_
   refine b_F rfl rfl rfl rfl rfl rfl ?_
   refine b_F rfl rfl rfl rfl rfl rfl ?_
   refine bv rfl (v_pickF rfl rfl rfl) ?_
   refine b_nil (hK _ ?_)
   exact to_L ⟨false, (), h, rfl⟩
  refine AW.rg rfl fun K hK => mv rfl rfl (bv rfl (v_bin rfl rfl b_lss) (mv rfl rfl ?_))
  by_cases hg16 : x5 < 0
  ·have h := ifT hg16 h
   refine b_F rfl rfl rfl rfl rfl (decide_eq_true hg16) ?_
   refine b_F rfl rfl rfl rfl rfl rfl ?_
   refine b_F rfl rfl rfl rfl rfl rfl ?_
   refine b_F rfl rfl rfl rfl rfl rfl ?_
   refine bv rfl (v_pickT rfl rfl rfl) ?_
   refine b_nil (hK _ ?_)
   exact to_L ⟨true, (), h, rfl⟩
  have h := ifF hg16 h
  refine b_T rfl rfl rfl rfl (decide_eq_false hg16) (o_val rfl (mv_val rfl rfl).2 ?_)
  refine b_T rfl rfl rfl rfl rfl (o_val rfl (v_fieldAddrF fo27_1 rfl) ?_)
  refine b_T rfl rfl rfl rfl rfl (o_val rfl (v_loadF ty3 rfl (l_lit rfl rfl)) ?_)
  refine b_T rfl rfl rfl rfl rfl (o_val rfl (v_bin rfl rfl b_geq) ?_)
  refine bv rfl (v_pickF rfl rfl rfl) ?_
  refine b_nil (hK _ ?_)
  exact to_L ⟨decide (p0.2.1 ≤ x5), (), h, rfl⟩
 obtain ⟨hc, h⟩ := cF hc h
 refine AW.exit ?_
 exact to_L ⟨(), (), h, rfl⟩
theorem w_graph_leaving (p0 : TLabelsStatesEdges) (p1 : Int) : Pure Tryz.prog 159 [gA p0, hI p1] (· = HV.fn (.func 194) [] [gF p0, .fptr [hI p1] 0]) := by
 refine Pure.of_body Tryz.func159 rfl rfl (lb rfl) fun hf => ?_
 unfold Tryz.f159
 dsimp only [enumS, Nat.reduceAdd]
 refine AW.rgs rfl fun K hK => b_op rfl (o_box rfl rfl rfl ?_)
 refine b_op rfl (o_box rfl rfl rfl ?_)
 refine mv rfl rfl ?_
 refine bf hK ⟨[(2, gF p0), (3, .fptr [hI p1] 0)], []⟩ ?_
 refine AW.rgs rfl fun K hK => bv rfl (v_func rfl rfl) (mv rfl rfl ?_)
 refine bf hK ⟨[(4, .fn (.func 194) [] [gF p0, .fptr [hI p1] 0])], []⟩ ?_
 refine AW.ret ?_
 exact ret_pure (hs := [.fn (.func 194) [] [gF p0, .fptr [hI p1] 0]]) (.inr rfl) (resT rfl rfl) rfl ⟨trivial, ⟨⟨trivial, trivial, (clean_slE fun _ _ => ⟨trivial, trivial, trivial, trivial⟩), trivial⟩, ⟨trivial, trivial⟩, trivial⟩⟩
theorem w_graph_Step {p0 : TLabelsStatesEdges} {p1 : List (Int)} {p2 : Int} {r : (List (Int)) × Int} (h : m_graph_Step p0 p1 p2 = some r) : Pure Tryz.prog 108 [gA p0, slE eInt p1, hI p2] (· = HV.tup [slE eInt r.1, hI r.2]) := by
 unfold m_graph_Step at h
 refine Pure.of_body Tryz.func108 rfl rfl (lb rfl) fun hf => ?_
 unfold Tryz.f108
 dsimp only [enumS, Nat.reduceAdd]
 refine AW.rgs rfl fun K hK => b_op rfl (o_box rfl rfl rfl ?_)
 refine b_op rfl (o_box rfl rfl rfl ?_)
 refine mv rfl rfl (mv rfl rfl ?_)
 refine bf hK ⟨[(1, slE eInt p1), (3, gF p0), (5, .fptr [hI p2] 0)], []⟩ ?_
 refine AW.seq ?_
 refine AW.rgs rfl fun K hK => bv rfl (v_loadF ty27 rfl (l_litA rfl (lb rfl) rfl)) ?_
 obtain ⟨x1, h2, h⟩ := bS h
 refine b_op rfl (o_call rfl rfl rfl rfl (ACallD.pure0 (w_graph_Check h2)) ?_)
 refine bv rfl (v_bin rfl rfl b_neq) ?_
 refine bf hK ⟨[(1, slE eInt p1), (3, gF p0), (5, .fptr [hI p2] 0), (16, .bool (decide (x1 ≠ 0)))], []⟩ ?_
 refine AW.cond rfl (fun hc => ?_) (fun hc => ?_)
 ·obtain ⟨hc, h⟩ := cT hc h
  refine AW.rgs rfl fun K hK => mv rfl rfl (mv rfl rfl ?_)
  refine bf hK ⟨[(6, .v (.slice none 0 0)), (7, hI 1)], []⟩ ?_
  refine AW.to (to_weak ⟨[(6, slE eInt ([] : List Int)), (7, hI 1)], []⟩ ⟨⟨_, rfl, .nil _⟩, ⟨_, rfl, .refl _⟩, trivial⟩ trivial ?_)
  refine AW.ret ?_
  have h := Option.some.inj h
  subst h
  exact ret_pure (hs := [slE eInt ([] : List Int), hI 1]) (.inr rfl) (resT rfl (resT rfl rfl)) rfl ⟨(clean_slE fun _ _ => ⟨trivial, trivial⟩), trivial, trivial⟩
 obtain ⟨hc, h⟩ := cF hc h
 refine AW.skip ?_
 refine AW.seq ?_
 refine AW.rgs rfl fun K hK => bv rfl (v_loadF ty27 rfl (l_litA rfl (lb rfl) rfl)) (mv rfl rfl ?_)
 obtain ⟨x3, h4, h⟩ := bS h
 refine b_op rfl (o_call rfl rfl rfl rfl (ACallD.pure0 (w_graph_checkSet h4)) ?_)
 refine mv rfl rfl ?_
 refine bf hK ⟨[(1, slE eInt p1), (3, gF p0), (5, .fptr [hI p2] 0), (8, hI x3)], []⟩ ?_
 refine AW.rgs rfl fun K hK => mv rfl rfl (bv rfl (v_bin rfl rfl b_neq) ?_)
 refine bf hK ⟨[(1, slE eInt p1), (3, gF p0), (5, .fptr [hI p2] 0), (8, hI x3), (21, .bool (decide (x3 ≠ 0)))], []⟩ ?_
 refine AW.cond rfl (fun hc => ?_) (fun hc => ?_)
 ·obtain ⟨hc, h⟩ := cT hc h
  refine AW.rgs rfl fun K hK => mv rfl rfl (mv rfl rfl (mv rfl rfl ?_))
  refine bf hK ⟨[(6, .v (.slice none 0 0)), (7, hI x3)], []⟩ ?_
  refine AW.to (to_weak ⟨[(6, slE eInt ([] : List Int)), (7, hI x3)], []⟩ ⟨⟨_, rfl, .nil _⟩, ⟨_, rfl, .refl _⟩, trivial⟩ trivial ?_)
  refine AW.ret ?_
  have h := Option.some.inj h
  subst h
  exact ret_pure (hs := [slE eInt ([] : List Int), hI x3]) (.inr rfl) (resT rfl (resT rfl rfl)) rfl ⟨(clean_slE fun _ _ => ⟨trivial, trivial⟩), trivial, trivial⟩
 obtain ⟨hc, h⟩ := cF hc h
 refine AW.skip ?_
 refine AW.seq ?_
 refine AW.seqJ h (S := Bool) (V := Unit) (fun a v => ⟨[(1, slE eInt p1), (3, gF p0), (5, .fptr [hI p2] 0), (30, .bool a)], []⟩) (fun a5 w6 h => ?_) (fun k7 h => ?_)
 ·refine AW.cond rfl (fun hc => ?_) (fun hc => ?_)
  ·have h := ifT hc h
   refine AW.rgs rfl fun K hK => mv rfl rfl (mv rfl rfl ?_)
   refine bf hK ⟨[(6, .v (.slice none 0 0)), (7, hI 2)], []⟩ ?_
   refine AW.to (to_weak ⟨[(6, slE eInt ([] : List Int)), (7, hI 2)], []⟩ ⟨⟨_, rfl, .nil _⟩, ⟨_, rfl, .refl _⟩, trivial⟩ trivial ?_)
   refine AW.ret ?_
   have h := Option.some.inj h
   subst h
   exact ret_pure (hs := [slE eInt ([] : List Int), hI 2]) (.inr rfl) (resT rfl (resT rfl rfl)) rfl ⟨(clean_slE fun _ _ => ⟨trivial, trivial⟩), trivial, trivial⟩
  have h := ifF (bF' hc) h
  refine AW.skip ?_
  refine AW.rgs rfl fun K hK => b_op rfl (o_alloc (fid := 108) (zs := [.v (.slice none 0 0)]) 108009 rfl rfl ty31 rfl (fun v8 => ?_))
  refine bf hK ⟨[(1, slE eInt p1), (3, gF p0), (5, .fptr [hI p2] 0), (9, .ptr 108009 v8 0)], [(108009, v8, .arr 1 31 [.v (.slice none 0 0)])]⟩ ?_
  refine AW.seq ?_
  refine AW.rgs rfl fun K hK => mv rfl rfl (bv rfl (v_lenF rfl rfl ty31 rfl) (mv rfl rfl ?_))
  refine bf hK ⟨[(3, gF p0), (5, .fptr [hI p2] 0), (9, .ptr 108009 v8 0), (31, slE eInt p1), (32, hI ((p1).length : Int)), (33, hI 0)], [(108009, v8, .arr 1 31 [.v (.slice none 0 0)])]⟩ ?_
  refine AW.lpX h (by first | exact up_then | exact up_to) (S := Int × (List Int)) (V := Nat) (fun a v => ⟨[(3, gF p0), (5, .fptr [hI p2] 0), (9, .ptr 108009 v8 0), (31, slE eInt p1), (32, hI ((p1).length : Int)), (33, hI a.1)], [(108009, v8, .arr 1 31 [.ar 108050 v eInt.k 0 ((a.2).length)]), (108050, v, .arr eInt.k 3 (eInt.E a.2))]⟩) ?_ (X := (List Int)) (W := Nat) (fun a v => ⟨[(9, .ptr 108009 v8 0)], [(108009, v8, .arr 1 31 [.ar 108050 v eInt.k 0 ((a).length)]), (108050, v, .arr eInt.k 3 (eInt.E a))]⟩) (fun a31 w32 h => ?_) (fun a9 w10 st11 h => ?_)
  ·refine to_bind (to_ownC 108050 108009 v8 1 0 eInt.k 3 31 rfl rfl (by decide) fun v30 => ?_)
   exact to_le (s' := ⟨[(3, gF p0), (5, .fptr [hI p2] 0), (9, .ptr 108009 v8 0), (31, slE eInt p1), (32, hI ((p1).length : Int)), (33, hI 0)], [(108009, v8, .arr 1 31 [.ar 108050 v30 eInt.k 0 ((([] : List Int)).length)]), (108050, v30, .arr eInt.k 3 (eInt.E ([] : List Int)))]⟩) (AS.le_of ⟨rfl, rfl, rfl, rfl, rfl, rfl, trivial⟩ ⟨hle rfl (by first | rfl | simp only [List.length_set, sortI_len, sortS_len]), rfl, trivial⟩) ⟨v30, rfl⟩
  ·refine AW.rgs rfl fun K hK => bv rfl (v_loadP ty31 rfl rfl (l_lit rfl rfl)) ?_
   obtain ⟨h33, h⟩ := ifN h
   refine b_op rfl (o_sortI c_sortI (l := a31) rfl rfl rfl rfl h33 ?_)
   refine b_fin hK (s' := ⟨[(9, .ptr 108009 v8 0)], [(108009, v8, .arr 1 31 [.ar 108050 w32 eInt.k 0 ((sortI a31).length)]), (108050, w32, .arr eInt.k 3 (eInt.E (sortI a31)))]⟩) (AS.le_of ⟨rfl, trivial⟩ ⟨hle rfl (by first | rfl | simp only [List.length_set, sortI_len, sortS_len]), rfl, trivial⟩) ?_
   refine AW.rgs rfl fun K hK => bv rfl (v_loadP ty31 rfl rfl (l_lit rfl rfl)) ?_
   refine b_op rfl (o_callK (q := slE eInt (compact_ (sortI a31))) [(108009, v8, .arr 1 31 [.ar 108050 w32 eInt.k 0 ((sortI a31).length)])] rfl rfl rfl rfl (fun K hK => c_compactI (H' := [(108009, v8, .arr 1 31 [.ar 108050 w32 eInt.k 0 ((sortI a31).length)])]) (l := sortI a31) rfl rfl (leH_get ⟨rfl, trivial⟩) rfl hK) ?_)
   refine mv rfl rfl (mv rfl rfl ?_)
   refine bf hK ⟨[(6, slE eInt (compact_ (sortI a31))), (7, hI 0)], []⟩ ?_
   refine AW.ret ?_
   have h := Option.some.inj h
   subst h
   exact ret_pure (hs := [slE eInt (compact_ (sortI a31)), hI 0]) (.inr rfl) (resT rfl (resT rfl rfl)) rfl ⟨(clean_slE fun _ _ => ⟨trivial, trivial⟩), trivial, trivial⟩
  refine AW.rgs rfl fun K hK => bv rfl (v_bin rfl rfl b_lss) ?_
  refine bf hK ⟨[(3, gF p0), (5, .fptr [hI p2] 0), (9, .ptr 108009 v8 0), (31, slE eInt p1), (32, hI ((p1).length : Int)), (33, hI a9.1), (34, .bool (decide (a9.1 < ((p1).length : Int))))], [(108009, v8, .arr 1 31 [.ar 108050 w10 eInt.k 0 ((a9.2).length)]), (108050, w10, .arr eInt.k 3 (eInt.E a9.2))]⟩ ?_
  refine AW.cseq rfl (fun hc => ?_) (fun hc => ?_)
  ·obtain ⟨hc, h⟩ := cT hc h
   refine AW.skip ?_
   refine AW.seq (AW.block ?_)
   refine AW.rgs rfl fun K hK => ?_
   obtain ⟨x13, h14, h⟩ := bS h
   refine bv rfl (v_idxF ty31 es31 rfl rfl (idx_lt h14)) (bv rfl (v_loadF ty3 rfl (l_cell eInt h14 (o := 0) rfl rfl)) (mv rfl rfl ?_))
   refine bf hK ⟨[(3, gF p0), (5, .fptr [hI p2] 0), (9, .ptr 108009 v8 0), (11, hI x13), (31, slE eInt p1), (32, hI ((p1).length : Int)), (33, hI a9.1)], [(108009, v8, .arr 1 31 [.ar 108050 w10 eInt.k 0 ((a9.2).length)]), (108050, w10, .arr eInt.k 3 (eInt.E a9.2))]⟩ ?_
   refine AW.rgs rfl fun K hK => bv rfl (v_loadF ty27 rfl (l_litA rfl (lb rfl) rfl)) (mv rfl rfl ?_)
   refine b_op rfl (o_call rfl rfl rfl rfl (ACallD.pure0 (w_graph_leaving p0 x13)) ?_)
   refine bf hK ⟨[(3, gF p0), (5, .fptr [hI p2] 0), (9, .ptr 108009 v8 0), (31, slE eInt p1), (32, hI ((p1).length : Int)), (33, hI a9.1), (39, .fn (.func 194) [] [gF p0, .fptr [hI x13] 0])], [(108009, v8, .arr 1 31 [.ar 108050 w10 eInt.k 0 ((a9.2).length)]), (108050, w10, .arr eInt.k 3 (eInt.E a9.2))]⟩ ?_
   refine AW.block ?_
   refine AW.to (to_le (s' := ⟨[(3, gF p0), (5, .fptr [hI p2] 0), (9, .ptr 108009 v8 0), (31, slE eInt p1), (32, hI ((p1).length : Int)), (33, hI a9.1), (39, .fn (.func 194) [] [gF p0, .fptr [hI x13] 0])], [(108009, v8, .arr 1 31 [.ar 108050 w10 eInt.k 0 ((a9.2).length)]), (108050, w10, .arr eInt.k 3 (eInt.E a9.2))]⟩) (le_q rfl rfl) ?_)
   obtain ⟨L15, h16, h⟩ := bS h
   refine AW.rangeY (c := .ret) 108900 (fun x => [hI x.1, .agg [hI x.2.1, hI x.2.2.1, hI x.2.2.2]]) h (by first | exact up_then | exact up_to) rfl (iy_graph_leaving h16) (S := (List Int)) (V := Nat) (fun a v => [(108009, v8, .arr 1 31 [.ar 108050 v eInt.k 0 ((a).length)]), (108050, v, .arr eInt.k 3 (eInt.E a))]) w10 (X := Unit) (W := Unit) (fun _ _ => []) (fun _ _ => rfl) (fun _ _ => rfl) rfl (fun _ => rfl) (fun a26 w27 h => ?_) (fun a28 w29 h => ?_) (fun Lo l22 v20 a17 x19 w18 st21 h => ?_)
   ·refine AW.rg rfl fun K hK => bv rfl (v_bin rfl rfl b_add) (mv rfl rfl ?_)
    refine b_nil (hK _ ?_)
    exact to_L ⟨(IntKind.wrap .i64 (a9.1 + 1), a26), w27, h, rfl⟩
   ·cases h
   refine AW.rg rfl fun K hK => b_op rfl (o_alloc (fid := 108) (zs := [hI 0, hI 0, hI 0]) 108013 rfl rfl ty128 rfl (fun v23 => ?_))
   refine b_op rfl (o_store (cs := [hI x19.2.1, hI x19.2.2.1, hI x19.2.2.2]) (zs := [hI x19.2.1, hI x19.2.2.1, hI x19.2.2.2]) rfl rfl rfl ty128 rfl rfl rfl rfl rfl ?_)
   refine b_nil (hK _ ?_)
   refine ⟨rfl, rfl, ?_⟩
   refine AW.block ?_
   refine AW.rgs rfl fun K hK => bv rfl (v_fieldAddrP fo128_1 rfl rfl) (bv rfl (v_loadP ty3 rfl rfl (l_lit rfl rfl)) (bv rfl (v_loadF ty3 rfl (l_lit rfl rfl)) (bv rfl (v_bin rfl rfl b_eql) ?_)))
   refine bf hK ⟨[(3, gF p0), (5, .fptr [hI p2] 0), (9, .ptr 108009 v8 0), (13, .ptr 108013 v23 0), (31, slE eInt p1), (32, hI ((p1).length : Int)), (33, hI a9.1), (41, .agg [hI x19.2.1, hI x19.2.2.1, hI x19.2.2.2]), (45, .bool (decide (x19.2.2.1 = p2)))], [(108900, v20, Lo .busy none), (108009, v8, .arr 1 31 [.ar 108050 w18 eInt.k 0 ((a17).length)]), (108050, w18, .arr eInt.k 3 (eInt.E a17)), (108013, v23, .arr 3 128 [hI x19.2.1, hI x19.2.2.1, hI x19.2.2.2])]⟩ ?_
   refine AW.cond rfl (fun hc => ?_) (fun hc => ?_)
   ·obtain ⟨hc, h⟩ := cT hc h
    refine AW.rg rfl fun K hK => bv rfl (v_loadP ty31 rfl rfl (l_lit rfl rfl)) (bv rfl (v_fieldAddrP fo128_2 rfl rfl) (bv rfl (v_loadP ty3 rfl rfl (l_lit rfl rfl)) ?_))
    refine b_op rfl (o_bsl rfl rfl (as_of (cs := [hI x19.2.2.2]) ty31 ty3 rfl rfl rfl rfl rfl) ?_)
    obtain ⟨h25, h⟩ := ifN h
    refine b_op rfl (o_appE eInt (l := a17) (m := [x19.2.2.2]) rfl rfl ty31 ty31 ty3 rfl rfl rfl rfl rfl h25 (fun v24 => ?_))
    refine b_op rfl (o_store (cs := [.ar 108050 v24 eInt.k 0 ((a17 ++ [x19.2.2.2]).length)]) (zs := [.ar 108050 v24 eInt.k 0 ((a17 ++ [x19.2.2.2]).length)]) rfl rfl rfl ty31 rfl rfl rfl rfl rfl ?_)
    refine b_nil (hK _ ?_)
    exact ⟨a17 ++ [x19.2.2.2], v24, h, (AS.le_of trivial ⟨rfl, rfl, rfl, trivial⟩)⟩
   obtain ⟨hc, h⟩ := cF hc h
   refine AW.skip ?_
   exact ⟨a17, w18, h, (AS.le_of trivial ⟨rfl, rfl, rfl, trivial⟩)⟩
  obtain ⟨hc, h⟩ := cF hc h
  refine AW.exit ?_
  exact to_L ⟨a9.2, w10, h, rfl⟩
 refine AW.rg rfl fun K hK => bv rfl (v_loadF ty3 rfl (l_lit rfl rfl)) (bv rfl (v_bin rfl rfl b_lss) (mv rfl rfl ?_))
 by_cases hg34 : p2 < 0
 ·have h := ifT hg34 h
  refine b_F rfl rfl rfl rfl rfl (decide_eq_true hg34) ?_
  refine b_F rfl rfl rfl rfl rfl rfl ?_
  refine b_F rfl rfl rfl rfl rfl rfl ?_
  refine b_F rfl rfl rfl rfl rfl rfl ?_
  refine bv rfl (v_pickT rfl rfl rfl) ?_
  refine b_nil (hK _ ?_)
  exact to_L ⟨true, (), h, rfl⟩
 have h := ifF hg34 h
 refine b_T rfl rfl rfl rfl (decide_eq_false hg34) (o_val rfl (v_loadF ty3 rfl (l_lit rfl rfl)) ?_)
 refine b_T rfl rfl rfl rfl rfl (o_val rfl (v_fieldAddrF fo27_0 rfl) ?_)
 refine b_T rfl rfl rfl rfl rfl (o_val rfl (v_loadF ty3 rfl (l_lit rfl rfl)) ?_)
 refine b_T rfl rfl rfl rfl rfl (o_val rfl (v_bin rfl rfl b_geq) ?_)
 refine bv rfl (v_pickF rfl rfl rfl) ?_
 refine b_nil (hK _ ?_)
 exact to_L ⟨decide (p0.1 ≤ p2), (), h, rfl⟩
end Go.AW
