import Derived.Test.YtbfbjlehdhedcaaFr3
namespace Go.AW
open Go
set_option linter.unusedSimpArgs false
noncomputable def sops (r : Task → Option Out) (T : Tabs) (all : List Oper) : List Oper → AS → Nat → Option (AS × Nat)
 | [], s, n => some (s, n)
 | o :: rest, s, n => match o.guard with
  | none => match sop r T o s n with
   | some (s1, n1) => sops r T all rest s1 n1
   | none => none
  | some (j, want) => match all[j]? with
   | some oj => match oj.dst with
    | some d => match sgetR s.slots d with
     | some (.bool b) => match (b == want) with
      | true => match sop r T o (s.putR (some d) (.bool want)) n with
       | some (s1, n1) => sops r T all rest s1 n1
       | none => none
      | false => sops r T all rest ((s.putR (some d) (.bool !want)).putR o.dst (.v undef)) n
     | _ => none
    | none => none
   | none => none
noncomputable def sfrz : Nat → Heap → HV → Option HV
 | 0, _, h => some h
 | n + 1, D, h => match h with
  | .agg cs => match cs.mapM (sfrz n D) with
   | some cs => some (.agg cs)
   | none => none
  | .tup cs => match cs.mapM (sfrz n D) with
   | some cs => some (.tup cs)
   | none => none
  | .fn f fs cs => match fs.mapM (sfrz n D), cs.mapM (sfrz n D) with
   | some fs, some cs => some (.fn f fs cs)
   | _, _ => none
  | .ar id ver k off m => match hgetR D id with
   | some (ver', .arr _ _ cs) => guardO (Nat.beq ver ver' && Nat.ble (off + m * k) cs.length) (match ((cs.drop off).take (m * k)).mapM (sfrz n D) with
    | some cs => some (.sl k m cs)
    | none => none)
   | _ => none
  | .ptr id ver off => match hgetR D id with
   | some (ver', .arr _ _ cs) => guardO (Nat.beq ver ver') (match cs.mapM (sfrz n D) with
    | some cs => some (.fptr cs off)
    | none => none)
   | _ => none
  | h => some h
theorem sfrz_sound (n : Nat) (D : Heap) (ρ : Nat → Nat) : ∀ h h', sfrz n D h = some h' → frz n (renH ρ D) (h.ren ρ) = h'.ren ρ := by
 induction n with
 | zero => intro h h' e; cases e; rfl
 | succ n ih =>
  have ihL : ∀ (cs ds : List HV), cs.mapM (sfrz n D) = some ds → (renL ρ cs).map (frz n (renH ρ D)) = renL ρ ds := by
   intro cs
   induction cs with
   | nil => intro ds e; simp at e; subst e; rfl
   | cons c cs ihc =>
    intro ds e
    simp only [List.mapM_cons, Option.pure_def, Option.bind_eq_bind, Option.bind_eq_some_iff] at e
    obtain ⟨d, hd, es, he, e⟩ := e
    cases e
    simp only [renL, List.map_cons, ih _ _ hd, ihc _ he]
  intro h h' e
  unfold sfrz at e
  simp only [hgetR_eq] at e
  split at e
  ·split at e
   ·rename_i hc; cases e; simp only [HV.ren, frz, ihL _ _ hc]
   ·cases e
  ·split at e
   ·rename_i hc; cases e; simp only [HV.ren, frz, ihL _ _ hc]
   ·cases e
  ·split at e
   ·rename_i hf hc; cases e; simp only [HV.ren, frz, ihL _ _ hf, ihL _ _ hc]
   ·cases e
  ·split at e
   ·rename_i id ver k off m _ ver' k' e' cs hg
    replace e := guardO_some e
    obtain ⟨h1, e⟩ := e
    simp only [Bool.and_eq_true] at h1
    have hv := Nat.eq_of_beq_eq_true h1.1
    subst hv
    split at e
    ·rename_i ds hc
     cases e
     simp only [HV.ren, frz, hget_ren, hg, Option.map_some, AObj.ren]
     rw [if_pos ⟨trivial, by rw [renL_len]; exact Nat.le_of_ble_eq_true h1.2⟩, ← renL_drop, ← renL_take, ihL _ _ hc]
    ·cases e
   ·cases e
  ·split at e
   ·rename_i id ver off _ ver' k' e' cs hg
    replace e := guardO_some e
    obtain ⟨h1, e⟩ := e
    have hv := Nat.eq_of_beq_eq_true h1
    subst hv
    split at e
    ·rename_i ds hc
     cases e
     simp only [HV.ren, frz, hget_ren, hg, Option.map_some, AObj.ren, if_true]
     rw [ihL _ _ hc]
    ·cases e
   ·cases e
  ·cases e
   cases h <;> first | rfl | (exfalso; rename_i h1 h2 h3 h4 h5; first | exact h1 _ rfl | exact h2 _ rfl | exact h3 _ _ _ rfl | exact h4 _ _ _ _ _ rfl | exact h5 _ _ _ rfl)
theorem ACall.conv {P : Program} {f : FuncId} {args : List HV} {H : Heap} {K K' : HV → Heap → Prop} (h : ACall P f args H K) (hc : ∀ r H', K r H' → ∃ r2 H2, Conv H' r r2 H2 ∧ K' r2 H2) : ACall P f args H K' :=
 ⟨h.1, fun μ w vs hs hr hgl => (h.2 μ w vs hs hr hgl).mono fun _ w' ⟨v, r, H', μ', e, k, hs', hr', E⟩ => by
  obtain ⟨r2, H2, hconv, hk⟩ := hc r H' k
  obtain ⟨μ2, hs2, hr2, E2⟩ := hconv w' μ' v hs' hr'
  exact ⟨v, r2, H2, μ2, e, hk, hs2, hr2, E.trans E2⟩⟩
noncomputable def spBox (s : AS) (x : Operand) : Option HV := match s.evR x with
  | some hv => match hv.cells? with
   | some cs => some (.fptr cs 0)
   | none => none
  | none => none
noncomputable def spBuild (T : Tabs) (s : AS) (t : TypeId) (m : Nat) (ps : Array (Nat × Operand)) : Option HV := guardO (Nat.ble m 16777216) (match sslice T.ty s t m ps.toList with
  | some (k, _, cs) => some (.sl k m cs)
  | none => none)
noncomputable def spCall (r : Task → Option Out) (s : AS) (f : Operand) (aa : Array Operand) : Option HV := match s.evR f, aa.toList.mapM s.evR with
  | some (.fn (.func g) fs cs), some hs => (match (fs ++ hs ++ cs).mapM (sfrz 8 s.heap) with
   | some as' => guardO (scL 0 as') (match r (.call g as' [] 0) with
    | some (.call rv H _) => guardO (scL 0 (fs ++ hs ++ cs) || (nf rv && nfH H)) (match sfrz 8 H rv with
     | some q => guardO (q.sc 0) (some q)
     | none => none)
    | _ => none)
   | none => none)
  | _, _ => none
noncomputable def sopS (r : Task → Option Out) (T : Tabs) (o : Oper) (s : AS) : Option HV :=
 match o.op with
 | .box _ x => spBox s x
 | .buildSlice t m ps => spBuild T s t m ps
 | .call ⟨.value f, aa, _⟩ => spCall r s f aa
 | op => sval T.ty op s
noncomputable def ssteps (r : Task → Option Out) (T : Tabs) (all : List Oper) : List Oper → AS → Nat → Option AS
 | [], s, _ => some s
 | o :: rest, s, n => match o.guard with
  | none => match sopS r T o s with
   | some h => guardO (h.sc n) (ssteps r T all rest (s.putR o.dst h) n)
   | none => none
  | some (j, want) => match all[j]? with
   | some oj => match oj.dst with
    | some d => match sgetR s.slots d with
     | some (.bool b) => match (b == want) with
      | true => match sopS r T o (s.putR (some d) (.bool want)) with
       | some h => guardO (h.sc n) (ssteps r T all rest ((s.putR (some d) (.bool want)).putR o.dst h) n)
       | none => none
      | false => ssteps r T all rest ((s.putR (some d) (.bool !want)).putR o.dst (.v undef)) n
     | _ => none
    | none => none
   | none => none
def steadyKind (o : Oper) : Bool := match o.op with
 | .alloc _ | .store _ _ _ | .makeSlice _ _ _ | .makeMap _ _ | .mapUpdate _ _ _ _ | .insert _ _ _ _ | .lookup _ _ _ _ | .range _ _ | .next _ _ | .entry _ | .build _ _ => false
 | .call ⟨.builtin .append, _, _⟩ => false
 | _ => true
def callKind (o : Oper) : Bool := match o.op with
 | .call ⟨.value _, _, _⟩ | .box _ _ | .buildSlice _ _ _ => true
 | _ => false
def fnB : HV → Bool
 | .fn _ _ (_ :: _) => true
 | _ => false
noncomputable def greedy (r : Task → Option Out) (T : Tabs) (all : List Oper) : List Oper → AS → Nat → Nat
 | [], _, p => p
 | o :: rest, s, p => bif steadyKind o then (match o.guard with
  | none => match sopS r T o s with
   | some h => bif fnB h && callKind o then p else greedy r T all rest (s.putR o.dst h) (p + 1)
   | none => p
  | some (j, want) => match all[j]? with
   | some oj => match oj.dst with
    | some d => match sgetR s.slots d with
     | some (.bool b) => match (b == want) with
      | true => match sopS r T o s with
       | some h => greedy r T all rest (s.putR o.dst h) (p + 1)
       | none => p
      | false => greedy r T all rest (s.putR o.dst (.v undef)) (p + 1)
     | _ => p
    | none => p
   | none => p) else p
def plain : List Oper → Nat → Nat
 | [], p => p
 | o :: rest, p => bif (steadyKind o && !callKind o) then plain rest (p + 1) else p
noncomputable def sdrawP (r : Task → Option Out) (T : Tabs) (ops : Array Oper) (s : AS) (n p : Nat) : Option (AS × Nat) :=
 guardO (drawOk ops p) (match ssteps r T ops.toList (ops.toList.take p) s n with
  | some s1 => sops r T ops.toList (ops.toList.drop p) s1 n
  | none => none)
noncomputable def sdraw (r : Task → Option Out) (T : Tabs) (ops : Array Oper) (s : AS) (n : Nat) : Option (AS × Nat) :=
 match sdrawP r T ops s n (greedy r T ops.toList ops.toList s 0) with
 | some x => some x
 | none => sdrawP r T ops s n (plain ops.toList 0)
noncomputable def sres1 (T : TypeId → Option TyI) (s : AS) (rv : ResultVar) : Option HV :=
 match rv with
 | .tmp t => sgetR s.slots t
 | .cell t ty' => match T ty', sgetR s.slots t with
  | some U, some (.fptr cs off) => sload U cs off
  | some U, some (.ptr id ver off) => match hgetR s.heap id with
   | some (ver', .arr _ _ cs) => guardO (Nat.beq ver ver') (sload U cs off)
   | _ => none
  | _, _ => none
noncomputable def sres (T : TypeId → Option TyI) (s : AS) : List ResultVar → Option (List HV)
 | [] => some []
 | rv :: rvs => match sres1 T s rv, sres T s rvs with
  | some h, some hs => some (h :: hs)
  | _, _ => none
mutual
def HV.refs (n : Nat) : HV → List Nat → List Nat
 | .agg cs, a | .tup cs, a | .sl _ _ cs, a | .fptr cs _, a => refsL n cs a
 | .ar id _ _ _ _, a | .ptr id _ _, a | .mp id _, a | .yl id _, a | .it id _, a => bif Nat.blt id n then a else id :: a
 | .fn _ fs cs, a => refsL n fs (refsL n cs a)
 | _, a => a
def refsL (n : Nat) : List HV → List Nat → List Nat
 | [], a => a
 | c :: cs, a => c.refs n (refsL n cs a)
end
def refsS (n : Nat) : List (Nat × HV) → List Nat → List Nat
 | [], a => a
 | (_, h) :: l, a => h.refs n (refsS n l a)
def refsE (n : Nat) : List (List UInt8 × HV) → List Nat → List Nat
 | [], a => a
 | (_, h) :: l, a => h.refs n (refsE n l a)
def AObj.refs (n : Nat) : AObj → List Nat → List Nat
 | .arr _ _ cs, a => refsL n cs a
 | .map es, a => refsE n es a
 | .iter mid _ _ _, a => bif Nat.blt mid n then a else mid :: a
 | .loop _ _ _ _ snap _ _ _, a => refsS n snap a
 | .kmap _, a => a
def oldRefs (n : Nat) : Heap → List Nat → List Nat
 | [], a => a
 | (i, _, o) :: l, a => bif Nat.blt i n then o.refs n (oldRefs n l a) else oldRefs n l a
def memN (i : Nat) : List Nat → Bool
 | [] => false
 | j :: l => bif Nat.beq i j then true else memN i l
def mark (n : Nat) (H : Heap) : Nat → List Nat → List Nat → List Nat
 | 0, _, m => m
 | _ + 1, [], m => m
 | f + 1, i :: w, m => bif memN i m then mark n H f w m else match hget H i with
  | some (_, o) => mark n H f (o.refs n w) (i :: m)
  | none => mark n H f w m
def hkeep (n : Nat) (m : List Nat) : Heap → Heap
 | [] => []
 | (i, x) :: l => bif (Nat.blt i n || memN i m) then (i, x) :: hkeep n m l else hkeep n m l
def anyNew (n : Nat) : Heap → Bool
 | [] => false
 | (i, _) :: l => bif Nat.blt i n then anyNew n l else true
def gc (n : Nat) (rv : HV) (H : Heap) : Heap := bif anyNew n H then hkeep n (mark n H 200 (rv.refs n (oldRefs n H [])) []) H else H
theorem hkeep_get (n : Nat) (m : List Nat) : ∀ (H : Heap) (id : Nat) (x : Nat × AObj), hget (hkeep n m H) id = some x → hget H id = some x
 | [], _, _, h => h
 | (i, v, o) :: l, id, x, h => by
  simp only [hkeep] at h
  simp only [hget]
  cases hb : (Nat.blt i n || memN i m) with
  | true =>
   rw [hb] at h
   simp only [cond_true, hget] at h
   split
   ·rename_i e; rw [if_pos e] at h; exact h
   ·rename_i e; rw [if_neg e] at h; exact hkeep_get n m l id x h
  | false =>
   rw [hb] at h
   simp only [cond_false] at h
   split
   ·rename_i e
    subst e
    exfalso
    have : ∀ l : Heap, hget (hkeep n m l) id = none := fun l => by
     induction l with
     | nil => rfl
     | cons y l ih =>
      obtain ⟨j, y⟩ := y
      simp only [hkeep]
      cases hb2 : (Nat.blt j n || memN j m) with
      | true =>
       simp only [cond_true, hget]
       split
       ·rename_i e; subst e; rw [hb] at hb2; cases hb2
       ·exact ih
      | false => exact ih
    rw [this] at h
    cases h
   ·exact hkeep_get n m l id x h
theorem gc_get {n : Nat} {rv : HV} {H : Heap} {id : Nat} {x : Nat × AObj} (h : hget (gc n rv H) id = some x) : hget H id = some x := by
 unfold gc at h
 cases hb : anyNew n H with
 | true => rw [hb] at h; exact hkeep_get _ _ _ _ _ h
 | false => rw [hb] at h; exact h
theorem hkeep_sc {k n : Nat} {m : List Nat} : ∀ {H : Heap}, scH k H = true → scH k (hkeep n m H) = true
 | [], _ => rfl
 | (i, v, o) :: l, h => by
  simp only [scH, Bool.and_eq_true] at h
  simp only [hkeep]
  cases (Nat.blt i n || memN i m) with
  | true => simp only [cond_true, scH, h.1.1.1, h.1.1.2, h.1.2, hkeep_sc h.2, Bool.and_self]
  | false => exact hkeep_sc h.2
theorem gc_sc {k n : Nat} {rv : HV} {H : Heap} (h : scH k H = true) : scH k (gc n rv H) = true := by
 unfold gc
 cases anyNew n H with
 | true => exact hkeep_sc h
 | false => exact h
theorem Step.drop {n n' : Nat} {H H1 H2 : Heap} (h : Step n n' H H1) (hd : ∀ id x, hget H2 id = some x → hget H1 id = some x) : Step n n' H H2 :=
 ⟨h.le, fun id v st pend f m snap ps a b hg x hx => h.loop id v st pend f m snap ps a b hg x (hd id x hx), fun id hid y hy => h.back id hid y (hd id y hy)⟩
mutual
theorem HV.ren_id : ∀ h : HV, h.ren (fun v => v) = h
 | .int _ _ => rfl
 | .bool _ => rfl
 | .str _ => rfl
 | .v _ => rfl
 | .agg cs => congrArg HV.agg (renL_id cs)
 | .tup cs => congrArg HV.tup (renL_id cs)
 | .sl k m cs => congrArg (HV.sl k m) (renL_id cs)
 | .ar _ _ _ _ _ => rfl
 | .ptr _ _ _ => rfl
 | .fptr cs off => congrArg (fun x => HV.fptr x off) (renL_id cs)
 | .fn f fs cs => by simp only [HV.ren]; rw [renL_id fs, renL_id cs]
 | .mp _ _ => rfl
 | .yl _ _ => rfl
 | .it _ _ => rfl
theorem renL_id : ∀ cs : List HV, renL (fun v => v) cs = cs
 | [] => rfl
 | c :: cs => by simp only [renL]; rw [HV.ren_id c, renL_id cs]
end
theorem ren_sc0 (ρ : Nat → Nat) {h : HV} (hs : h.sc 0 = true) : h.ren ρ = h := (HV.ren_agree (ρ' := fun v => v) (fun v hv => by omega) h hs).trans h.ren_id
theorem renL_sc0 (ρ : Nat → Nat) {h : List HV} (hs : scL 0 h = true) : renL ρ h = h := (renL_agree (ρ' := fun v => v) (fun v hv => by omega) h hs).trans (renL_id h)
mutual
theorem sc0_clean : ∀ h : HV, h.sc 0 = true → clean h
 | .int _ _, _ => trivial
 | .bool _, _ => trivial
 | .str _, _ => trivial
 | .v _, _ => trivial
 | .agg cs, h => sc0_cleanL cs h
 | .tup cs, h => sc0_cleanL cs h
 | .sl _ _ cs, h => sc0_cleanL cs h
 | .fptr cs _, h => sc0_cleanL cs h
 | .fn _ fs cs, h => by
  simp only [HV.sc, Bool.and_eq_true] at h
  exact ⟨sc0_cleanL fs h.1, sc0_cleanL cs h.2⟩
 | .ar _ v _ _ _, h => absurd (blt_lt h) (Nat.not_lt_zero _)
 | .ptr _ v _, h => absurd (blt_lt h) (Nat.not_lt_zero _)
 | .mp _ v, h => absurd (blt_lt h) (Nat.not_lt_zero _)
 | .yl _ v, h => absurd (blt_lt h) (Nat.not_lt_zero _)
 | .it _ v, h => absurd (blt_lt h) (Nat.not_lt_zero _)
theorem sc0_cleanL : ∀ cs : List HV, scL 0 cs = true → cleanL cs
 | [], _ => trivial
 | c :: cs, h => by
  simp only [scL, Bool.and_eq_true] at h
  exact ⟨sc0_clean c h.1, sc0_cleanL cs h.2⟩
end
noncomputable def rounds (r : Task → Option Out) (top : Bool) (N : Nat) (x : Code) : Nat → AS → Nat → Option Out
 | 0, _, _ => none
 | k + 1, s, n => match r (.code top N x s n) with
  | some (.code .normal s1 n1) => rounds r top N x k s1 n1
  | o => o
def isEnd : Exit → Bool
 | .normal | .ret => true
 | _ => false
def notBusy : LoopState → Bool
 | .busy => false
 | _ => true
def strsOf : List HV → Option (List (List UInt8))
 | [] => some []
 | .str l :: cs => match strsOf cs with
  | some ls => some (l :: ls)
  | none => none
 | _ => none
def intsOf : List HV → Option (List Int)
 | [] => some []
 | .int .i64 n :: cs => match intsOf cs with
  | some ls => some (n :: ls)
  | none => none
 | _ => none
theorem strsOf_eq : ∀ {cs : List HV} {ls : List (List UInt8)}, strsOf cs = some ls → cs = ls.map .str
 | [], ls, h => by cases h; rfl
 | c :: cs, ls, h => by
  unfold strsOf at h
  split at h
  ·cases h; simp_all
  ·rename_i l cs' heq
   cases heq
   split at h
   ·rename_i ls' hl
    cases h
    rw [strsOf_eq hl]
    rfl
   ·cases h
  ·cases h
theorem intsOf_eq : ∀ {cs : List HV} {ls : List Int}, intsOf cs = some ls → cs = ls.map (.int .i64)
 | [], ls, h => by cases h; rfl
 | c :: cs, ls, h => by
  unfold intsOf at h
  split at h
  ·cases h; simp_all
  ·rename_i l cs' heq
   cases heq
   split at h
   ·rename_i ls' hl
    cases h
    rw [intsOf_eq hl]
    rfl
   ·cases h
  ·cases h
noncomputable def ssort (k : Bool) (args : List HV) (H : Heap) (n : Nat) : Option Out :=
 match args with
 | [.v (.slice none 0 0)] => some (.call (.tup []) H n)
 | [.ar id ver 1 0 m] => match hgetR H id with
  | some (ver', .arr 1 e cs) => match k with
   | true => match strsOf cs with
    | some ls => guardO (Nat.beq ver ver' && (Nat.beq m ls.length && Nat.blt ls.length 4611686018427387904)) (some (.call (.tup []) (hsetR H id ver (.arr 1 e ((isort (fun a b => decide (a ≤ b)) ls).map .str))) n))
    | none => none
   | false => match intsOf cs with
    | some ls => guardO (Nat.beq ver ver' && (Nat.beq m ls.length && Nat.blt ls.length 4611686018427387904)) (some (.call (.tup []) (hsetR H id ver (.arr 1 e ((isort (fun a b => decide (a ≤ b)) ls).map (.int .i64)))) n))
    | none => none
  | _ => none
 | _ => none
noncomputable def stRegion (T : Tabs) (r : Task → Option Out) (ops : Array Oper) (dr : Bool) (N : Nat) (s : AS) (n : Nat) : Option Out := guardO (ops.toList.all fun o => okd N o.dst) (match (match dr with
        | true => sdraw r T ops s n
        | false => sops r T ops.toList ops.toList s n) with
      | some (s1, n1) => some (.code .normal s1 n1)
      | none => none)
noncomputable def stRange (r : Task → Option Out) (top : Bool) (N : Nat) (g : Operand) (ps : Array Tmp) (assign body : Code) (s : AS) (n : Nat) : Option Out := match top, s.evR g with
      | true, some (.fn (.func f) fs cs) => guardO (scL n fs && scL n cs) (match r (.call f (fs ++ [.yl n n] ++ cs) (hsetR s.heap n n (.loop .ready none (n + 1) N s.slots ps assign body)) (n + 2)) with
        | some (.call _ H n1) => match hgetR H n with
          | some (_, .loop st pend _ _ _ _ _ _) => guardO (notBusy st) (match pend with
            | none => some (.code .normal { s with heap := hsetR H n n (.loop .exhausted none (n + 1) N s.slots ps assign body) } n1)
            | some .ret => some (.code .ret { s with heap := hsetR H n n (.loop .exhausted (some .ret) (n + 1) N s.slots ps assign body) } n1)
            | some (.exit i) => some (.code (.exit i) { s with heap := hsetR H n n (.loop .exhausted (some (.exit i)) (n + 1) N s.slots ps assign body) } n1)
            | _ => none)
          | _ => none
        | _ => none)
      | _, _ => none
noncomputable def stBody (T : Tabs) (r : Task → Option Out) (fn : Func) (c : Code) (args : List HV) (H : Heap) (n : Nat) : Option Out := guardO (Nat.ble args.length fn.ntmps) (match r (.code true fn.ntmps c ⟨enumS 0 args, H⟩ n) with
          | some (.code e s1 n1) => guardO (isEnd e) (match sres T.ty s1 fn.results.toList with
            | some hs => guardO ((joinR hs).sc n1) (some (.call (joinR hs) (gc n (joinR hs) s1.heap) n1))
            | none => none)
          | _ => none)
noncomputable def stCall (T : Tabs) (r : Task → Option Out) (f : FuncId) (args : List HV) (H : Heap) (n : Nat) : Option Out := match T.sort f with
   | some k => ssort k args H n
   | none => match guardO (scL 0 args) (T.extP f args) with
    | some rv => guardO (rv.sc 0) (some (.call rv H n))
    | none => match (match args.mapM (sfrz 8 H) with
      | some as' => guardO (scL 0 as') (T.ext f as')
      | none => none) with
     | some rv => guardO (rv.sc 0) (some (.call rv H n))
     | none => match T.fn f with
      | some fn => match fn.body with
        | some c => stBody T r fn c args H n
        | none => none
      | none => none
noncomputable def stCut (T : Tabs) (r : Task → Option Out) (top : Bool) (N : Nat) (ks : Option (List Nat)) (y : Code) (s : AS) (n : Nat) : Option Out := match ks with
      | some ks => keepK s.slots ks fun l => r (.code top N y ⟨l, s.heap⟩ n)
      | none => r (.code top N y s n)
noncomputable def stSeq (T : Tabs) (r : Task → Option Out) (top : Bool) (N : Nat) (x y : Code) (s : AS) (n : Nat) : Option Out := match r (.code top N x s n) with
      | some (.code .normal s1 n1) => stCut T r top N (match x with
        | .region id _ _ => T.keep N id
        | _ => none) y s1 n1
      | o => o
noncomputable def stBlock (r : Task → Option Out) (top : Bool) (N : Nat) (i : Nat) (x : Code) (s : AS) (n : Nat) : Option Out := match r (.code top N x s n) with
      | some (.code (.exit j) s1 n1) => some (.code (if j = i then .normal else .exit j) s1 n1)
      | o => o
noncomputable def stCond (r : Task → Option Out) (top : Bool) (N : Nat) (c : Operand) (x y : Code) (s : AS) (n : Nat) : Option Out := match s.evR c with
      | some (.bool true) => r (.code top N x s n)
      | some (.bool false) => r (.code top N y s n)
      | _ => none
noncomputable def stCode (T : Tabs) (r : Task → Option Out) (top : Bool) (N : Nat) (c : Code) (s : AS) (n : Nat) : Option Out := match c with
  | .skip => some (.code .normal s n)
  | .exit i => some (.code (.exit i) s n)
  | .ret => some (.code .ret s n)
  | .seq x y => stSeq T r top N x y s n
  | .block i x => stBlock r top N i x s n
  | .cond c x y => stCond r top N c x y s n
  | .loop x => rounds r top N x 5000 s n
  | .region _ ops dr => stRegion T r ops dr N s n
  | .rangeFunc g ps assign body => stRange r top N g ps assign body s n
  | _ => none
noncomputable def step (T : Tabs) (r : Task → Option Out) : Task → Option Out
 | .code top N c s n => stCode T r top N c s n
 | .call f args H n => stCall T r f args H n
noncomputable def run (T : Tabs) : Nat → Task → Option Out
 | 0, _ => none
 | k + 1, t => step T (run T k) t
section
variable {P : Program} {T : Tabs} {N n n' : Nat} {s s' : AS} {r : Task → Option Out}
theorem sops_ok (hT : T.Ok P) (hr : Good P r) {ops : Array Oper} (hok : ops.toList.all (fun o => okd N o.dst) = true) : ∀ (l : List Oper) (i : Nat) (s : AS) (n : Nat), (∀ k, l[k]? = ops[i + k]?) → s.sc n = true → sops r T ops.toList l s n = some (s', n') →
  s'.sc n' = true ∧ Step n n' s.heap s'.heap ∧ ∀ (ρ : Nat → Nat) (ro : Option Nat) (K : AS → Prop), (∀ ρ', Agree n ρ ρ' → K (s'.ren ρ')) → AOps P ro N ops (List.range' i l.length) K (s.ren ρ)
 | [], i, s, n, _, hs, h => by
  cases h
  exact ⟨hs, Step.refl _ _, fun ρ ro K hK => AOps.nil (hK ρ (Agree.refl _ _))⟩
 | o :: l, i, s, n, hl, hs, h => by
  have ho : ops[i]? = some o := by have := hl 0; simpa using this.symm
  have hN : okd N o.dst = true := List.all_eq_true.1 hok o (by
   have := Array.getElem?_toList (xs := ops) (i := i)
   rw [ho] at this
   exact List.mem_of_getElem? this)
  have hl' : ∀ k, l[k]? = ops[i + 1 + k]? := fun k => by
   have := hl (k + 1)
   rw [List.getElem?_cons_succ] at this
   rw [this]; congr 1; omega
  -- an operation, then the rest
  have go : ∀ (s0 : AS), s0.sc n = true → s0.heap = s.heap → (match sop r T o s0 n with
    | some (s1, n1) => sops r T ops.toList l s1 n1
    | none => none) = some (s', n') → s'.sc n' = true ∧ Step n n' s.heap s'.heap ∧ ∀ (ρ : Nat → Nat) (ro : Option Nat) (K : AS → Prop), (∀ ρ', Agree n ρ ρ' → K (s'.ren ρ')) → AOp P ro N o (AOps P ro N ops (List.range' (i + 1) l.length) K) (s0.ren ρ) := by
   intro s0 hs0 hh h
   split at h
   ·rename_i s1 n1 hop
    obtain ⟨h1, h2, h3⟩ := sop_ok hT hr hN hs0 hop
    obtain ⟨h4, h5, h6⟩ := sops_ok hT hr hok l (i + 1) s1 n1 hl' h1 h
    rw [hh] at h2
    refine ⟨h4, h2.trans (sc_heap_of hs) h5, fun ρ ro K hK => h3 ρ ro _ fun ρ1 ha1 => h6 ρ1 ro K fun ρ2 ha2 => hK ρ2 (ha1.trans h2.le ha2)⟩
   ·cases h
  simp only [sops, sgetR_eq, putR_eq] at h
  split at h
  ·rename_i hg
   obtain ⟨h1, h2, h3⟩ := go s hs rfl h
   exact ⟨h1, h2, fun ρ ro K hK => AOps.cons ho hg (h3 ρ ro K hK)⟩
  ·rename_i j want hg
   split at h
   ·rename_i oj hoj
    split at h
    ·rename_i d hd
     split at h
     ·rename_i b hb
      have hbr : ∀ ρ : Nat → Nat, sget (s.ren ρ).slots d = some (.bool b) := fun ρ => by
       show sget (renS ρ s.slots) d = _
       rw [sget_ren, hb]; rfl
      split at h
      ·rename_i hbw
       have hbw : b = want := by simpa using hbw
       obtain ⟨h1, h2, h3⟩ := go (s.put (some d) (.bool want)) (sc_put hs rfl) rfl h
       refine ⟨h1, h2, fun ρ ro K hK => AOps.guard ho hN hg (by simpa using hoj) hd (hbr ρ) (fun _ => ?_) (fun e => by cases b <;> cases want <;> simp at e hbw)⟩
       have := h3 ρ ro K hK
       rw [ren_put] at this
       exact this
      ·rename_i hbw
       have hbw : b ≠ want := by simpa using hbw
       obtain ⟨h1, h2, h3⟩ := sops_ok hT hr hok l (i + 1) _ n hl' (sc_put (sc_put hs rfl) rfl) h
       rw [put_heap', put_heap'] at h2
       refine ⟨h1, h2, fun ρ ro K hK => AOps.guard ho hN hg (by simpa using hoj) hd (hbr ρ) (fun e => absurd e hbw) fun _ => ?_⟩
       have := h3 ρ ro K hK
       rw [ren_put, ren_put] at this
       exact this
     ·cases h
    ·cases h
   ·cases h
theorem mapM_frz {D : Heap} (ρ : Nat → Nat) : ∀ {cs ds : List HV}, cs.mapM (sfrz 8 D) = some ds → (renL ρ cs).map (frz 8 (renH ρ D)) = renL ρ ds
 | [], ds, e => by simp at e; subst e; rfl
 | c :: cs, ds, e => by
  simp only [List.mapM_cons, Option.pure_def, Option.bind_eq_bind, Option.bind_eq_some_iff] at e
  obtain ⟨d, hd, es, he, e⟩ := e
  cases e
  simp only [renL, List.map_cons, sfrz_sound 8 D ρ _ _ hd, mapM_frz ρ he]
mutual
theorem nf_ren (ρ : Nat → Nat) : ∀ h : HV, nf h = true → nf (h.ren ρ) = true
 | .int _ _, _ => rfl
 | .bool _, _ => rfl
 | .str _, _ => rfl
 | .v _, _ => rfl
 | .agg cs, h => nfL_ren ρ cs h
 | .tup cs, h => nfL_ren ρ cs h
 | .sl _ _ _, h => by cases h
 | .ar _ _ _ _ _, _ => rfl
 | .ptr _ _ _, _ => rfl
 | .fptr _ _, h => by cases h
 | .fn _ fs cs, h => by
  simp only [nf, Bool.and_eq_true] at h
  simp only [HV.ren, nf, nfL_ren ρ fs h.1, nfL_ren ρ cs h.2, Bool.and_self]
 | .mp _ _, _ => rfl
 | .yl _ _, _ => rfl
 | .it _ _, _ => rfl
theorem nfL_ren (ρ : Nat → Nat) : ∀ cs : List HV, nfL cs = true → nfL (renL ρ cs) = true
 | [], _ => rfl
 | c :: cs, h => by
  simp only [nfL, Bool.and_eq_true] at h
  simp only [renL, nfL, nf_ren ρ c h.1, nfL_ren ρ cs h.2, Bool.and_self]
end
theorem nfE_ren (ρ : Nat → Nat) : ∀ es, nfE es = true → nfE (renE ρ es) = true
 | [], _ => rfl
 | (_, c) :: cs, h => by
  simp only [nfE, Bool.and_eq_true] at h
  simp only [renE, nfE, nf_ren ρ c h.1, nfE_ren ρ cs h.2, Bool.and_self]
theorem nfH_ren (ρ : Nat → Nat) : ∀ H : Heap, nfH H = true → nfH (renH ρ H) = true
 | [], _ => rfl
 | (_, _, o) :: H, h => by
  simp only [nfH, Bool.and_eq_true] at h
  have ho : nfO (o.ren ρ) = true := by
   cases o with
   | arr k e cs => exact nfL_ren ρ cs h.1
   | map es => exact nfE_ren ρ es h.1
   | iter _ _ _ _ => rfl
   | loop _ _ _ _ _ _ _ _ => cases h.1
   | kmap _ => rfl
  simp only [renH, nfH, ho, nfH_ren ρ H h.2, Bool.and_self]
theorem sfrz_sc0 {D : Heap} (m : Nat) : ∀ (h h' : HV), h.sc 0 = true → sfrz m D h = some h' → h' = h := by
 induction m with
 | zero => intro h h' _ e; cases e; rfl
 | succ m ih =>
  have ihL : ∀ (cs ds : List HV), scL 0 cs = true → cs.mapM (sfrz m D) = some ds → ds = cs := by
   intro cs
   induction cs with
   | nil => intro ds _ e; simp at e; exact e
   | cons c cs ihc =>
    intro ds hs e
    simp only [scL, Bool.and_eq_true] at hs
    simp only [List.mapM_cons, Option.pure_def, Option.bind_eq_bind, Option.bind_eq_some_iff] at e
    obtain ⟨d, hd, es, he, e⟩ := e
    cases e
    rw [ih _ _ hs.1 hd, ihc _ hs.2 he]
  intro h h' hs e
  unfold sfrz at e
  split at e
  ·split at e
   ·rename_i hc; cases e; rw [ihL _ _ hs hc]
   ·cases e
  ·split at e
   ·rename_i hc; cases e; rw [ihL _ _ hs hc]
   ·cases e
  ·simp only [HV.sc, Bool.and_eq_true] at hs
   split at e
   ·rename_i hf hc; cases e; rw [ihL _ _ hs.1 hf, ihL _ _ hs.2 hc]
   ·cases e
  ·exact absurd (blt_lt hs) (Nat.not_lt_zero _)
  ·exact absurd (blt_lt hs) (Nat.not_lt_zero _)
  ·cases e; rfl
theorem sfrzL_sc0 {D : Heap} (m : Nat) : ∀ (cs ds : List HV), scL 0 cs = true → cs.mapM (sfrz m D) = some ds → ds = cs
 | [], ds, _, e => by simp at e; exact e
 | c :: cs, ds, hs, e => by
  simp only [scL, Bool.and_eq_true] at hs
  simp only [List.mapM_cons, Option.pure_def, Option.bind_eq_bind, Option.bind_eq_some_iff] at e
  obtain ⟨d, hd, es, he, e⟩ := e
  cases e
  rw [sfrz_sc0 m _ _ hs.1 hd, sfrzL_sc0 m _ _ hs.2 he]
theorem callS_ok (hr : Good P r) {g : FuncId} {aa as' : List HV} {H H1 : Heap} {n1 : Nat} {rv q : HV} (ha : aa.mapM (sfrz 8 H) = some as') (h0 : scL 0 as' = true) (hc : r (.call g as' [] 0) = some (.call rv H1 n1))
  (hn : (scL 0 aa || (nf rv && nfH H1)) = true) (hf : sfrz 8 H1 rv = some q) (hq : q.sc 0 = true) (ρ : Nat → Nat) : ACallD P g (renL ρ aa) (renH ρ H) q := by
 obtain ⟨h1, h2, st, hcall⟩ := hr _ _ hc h0 rfl
 have hargs : renL ρ as' = (renL ρ aa).map (frz 8 (renH ρ H)) := (mapM_frz ρ ha).symm
 have hqr : ∀ ρ' : Nat → Nat, frz 8 (renH ρ' H1) (rv.ren ρ') = q := fun ρ' => by rw [sfrz_sound 8 H1 ρ' rv q hf, ren_sc0 ρ' hq]
 cases hs : scL 0 aa with
 | true =>
  have e : as' = aa := sfrzL_sc0 8 _ _ hs ha
  subst e
  refine ACallD.pure0 ?_
  rw [renL_sc0 ρ hs]
  have h5 := hcall ρ (fun r' H' => ∃ ρ', r' = rv.ren ρ' ∧ H' = renH ρ' H1) fun ρ' _ => ⟨ρ', rfl, rfl⟩
  rw [renL_sc0 ρ hs] at h5
  refine h5.conv ?_
  rintro r' H' ⟨ρ', rfl, rfl⟩
  exact ⟨_, _, Conv.all 8, hqr ρ', hqr ρ' ▸ sc0_clean q hq, rfl⟩
 | false =>
  rw [hs, Bool.false_or, Bool.and_eq_true] at hn
  refine ACall.lend (K := fun r' H' => ∃ ρ', r' = rv.ren ρ' ∧ H' = renH ρ' H1) 8 8 ?_ ?_ (sc0_clean q hq)
  ·rw [← hargs]
   exact hcall ρ _ fun ρ' _ => ⟨ρ', rfl, rfl⟩
  ·rintro r' H' ⟨ρ', rfl, rfl⟩
   exact ⟨nf_ren ρ' rv hn.1, nfH_ren ρ' H1 hn.2, hqr ρ'⟩
theorem sopS_ok (hT : T.Ok P) (hr : Good P r) {o : Oper} {q : HV} (h : sopS r T o s = some q) (ρ : Nat → Nat) {R : HV → Prop} (hq : R (q.ren ρ)) : aopS P o R (s.ren ρ) := by
 unfold sopS at h
 unfold aopS
 split at h
 ·rename_i e x hop
  simp only [hop]
  unfold spBox at h
  try simp only [evR_eq, hgetR_eq, hsetR_eq, sgetR_eq, putR_eq, aslR_eq, apartsR_eq] at h
  split at h
  ·rename_i hv hx
   split at h
   ·rename_i cs hcs
    cases h
    simp only [ev_ren, hx, Option.map_some, cells_ren, hcs]
    exact hq
   ·cases h
  ·cases h
 ·rename_i t m ps hop
  simp only [hop]
  unfold spBuild at h
  try simp only [evR_eq, hgetR_eq, hsetR_eq, sgetR_eq, putR_eq, aslR_eq, apartsR_eq] at h
  replace h := guardO_some h
  obtain ⟨h1, h⟩ := h
  split at h
  ·rename_i k e cs hsl
   cases h
   exact ⟨Nat.le_of_ble_eq_true h1, sslice_sound hT.ty hsl hq⟩
  ·cases h
 ·rename_i f aa ts hop
  simp only [hop]
  unfold spCall at h
  try simp only [evR_eq, hgetR_eq, hsetR_eq, sgetR_eq, putR_eq, aslR_eq, apartsR_eq] at h
  split at h
  ·rename_i g fs cs hs hf ha
   split at h
   ·rename_i as' has'
    replace h := guardO_some h
    obtain ⟨h1, h⟩ := h
    split at h
    ·rename_i rv H1 n1 hrc
     replace h := guardO_some h
     obtain ⟨h2, h⟩ := h
     split at h
     ·rename_i q' hq'
      replace h := guardO_some h
      obtain ⟨h3, h⟩ := h
      cases h
      have := callS_ok hr has' h1 hrc h2 hq' h3 ρ
      simp only [ev_ren, hf, Option.map_some, HV.ren, evL_sc ha ρ]
      rw [← renL_append, ← renL_append]
      rw [ren_sc0 ρ h3] at hq
      exact ⟨q, this, hq⟩
     ·cases h
    ·cases h
   ·cases h
  ·cases h
 ·have h' := sval_sound (P := P) hT.ty h hq
  split
  ·rename_i h1 h2 h3 _ _ _ e; exact absurd e (h1 _ _)
  ·rename_i h1 h2 h3 _ _ _ _ e; exact absurd e (h2 _ _ _)
  ·rename_i e; rw [e] at h'; exact h'.elim
  ·rename_i h1 h2 h3 _ _ _ _ e; exact absurd e (h3 _ _ _)
  ·exact h'
theorem ssteps_ok (hT : T.Ok P) (hr : Good P r) {all : List Oper} (ρ : Nat → Nat) {K : AS → Prop} {s1 : AS} : ∀ (l : List Oper) (s : AS), s.sc n = true → ssteps r T all l s n = some s1 → s1.sc n = true ∧ s1.heap = s.heap ∧ (K (s1.ren ρ) → asteps P all l K (s.ren ρ))
 | [], s, hs, h => by cases h; exact ⟨hs, rfl, id⟩
 | o :: l, s, hs, h => by
  have go : ∀ (s0 : AS), s0.sc n = true → s0.heap = s.heap → (match sopS r T o s0 with
    | some h => guardO (h.sc n) (ssteps r T all l (s0.put o.dst h) n)
    | none => none) = some s1 → s1.sc n = true ∧ s1.heap = s.heap ∧ (K (s1.ren ρ) → aopS P o (fun h => asteps P all l K ((s0.ren ρ).put o.dst h)) (s0.ren ρ)) := by
   intro s0 hs0 hh h
   split at h
   ·rename_i q hq
    replace h := guardO_some h
    obtain ⟨h1, h⟩ := h
    obtain ⟨h2, h3, h4⟩ := ssteps_ok hT hr ρ l _ (sc_put hs0 h1) h
    rw [put_heap', hh] at h3
    refine ⟨h2, h3, fun hK => sopS_ok hT hr hq ρ ?_⟩
    have := h4 hK
    rw [ren_put] at this
    exact this
   ·cases h
  simp only [ssteps, sgetR_eq, putR_eq] at h
  split at h
  ·rename_i hg
   obtain ⟨h1, h2, h3⟩ := go s hs rfl h
   refine ⟨h1, h2, fun hK => ?_⟩
   simp only [asteps, hg]
   exact h3 hK
  ·rename_i j want hg
   split at h
   ·rename_i oj hoj
    split at h
    ·rename_i d hd
     split at h
     ·rename_i b hb
      have hbr : sget (s.ren ρ).slots d = some (.bool b) := by
       show sget (renS ρ s.slots) d = _
       rw [sget_ren, hb]; rfl
      split at h
      ·rename_i hbw
       have hbw : b = want := by simpa using hbw
       obtain ⟨h1, h2, h3⟩ := go (s.put (some d) (.bool want)) (sc_put hs rfl) rfl h
       refine ⟨h1, h2, fun hK => ?_⟩
       simp only [asteps, hg, hoj, hd, hbr]
       have h4 := h3 hK
       rw [ren_put] at h4
       rw [if_pos hbw]
       exact h4
      ·rename_i hbw
       have hbw : b ≠ want := by simpa using hbw
       obtain ⟨h1, h2, h3⟩ := ssteps_ok hT hr ρ l _ (sc_put (d := o.dst) (h := .v undef) (sc_put (d := some d) (h := .bool !want) hs rfl) rfl) h
       rw [put_heap', put_heap'] at h2
       refine ⟨h1, h2, fun hK => ?_⟩
       simp only [asteps, hg, hoj, hd, hbr]
       have h4 := h3 hK
       rw [ren_put, ren_put] at h4
       rw [if_neg hbw]
       exact h4
     ·cases h
    ·cases h
   ·cases h
theorem AW.ops {ro : Option Nat} {id : Nat} {ops : Array Oper} {Q : Exit → AS → Prop} (h : AOps P ro N ops (List.range' 0 ops.toList.length) (fun s' => Q .normal s') s) : AW P ro N (.region id ops false) Q s := by
 intro w0 μ0 μ a w hs hE
 refine wpIn_region ?_
 rw [List.range_eq_range', ← Array.length_toList]
 exact h w0 μ0 μ a w _ hs hE fun μ' s' a' w' hk hs' hE' => ⟨(fun _ h => by cases h), (fun h => by cases h), _, _, hk, hs', hE'⟩
theorem sdrawP_ok (hT : T.Ok P) (hr : Good P r) {id : Nat} {ops : Array Oper} (hok : ops.toList.all (fun o => okd N o.dst) = true) {p : Nat} (hs : s.sc n = true) (h : sdrawP r T ops s n p = some (s', n')) :
  s'.sc n' = true ∧ Step n n' s.heap s'.heap ∧ ∀ (ρ : Nat → Nat) (ro : Option Nat) (Q : Exit → AS → Prop), (∀ ρ', Agree n ρ ρ' → Q .normal (s'.ren ρ')) → AW P ro N (.region id ops true) Q (s.ren ρ) := by
 unfold sdrawP at h
 replace h := guardO_some h
 obtain ⟨hd, h⟩ := h
 split at h
 ·rename_i s1 hst
  have h1 := fun (ρ : Nat → Nat) (K : AS → Prop) => ssteps_ok (K := K) hT hr ρ _ _ hs hst
  have h2 := h1 (fun v => v) fun _ => True
  obtain ⟨h3, h4, h5⟩ := sops_ok hT hr hok (ops.toList.drop p) p s1 n (fun k => by rw [List.getElem?_drop, Array.getElem?_toList]) h2.1 h
  rw [h2.2.1] at h4
  refine ⟨h3, h4, fun ρ ro Q hQ => AW.drawX p (fun x => x = s1.ren ρ) hT.draw hok hd ?_ ((h1 ρ _).2.2 rfl)⟩
  rintro x rfl
  have := h5 ρ ro (fun s' => Q .normal s') hQ
  have hl : (ops.toList.drop p).length = ops.size - p := by simp
  rw [hl] at this
  exact this
 ·cases h
theorem sdraw_ok (hT : T.Ok P) (hr : Good P r) {id : Nat} {ops : Array Oper} (hok : ops.toList.all (fun o => okd N o.dst) = true) (hs : s.sc n = true) (h : sdraw r T ops s n = some (s', n')) :
  s'.sc n' = true ∧ Step n n' s.heap s'.heap ∧ ∀ (ρ : Nat → Nat) (ro : Option Nat) (Q : Exit → AS → Prop), (∀ ρ', Agree n ρ ρ' → Q .normal (s'.ren ρ')) → AW P ro N (.region id ops true) Q (s.ren ρ) := by
 unfold sdraw at h
 split at h
 ·rename_i x hx
  cases h
  exact sdrawP_ok hT hr hok hs hx
 ·exact sdrawP_ok hT hr hok hs h
theorem sres_ok (hT : T.Ok P) (ρ : Nat → Nat) : ∀ {rvs : List ResultVar} {hs : List HV} {R : List HV → Prop}, sres T.ty s rvs = some hs → R (renL ρ hs) → resAll P (s.ren ρ) rvs R
 | [], hs, R, h, hR => by cases h; exact hR
 | rv :: rvs, hs, R, h, hR => by
  simp only [sres] at h
  split at h
  ·rename_i q qs hq hqs
   cases h
   have key : ∀ R' : HV → Prop, R' (q.ren ρ) → resOne P (s.ren ρ) rv R' := by
    intro R' hR'
    cases rv with
    | tmp t =>
     have : sget (renS ρ s.slots) t = some (q.ren ρ) := by rw [sget_ren]; simp only [sres1, sgetR_eq, hgetR_eq] at hq; rw [hq]; rfl
     simp only [resOne, AS.ren, this]
     exact hR'
    | cell t t' =>
     simp only [sres1, sgetR_eq, hgetR_eq] at hq
     split at hq
     ·rename_i U cs off hU hx
      have : sget (s.ren ρ).slots t = some (.fptr (renL ρ cs) off) := by show sget (renS ρ s.slots) t = _; rw [sget_ren, hx]; rfl
      simp only [resOne, hT.ty _ _ hU, this]
      exact sload_sound hq hR'
     ·rename_i U id ver off hU hx
      split at hq
      ·rename_i ver' k e cs hg
       replace hq := guardO_some hq
       obtain ⟨h1, hq⟩ := hq
       have hv := Nat.eq_of_beq_eq_true h1
       subst hv
       have : sget (s.ren ρ).slots t = some (.ptr id (ρ ver) off) := by show sget (renS ρ s.slots) t = _; rw [sget_ren, hx]; rfl
       simp only [resOne, hT.ty _ _ hU, this, hget_s ρ hg, AObj.ren]
       exact ⟨trivial, sload_sound hq hR'⟩
      ·cases hq
     ·cases hq
   exact key _ (sres_ok hT ρ hqs hR)
  ·cases h
theorem thenQ_ne {k : AS → Prop} {Q : Exit → AS → Prop} {e : Exit} (he : e ≠ .normal) {s : AS} (h : Q e s) : thenQ k Q e s := by
 cases e with
 | normal => exact absurd rfl he
 | _ => exact h
theorem rounds_step (hr : Good P r) {top : Bool} {x : Code} {o : Out} : ∀ (k : Nat) (s : AS) (n : Nat), s.sc n = true → rounds r top N x k s n = some o → ∃ e s2 n2, o = .code e s2 n2 ∧ s2.sc n2 = true ∧ Step n n2 s.heap s2.heap
 | 0, _, _, _, h => by cases h
 | k + 1, s, n, hs, h => by
  simp only [rounds] at h
  split at h
  ·rename_i s1 n1 hr1
   obtain ⟨h1, h2, _⟩ := hr _ _ hr1 hs
   obtain ⟨e, s2, n2, h3, h4, h5⟩ := rounds_step hr k s1 n1 h1 h
   exact ⟨e, s2, n2, h3, h4, h2.trans (sc_heap_of hs) h5⟩
  ·have := hr _ _ h
   cases o with
   | code e s2 n2 => exact ⟨e, s2, n2, rfl, (this hs).1, (this hs).2.1⟩
   | call rv H n2 => exact this.elim
theorem rounds_ok (hr : Good P r) {top : Bool} {x : Code} {o : Out} (k : Nat) (h : rounds r top N x k s n = some o) : Sem P (.code top N (.loop x) s n) o := by
 cases o with
 | call rv H n2 =>
  have : ∀ (k : Nat) (s : AS) (n : Nat), rounds r top N x k s n ≠ some (.call rv H n2) := by
   intro k
   induction k with
   | zero => intro s n h; cases h
   | succ k ih =>
    intro s n h
    simp only [rounds] at h
    split at h
    ·exact ih _ _ h
    ·exact (hr _ _ h).elim
  exact absurd h (this k s n)
 | code e s2 n2 =>
  intro hs
  obtain ⟨e', s2', n2', he, h1, h2⟩ := rounds_step hr k s n hs h
  cases he
  refine ⟨h1, h2, fun ρ ro Q htop hQ => ?_⟩
  refine AW.loop' (fun j s0 => ∃ s1 n1 ρ1, s0 = s1.ren ρ1 ∧ s1.sc n1 = true ∧ rounds r top N x j s1 n1 = some (.code e s2 n2) ∧ Agree n ρ ρ1 ∧ n ≤ n1) ⟨k, _, AS.le_refl _, s, n, ρ, rfl, hs, h, Agree.refl _ _, Nat.le_refl _⟩ ?_
  rintro j s0 ⟨s1, n1, ρ1, rfl, hs1, hj, hag, hn⟩
  cases j with
  | zero => cases hj
  | succ j =>
   simp only [rounds] at hj
   split at hj
   ·rename_i s3 n3 hr3
    obtain ⟨h3, h4, h5⟩ := hr _ _ hr3 hs1
    refine h5 ρ1 ro _ htop fun ρ' hag' => ?_
    exact ⟨j, Nat.lt_succ_self j, _, AS.le_refl _, s3, n3, ρ', rfl, h3, hj, hag.trans hn hag', Nat.le_trans hn h4.le⟩
   ·rename_i hno
    obtain ⟨h3, h4, h5⟩ := hr _ _ hj hs1
    refine h5 ρ1 ro _ htop fun ρ' hag' => thenQ_ne ?_ (hQ ρ' (hag.trans hn hag'))
    rintro rfl
    exact hno _ _ hj
theorem sc_enumS : ∀ (i : Nat) (args : List HV), scL n args = true → scS n (enumS i args) = true
 | _, [], _ => rfl
 | i, a :: args, h => by
  simp only [scL, Bool.and_eq_true] at h
  simp only [enumS, scS, h.1, sc_enumS (i + 1) args h.2, Bool.and_self]
theorem renS_enumS (ρ : Nat → Nat) : ∀ (i : Nat) (args : List HV), renS ρ (enumS i args) = enumS i (renL ρ args)
 | _, [] => rfl
 | i, a :: args => by simp only [enumS, renS, renL, renS_enumS ρ (i + 1) args]
theorem scL_append {cs ds : List HV} (h : scL n cs = true) (h' : scL n ds = true) : scL n (cs ++ ds) = true := by
 induction cs with
 | nil => exact h'
 | cons c cs ih =>
  simp only [scL, Bool.and_eq_true] at h
  simp only [List.cons_append, scL, h.1, ih h.2, Bool.and_self]
theorem joinR_ren (ρ : Nat → Nat) : ∀ hs : List HV, (joinR hs).ren ρ = joinR (renL ρ hs)
 | [] => rfl
 | [h] => rfl
 | _ :: _ :: _ => rfl
theorem strs_ren (ρ : Nat → Nat) : ∀ ls : List (List UInt8), renL ρ (ls.map HV.str) = ls.map HV.str
 | [] => rfl
 | a :: ls => by simp only [List.map_cons, renL, HV.ren, strs_ren ρ ls]
theorem ints_ren (ρ : Nat → Nat) : ∀ ls : List Int, renL ρ (ls.map (HV.int .i64)) = ls.map (HV.int .i64)
 | [] => rfl
 | a :: ls => by simp only [List.map_cons, renL, HV.ren, ints_ren ρ ls]
theorem strs_sc (n : Nat) : ∀ ls : List (List UInt8), scL n (ls.map HV.str) = true
 | [] => rfl
 | a :: ls => by simp only [List.map_cons, scL, HV.sc, strs_sc n ls, Bool.and_self]
theorem ints_sc (n : Nat) : ∀ ls : List Int, scL n (ls.map (HV.int .i64)) = true
 | [] => rfl
 | a :: ls => by simp only [List.map_cons, scL, HV.sc, ints_sc n ls, Bool.and_self]
theorem ssort_ok (hT : T.Ok P) {f : FuncId} {k : Bool} (hk : T.sort f = some k) {args : List HV} {H : Heap} {o : Out} (h : ssort k args H n = some o) : Sem P (.call f args H n) o := by
 unfold ssort at h
 simp only [hgetR_eq, hsetR_eq] at h
 split at h
 ·cases h
  refine fun _ hH => ⟨rfl, hH, Step.refl _ _, fun ρ K hK => ?_⟩
  cases k with
  | true => exact (hT.sortS f hk).nil _ _ (hK ρ (Agree.refl _ _))
  | false => exact (hT.sortI f hk).nil _ _ (hK ρ (Agree.refl _ _))
 ·rename_i id ver m
  split at h
  ·rename_i ver' e cs hg
   split at h
   ·split at h
    ·rename_i ls hls
     replace h := guardO_some h
     obtain ⟨h1, h⟩ := h
     cases h
     simp only [Bool.and_eq_true] at h1
     have hv := Nat.eq_of_beq_eq_true h1.1
     subst hv
     have hm := Nat.eq_of_beq_eq_true h1.2.1
     subst hm
     have hcs := strsOf_eq hls
     subst hcs
     intro _ hH
     have hlt := sch_get hH hg
     refine ⟨rfl, scH_set _ _ _ _ hH hlt.1.1 hlt.1.2 (strs_sc _ _), ⟨Nat.le_refl _, LoopKeep.set (by rw [hg]; intros; simp), Back.set (.inr ⟨_, hg⟩)⟩, fun ρ K hK => ?_⟩
     refine (hT.sortS f hk).arr _ id (ρ ver) e ls K (by rw [hget_ren, hg]; simp only [Option.map_some, AObj.ren, strs_ren]) (blt_lt h1.2.2) ?_
     have := hK ρ (Agree.refl _ _)
     rw [renH_set] at this
     simp only [AObj.ren, strs_ren, HV.ren, renL] at this
     rw [sortS_isort]
     exact this
    ·cases h
   ·split at h
    ·rename_i ls hls
     replace h := guardO_some h
     obtain ⟨h1, h⟩ := h
     cases h
     simp only [Bool.and_eq_true] at h1
     have hv := Nat.eq_of_beq_eq_true h1.1
     subst hv
     have hm := Nat.eq_of_beq_eq_true h1.2.1
     subst hm
     have hcs := intsOf_eq hls
     subst hcs
     intro _ hH
     have hlt := sch_get hH hg
     refine ⟨rfl, scH_set _ _ _ _ hH hlt.1.1 hlt.1.2 (ints_sc _ _), ⟨Nat.le_refl _, LoopKeep.set (by rw [hg]; intros; simp), Back.set (.inr ⟨_, hg⟩)⟩, fun ρ K hK => ?_⟩
     refine (hT.sortI f hk).arr _ id (ρ ver) e ls K (by rw [hget_ren, hg]; simp only [Option.map_some, AObj.ren, ints_ren]) (blt_lt h1.2.2) ?_
     have := hK ρ (Agree.refl _ _)
     rw [renH_set] at this
     simp only [AObj.ren, ints_ren, HV.ren, renL] at this
     rw [sortI_isort]
     exact this
    ·cases h
  ·cases h
 ·cases h
theorem stCut_ok (hr : Good P r) {top : Bool} {ks : Option (List Nat)} {y : Code} {o : Out} (h : stCut T r top N ks y s n = some o) : Sem P (.code top N y s n) o := by
 unfold stCut at h
 split at h
 ·rename_i ks
  rw [keepK_eq] at h
  have h2 := hr _ _ h
  cases o with
  | call rv H n2 => exact h2.elim
  | code e s2 n2 =>
   intro hs
   simp only [AS.sc, Bool.and_eq_true] at hs
   obtain ⟨h6, h7, h8⟩ := h2 (by simp only [AS.sc, Bool.and_eq_true]; exact ⟨keepL_sc hs.1 ks, hs.2⟩)
   exact ⟨h6, h7, fun ρ ro Q htop hQ => AW.weaken (h8 ρ ro Q htop hQ) (keepL_le ρ s ks)⟩
 ·exact hr _ _ h
theorem step_ok (hT : T.Ok P) (hr : Good P r) : Good P (step T r) := by
 intro t o h
 cases t with
 | call f args H n =>
  simp only [step, stCall, stBody] at h
  split at h
  ·rename_i k hk
   exact ssort_ok hT hk h
  split at h
  ·-- a pure function that is known
   rename_i rv hx
   replace h := guardO_some h
   obtain ⟨h1, h⟩ := h
   cases h
   replace hx := guardO_some hx
   obtain ⟨h2, hx⟩ := hx
   intro hargs hH
   refine ⟨HV.sc_mono (Nat.zero_le _) rv h1, hH, Step.refl _ _, fun ρ K hK => ?_⟩
   have hf := hT.extP _ _ _ hx
   rw [renL_sc0 ρ h2]
   refine ACall.pure0 hf fun r hr => ?_
   subst hr
   have := hK ρ (Agree.refl _ _)
   rw [ren_sc0 ρ h1] at this
   exact this
  split at h
  ·-- a function that is known
   rename_i rv hx
   replace h := guardO_some h
   obtain ⟨h1, h⟩ := h
   cases h
   split at hx
   ·rename_i as' ha
    replace hx := guardO_some hx
    obtain ⟨h2, hx⟩ := hx
    intro hargs hH
    refine ⟨HV.sc_mono (Nat.zero_le _) rv h1, hH, Step.refl _ _, fun ρ K hK => ?_⟩
    have hf := hT.ext _ _ _ hx
    have ha2 := mapM_frz ρ ha
    rw [renL_sc0 ρ h2] at ha2
    refine hf.call 8 ha2 ?_
    have := hK ρ (Agree.refl _ _)
    rw [ren_sc0 ρ h1] at this
    exact this
   ·cases hx
  ·split at h
   ·rename_i fn hfn
    split at h
    ·rename_i c hc
     replace h := guardO_some h
     obtain ⟨h1, h⟩ := h
     split at h
     ·rename_i e s1 n1 hr1
      replace h := guardO_some h
      obtain ⟨h2, h⟩ := h
      split at h
      ·rename_i hs hres
       replace h := guardO_some h
       obtain ⟨h3, h⟩ := h
       cases h
       intro hargs hH
       obtain ⟨h4, h5, h6⟩ := hr _ _ hr1 (by simp only [AS.sc, sc_enumS 0 args hargs, hH, Bool.and_self])
       refine ⟨h3, gc_sc (sc_heap_of h4), h5.drop fun id x hx => gc_get hx, fun ρ K hK => ?_⟩
       obtain ⟨hf, hname⟩ := hT.fn _ _ hfn
       refine ACall.of_body hf hname hc (by rw [renL_len]; exact Nat.le_of_ble_eq_true h1) ?_
       have e0 : ({ slots := enumS 0 (renL ρ args), heap := renH ρ H } : AS) = (⟨enumS 0 args, H⟩ : AS).ren ρ := by simp only [AS.ren, renS_enumS]
       rw [e0]
       refine h6 ρ none _ (fun _ => rfl) fun ρ' hag => ⟨?_, sres_ok hT ρ' hres ?_⟩
       ·cases e with
        | normal => exact .inl rfl
        | ret => exact .inr rfl
        | _ => cases h2
       ·refine ⟨_, renH ρ' (gc n (joinR hs) s1.heap), Conv.drop fun id x hx => ?_, ?_⟩
        ·rw [hget_ren] at hx
         cases hg : hget (gc n (joinR hs) s1.heap) id with
         | none => rw [hg] at hx; cases hx
         | some y =>
          rw [hg] at hx
          show hget (renH ρ' s1.heap) id = some x
          rw [hget_ren, gc_get hg]
          exact hx
        ·rw [← joinR_ren]
         exact hK ρ' hag
      ·cases h
     ·cases h
    ·cases h
   ·cases h
 | code top N c s n =>
  simp only [step, stCode] at h
  split at h
  ·cases h
   exact fun hs => ⟨hs, Step.refl _ _, fun ρ ro Q _ hQ => AW.skip (hQ ρ (Agree.refl _ _))⟩
  ·cases h
   exact fun hs => ⟨hs, Step.refl _ _, fun ρ ro Q _ hQ => AW.exit (hQ ρ (Agree.refl _ _))⟩
  ·cases h
   exact fun hs => ⟨hs, Step.refl _ _, fun ρ ro Q _ hQ => AW.ret (hQ ρ (Agree.refl _ _))⟩
  ·-- seq
   unfold stSeq at h
   try simp only [evR_eq, hgetR_eq, hsetR_eq, sgetR_eq, putR_eq, aslR_eq, apartsR_eq] at h
   rename_i x y
   split at h
   ·rename_i s1 n1 hr1
    have h2 := stCut_ok hr h
    cases o with
    | call rv H n2 => exact h2.elim
    | code e s2 n2 =>
     intro hs
     obtain ⟨h3, h4, h5⟩ := hr _ _ hr1 hs
     obtain ⟨h6, h7, h8⟩ := h2 h3
     refine ⟨h6, h4.trans (sc_heap_of hs) h7, fun ρ ro Q htop hQ => AW.seq (h5 ρ ro _ htop fun ρ1 ha1 => h8 ρ1 ro Q htop fun ρ2 ha2 => hQ ρ2 (ha1.trans h4.le ha2))⟩
   ·rename_i hno
    have h2 := hr _ _ h
    cases o with
    | call rv H n2 => exact h2.elim
    | code e s2 n2 =>
     intro hs
     obtain ⟨h3, h4, h5⟩ := h2 hs
     exact ⟨h3, h4, fun ρ ro Q htop hQ => AW.seq (h5 ρ ro _ htop fun ρ' ha => thenQ_ne (fun e => by subst e; exact hno _ _ h) (hQ ρ' ha))⟩
  ·-- block
   unfold stBlock at h
   try simp only [evR_eq, hgetR_eq, hsetR_eq, sgetR_eq, putR_eq, aslR_eq, apartsR_eq] at h
   rename_i i x
   split at h
   ·rename_i j s1 n1 hr1
    cases h
    intro hs
    obtain ⟨h3, h4, h5⟩ := hr _ _ hr1 hs
    refine ⟨h3, h4, fun ρ ro Q htop hQ => AW.block (h5 ρ ro _ htop fun ρ' ha => ?_)⟩
    have := hQ ρ' ha
    simp only [blockQ]
    split
    ·rename_i e; rw [if_pos e] at this; exact this
    ·rename_i e; rw [if_neg e] at this; exact this
   ·rename_i hno
    have h2 := hr _ _ h
    cases o with
    | call rv H n2 => exact h2.elim
    | code e s2 n2 =>
     intro hs
     obtain ⟨h3, h4, h5⟩ := h2 hs
     refine ⟨h3, h4, fun ρ ro Q htop hQ => AW.block (h5 ρ ro _ htop fun ρ' ha => ?_)⟩
     have := hQ ρ' ha
     cases e with
     | exit j => exact absurd h (hno _ _ _)
     | _ => exact this
  ·-- cond
   unfold stCond at h
   try simp only [evR_eq, hgetR_eq, hsetR_eq, sgetR_eq, putR_eq, aslR_eq, apartsR_eq] at h
   rename_i c x y
   split at h
   ·rename_i hc
    have h2 := hr _ _ h
    cases o with
    | call rv H n2 => exact h2.elim
    | code e s2 n2 =>
     intro hs
     obtain ⟨h3, h4, h5⟩ := h2 hs
     exact ⟨h3, h4, fun ρ ro Q htop hQ => AW.cond (t := true) (by rw [ev_ren, hc]; rfl) (fun _ => h5 ρ ro Q htop hQ) (fun e => by cases e)⟩
   ·rename_i hc
    have h2 := hr _ _ h
    cases o with
    | call rv H n2 => exact h2.elim
    | code e s2 n2 =>
     intro hs
     obtain ⟨h3, h4, h5⟩ := h2 hs
     exact ⟨h3, h4, fun ρ ro Q htop hQ => AW.cond (t := false) (by rw [ev_ren, hc]; rfl) (fun e => by cases e) (fun _ => h5 ρ ro Q htop hQ)⟩
   ·cases h
  ·exact rounds_ok hr _ h
  ·-- region
   unfold stRegion at h
   try simp only [evR_eq, hgetR_eq, hsetR_eq, sgetR_eq, putR_eq, aslR_eq, apartsR_eq] at h
   rename_i id ops dr
   replace h := guardO_some h
   obtain ⟨hok, h⟩ := h
   split at h
   ·rename_i s1 n1 hop
    cases h
    intro hs
    cases dr with
    | true =>
     obtain ⟨h3, h4, h5⟩ := sdraw_ok (id := id) hT hr hok hs hop
     exact ⟨h3, h4, fun ρ ro Q _ hQ => h5 ρ ro Q hQ⟩
    | false =>
     obtain ⟨h3, h4, h5⟩ := sops_ok hT hr hok ops.toList 0 s n (fun k => by simp) hs hop
     exact ⟨h3, h4, fun ρ ro Q _ hQ => AW.ops (h5 ρ ro _ hQ)⟩
   ·cases h
  ·-- rangeFunc
   unfold stRange at h
   try simp only [evR_eq, hgetR_eq, hsetR_eq, sgetR_eq, putR_eq, aslR_eq, apartsR_eq] at h
   rename_i g ps assign body
   split at h
   ·rename_i f fs cs hg
    replace h := guardO_some h
    obtain ⟨h1, h⟩ := h
    simp only [Bool.and_eq_true] at h1
    split at h
    ·rename_i rv H n1 hr1
     split at h
     ·rename_i v1 st' pend f1 m1 snap1 ps1 as1 bd1 hg1
      replace h := guardO_some h
      obtain ⟨h4, h⟩ := h
      -- the loop behind the iterator's call
      have fin : ∀ (pe : Option Code), pe = pend → ∀ (e : Exit), (∀ (ρ : Nat → Nat) (Q : Exit → AS → Prop) (sx : AS), Q e sx → match (generalizing := false) pe with
        | none => Q .normal sx
        | some c => AW P none N c Q sx) →
        Sem P (.code true N (.rangeFunc g ps assign body) s n) (.code e { s with heap := hset H n n (.loop .exhausted pe (n + 1) N s.slots ps assign body) } n1) := by
       intro pe hpe e hq hs
       subst hpe
       have hsh := sc_heap_of hs
       have hlsc : (AObj.loop .ready none (n + 1) N s.slots ps assign body).sc (n + 2) = true := by
        simp only [AObj.sc, scS_mono (Nat.le_add_right n 2) _ (sc_slots_of hs), Bool.and_true]
        simp [Nat.blt_eq]
       have hself : Nat.blt n (n + 2) = true := by simp [Nat.blt_eq]
       have h0 : scH (n + 2) (hset s.heap n n (.loop .ready none (n + 1) N s.slots ps assign body)) = true := scH_set _ _ _ _ (scH_mono (Nat.le_add_right n 2) _ hsh) (by omega) (by omega) hlsc
       have hargs : scL (n + 2) (fs ++ [.yl n n] ++ cs) = true := scL_append (scL_append (scL_mono (Nat.le_add_right n 2) _ h1.1) (by simp only [scL, HV.sc, hself, Bool.and_self])) (scL_mono (Nat.le_add_right n 2) _ h1.2)
       obtain ⟨h2, h3, st, hc⟩ := hr _ _ hr1 hargs h0
       have st0 : Step n (n + 2) s.heap (hset s.heap n n (.loop .ready none (n + 1) N s.slots ps assign body)) :=
        ⟨by omega, LoopKeep.set (by rw [sch_fresh hsh]; intros; simp), Back.set (.inl (Nat.le_refl _))⟩
       have st1 := st0.trans hsh st
       have hgl : hget (hset s.heap n n (.loop .ready none (n + 1) N s.slots ps assign body)) n = some (n, .loop .ready none (n + 1) N s.slots ps assign body) := by rw [hget_hset, if_pos rfl]
       obtain ⟨_, _, he1⟩ := st.loop _ _ _ _ _ _ _ _ _ _ hgl _ hg1
       cases he1
       have hls1 : (AObj.loop .exhausted pe (n + 1) N s.slots ps assign body).sc n1 = true := by
        simp only [AObj.sc, scS_mono st1.le _ (sc_slots_of hs), Bool.and_true]
        have := st.le
        simp [Nat.blt_eq]; omega
       have hn1 : n < n1 := by have := st.le; omega
       refine ⟨by simp only [AS.sc, scS_mono st1.le _ (sc_slots_of hs), scH_set _ n n _ h3 hn1 hn1 hls1, Bool.and_self], st1.trans hsh ⟨Nat.le_refl _, LoopKeep.setL hg1, Back.set (.inr ⟨_, hg1⟩)⟩, fun ρ ro Q htop hQ => ?_⟩
       have hro : ro = none := htop rfl
       subst hro
       have hg' : (s.ren ρ).ev g = some (.fn (.func f) (renL ρ fs) (renL ρ cs)) := by rw [ev_ren, hg]; rfl
       refine AW.rangeFunc n hg' fun fn ver => ?_
       have hu := Agree.upd n ver ρ
       have ha1 : Agree n ρ (upd (upd ρ n ver) (n + 1) fn) := hu.trans (Nat.le_succ n) (Agree.upd (n + 1) fn _)
       have e0 : hset (s.ren ρ).heap n ver (.loop .ready none fn N (s.ren ρ).slots ps assign body) = renH (upd (upd ρ n ver) (n + 1) fn) (hset s.heap n n (.loop .ready none (n + 1) N s.slots ps assign body)) := by
        rw [renH_set]
        simp only [AObj.ren, AS.ren]
        rw [renH_agree ha1 _ hsh, renS_agree ha1 _ (sc_slots_of hs), upd_at]
        simp [upd]
       have e1 : renL ρ fs ++ [.yl n ver] ++ renL ρ cs = renL (upd (upd ρ n ver) (n + 1) fn) (fs ++ [.yl n n] ++ cs) := by
        rw [renL_append, renL_append, renL_agree ha1 _ h1.1, renL_agree ha1 _ h1.2]
        simp only [renL, HV.ren]
        have : upd (upd ρ n ver) (n + 1) fn n = ver := by simp [upd]
        rw [this]
       rw [e0, e1]
       refine hc _ _ fun ρ' hag => ?_
       have hv : ρ' n = ver := by rw [← hag n (by omega)]; simp [upd]
       have hfn : ρ' (n + 1) = fn := by rw [← hag (n + 1) (by omega)]; simp [upd]
       have ha2 : Agree n ρ ρ' := ha1.trans (Nat.le_add_right n 2) hag
       have hsl : renS ρ' s.slots = (s.ren ρ).slots := (renS_agree ha2 _ (sc_slots_of hs)).symm
       have hQ' := hQ ρ' ha2
       have e2 : (({ s with heap := hset H n n (.loop .exhausted pe (n + 1) N s.slots ps assign body) } : AS)).ren ρ' = { s.ren ρ with heap := hset (renH ρ' H) n ver (.loop .exhausted pe fn N (s.ren ρ).slots ps assign body) } := by
        simp only [AS.ren, renH_set, AObj.ren, hv, hfn]
        rw [renS_agree ha2 _ (sc_slots_of hs)]
       rw [e2] at hQ'
       refine ⟨st', pe, ?_, ?_, ?_⟩
       ·rw [hget_ren, hg1]
        simp only [Option.map_some, AObj.ren, hv, hfn, hsl]
       ·rintro rfl; cases h4
       ·have := hq ρ Q _ hQ'
        cases pe with
        | none => exact this
        | some c => exact this
      split at h
      ·cases h
       exact fin none rfl .normal (fun ρ Q sx hx => hx)
      ·cases h
       exact fin (some .ret) rfl .ret (fun ρ Q sx hx => AW.ret hx)
      ·cases h
       exact fin (some (.exit _)) rfl (.exit _) (fun ρ Q sx hx => AW.exit hx)
      ·cases h
     ·cases h
    ·cases h
   ·cases h
  ·cases h
theorem run_ok (hT : T.Ok P) : ∀ k, Good P (run T k)
 | 0 => fun _ _ h => by cases h
 | k + 1 => step_ok hT (run_ok hT k)
theorem Fresh.of_run (hT : T.Ok P) {f : FuncId} {args : List HV} {k n1 : Nat} {rv q : HV} {H : Heap} (h : run T k (.call f args [] 0) = some (.call rv H n1)) (ha : scL 0 args = true) (hn : (nf rv && nfH H) = true)
  (hf : sfrz 8 H rv = some q) (hq : q.sc 0 = true) : Fresh P f args q := by
 obtain ⟨_, _, _, hcall⟩ := run_ok hT k _ _ h ha rfl
 have h5 := hcall (fun v => v) (fun r' H' => ∃ ρ', r' = rv.ren ρ' ∧ H' = renH ρ' H) fun ρ' _ => ⟨ρ', rfl, rfl⟩
 rw [renL_id] at h5
 simp only [Bool.and_eq_true] at hn
 refine ⟨sc0_clean q hq, _, 8, h5, ?_⟩
 rintro r' H' ⟨ρ', rfl, rfl⟩
 exact ⟨nf_ren ρ' rv hn.1, nfH_ren ρ' H hn.2, by rw [sfrz_sound 8 H ρ' rv q hf, ren_sc0 ρ' hq]⟩
end
end Go.AW
namespace Go.AW
open Go
mutual
def HV.same : HV → HV → Bool
 | .int .i64 n, .int .i64 m => decide (n = m)
 | .int .u8 n, .int .u8 m => decide (n = m)
 | .int .u64 n, .int .u64 m => decide (n = m)
 | .int .u32 n, .int .u32 m => decide (n = m)
 | .bool b, .bool c => b == c
 | .str l, .str k => decide (l = k)
 | .agg cs, .agg ds => sameL cs ds
 | .tup cs, .tup ds => sameL cs ds
 | .sl k n cs, .sl k' n' ds => Nat.beq k k' && Nat.beq n n' && sameL cs ds
 | .v (.slice none 0 0), .v (.slice none 0 0) => true
 | _, _ => false
def sameL : List HV → List HV → Bool
 | [], [] => true
 | c :: cs, d :: ds => c.same d && sameL cs ds
 | _, _ => false
end
mutual
theorem HV.same_eq : ∀ a b : HV, a.same b = true → a = b
 | .int k n, b, h => by
  cases b with
  | int k' m => cases k <;> cases k' <;> simp [HV.same] at h <;> rw [h]
  | _ => cases k <;> simp [HV.same] at h
 | .bool x, b, h => by
  cases b <;> simp [HV.same] at h
  rw [h]
 | .str x, b, h => by
  cases b <;> simp [HV.same] at h
  rw [h]
 | .v x, b, h => by
  unfold HV.same at h
  split at h <;> simp_all
 | .agg cs, b, h => by
  cases b with
  | agg ds => simp only [HV.same] at h; rw [sameL_eq cs ds h]
  | _ => simp [HV.same] at h
 | .tup cs, b, h => by
  cases b with
  | tup ds => simp only [HV.same] at h; rw [sameL_eq cs ds h]
  | _ => simp [HV.same] at h
 | .sl k n cs, b, h => by
  cases b with
  | sl k' n' ds =>
   simp only [HV.same, Bool.and_eq_true] at h
   rw [Nat.eq_of_beq_eq_true h.1.1, Nat.eq_of_beq_eq_true h.1.2, sameL_eq cs ds h.2]
  | _ => simp [HV.same] at h
 | .ar _ _ _ _ _, b, h => by cases b <;> simp [HV.same] at h
 | .ptr _ _ _, b, h => by cases b <;> simp [HV.same] at h
 | .fptr _ _, b, h => by cases b <;> simp [HV.same] at h
 | .fn _ _ _, b, h => by cases b <;> simp [HV.same] at h
 | .mp _ _, b, h => by cases b <;> simp [HV.same] at h
 | .yl _ _, b, h => by cases b <;> simp [HV.same] at h
 | .it _ _, b, h => by cases b <;> simp [HV.same] at h
theorem sameL_eq : ∀ a b : List HV, sameL a b = true → a = b
 | [], [], _ => rfl
 | [], _ :: _, h => by simp [sameL] at h
 | _ :: _, [], h => by simp [sameL] at h
 | c :: cs, d :: ds, h => by
  simp only [sameL, Bool.and_eq_true] at h
  rw [HV.same_eq c d h.1, sameL_eq cs ds h.2]
end
def elook : List (FuncId × List HV × HV) → FuncId → List HV → Option HV
 | [], _, _ => none
 | (g, aa, q) :: l, f, args => bif (Nat.beq g f && sameL aa args) then some q else elook l f args
theorem elook_ok {P : Program} : ∀ {l : List (FuncId × List HV × HV)}, (∀ e ∈ l, Fresh P e.1 e.2.1 e.2.2) → ∀ f args r, elook l f args = some r → Fresh P f args r
 | [], _, _, _, _, h => by cases h
 | (g, aa, q) :: l, hl, f, args, r, h => by
  simp only [elook] at h
  cases hb : (Nat.beq g f && sameL aa args) with
  | true =>
   rw [hb] at h
   cases h
   simp only [Bool.and_eq_true] at hb
   have h1 := Nat.eq_of_beq_eq_true hb.1
   have h2 := sameL_eq _ _ hb.2
   subst h1 h2
   exact hl _ (List.mem_cons_self ..)
  | false =>
   rw [hb] at h
   exact elook_ok (fun e he => hl e (List.mem_cons_of_mem _ he)) f args r h
noncomputable def comes (T : Tabs) (k : Nat) (f : FuncId) (args : List HV) (q : HV) : Bool :=
 match run T k (.call f args [] 0) with
 | some (.call rv H _) => scL 0 args && (nf rv && nfH H) && (match sfrz 8 H rv with
  | some r => r.sc 0 && r.same q
  | none => false)
 | _ => false
theorem Fresh.of_comes {P : Program} {T : Tabs} (hT : T.Ok P) {k : Nat} {f : FuncId} {args : List HV} {q : HV} (h : comes T k f args q = true) : Fresh P f args q := by
 unfold comes at h
 split at h
 ·rename_i rv H n1 hr
  simp only [Bool.and_eq_true] at h
  obtain ⟨⟨h1, h2⟩, h3⟩ := h
  split at h3
  ·rename_i r hr'
   simp only [Bool.and_eq_true] at h3
   have := HV.same_eq _ _ h3.2
   subst this
   exact Fresh.of_run hT hr h1 (by simp only [h2.1, h2.2, Bool.and_self]) hr' h3.1
  ·cases h3
 ·cases h
noncomputable def comesP (T : Tabs) (k : Nat) (f : FuncId) (args : List HV) (q : HV) : Bool :=
 match run T k (.call f args [] 0) with
 | some (.call rv H _) => scL 0 args && (match sfrz 8 H rv with
  | some r => r.sc 0 && r.same q
  | none => false)
 | _ => false
theorem Pure.of_comes {P : Program} {T : Tabs} (hT : T.Ok P) {k : Nat} {f : FuncId} {args : List HV} {q : HV} (h : comesP T k f args q = true) : Pure P f args (· = q) := by
 unfold comesP at h
 split at h
 ·rename_i rv H n1 hr
  simp only [Bool.and_eq_true] at h
  obtain ⟨h1, h3⟩ := h
  split at h3
  ·rename_i r hf
   simp only [Bool.and_eq_true] at h3
   have := HV.same_eq _ _ h3.2
   subst this
   obtain ⟨_, _, _, hcall⟩ := run_ok hT k _ _ hr h1 rfl
   have h5 := hcall (fun v => v) (fun r' H' => ∃ ρ', r' = rv.ren ρ' ∧ H' = renH ρ' H) fun ρ' _ => ⟨ρ', rfl, rfl⟩
   rw [renL_id] at h5
   refine h5.conv ?_
   rintro r' H' ⟨ρ', rfl, rfl⟩
   exact ⟨_, _, Conv.all 8, by rw [sfrz_sound 8 H ρ' rv _ hf, ren_sc0 ρ' h3.1], by rw [sfrz_sound 8 H ρ' rv _ hf, ren_sc0 ρ' h3.1]; exact sc0_clean _ h3.1, rfl⟩
  ·cases h3
 ·cases h
theorem Pure.nilI {P : Program} {f : FuncId} {args : List HV} (h : Pure P f args (· = .v (.slice none 0 0))) : Pure P f args (· = .sl 1 0 []) := by
 refine h.conv ?_
 rintro r H' ⟨rfl, _, rfl⟩
 exact ⟨_, _, Conv.le (Le.nil 1), rfl, ⟨trivial, rfl⟩⟩
end Go.AW
namespace Go.AW
open Go Go.Proofs
set_option maxHeartbeats 1600000
set_option maxRecDepth 100000
set_option linter.unusedVariables false
theorem w_word_known {p0 : Int} {r : Bool} (h : m_word_known p0 = some r) : Pure Try.prog 49 [hI p0] (· = HV.bool r) := by
 unfold m_word_known at h
 refine Pure.of_body Try.func49 rfl rfl (lb rfl) fun hf => ?_
 unfold Try.f49
 dsimp only [enumS, Nat.reduceAdd]
 refine AW.rgs rfl fun K hK => mv rfl rfl ?_
 refine bf hK ⟨[(0, hI p0)], []⟩ ?_
 refine AW.seqJ h (S := Bool) (V := Unit) (fun a v => ⟨[(2, .bool a)], []⟩) (fun a1 w2 h => ?_) (fun k3 h => ?_)
 ·refine AW.ret ?_
  have h := Option.some.inj h
  subst h
  exact ret_pure (hs := [.bool a1]) (.inr rfl) (resT rfl rfl) rfl trivial
 refine AW.rg rfl fun K hK => mv rfl rfl (bv rfl (v_bin rfl rfl b_geq) (mv rfl rfl ?_))
 by_cases hg4 : 1 ≤ p0
 ·have h := ifT hg4 h
  refine b_T rfl rfl rfl rfl (decide_eq_true hg4) (o_val rfl (mv_val rfl rfl).2 ?_)
  refine b_T rfl rfl rfl rfl rfl (o_val rfl (v_bin rfl rfl b_leq) ?_)
  refine bv rfl (v_pickT rfl rfl rfl) (mv rfl rfl ?_)
  refine b_nil (hK _ ?_)
  exact to_L ⟨decide (p0 ≤ 16), (), h, rfl⟩
 have h := ifF hg4 h
 refine b_F rfl rfl rfl rfl rfl (decide_eq_false hg4) ?_
 refine b_F rfl rfl rfl rfl rfl rfl ?_
 refine bv rfl (v_pickF rfl rfl rfl) (mv rfl rfl ?_)
 refine b_nil (hK _ ?_)
 exact to_L ⟨false, (), h, rfl⟩
theorem w_word_Check {p0 : Int} {p1 : List UInt8} {r : Int} (h : m_word_Check p0 p1 = some r) : Pure Try.prog 51 [hI p0, .str p1] (· = hI r) := by
 unfold m_word_Check at h
 refine Pure.of_body Try.func51 rfl rfl (lb rfl) fun hf => ?_
 unfold Try.f51
 dsimp only [enumS, Nat.reduceAdd]
 refine AW.rgs rfl fun K hK => mv rfl rfl ?_
 refine bf hK ⟨[(0, hI p0), (1, .str p1)], []⟩ ?_
 refine AW.seq (AW.block ?_)
 refine AW.rgs rfl fun K hK => mv rfl rfl ?_
 obtain ⟨x1, h2, h⟩ := bS h
 refine b_op rfl (o_call rfl rfl rfl rfl (ACallD.pure0 (w_word_known h2)) ?_)
 refine bv rfl (v_not rfl) (mv rfl rfl ?_)
 refine bf hK ⟨[(0, hI p0), (1, .str p1), (6, .bool (!x1))], []⟩ ?_
 refine AW.cond rfl (fun hc => ?_) (fun hc => ?_)
 ·have h := ifT hc h
  refine AW.rgs rfl fun K hK => mv rfl rfl ?_
  refine bf hK ⟨[(4, hI 12)], []⟩ ?_
  refine AW.ret ?_
  have h := Option.some.inj h
  subst h
  exact ret_pure (hs := [hI 12]) (.inr rfl) (resT rfl rfl) rfl trivial
 have h := ifF (bF' hc) h
 refine AW.rgs rfl fun K hK => mv rfl rfl (bv rfl (v_lenS rfl rfl ty9 rfl) (bv rfl (v_bin rfl rfl b_gtr) (mv rfl rfl ?_)))
 refine bf hK ⟨[(0, hI p0), (1, .str p1), (10, .bool (decide (65536 < ((p1).length : Int))))], []⟩ ?_
 refine AW.cond rfl (fun hc => ?_) (fun hc => ?_)
 ·obtain ⟨hc, h⟩ := cT hc h
  refine AW.rgs rfl fun K hK => mv rfl rfl ?_
  refine bf hK ⟨[(4, hI 4)], []⟩ ?_
  refine AW.ret ?_
  have h := Option.some.inj h
  subst h
  exact ret_pure (hs := [hI 4]) (.inr rfl) (resT rfl rfl) rfl trivial
 obtain ⟨hc, h⟩ := cF hc h
 refine AW.skip ?_
 refine AW.seq ?_
 refine AW.rgs rfl fun K hK => mv rfl rfl (bv rfl (v_lenS rfl rfl ty9 rfl) (mv rfl rfl ?_))
 refine bf hK ⟨[(0, hI p0), (1, .str p1), (15, hI ((p1).length : Int)), (16, hI 0)], []⟩ ?_
 refine AW.lpR h (by first | exact up_then | exact up_to) (S := Int) (V := Unit) (fun a v => ⟨[(0, hI p0), (1, .str p1), (15, hI ((p1).length : Int)), (16, hI a)], []⟩) ?_ (X := Unit) (W := Unit) (fun a v => ⟨[], []⟩) (fun a12 w13 h => ?_) (fun a3 w4 st5 h hr6=> ?_)
 ·exact to_L ⟨(), rfl⟩
 ·refine AW.rgs rfl fun K hK => mv rfl rfl ?_
  refine bf hK ⟨[(4, hI 0)], []⟩ ?_
  refine AW.ret ?_
  have h := Option.some.inj h
  subst h
  exact ret_pure (hs := [hI 0]) (.inr rfl) (resT rfl rfl) rfl trivial
 refine AW.rgs rfl fun K hK => bv rfl (v_bin rfl rfl b_lss) ?_
 refine bf hK ⟨[(0, hI p0), (1, .str p1), (15, hI ((p1).length : Int)), (16, hI a3), (17, .bool (decide (a3 < ((p1).length : Int))))], []⟩ ?_
 refine AW.cseq rfl (fun hc => ?_) (fun hc => ?_)
 ·obtain ⟨hc, h⟩ := cT hc h
  refine AW.skip ?_
  refine AW.seq (AW.block ?_)
  refine AW.rgs rfl fun K hK => mv rfl rfl (mv rfl rfl ?_)
  refine bf hK ⟨[(0, hI p0), (1, .str p1), (5, hI a3), (15, hI ((p1).length : Int)), (16, hI a3)], []⟩ ?_
  refine AW.dgs 7 follows rfl rfl fun K hK => ?_
  refine sm rfl rfl ?_
  obtain ⟨h7, h⟩ := ifN h
  refine sv rfl (v_sliceS ty9 rfl rfl rfl h7) ?_
  refine sm rfl rfl ?_
  refine sm rfl rfl ?_
  obtain ⟨x8, h9, h⟩ := bS h
  refine sv rfl (v_idxS ty9 rfl rfl h9) ?_
  obtain ⟨x10, h11, h⟩ := bS h
  refine s_op rfl rfl (ops_call rfl rfl rfl rfl (ACallD.pure0 (w_strings_IndexByte h11)) ?_)
  refine sv rfl (v_bin rfl rfl b_lss) ?_
  refine s_nil ?_
  refine bf hK ⟨[(0, hI p0), (1, .str p1), (15, hI ((p1).length : Int)), (16, hI a3), (25, .bool (decide (x10 < 0)))], []⟩ ?_
  refine AW.cond rfl (fun hc => ?_) (fun hc => ?_)
  ·obtain ⟨hc, h⟩ := cT hc h
   refine AW.rgs rfl fun K hK => mv rfl rfl ?_
   refine bf hK ⟨[(4, hI 13)], []⟩ ?_
   have h := hr6 _ h
   refine AW.ret ?_
   have h := Option.some.inj h
   subst h
   exact ret_pure (hs := [hI 13]) (.inr rfl) (resT rfl rfl) rfl trivial
  obtain ⟨hc, h⟩ := cF hc h
  refine AW.skip ?_
  refine AW.rg rfl fun K hK => bv rfl (v_bin rfl rfl b_add) (mv rfl rfl ?_)
  refine b_nil (hK _ ?_)
  exact to_L ⟨IntKind.wrap .i64 (a3 + 1), (), h, rfl⟩
 obtain ⟨hc, h⟩ := cF hc h
 refine AW.exit ?_
 exact to_L ⟨(), (), h, rfl⟩
theorem w_encoder_Check {p0 : TLettersBlockInputsRows} {r : Int} (h : m_encoder_Check p0 = some r) : Pure Try.prog 42 [.agg [hI p0.1, hI p0.2.1, hI p0.2.2.1, slE (eSl eToWord) p0.2.2.2]] (· = hI r) := by
 unfold m_encoder_Check at h
 refine Pure.of_body Try.func42 rfl rfl (lb rfl) fun hf => ?_
 unfold Try.f42
 dsimp only [enumS, Nat.reduceAdd]
 refine AW.rgs rfl fun K hK => b_op rfl (o_box rfl rfl rfl ?_)
 refine mv rfl rfl ?_
 refine bf hK ⟨[(1, .fptr [hI p0.1, hI p0.2.1, hI p0.2.2.1, slE (eSl eToWord) p0.2.2.2] 0)], []⟩ ?_
 refine AW.seq (AW.block ?_)
 refine AW.seqJ h (S := Bool) (V := Unit) (fun a v => ⟨[(1, .fptr [hI p0.1, hI p0.2.1, hI p0.2.2.1, slE (eSl eToWord) p0.2.2.2] 0), (7, .bool a)], []⟩) (fun a1 w2 h => ?_) (fun k3 h => ?_)
 ·refine AW.cond rfl (fun hc => ?_) (fun hc => ?_)
  ·have h := ifT hc h
   refine AW.rgs rfl fun K hK => mv rfl rfl ?_
   refine bf hK ⟨[(2, hI 12)], []⟩ ?_
   refine AW.ret ?_
   have h := Option.some.inj h
   subst h
   exact ret_pure (hs := [hI 12]) (.inr rfl) (resT rfl rfl) rfl trivial
  have h := ifF (bF' hc) h
  refine AW.seqJ h (S := Bool) (V := Unit) (fun a v => ⟨[(1, .fptr [hI p0.1, hI p0.2.1, hI p0.2.2.1, slE (eSl eToWord) p0.2.2.2] 0), (16, .bool a)], []⟩) (fun a4 w5 h => ?_) (fun k6 h => ?_)
  ·refine AW.cond rfl (fun hc => ?_) (fun hc => ?_)
   ·have h := ifT hc h
    refine AW.rgs rfl fun K hK => mv rfl rfl ?_
    refine bf hK ⟨[(2, hI 2)], []⟩ ?_
    refine AW.ret ?_
    have h := Option.some.inj h
    subst h
    exact ret_pure (hs := [hI 2]) (.inr rfl) (resT rfl rfl) rfl trivial
   have h := ifF (bF' hc) h
   refine AW.rgs rfl fun K hK => bv rfl (v_fieldAddrF fo40_3 rfl) (bv rfl (v_loadF ty38 rfl (l_lit rfl rfl)) (bv rfl (v_lenF rfl rfl ty38 rfl) (bv rfl (v_bin rfl rfl b_eql) (mv rfl rfl ?_))))
   refine bf hK ⟨[(1, .fptr [hI p0.1, hI p0.2.1, hI p0.2.2.1, slE (eSl eToWord) p0.2.2.2] 0), (35, .bool (decide (((p0.2.2.2).length : Int) = 0)))], []⟩ ?_
   refine AW.cond rfl (fun hc => ?_) (fun hc => ?_)
   ·obtain ⟨hc, h⟩ := cT hc h
    refine AW.rgs rfl fun K hK => mv rfl rfl ?_
    refine bf hK ⟨[(2, hI 5)], []⟩ ?_
    refine AW.ret ?_
    have h := Option.some.inj h
    subst h
    exact ret_pure (hs := [hI 5]) (.inr rfl) (resT rfl rfl) rfl trivial
   obtain ⟨hc, h⟩ := cF hc h
   refine AW.rgs rfl fun K hK => bv rfl (v_fieldAddrF fo40_3 rfl) (bv rfl (v_loadF ty38 rfl (l_lit rfl rfl)) (bv rfl (v_lenF rfl rfl ty38 rfl) (bv rfl (v_bin rfl rfl b_gtr) (mv rfl rfl ?_))))
   refine bf hK ⟨[(1, .fptr [hI p0.1, hI p0.2.1, hI p0.2.2.1, slE (eSl eToWord) p0.2.2.2] 0), (40, .bool (decide (64 < ((p0.2.2.2).length : Int))))], []⟩ ?_
   refine AW.cond rfl (fun hc => ?_) (fun hc => ?_)
   ·obtain ⟨hc, h⟩ := cT hc h
    refine AW.rgs rfl fun K hK => mv rfl rfl ?_
    refine bf hK ⟨[(2, hI 4)], []⟩ ?_
    refine AW.ret ?_
    have h := Option.some.inj h
    subst h
    exact ret_pure (hs := [hI 4]) (.inr rfl) (resT rfl rfl) rfl trivial
   obtain ⟨hc, h⟩ := cF hc h
   refine AW.skip ?_
   refine AW.seq ?_
   refine AW.rgs rfl fun K hK => bv rfl (v_fieldAddrF fo40_3 rfl) (bv rfl (v_loadF ty38 rfl (l_lit rfl rfl)) (bv rfl (v_lenF rfl rfl ty38 rfl) (mv rfl rfl ?_)))
   refine bf hK ⟨[(1, .fptr [hI p0.1, hI p0.2.1, hI p0.2.2.1, slE (eSl eToWord) p0.2.2.2] 0), (46, slE (eSl eToWord) p0.2.2.2), (47, hI ((p0.2.2.2).length : Int)), (48, hI 0)], []⟩ ?_
   refine AW.lpR h (by first | exact up_then | exact up_to) (S := Int) (V := Unit) (fun a v => ⟨[(1, .fptr [hI p0.1, hI p0.2.1, hI p0.2.2.1, slE (eSl eToWord) p0.2.2.2] 0), (46, slE (eSl eToWord) p0.2.2.2), (47, hI ((p0.2.2.2).length : Int)), (48, hI a)], []⟩) ?_ (X := Unit) (W := Unit) (fun a v => ⟨[], []⟩) (fun a32 w33 h => ?_) (fun a7 w8 st9 h hr10=> ?_)
   ·exact to_L ⟨(), rfl⟩
   ·refine AW.rgs rfl fun K hK => mv rfl rfl ?_
    refine bf hK ⟨[(2, hI 0)], []⟩ ?_
    refine AW.ret ?_
    have h := Option.some.inj h
    subst h
    exact ret_pure (hs := [hI 0]) (.inr rfl) (resT rfl rfl) rfl trivial
   refine AW.rgs rfl fun K hK => bv rfl (v_bin rfl rfl b_lss) ?_
   refine bf hK ⟨[(1, .fptr [hI p0.1, hI p0.2.1, hI p0.2.2.1, slE (eSl eToWord) p0.2.2.2] 0), (46, slE (eSl eToWord) p0.2.2.2), (47, hI ((p0.2.2.2).length : Int)), (48, hI a7), (49, .bool (decide (a7 < ((p0.2.2.2).length : Int))))], []⟩ ?_
   refine AW.cseq rfl (fun hc => ?_) (fun hc => ?_)
   ·obtain ⟨hc, h⟩ := cT hc h
    refine AW.skip ?_
    refine AW.seq (AW.block ?_)
    refine AW.rgs rfl fun K hK => ?_
    obtain ⟨x11, h12, h⟩ := bS h
    refine bv rfl (v_idxF ty38 es38 rfl rfl (idx_lt h12)) (bv rfl (v_loadF ty42 rfl (l_cell (eSl eToWord) h12 (o := 0) rfl rfl)) (mv rfl rfl ?_))
    refine bf hK ⟨[(1, .fptr [hI p0.1, hI p0.2.1, hI p0.2.2.1, slE (eSl eToWord) p0.2.2.2] 0), (4, slE eToWord x11), (46, slE (eSl eToWord) p0.2.2.2), (47, hI ((p0.2.2.2).length : Int)), (48, hI a7)], []⟩ ?_
    refine AW.seq ?_
    refine AW.rgs rfl fun K hK => mv rfl rfl (bv rfl (v_lenF rfl rfl ty42 rfl) (bv rfl (v_fieldAddrF fo40_2 rfl) (bv rfl (v_loadF ty3 rfl (l_lit rfl rfl)) (bv rfl (v_bin rfl rfl b_neq) ?_))))
    refine bf hK ⟨[(1, .fptr [hI p0.1, hI p0.2.1, hI p0.2.2.1, slE (eSl eToWord) p0.2.2.2] 0), (4, slE eToWord x11), (46, slE (eSl eToWord) p0.2.2.2), (47, hI ((p0.2.2.2).length : Int)), (48, hI a7), (56, .bool (decide (((x11).length : Int) ≠ p0.2.2.1)))], []⟩ ?_
    refine AW.cond rfl (fun hc => ?_) (fun hc => ?_)
    ·obtain ⟨hc, h⟩ := cT hc h
     refine AW.rgs rfl fun K hK => mv rfl rfl ?_
     refine bf hK ⟨[(2, hI 11)], []⟩ ?_
     have h := hr10 _ h
     refine AW.ret ?_
     have h := Option.some.inj h
     subst h
     exact ret_pure (hs := [hI 11]) (.inr rfl) (resT rfl rfl) rfl trivial
    obtain ⟨hc, h⟩ := cF hc h
    refine AW.skip ?_
    refine AW.rgs rfl fun K hK => mv rfl rfl (bv rfl (v_lenF rfl rfl ty42 rfl) (mv rfl rfl ?_))
    refine bf hK ⟨[(1, .fptr [hI p0.1, hI p0.2.1, hI p0.2.2.1, slE (eSl eToWord) p0.2.2.2] 0), (46, slE (eSl eToWord) p0.2.2.2), (47, hI ((p0.2.2.2).length : Int)), (48, hI a7), (57, slE eToWord x11), (58, hI ((x11).length : Int)), (59, hI 0)], []⟩ ?_
    refine AW.lpR h (by first | exact up_then | exact up_to) (S := Int) (V := Unit) (fun a v => ⟨[(1, .fptr [hI p0.1, hI p0.2.1, hI p0.2.2.1, slE (eSl eToWord) p0.2.2.2] 0), (46, slE (eSl eToWord) p0.2.2.2), (47, hI ((p0.2.2.2).length : Int)), (48, hI a7), (57, slE eToWord x11), (58, hI ((x11).length : Int)), (59, hI a)], []⟩) ?_ (X := Unit) (W := Unit) (fun a v => ⟨[(1, .fptr [hI p0.1, hI p0.2.1, hI p0.2.2.1, slE (eSl eToWord) p0.2.2.2] 0), (46, slE (eSl eToWord) p0.2.2.2), (47, hI ((p0.2.2.2).length : Int)), (48, hI a7)], []⟩) (fun a30 w31 h => ?_) (fun a13 w14 st15 h hr16=> ?_)
    ·exact to_L ⟨(), rfl⟩
    ·refine AW.rg rfl fun K hK => bv rfl (v_bin rfl rfl b_add) (mv rfl rfl ?_)
     refine b_nil (hK _ ?_)
     exact to_L ⟨IntKind.wrap .i64 (a7 + 1), (), h, rfl⟩
    refine AW.rgs rfl fun K hK => bv rfl (v_bin rfl rfl b_lss) ?_
    refine bf hK ⟨[(1, .fptr [hI p0.1, hI p0.2.1, hI p0.2.2.1, slE (eSl eToWord) p0.2.2.2] 0), (46, slE (eSl eToWord) p0.2.2.2), (47, hI ((p0.2.2.2).length : Int)), (48, hI a7), (57, slE eToWord x11), (58, hI ((x11).length : Int)), (59, hI a13), (60, .bool (decide (a13 < ((x11).length : Int))))], []⟩ ?_
    refine AW.cseq rfl (fun hc => ?_) (fun hc => ?_)
    ·obtain ⟨hc, h⟩ := cT hc h
     refine AW.skip ?_
     refine AW.seq (AW.block ?_)
     refine AW.rgs rfl fun K hK => ?_
     obtain ⟨x17, h18, h⟩ := bS h
     refine bv rfl (v_idxF ty42 es42 rfl rfl (idx_lt h18)) (bv rfl (v_loadF ty45 rfl (l_agg eToWord h18 rfl rfl)) ?_)
     refine b_op rfl (o_alloc (fid := 42) (zs := [hI 0, .str nS]) 42006 rfl rfl ty45 rfl (fun v19 => ?_))
     refine b_op rfl (o_store (cs := [hI x17.1, .str x17.2]) (zs := [hI x17.1, .str x17.2]) rfl rfl rfl ty45 rfl rfl rfl rfl rfl ?_)
     refine bf hK ⟨[(1, .fptr [hI p0.1, hI p0.2.1, hI p0.2.2.1, slE (eSl eToWord) p0.2.2.2] 0), (6, .ptr 42006 v19 0), (46, slE (eSl eToWord) p0.2.2.2), (47, hI ((p0.2.2.2).length : Int)), (48, hI a7), (57, slE eToWord x11), (58, hI ((x11).length : Int)), (59, hI a13)], [(42006, v19, .arr 2 45 [hI x17.1, .str x17.2])]⟩ ?_
     refine AW.seq ?_
     refine AW.seqJ h (S := Bool) (V := Unit) (fun a v => ⟨[(1, .fptr [hI p0.1, hI p0.2.1, hI p0.2.2.1, slE (eSl eToWord) p0.2.2.2] 0), (6, .ptr 42006 v19 0), (46, slE (eSl eToWord) p0.2.2.2), (47, hI ((p0.2.2.2).length : Int)), (48, hI a7), (57, slE eToWord x11), (58, hI ((x11).length : Int)), (59, hI a13), (73, .bool a)], [(42006, v19, .arr 2 45 [hI x17.1, .str x17.2])]⟩) (fun a20 w21 h => ?_) (fun k22 h => ?_)
     ·refine AW.cond rfl (fun hc => ?_) (fun hc => ?_)
      ·have h := ifT hc h
       refine AW.rgs rfl fun K hK => mv rfl rfl ?_
       refine bf hK ⟨[(2, hI 25)], []⟩ ?_
       have h := hr16 _ h
       have h := hr10 _ h
       refine AW.ret ?_
       have h := Option.some.inj h
       subst h
       exact ret_pure (hs := [hI 25]) (.inr rfl) (resT rfl rfl) rfl trivial
      have h := ifF (bF' hc) h
      refine AW.skip ?_
      refine AW.seqJ h (S := Bool) (V := Unit) (fun a v => ⟨[(1, .fptr [hI p0.1, hI p0.2.1, hI p0.2.2.1, slE (eSl eToWord) p0.2.2.2] 0), (46, slE (eSl eToWord) p0.2.2.2), (47, hI ((p0.2.2.2).length : Int)), (48, hI a7), (57, slE eToWord x11), (58, hI ((x11).length : Int)), (59, hI a13), (87, .bool a)], []⟩) (fun a23 w24 h => ?_) (fun k25 h => ?_)
      ·refine AW.cond rfl (fun hc => ?_) (fun hc => ?_)
       ·have h := ifT hc h
        refine AW.rgs rfl fun K hK => mv rfl rfl ?_
        refine bf hK ⟨[(2, hI 13)], []⟩ ?_
        have h := hr16 _ h
        have h := hr10 _ h
        refine AW.ret ?_
        have h := Option.some.inj h
        subst h
        exact ret_pure (hs := [hI 13]) (.inr rfl) (resT rfl rfl) rfl trivial
       have h := ifF (bF' hc) h
       refine AW.skip ?_
       refine AW.rg rfl fun K hK => bv rfl (v_bin rfl rfl b_add) (mv rfl rfl ?_)
       refine b_nil (hK _ ?_)
       exact to_L ⟨IntKind.wrap .i64 (a13 + 1), (), h, rfl⟩
      refine AW.rg rfl fun K hK => bv rfl (v_fieldAddrP fo45_1 rfl rfl) (bv rfl (v_loadP ty9 rfl rfl (l_lit rfl rfl)) (bv rfl (v_lenS rfl rfl ty9 rfl) (bv rfl (v_fieldAddrF fo40_1 rfl) (bv rfl (v_loadF ty3 rfl (l_lit rfl rfl)) (bv rfl (v_bin rfl rfl b_neq) ?_)))))
      refine mv rfl rfl ?_
      by_cases hg28 : ((x17.2).length : Int) ≠ p0.2.1
      ·have h := ifT hg28 h
       refine b_F rfl rfl rfl rfl rfl (decide_eq_true hg28) ?_
       refine b_F rfl rfl rfl rfl rfl rfl ?_
       refine b_F rfl rfl rfl rfl rfl rfl ?_
       refine b_F rfl rfl rfl rfl rfl rfl ?_
       refine b_F rfl rfl rfl rfl rfl rfl ?_
       refine b_F rfl rfl rfl rfl rfl rfl ?_
       refine bv rfl (v_pickT rfl rfl rfl) ?_
       refine b_nil (hK _ ?_)
       exact to_L ⟨true, (), h, rfl⟩
      have h := ifF hg28 h
      refine b_T rfl rfl rfl rfl (decide_eq_false hg28) (o_val rfl (v_fieldAddrF fo40_0 rfl) ?_)
      refine b_T rfl rfl rfl rfl rfl (o_val rfl (v_loadF ty3 rfl (l_lit rfl rfl)) ?_)
      refine b_T rfl rfl rfl rfl rfl (o_val rfl (v_fieldAddrP fo45_1 rfl rfl) ?_)
      refine b_T rfl rfl rfl rfl rfl (o_val rfl (v_loadP ty9 rfl rfl (l_lit rfl rfl)) ?_)
      obtain ⟨x26, h27, h⟩ := bS h
      refine b_T rfl rfl rfl rfl rfl (o_call rfl rfl rfl rfl (ACallD.pure0 (w_word_Check h27)) ?_)
      refine b_T rfl rfl rfl rfl rfl (o_val rfl (v_bin rfl rfl b_neq) ?_)
      refine bv rfl (v_pickF rfl rfl rfl) ?_
      refine b_nil (hK _ ?_)
      exact to_L ⟨decide (x26 ≠ 0), (), h, rfl⟩
     refine AW.rg rfl fun K hK => bv rfl (v_fieldAddrP fo45_0 rfl rfl) (bv rfl (v_loadP ty3 rfl rfl (l_lit rfl rfl)) (bv rfl (v_bin rfl rfl b_lss) (mv rfl rfl ?_)))
     by_cases hg29 : x17.1 < 0
     ·have h := ifT hg29 h
      refine b_F rfl rfl rfl rfl rfl (decide_eq_true hg29) ?_
      refine b_F rfl rfl rfl rfl rfl rfl ?_
      refine b_F rfl rfl rfl rfl rfl rfl ?_
      refine b_F rfl rfl rfl rfl rfl rfl ?_
      refine b_F rfl rfl rfl rfl rfl rfl ?_
      refine b_F rfl rfl rfl rfl rfl rfl ?_
      refine bv rfl (v_pickT rfl rfl rfl) ?_
      refine b_nil (hK _ ?_)
      exact to_L ⟨true, (), h, rfl⟩
     have h := ifF hg29 h
     refine b_T rfl rfl rfl rfl (decide_eq_false hg29) (o_val rfl (v_fieldAddrP fo45_0 rfl rfl) ?_)
     refine b_T rfl rfl rfl rfl rfl (o_val rfl (v_loadP ty3 rfl rfl (l_lit rfl rfl)) ?_)
     refine b_T rfl rfl rfl rfl rfl (o_val rfl (v_fieldAddrF fo40_3 rfl) ?_)
     refine b_T rfl rfl rfl rfl rfl (o_val rfl (v_loadF ty38 rfl (l_lit rfl rfl)) ?_)
     refine b_T rfl rfl rfl rfl rfl (o_val rfl (v_lenF rfl rfl ty38 rfl) ?_)
     refine b_T rfl rfl rfl rfl rfl (o_val rfl (v_bin rfl rfl b_geq) ?_)
     refine bv rfl (v_pickF rfl rfl rfl) ?_
     refine b_nil (hK _ ?_)
     exact to_L ⟨decide (((p0.2.2.2).length : Int) ≤ x17.1), (), h, rfl⟩
    obtain ⟨hc, h⟩ := cF hc h
    refine AW.exit ?_
    exact to_L ⟨(), (), h, rfl⟩
   obtain ⟨hc, h⟩ := cF hc h
   refine AW.exit ?_
   exact to_L ⟨(), (), h, rfl⟩
  refine AW.rg rfl fun K hK => bv rfl (v_fieldAddrF fo40_1 rfl) (bv rfl (v_loadF ty3 rfl (l_lit rfl rfl)) (bv rfl (v_bin rfl rfl b_lss) (mv rfl rfl ?_)))
  by_cases hg36 : p0.2.1 < 1
  ·have h := ifT hg36 h
   refine b_F rfl rfl rfl rfl rfl (decide_eq_true hg36) ?_
   refine b_F rfl rfl rfl rfl rfl rfl ?_
   refine b_F rfl rfl rfl rfl rfl rfl ?_
   refine bv rfl (v_pickT rfl rfl rfl) (mv rfl rfl ?_)
   refine b_F rfl rfl rfl rfl rfl rfl ?_
   refine b_F rfl rfl rfl rfl rfl rfl ?_
   refine b_F rfl rfl rfl rfl rfl rfl ?_
   refine bv rfl (v_pickT rfl rfl rfl) (mv rfl rfl ?_)
   refine b_F rfl rfl rfl rfl rfl rfl ?_
   refine b_F rfl rfl rfl rfl rfl rfl ?_
   refine b_F rfl rfl rfl rfl rfl rfl ?_
   refine bv rfl (v_pickT rfl rfl rfl) (mv rfl rfl ?_)
   refine b_nil (hK _ ?_)
   exact to_L ⟨true, (), h, rfl⟩
  have h := ifF hg36 h
  refine b_T rfl rfl rfl rfl (decide_eq_false hg36) (o_val rfl (v_fieldAddrF fo40_1 rfl) ?_)
  refine b_T rfl rfl rfl rfl rfl (o_val rfl (v_loadF ty3 rfl (l_lit rfl rfl)) ?_)
  refine b_T rfl rfl rfl rfl rfl (o_val rfl (v_bin rfl rfl b_gtr) ?_)
  refine bv rfl (v_pickF rfl rfl rfl) (mv rfl rfl ?_)
  by_cases hg35 : 16 < p0.2.1
  ·have h := ifT hg35 h
   refine b_F rfl rfl rfl rfl rfl (decide_eq_true hg35) ?_
   refine b_F rfl rfl rfl rfl rfl rfl ?_
   refine b_F rfl rfl rfl rfl rfl rfl ?_
   refine bv rfl (v_pickT rfl rfl rfl) (mv rfl rfl ?_)
   refine b_F rfl rfl rfl rfl rfl rfl ?_
   refine b_F rfl rfl rfl rfl rfl rfl ?_
   refine b_F rfl rfl rfl rfl rfl rfl ?_
   refine bv rfl (v_pickT rfl rfl rfl) (mv rfl rfl ?_)
   refine b_nil (hK _ ?_)
   exact to_L ⟨true, (), h, rfl⟩
  have h := ifF hg35 h
  refine b_T rfl rfl rfl rfl (decide_eq_false hg35) (o_val rfl (v_fieldAddrF fo40_2 rfl) ?_)
  refine b_T rfl rfl rfl rfl rfl (o_val rfl (v_loadF ty3 rfl (l_lit rfl rfl)) ?_)
  refine b_T rfl rfl rfl rfl rfl (o_val rfl (v_bin rfl rfl b_lss) ?_)
  refine bv rfl (v_pickF rfl rfl rfl) (mv rfl rfl ?_)
  by_cases hg34 : p0.2.2.1 < 1
  ·have h := ifT hg34 h
   refine b_F rfl rfl rfl rfl rfl (decide_eq_true hg34) ?_
   refine b_F rfl rfl rfl rfl rfl rfl ?_
   refine b_F rfl rfl rfl rfl rfl rfl ?_
   refine bv rfl (v_pickT rfl rfl rfl) (mv rfl rfl ?_)
   refine b_nil (hK _ ?_)
   exact to_L ⟨true, (), h, rfl⟩
  have h := ifF hg34 h
  refine b_T rfl rfl rfl rfl (decide_eq_false hg34) (o_val rfl (v_fieldAddrF fo40_2 rfl) ?_)
  refine b_T rfl rfl rfl rfl rfl (o_val rfl (v_loadF ty3 rfl (l_lit rfl rfl)) ?_)
  refine b_T rfl rfl rfl rfl rfl (o_val rfl (v_bin rfl rfl b_gtr) ?_)
  refine bv rfl (v_pickF rfl rfl rfl) (mv rfl rfl ?_)
  refine b_nil (hK _ ?_)
  exact to_L ⟨decide (256 < p0.2.2.1), (), h, rfl⟩
 refine AW.rg rfl fun K hK => bv rfl (v_fieldAddrF fo40_0 rfl) (bv rfl (v_loadF ty3 rfl (l_lit rfl rfl)) (bv rfl (v_bin rfl rfl b_lss) (mv rfl rfl ?_)))
 by_cases hg37 : p0.1 < 1
 ·have h := ifT hg37 h
  refine b_F rfl rfl rfl rfl rfl (decide_eq_true hg37) ?_
  refine b_F rfl rfl rfl rfl rfl rfl ?_
  refine b_F rfl rfl rfl rfl rfl rfl ?_
  refine bv rfl (v_pickT rfl rfl rfl) (mv rfl rfl ?_)
  refine b_nil (hK _ ?_)
  exact to_L ⟨true, (), h, rfl⟩
 have h := ifF hg37 h
 refine b_T rfl rfl rfl rfl (decide_eq_false hg37) (o_val rfl (v_fieldAddrF fo40_0 rfl) ?_)
 refine b_T rfl rfl rfl rfl rfl (o_val rfl (v_loadF ty3 rfl (l_lit rfl rfl)) ?_)
 refine b_T rfl rfl rfl rfl rfl (o_val rfl (v_bin rfl rfl b_gtr) ?_)
 refine bv rfl (v_pickF rfl rfl rfl) (mv rfl rfl ?_)
 refine b_nil (hK _ ?_)
 exact to_L ⟨decide (16 < p0.1), (), h, rfl⟩
theorem w_distance_hamming {p0 : List UInt8} {p1 : List UInt8} {r : Int} (h : m_distance_hamming p0 p1 = some r) : Pure Try.prog 44 [.str p0, .str p1] (· = hI r) := by
 unfold m_distance_hamming at h
 refine Pure.of_body Try.func44 rfl rfl (lb rfl) fun hf => ?_
 unfold Try.f44
 dsimp only [enumS, Nat.reduceAdd]
 refine AW.rgs rfl fun K hK => mv rfl rfl ?_
 refine bf hK ⟨[(0, .str p0), (1, .str p1)], []⟩ ?_
 refine AW.rgs rfl fun K hK => mv rfl rfl ?_
 refine bf hK ⟨[(0, .str p0), (1, .str p1), (5, hI 0)], []⟩ ?_
 refine AW.seq ?_
 refine AW.rgs rfl fun K hK => mv rfl rfl (bv rfl (v_lenS rfl rfl ty9 rfl) (mv rfl rfl ?_))
 refine bf hK ⟨[(0, .str p0), (1, .str p1), (5, hI 0), (8, hI ((p0).length : Int)), (9, hI 0)], []⟩ ?_
 refine AW.lpX h (by first | exact up_then | exact up_to) (S := Int × Int) (V := Unit) (fun a v => ⟨[(0, .str p0), (1, .str p1), (5, hI a.1), (8, hI ((p0).length : Int)), (9, hI a.2)], []⟩) ?_ (X := Int) (W := Unit) (fun a v => ⟨[(5, hI a)], []⟩) (fun a12 w13 h => ?_) (fun a1 w2 st3 h => ?_)
 ·exact to_L ⟨(), rfl⟩
 ·refine AW.rgs rfl fun K hK => mv rfl rfl (mv rfl rfl ?_)
  refine bf hK ⟨[(4, hI a12)], []⟩ ?_
  refine AW.ret ?_
  have h := Option.some.inj h
  subst h
  exact ret_pure (hs := [hI a12]) (.inr rfl) (resT rfl rfl) rfl trivial
 refine AW.rgs rfl fun K hK => bv rfl (v_bin rfl rfl b_lss) ?_
 refine bf hK ⟨[(0, .str p0), (1, .str p1), (5, hI a1.1), (8, hI ((p0).length : Int)), (9, hI a1.2), (10, .bool (decide (a1.2 < ((p0).length : Int))))], []⟩ ?_
 refine AW.cseq rfl (fun hc => ?_) (fun hc => ?_)
 ·obtain ⟨hc, h⟩ := cT hc h
  refine AW.skip ?_
  refine AW.seqJ h (S := Int) (V := Unit) (fun a v => ⟨[(0, .str p0), (1, .str p1), (5, hI a), (8, hI ((p0).length : Int)), (9, hI a1.2)], []⟩) (fun a5 w6 h => ?_) (fun k7 h => ?_)
  ·refine AW.rg rfl fun K hK => bv rfl (v_bin rfl rfl b_add) (mv rfl rfl ?_)
   refine b_nil (hK _ ?_)
   exact to_L ⟨(a5, IntKind.wrap .i64 (a1.2 + 1)), (), h, rfl⟩
  refine AW.block ?_
  refine AW.rgs rfl fun K hK => mv rfl rfl (mv rfl rfl ?_)
  refine bf hK ⟨[(0, .str p0), (1, .str p1), (5, hI a1.1), (6, hI a1.2), (8, hI ((p0).length : Int)), (9, hI a1.2)], []⟩ ?_
  refine AW.dgs 7 follows rfl rfl fun K hK => ?_
  refine sm rfl rfl ?_
  refine sm rfl rfl ?_
  obtain ⟨x8, h9, h⟩ := bS h
  refine sv rfl (v_idxS ty9 rfl rfl h9) ?_
  refine sm rfl rfl ?_
  refine sm rfl rfl ?_
  obtain ⟨x10, h11, h⟩ := bS h
  refine sv rfl (v_idxS ty9 rfl rfl h11) ?_
  refine sv rfl (v_bin rfl rfl b_neq) ?_
  refine s_nil ?_
  refine bf hK ⟨[(0, .str p0), (1, .str p1), (5, hI a1.1), (8, hI ((p0).length : Int)), (9, hI a1.2), (18, .bool (decide ((x8.toNat : Int) ≠ (x10.toNat : Int))))], []⟩ ?_
  refine AW.cond rfl (fun hc => ?_) (fun hc => ?_)
  ·obtain ⟨hc, h⟩ := cT hc h
   refine AW.rg rfl fun K hK => mv rfl rfl (bv rfl (v_bin rfl rfl b_add) (mv rfl rfl ?_))
   refine b_nil (hK _ ?_)
   exact to_L ⟨IntKind.wrap .i64 (a1.1 + 1), (), h, rfl⟩
  obtain ⟨hc, h⟩ := cF hc h
  refine AW.skip ?_
  exact to_L ⟨a1.1, (), h, rfl⟩
 obtain ⟨hc, h⟩ := cF hc h
 refine AW.exit ?_
 exact to_L ⟨a1.1, (), h, rfl⟩
end Go.AW

namespace Go.AW
open Go
set_option linter.unusedVariables false
def writ (e : TLettersBlockInputsRows) (s n : Int) : List (List (List UInt8)) := (e.2.2.2.getD s.toNat []).map fun x => folF e.2.2.2 (n - 1).toNat x.1 x.2
def FreeOk (e : TLettersBlockInputsRows) (s n : Int) : Prop := RowsOk e.2.2.2 ∧ (0 ≤ s ∧ s < (e.2.2.2.length : Int)) ∧ (1 ≤ n ∧ n ≤ 16) ∧ (0 ≤ e.2.2.1 ∧ e.2.2.1 ≤ 1000) ∧ ((e.2.2.2.getD s.toNat []).length : Int) = e.2.2.1 ∧ ∀ x ∈ e.2.2.2.getD s.toNat [], (folF e.2.2.2 (n - 1).toNat x.1 x.2).length ≤ 1000000
noncomputable def m_free_tail (p0 : List (List (List UInt8))) (p1 : TLettersBlockInputsRows) (p2 : Int) : Option (Int × Int) :=
 (loopW (S := Int × Int) (X := Int) (fun a1 =>
     if a1.2 < ((p0).length : Int) then
      (idx p0 a1.2).bind fun x5 =>
      if 0 ≤ (0 : Int) ∧ (0 : Int) ≤ a1.2 ∧ a1.2 ≤ (p0.length : Int) then
       (loopW (S := Int × Int) (X := Int) (fun a8 =>
           if a8.2 < (((p0.take (a1.2).toNat).drop (0 : Int).toNat).length : Int) then
            (idx ((p0.take (a1.2).toNat).drop (0 : Int).toNat) a8.2).bind fun x12 =>
            (loopW (S := Int × Int) (X := Int) (fun a14 =>
                if a14.2 < ((x5).length : Int) then
                 (idx x5 a14.2).bind fun x18 =>
                 (loopW (S := Int × Int) (X := Int) (fun a20 =>
                     if a20.2 < ((x12).length : Int) then
                      (idx x12 a20.2).bind fun x24 =>
                      (m_distance_hamming x18 x24).bind fun x26 =>
                      some (Stp.next (min a20.1 x26, IntKind.wrap .i64 (a20.2 + 1)))
                     else
                      some (Stp.exit a20.1)) (a14.1, 0)).bind fun a28 =>
                 some (Stp.next (a28, IntKind.wrap .i64 (a14.2 + 1)))
                else
                 some (Stp.exit a14.1)) (a8.1, 0)).bind fun a30 =>
            some (Stp.next (a30, IntKind.wrap .i64 (a8.2 + 1)))
           else
            some (Stp.exit a8.1)) (a1.1, 0)).bind fun a32 =>
       some (Stp.next (a32, IntKind.wrap .i64 (a1.2 + 1)))
      else none
     else
      some (Stp.exit a1.1)) (IntKind.wrap .i64 (p2 * p1.2.1), 0)).bind fun a34 =>
 some (a34, 0)
open Classical in
noncomputable def m_distance_Free (p0 : TLettersBlockInputsRows) (p1 : Int) (p2 : Int) : Option (Int × Int) :=
 (m_encoder_Check p0).bind fun x1 =>
 if x1 ≠ 0 then
  some (0, 1)
 else
  jp (fun (a3 : Bool) =>
    if a3 = true then
     some (0, 25)
    else
     jp (fun (a6 : Bool) =>
       if a6 = true then
        some (0, 2)
       else
        if p0.2.2.1 = 1 then
         some (0, 5)
        else
         lpO (loopW (S := Int × Int) (X := Ou (Unit) (Int × Int)) (fun a9 =>
             if a9.2 < p2 then
              if 256 < (IntKind.wrap .i64 (a9.1 * p0.2.2.1)) then
               some (Stp.exit (Ou.ret (0, 4)))
              else
               some (Stp.next (IntKind.wrap .i64 (a9.1 * p0.2.2.1), IntKind.wrap .i64 (a9.2 + 1)))
             else
              some (Stp.exit (Ou.go ()))) (1, 0)) (fun a13 =>
             if FreeOk p0 p1 p2 then m_free_tail (writ p0 p1 p2) p0 p2 else none) some)
       fun k8 =>
      if p2 < 1 then
       k8 true
      else
       k8 (decide (16 < p2)))
    fun k5 =>
   if p1 < 0 then
    k5 true
   else
    k5 (decide (((p0.2.2.2).length : Int) ≤ p1))
end Go.AW
namespace Go.AW
open Go Go.Proofs
set_option linter.unusedVariables false
set_option maxHeartbeats 4000000 in
set_option maxRecDepth 100000 in
theorem w_distance_Free {p0 : TLettersBlockInputsRows} {p1 : Int} {p2 : Int} {r : Int × Int} (h : m_distance_Free p0 p1 p2 = some r) : Pure Try.prog 18 [HV.agg [HV.int .i64 p0.1, HV.int .i64 p0.2.1, HV.int .i64 p0.2.2.1, slE (eSl eToWord) p0.2.2.2], HV.int .i64 p1, HV.int .i64 p2] (· = HV.tup [HV.int .i64 r.1, HV.int .i64 r.2]) := by
 unfold m_distance_Free at h
 refine Pure.of_body Try.func18 rfl rfl (Nat.le_of_ble_eq_true rfl) fun hf => ?_
 unfold Try.f18
 dsimp only [enumS, Nat.reduceAdd]
 refine AW.rgs rfl fun K hK => ?_
 refine b_op rfl (o_box rfl rfl rfl ?_)
 refine mv rfl rfl ?_
 refine mv rfl rfl ?_
 refine b_fin hK (s' := ⟨[(1, HV.int .i64 p1), (2, HV.int .i64 p2), (3, HV.fptr [HV.int .i64 p0.1, HV.int .i64 p0.2.1, HV.int .i64 p0.2.2.1, slE (eSl eToWord) p0.2.2.2] 0)], []⟩) (le_q rfl rfl) ?_
 clear hK K
 refine AW.seq (AW.block ?_)
 refine AW.rgs rfl fun K hK => ?_
 refine bv rfl (v_loadF ty40 rfl (l_litA rfl (Nat.le_of_ble_eq_true rfl) rfl)) ?_
 obtain ⟨x1, h2, h⟩ := bS h
 refine b_op rfl (o_call rfl rfl rfl rfl (ACallD.pure0 (w_encoder_Check h2)) ?_)
 refine bv rfl (v_bin rfl rfl b_neq) ?_
 refine mv rfl rfl ?_
 refine b_fin hK (s' := ⟨[(1, HV.int .i64 p1), (2, HV.int .i64 p2), (3, HV.fptr [HV.int .i64 p0.1, HV.int .i64 p0.2.1, HV.int .i64 p0.2.2.1, slE (eSl eToWord) p0.2.2.2] 0), (22, HV.bool (decide (x1 ≠ 0)))], []⟩) (le_q rfl rfl) ?_
 clear hK K
 refine AW.cond rfl (fun hc => ?_) (fun hc => ?_)
 ·have hc := of_decide_eq_true hc
  have h := ifT hc h
  refine AW.rgs rfl fun K hK => ?_
  refine mv rfl rfl ?_
  refine mv rfl rfl ?_
  refine b_fin hK (s' := ⟨[(6, HV.int .i64 0), (7, HV.int .i64 1)], []⟩) (le_q rfl rfl) ?_
  clear hK K
  refine AW.ret ?_
  have h := Option.some.inj h
  subst h
  exact ret_pure (hs := [HV.int .i64 0, HV.int .i64 1]) (q := HV.tup [HV.int .i64 0, HV.int .i64 1]) (.inr rfl) (resT rfl (resT rfl rfl)) rfl ⟨trivial, trivial, trivial⟩
 have hc := of_decide_eq_false hc
 have h := ifF hc h
 refine AW.seqJ h (S := Bool) (V := Unit) (fun a v => ⟨[(1, HV.int .i64 p1), (2, HV.int .i64 p2), (3, HV.fptr [HV.int .i64 p0.1, HV.int .i64 p0.2.1, HV.int .i64 p0.2.2.1, slE (eSl eToWord) p0.2.2.2] 0), (26, HV.bool a)], []⟩) (fun a3 w4 h => ?_) (fun k5 h => ?_)
 ·refine AW.cond rfl (fun hc => ?_) (fun hc => ?_)
  ·have h := ifT hc h
   refine AW.rgs rfl fun K hK => ?_
   refine mv rfl rfl ?_
   refine mv rfl rfl ?_
   refine b_fin hK (s' := ⟨[(6, HV.int .i64 0), (7, HV.int .i64 25)], []⟩) (le_q rfl rfl) ?_
   clear hK K
   refine AW.ret ?_
   have h := Option.some.inj h
   subst h
   exact ret_pure (hs := [HV.int .i64 0, HV.int .i64 25]) (q := HV.tup [HV.int .i64 0, HV.int .i64 25]) (.inr rfl) (resT rfl (resT rfl rfl)) rfl ⟨trivial, trivial, trivial⟩
  have h := ifF (bF' hc) h
  refine AW.seqJ h (S := Bool) (V := Unit) (fun a v => ⟨[(1, HV.int .i64 p1), (2, HV.int .i64 p2), (3, HV.fptr [HV.int .i64 p0.1, HV.int .i64 p0.2.1, HV.int .i64 p0.2.2.1, slE (eSl eToWord) p0.2.2.2] 0), (36, HV.bool a)], []⟩) (fun a6 w7 h => ?_) (fun k8 h => ?_)
  ·refine AW.cond rfl (fun hc => ?_) (fun hc => ?_)
   ·have h := ifT hc h
    refine AW.rgs rfl fun K hK => ?_
    refine mv rfl rfl ?_
    refine mv rfl rfl ?_
    refine b_fin hK (s' := ⟨[(6, HV.int .i64 0), (7, HV.int .i64 2)], []⟩) (le_q rfl rfl) ?_
    clear hK K
    refine AW.ret ?_
    have h := Option.some.inj h
    subst h
    exact ret_pure (hs := [HV.int .i64 0, HV.int .i64 2]) (q := HV.tup [HV.int .i64 0, HV.int .i64 2]) (.inr rfl) (resT rfl (resT rfl rfl)) rfl ⟨trivial, trivial, trivial⟩
   have h := ifF (bF' hc) h
   refine AW.rgs rfl fun K hK => ?_
   refine bv rfl (v_fieldAddrF fo40_2 rfl) ?_
   refine bv rfl (v_loadF ty3 rfl (l_lit rfl rfl)) ?_
   refine bv rfl (v_bin rfl rfl b_eql) ?_
   refine mv rfl rfl ?_
   refine b_fin hK (s' := ⟨[(1, HV.int .i64 p1), (2, HV.int .i64 p2), (3, HV.fptr [HV.int .i64 p0.1, HV.int .i64 p0.2.1, HV.int .i64 p0.2.2.1, slE (eSl eToWord) p0.2.2.2] 0), (43, HV.bool (decide (p0.2.2.1 = 1)))], []⟩) (le_q rfl rfl) ?_
   clear hK K
   refine AW.cond rfl (fun hc => ?_) (fun hc => ?_)
   ·have hc := of_decide_eq_true hc
    have h := ifT hc h
    refine AW.rgs rfl fun K hK => ?_
    refine mv rfl rfl ?_
    refine mv rfl rfl ?_
    refine b_fin hK (s' := ⟨[(6, HV.int .i64 0), (7, HV.int .i64 5)], []⟩) (le_q rfl rfl) ?_
    clear hK K
    refine AW.ret ?_
    have h := Option.some.inj h
    subst h
    exact ret_pure (hs := [HV.int .i64 0, HV.int .i64 5]) (q := HV.tup [HV.int .i64 0, HV.int .i64 5]) (.inr rfl) (resT rfl (resT rfl rfl)) rfl ⟨trivial, trivial, trivial⟩
   have hc := of_decide_eq_false hc
   have h := ifF hc h
   refine AW.skip ?_
   refine AW.rgs rfl fun K hK => ?_
   refine mv rfl rfl ?_
   refine b_fin hK (s' := ⟨[(1, HV.int .i64 p1), (2, HV.int .i64 p2), (3, HV.fptr [HV.int .i64 p0.1, HV.int .i64 p0.2.1, HV.int .i64 p0.2.2.1, slE (eSl eToWord) p0.2.2.2] 0), (8, HV.int .i64 1)], []⟩) (le_q rfl rfl) ?_
   clear hK K
   refine AW.seq ?_
   refine AW.rgs rfl fun K hK => ?_
   refine mv rfl rfl ?_
   refine mv rfl rfl ?_
   refine b_fin hK (s' := ⟨[(1, HV.int .i64 p1), (2, HV.int .i64 p2), (3, HV.fptr [HV.int .i64 p0.1, HV.int .i64 p0.2.1, HV.int .i64 p0.2.2.1, slE (eSl eToWord) p0.2.2.2] 0), (8, HV.int .i64 1), (47, HV.int .i64 p2), (48, HV.int .i64 0)], []⟩) (le_q rfl rfl) ?_
   clear hK K
   refine AW.lpR h (by first | exact up_then | exact up_to) (S := Int × Int) (V := Unit) (fun a v => ⟨[(1, HV.int .i64 p1), (2, HV.int .i64 p2), (3, HV.fptr [HV.int .i64 p0.1, HV.int .i64 p0.2.1, HV.int .i64 p0.2.2.1, slE (eSl eToWord) p0.2.2.2] 0), (8, HV.int .i64 a.1), (47, HV.int .i64 p2), (48, HV.int .i64 a.2)], []⟩) ?_ (X := Unit) (W := Unit) (fun a v => ⟨[(1, HV.int .i64 p1), (2, HV.int .i64 p2), (3, HV.fptr [HV.int .i64 p0.1, HV.int .i64 p0.2.1, HV.int .i64 p0.2.2.1, slE (eSl eToWord) p0.2.2.2] 0)], []⟩) (fun a13 w14 h => ?_) (fun a9 w10 st11 h hr12=> ?_)
   ·exact to_le (s' := ⟨[(1, HV.int .i64 p1), (2, HV.int .i64 p2), (3, HV.fptr [HV.int .i64 p0.1, HV.int .i64 p0.2.1, HV.int .i64 p0.2.2.1, slE (eSl eToWord) p0.2.2.2] 0), (8, HV.int .i64 1), (47, HV.int .i64 p2), (48, HV.int .i64 0)], []⟩) (AS.le_of ⟨rfl, rfl, rfl, rfl, rfl, rfl, trivial⟩ trivial) ⟨(), rfl⟩
   ·split at h
    case isFalse => cases h
    rename_i hok
    obtain ⟨hR, hs, hn, hI, hlen, hfo⟩ := hok
    obtain ⟨L0, B0, I0, rows⟩ := p0
    dsimp only at hR hs hn hI hlen hfo h ⊢
    obtain ⟨In, rfl⟩ := Int.eq_ofNat_of_zero_le hI.1
    have hsl : p1.toNat < rows.length := by omega
    have hgd : rows.getD p1.toNat [] = rows[p1.toNat] := by rw [List.getD_eq_getElem?_getD, List.getElem?_eq_getElem hsl]; rfl
    have hidx : idx rows p1 = some rows[p1.toNat] := by
      unfold idx
      rw [if_pos hs.1, List.getElem?_eq_getElem hsl]
    have hrx := (hR.2 _ (List.getElem_mem hsl)).2
    rw [hgd] at hlen hfo
    have hW : writ (L0, B0, (In : Int), rows) p1 p2 = rows[p1.toNat].map fun x => folF rows (p2 - 1).toNat x.1 x.2 := by unfold writ; dsimp only; rw [hgd]
    rw [hW] at h
    generalize rows[p1.toNat] = row at hlen hfo hidx hrx h
    have hrl : row.length = In := by omega
    refine AW.rgs rfl fun K hK => ?_
    refine bv rfl (v_fieldAddrF fo40_2 rfl) ?_
    refine bv rfl (v_loadF ty3 rfl (l_lit rfl rfl)) ?_
    refine b_op rfl (o_makeE (fid := 18) (encM fun _ : Unit => HV.v (.slice none 0 0)) () 18059 rfl rfl ty89 rfl rfl ty22 rfl rfl (show 0 ≤ (In : Int) ∧ (In : Int) ≤ (In : Int) ∧ (In : Int) * ((24 : Nat) : Int) ≤ 281474976710656 by omega) (fun v59 => ?_))
    refine b_op rfl (o_alloc (fid := 18) (zs := [HV.v (.slice none 0 0)]) 18009 rfl rfl ty89 rfl (fun v9 => ?_))
    refine b_op rfl (o_store (cs := [HV.ar 18059 v59 1 0 (List.replicate (In : Int).toNat ()).length]) (zs := [HV.ar 18059 v59 1 0 (List.replicate (In : Int).toNat ()).length]) rfl rfl rfl ty89 rfl rfl rfl rfl rfl ?_)
    refine b_fin hK (s' := ⟨[(1, HV.int .i64 p1), (2, HV.int .i64 p2), (3, eFp (L0, B0, (In : Int), rows)), (9, HV.ptr 18009 v9 0)], [(18009, v9, .arr 1 89 [HV.ar 18059 v59 1 0 (List.replicate (In : Int).toNat ()).length]), (18059, v59, .arr 1 22 ((List.replicate (In : Int).toNat ()).map fun _ => HV.v (.slice none 0 0)))]⟩) (le_q rfl rfl) ?_
    clear hK K
    simp only [Int.toNat_natCast, List.length_replicate, List.map_replicate]
    refine AW.to (to_rowsE (en := eSt) (et := 9) 18059 v59 22 [(18009, v9, .arr 1 89 [HV.ar 18059 v59 1 0 In])] In (fun i => by unfold rid; omega) (fun i => by rw [hget_tl (by unfold rid; omega)]; rfl) rfl In [] (by simp) (fun i v l hi => by simp at hi) (fun id x hx => leH_get (l' := [(18059, v59, .arr 1 22 (List.replicate In (HV.v (.slice none 0 0)))), (18009, v9, .arr 1 89 [HV.ar 18059 v59 1 0 In])]) ⟨rfl, rfl, trivial⟩ id x hx) fun rs0 hrl0 hrs0 => ?_)
    refine AW.rgs rfl fun K hK => ?_
    refine b_op rfl (o_alloc (fid := 18) (zs := [HV.v .nilFunc]) 18010 rfl rfl ty90 rfl (fun v10 => ?_))
    refine b_nil (hK _ ?_)
    clear hK K
    refine AW.rgs rfl fun K hK => ?_
    refine bv rfl (v_func rfl rfl) ?_
    refine b_op rfl (o_store (cs := [HV.fn (.func 43) [] (fcaps v9 v10 (L0, B0, (In : Int), rows))]) (zs := [HV.fn (.func 43) [] (fcaps v9 v10 (L0, B0, (In : Int), rows))]) rfl rfl rfl ty90 rfl rfl rfl rfl rfl ?_)
    refine b_nil (hK _ (AW.to (to_le (s' := ⟨[(1, HV.int .i64 p1), (2, HV.int .i64 p2), (3, eFp (L0, B0, (In : Int), rows)), (9, HV.ptr 18009 v9 0), (10, HV.ptr 18010 v10 0)], hF v9 v59 v10 In (L0, B0, (In : Int), rows) rs0⟩) ⟨leS_get ⟨rfl, rfl, rfl, rfl, rfl, trivial⟩, leH_get ⟨rfl, rfl, rfl, leH_rowsE _ 0 fun i v l hi => ?_⟩⟩ ?_)))
    · show hget ((18010, v10, _) :: (18010, v10, _) :: (18059, v59, .arr 1 22 (hdrE eSt 0 rs0)) :: ([(18009, v9, .arr 1 89 [HV.ar 18059 v59 1 0 In])] ++ rowsOE eSt 9 0 rs0)) _ = _
      rw [Nat.zero_add, hget_tl (by unfold rid; omega), hget_tl (by unfold rid; omega), hget_tl (by unfold rid; omega), List.singleton_append, hget_tl (by unfold rid; omega)]
      have := hget_rowsE (en := eSt) (et := 9) 0 hi
      rwa [Nat.zero_add] at this
    clear hK K
    refine AW.seq ?_
    refine AW.rgs rfl fun K hK => ?_
    refine bv rfl (v_fieldAddrF fo40_3 rfl) ?_
    refine bv rfl (v_loadF ty38 rfl (l_lit rfl rfl)) ?_
    refine mv rfl rfl ?_
    refine bv rfl (v_idxF ty38 es38 rfl rfl (idx_lt hidx)) ?_
    refine bv rfl (v_loadF ty42 rfl (l_cell (eSl eToWord) hidx (o := 0) rfl rfl)) ?_
    refine bv rfl (v_lenF rfl rfl ty42 rfl) ?_
    refine mv rfl rfl ?_
    refine b_nil (hK _ (AW.to (to_le (s' := ⟨[(2, HV.int .i64 p2), (3, eFp (L0, B0, (In : Int), rows)), (9, HV.ptr 18009 v9 0), (10, HV.ptr 18010 v10 0), (65, slE eToWord row), (66, HV.int .i64 (row.length : Int)), (67, HV.int .i64 0)], hF v9 v59 v10 In (L0, B0, (In : Int), rows) rs0⟩) ⟨leS_get ⟨rfl, rfl, rfl, rfl, rfl, rfl, rfl, trivial⟩, fun _ _ h => h⟩ ?_)))
    clear hK K
    refine AW.block ?_
    refine AW.loopS (fun a : Nat × RwsE (List UInt8) => ⟨[(2, HV.int .i64 p2), (3, eFp (L0, B0, (In : Int), rows)), (9, HV.ptr 18009 v9 0), (10, HV.ptr 18010 v10 0), (65, slE eToWord row), (66, HV.int .i64 (row.length : Int)), (67, HV.int .i64 (a.1 : Int))], hF v9 v59 v10 In (L0, B0, (In : Int), rows) a.2⟩)
      (fun a => a.1 ≤ row.length ∧ a.2.length = In ∧ ∀ (i v : Nat) (l : List (List UInt8)), a.2[i]? = some (v, l) → l = if i < a.1 then (row.map fun x => folF rows (p2 - 1).toNat x.1 x.2).getD i [] else []) (fun a => row.length - a.1) (0, rs0) (AS.le_refl _) ⟨Nat.zero_le _, hrl0, fun i v l hi => by rw [hrs0 i v l hi]; rfl⟩ ?_
    clear hrl0 hrs0 rs0
    rintro ⟨i, rs⟩ ⟨hi, hrs, hrw⟩
    dsimp only at hi hrs hrw ⊢
    have hnxt : IntKind.wrap .i64 ((i : Int) + 1) = ((i + 1 : Nat) : Int) := by rw [w64 (by omega) (by omega)]; omega
    refine AW.rgs rfl fun K hK => ?_
    refine bv rfl (v_bin rfl rfl b_lss) ?_
    refine b_nil (hK _ (AW.to (to_le (s' := ⟨[(2, HV.int .i64 p2), (3, eFp (L0, B0, (In : Int), rows)), (9, HV.ptr 18009 v9 0), (10, HV.ptr 18010 v10 0), (65, slE eToWord row), (66, HV.int .i64 (row.length : Int)), (67, HV.int .i64 (i : Int)), (68, HV.bool (decide ((i : Int) < (row.length : Int))))], hF v9 v59 v10 In (L0, B0, (In : Int), rows) rs⟩) ⟨leS_get ⟨rfl, rfl, rfl, rfl, rfl, rfl, rfl, rfl, trivial⟩, fun _ _ h => h⟩ ?_)))
    clear hK K
    refine AW.cseq rfl (fun hc => ?_) (fun hc => ?_)
    · have hc := of_decide_eq_true hc
      have hil : i < row.length := by omega
      obtain ⟨hx1, hx2⟩ := hrx _ (List.getElem_mem hil)
      have hxf := hfo _ (List.getElem_mem hil)
      have hxi : idx row (i : Int) = some row[i] := by rw [idx_nat, List.getElem?_eq_getElem hil]
      have hmi : (row.map fun x => folF rows (p2 - 1).toNat x.1 x.2).getD i [] = folF rows (p2 - 1).toNat row[i].1 row[i].2 := by
        rw [List.getD_eq_getElem?_getD, List.getElem?_eq_getElem (by simpa using hil)]
        simp
      generalize hX : row[i] = x at hx1 hx2 hxf hxi hmi
      have hfl : i < rs.length := by omega
      obtain ⟨⟨rv, l⟩, hrow⟩ : ∃ b, rs[i]? = some b := ⟨_, List.getElem?_eq_getElem hfl⟩
      have hl0 : l = [] := by rw [hrw _ _ _ hrow, if_neg (by omega)]
      subst hl0
      have hcall := follow_call (v9 := v9) (v59 := v59) (v10 := v10) (In := In) (e := (L0, B0, (In : Int), rows)) (f := i) hR (p2 - 1).toNat x.1 x.2 rs rv [] hx1 hrow hrs (by omega) (by simpa using hxf) (by omega)
      rw [List.nil_append, show (((p2 - 1).toNat : Nat) : Int) = p2 - 1 by omega] at hcall
      refine AW.skip ?_
      refine AW.seq (AW.block ?_)
      refine AW.rgs rfl fun K hK => ?_
      refine mv rfl rfl ?_
      refine bv rfl (v_idxF ty42 es42 rfl rfl (idx_lt hxi)) ?_
      refine bv rfl (v_loadF ty45 rfl (l_agg eToWord hxi rfl rfl)) ?_
      refine b_op rfl (o_alloc (fid := 18) (zs := [HV.int .i64 0, HV.str []]) 18012 rfl rfl ty45 rfl (fun v12 => ?_))
      refine mv rfl rfl ?_
      refine b_op rfl (o_store (cs := cToWord x) (zs := cToWord x) rfl rfl rfl ty45 rfl rfl rfl rfl rfl ?_)
      refine b_nil (hK _ (AW.to (to_le (s' := ⟨[(11, HV.int .i64 (i : Int)), (12, HV.ptr 18012 v12 0), (2, HV.int .i64 p2), (3, eFp (L0, B0, (In : Int), rows)), (9, HV.ptr 18009 v9 0), (10, HV.ptr 18010 v10 0), (65, slE eToWord row), (66, HV.int .i64 (row.length : Int)), (67, HV.int .i64 (i : Int))], (18012, v12, .arr 2 45 (cToWord x)) :: hF v9 v59 v10 In (L0, B0, (In : Int), rows) rs⟩) ⟨leS_get ⟨rfl, rfl, rfl, rfl, rfl, rfl, rfl, rfl, rfl, trivial⟩, le_shadow⟩ ?_)))
      clear hK K
      have hgF : ∀ y, hget (hF v9 v59 v10 In (L0, B0, (In : Int), rows) rs) 18012 = some y → False := fun y hy => by
        rw [hget_tl (by decide), hget_tl (by decide), hget_tl (by decide), hget_rows_noE _ _ fun i _ => by unfold rid; omega] at hy
        cases hy
      have hwn : IntKind.wrap .i64 (p2 - 1) = p2 - 1 := w64 (by omega) (by omega)
      refine AW.rg rfl fun K hK => ?_
      refine bv rfl (v_loadP ty90 rfl rfl (l_lit rfl rfl)) ?_
      refine bv rfl (v_fieldAddrP fo45_0 rfl rfl) ?_
      refine bv rfl (v_loadP ty3 rfl rfl (l_lit rfl rfl)) ?_
      refine mv rfl rfl ?_
      refine mv rfl rfl ?_
      refine bv rfl (v_bin rfl rfl b_sub) ?_
      rw [hwn]
      refine bv rfl (v_fieldAddrP fo45_1 rfl rfl) ?_
      refine bv rfl (v_loadP ty9 rfl rfl (l_lit rfl rfl)) ?_
      refine bops_le (s' := ⟨[(72, HV.fn (.func 43) [] (fcaps v9 v10 (L0, B0, (In : Int), rows))), (74, HV.int .i64 x.1), (75, HV.int .i64 (i : Int)), (77, HV.int .i64 (p2 - 1)), (79, HV.str x.2), (2, HV.int .i64 p2), (3, eFp (L0, B0, (In : Int), rows)), (9, HV.ptr 18009 v9 0), (10, HV.ptr 18010 v10 0), (65, slE eToWord row), (66, HV.int .i64 (row.length : Int)), (67, HV.int .i64 (i : Int))], hF v9 v59 v10 In (L0, B0, (In : Int), rows) rs⟩) ⟨leS_get ⟨rfl, rfl, rfl, rfl, rfl, rfl, rfl, rfl, rfl, rfl, rfl, rfl, trivial⟩, fun id y hy => ?_⟩ ?_
      · by_cases j : id = 18012
        · subst j; exact (hgF _ hy).elim
        · rw [hget_tl j]; exact hy
      refine b_op rfl (o_callA rfl rfl rfl rfl (hcall.mono fun r H' he => ?_))
      obtain ⟨rfl, v3, hle3⟩ := he
      refine b_nil (hK _ (AW.to (to_le (s' := ⟨[(2, HV.int .i64 p2), (3, eFp (L0, B0, (In : Int), rows)), (9, HV.ptr 18009 v9 0), (10, HV.ptr 18010 v10 0), (65, slE eToWord row), (66, HV.int .i64 (row.length : Int)), (67, HV.int .i64 (i : Int))], hF v9 v59 v10 In (L0, B0, (In : Int), rows) (rs.set i (v3, folF rows (p2 - 1).toNat x.1 x.2))⟩) ⟨leS_get ⟨rfl, rfl, rfl, rfl, rfl, rfl, rfl, trivial⟩, hle3⟩ ?_)))
      clear hK K
      refine AW.rg rfl fun K hK => ?_
      refine bv rfl (v_bin rfl rfl b_add) ?_
      refine mv rfl rfl ?_
      refine b_nil (hK _ ?_)
      clear hK K
      refine ⟨(i + 1, rs.set i (v3, folF rows (p2 - 1).toNat x.1 x.2)), ⟨by dsimp only; omega, by dsimp only; rw [List.length_set]; exact hrs, fun j v l hj => ?_⟩, by dsimp only; omega, ⟨leS_get ⟨rfl, rfl, rfl, rfl, rfl, rfl, by rw [← hnxt]; rfl, trivial⟩, fun _ _ h => h⟩⟩
      dsimp only at hj ⊢
      by_cases ej : i = j
      · subst ej
        rw [List.getElem?_set_self hfl] at hj
        cases hj
        rw [if_pos (by omega), hmi]
      · rw [List.getElem?_set_ne ej] at hj
        rw [hrw _ _ _ hj]
        by_cases c : j < i
        · rw [if_pos c, if_pos (by omega)]
        · rw [if_neg c, if_neg (by omega)]
    have hc := of_decide_eq_false hc
    have hie : i = row.length := by omega
    subst hie
    have hLL : rs.map (·.2) = row.map fun x => folF rows (p2 - 1).toNat x.1 x.2 := by
      refine List.ext_getElem (by simp; omega) fun j h1 h2 => ?_
      have hjr : j < rs.length := by simpa using h1
      have hg : rs[j]? = some (rs[j].1, rs[j].2) := List.getElem?_eq_getElem hjr
      have := hrw j _ _ hg
      rw [if_pos (by omega), List.getD_eq_getElem?_getD, List.getElem?_eq_getElem h2] at this
      simpa using this
    generalize (row.map fun x => folF rows (p2 - 1).toNat x.1 x.2) = WL at hLL h
    refine AW.exit ?_
    refine AW.to (to_frz 4 ((18009, v9, .arr 1 89 [HV.ar 18059 v59 1 0 In]) :: (18059, v59, .arr 1 22 (hdrE eSt 0 rs)) :: rowsOE eSt 9 0 rs) ⟨[(2, HV.int .i64 p2), (3, eFp (L0, B0, (In : Int), rows)), (9, HV.fptr [slE (eSl eSt) WL] 0)], []⟩ ⟨⟨_, rfl, rfl⟩, ⟨_, rfl, rfl⟩, ⟨_, rfl, ?_⟩, trivial⟩ trivial ⟨rfl, rfl, leH_rowsE _ 0 fun i v l hi => ?_⟩ ⟨rfl, rfl, noneH_rows fun i _ => rfl⟩ ?_)
    · have e1 : hget ((18009, v9, .arr 1 89 [HV.ar 18059 v59 1 0 In]) :: (18059, v59, .arr 1 22 (hdrE eSt 0 rs)) :: rowsOE eSt 9 0 rs) 18059 = some (v59, .arr 1 22 (hdrE eSt 0 rs)) := rfl
      generalize hD : ((18009, v9, .arr 1 89 [HV.ar 18059 v59 1 0 In]) :: (18059, v59, .arr 1 22 (hdrE eSt 0 rs)) :: rowsOE eSt 9 0 rs : Heap) = D at e1
      have e0 : hget D 18009 = some (v9, .arr 1 89 [HV.ar 18059 v59 1 0 In]) := by rw [← hD]; rfl
      have e2 : ∀ i v l, rs[i]? = some (v, l) → hget D (rid (0 + i)) = some (v, .arr 1 9 (eSt.E l)) := fun i v l hi => by
        rw [← hD, hget_tl (by unfold rid; omega), hget_tl (by unfold rid; omega)]
        exact hget_rowsE (en := eSt) (et := 9) 0 hi
      have hfr : frz 3 D (HV.ar 18059 v59 1 0 In) = slE (eSl eSt) WL := by
        have hz : (hdrE eSt 0 rs).map (frz 2 D) = (rs.map (·.2)).map (slE eSt) := frz_rowsN e2 fun _ => rfl
        show (match hget D 18059 with
          | some (ver', .arr _ _ cs) => if v59 = ver' ∧ 0 + In * 1 ≤ cs.length then HV.sl 1 In (((cs.drop 0).take (In * 1)).map (frz 2 D)) else _
          | _ => _) = _
        rw [e1]
        simp only
        rw [if_pos ⟨trivial, by rw [hdr_lenE]; omega⟩, List.drop_zero, List.take_of_length_le (by rw [hdr_lenE]; omega), hz, hLL]
        show HV.sl 1 In _ = HV.sl 1 WL.length _
        rw [← hLL, List.length_map, hrs]
        rfl
      show (match hget D 18009 with
        | some (ver', .arr _ _ cs) => if v9 = ver' then HV.fptr (cs.map (frz 3 D)) 0 else _
        | _ => _) = _
      rw [e0]
      simp only [if_true]
      show HV.fptr [frz 3 D (HV.ar 18059 v59 1 0 In)] 0 = _
      rw [hfr]
    · rw [Nat.zero_add, hF_rid]
      have := hget_rowsE (en := eSt) (et := 9) 0 hi
      rwa [Nat.zero_add] at this
    unfold m_free_tail at h
    refine AW.rgs rfl fun K hK => ?_
    refine mv rfl rfl ?_
    refine bv rfl (v_fieldAddrF fo40_1 rfl) ?_
    refine bv rfl (v_loadF ty3 rfl (l_lit rfl rfl)) ?_
    refine bv rfl (v_bin rfl rfl b_mul) ?_
    refine mv rfl rfl ?_
    refine b_fin hK (s' := ⟨[(9, HV.fptr [slE (eSl eStr) WL] 0), (13, HV.int .i64 (IntKind.wrap .i64 (p2 * B0)))], []⟩) (le_q rfl rfl) ?_
    clear hK K
    refine AW.seq ?_
    refine AW.rgs rfl fun K hK => ?_
    refine bv rfl (v_loadF ty89 rfl (l_lit rfl rfl)) ?_
    refine bv rfl (v_lenF rfl rfl ty89 rfl) ?_
    refine mv rfl rfl ?_
    refine b_fin hK (s' := ⟨[(9, HV.fptr [slE (eSl eStr) WL] 0), (13, HV.int .i64 (IntKind.wrap .i64 (p2 * B0))), (86, slE (eSl eStr) WL), (87, HV.int .i64 ((WL).length : Int)), (88, HV.int .i64 0)], []⟩) (le_q rfl rfl) ?_
    clear hK K
    refine AW.lpX h (by first | exact up_then | exact up_to) (S := Int × Int) (V := Unit) (fun a v => ⟨[(9, HV.fptr [slE (eSl eStr) WL] 0), (13, HV.int .i64 a.1), (86, slE (eSl eStr) WL), (87, HV.int .i64 ((WL).length : Int)), (88, HV.int .i64 a.2)], []⟩) ?_ (X := Int) (W := Unit) (fun a v => ⟨[(13, HV.int .i64 a)], []⟩) (fun a34 w35 h => ?_) (fun a1 w2 st3 h => ?_)
    ·exact to_le (s' := ⟨[(9, HV.fptr [slE (eSl eStr) WL] 0), (13, HV.int .i64 (IntKind.wrap .i64 (p2 * B0))), (86, slE (eSl eStr) WL), (87, HV.int .i64 ((WL).length : Int)), (88, HV.int .i64 0)], []⟩) (AS.le_of ⟨rfl, rfl, rfl, rfl, rfl, trivial⟩ trivial) ⟨(), rfl⟩
    ·refine AW.rgs rfl fun K hK => ?_
     refine mv rfl rfl ?_
     refine mv rfl rfl ?_
     refine mv rfl rfl ?_
     refine b_fin hK (s' := ⟨[(6, HV.int .i64 a34), (7, HV.int .i64 0)], []⟩) (le_q rfl rfl) ?_
     clear hK K
     refine AW.ret ?_
     have h := Option.some.inj h
     subst h
     exact ret_pure (hs := [HV.int .i64 a34, HV.int .i64 0]) (q := HV.tup [HV.int .i64 a34, HV.int .i64 0]) (.inr rfl) (resT rfl (resT rfl rfl)) rfl ⟨trivial, trivial, trivial⟩
    refine AW.rgs rfl fun K hK => ?_
    refine bv rfl (v_bin rfl rfl b_lss) ?_
    refine b_fin hK (s' := ⟨[(9, HV.fptr [slE (eSl eStr) WL] 0), (13, HV.int .i64 a1.1), (86, slE (eSl eStr) WL), (87, HV.int .i64 ((WL).length : Int)), (88, HV.int .i64 a1.2), (89, HV.bool (decide (a1.2 < ((WL).length : Int))))], []⟩) (le_q rfl rfl) ?_
    clear hK K
    refine AW.cseq rfl (fun hc => ?_) (fun hc => ?_)
    ·have hc := of_decide_eq_true hc
     have h := ifT hc h
     refine AW.skip ?_
     refine AW.seq (AW.block ?_)
     refine AW.rgs rfl fun K hK => ?_
     refine mv rfl rfl ?_
     obtain ⟨x5, h6, h⟩ := bS h
     refine bv rfl (v_idxF ty89 es89 rfl rfl (idx_lt h6)) ?_
     refine bv rfl (v_loadF ty22 rfl (l_cell (eSl eStr) h6 (o := 0) rfl rfl)) ?_
     refine mv rfl rfl ?_
     refine mv rfl rfl ?_
     refine b_fin hK (s' := ⟨[(9, HV.fptr [slE (eSl eStr) WL] 0), (13, HV.int .i64 a1.1), (14, HV.int .i64 a1.2), (15, slE eStr x5), (86, slE (eSl eStr) WL), (87, HV.int .i64 ((WL).length : Int)), (88, HV.int .i64 a1.2)], []⟩) (le_q rfl rfl) ?_
     clear hK K
     refine AW.rgs rfl fun K hK => ?_
     refine bv rfl (v_loadF ty89 rfl (l_lit rfl rfl)) ?_
     refine mv rfl rfl ?_
     obtain ⟨h7, h⟩ := ifN h
     refine bv rfl (v_sliceF (eSl eStr) ty89 es89 rfl rfl rfl h7) ?_
     refine bv rfl (v_lenF rfl rfl ty89 rfl) ?_
     refine mv rfl rfl ?_
     refine b_fin hK (s' := ⟨[(9, HV.fptr [slE (eSl eStr) WL] 0), (13, HV.int .i64 a1.1), (15, slE eStr x5), (86, slE (eSl eStr) WL), (87, HV.int .i64 ((WL).length : Int)), (88, HV.int .i64 a1.2), (95, slE (eSl eStr) ((WL.take (a1.2).toNat).drop (0 : Int).toNat)), (96, HV.int .i64 (((WL.take (a1.2).toNat).drop (0 : Int).toNat).length : Int)), (97, HV.int .i64 0)], []⟩) (le_q rfl rfl) ?_
     clear hK K
     refine AW.lpX h (by first | exact up_then | exact up_to) (S := Int × Int) (V := Unit) (fun a v => ⟨[(9, HV.fptr [slE (eSl eStr) WL] 0), (13, HV.int .i64 a.1), (15, slE eStr x5), (86, slE (eSl eStr) WL), (87, HV.int .i64 ((WL).length : Int)), (88, HV.int .i64 a1.2), (95, slE (eSl eStr) ((WL.take (a1.2).toNat).drop (0 : Int).toNat)), (96, HV.int .i64 (((WL.take (a1.2).toNat).drop (0 : Int).toNat).length : Int)), (97, HV.int .i64 a.2)], []⟩) ?_ (X := Int) (W := Unit) (fun a v => ⟨[(9, HV.fptr [slE (eSl eStr) WL] 0), (13, HV.int .i64 a), (86, slE (eSl eStr) WL), (87, HV.int .i64 ((WL).length : Int)), (88, HV.int .i64 a1.2)], []⟩) (fun a32 w33 h => ?_) (fun a8 w9 st10 h => ?_)
     ·exact to_le (s' := ⟨[(9, HV.fptr [slE (eSl eStr) WL] 0), (13, HV.int .i64 a1.1), (15, slE eStr x5), (86, slE (eSl eStr) WL), (87, HV.int .i64 ((WL).length : Int)), (88, HV.int .i64 a1.2), (95, slE (eSl eStr) ((WL.take (a1.2).toNat).drop (0 : Int).toNat)), (96, HV.int .i64 (((WL.take (a1.2).toNat).drop (0 : Int).toNat).length : Int)), (97, HV.int .i64 0)], []⟩) (AS.le_of ⟨rfl, rfl, rfl, rfl, rfl, rfl, rfl, rfl, rfl, trivial⟩ trivial) ⟨(), rfl⟩
     ·refine AW.rg rfl fun K hK => ?_
      refine bv rfl (v_bin rfl rfl b_add) ?_
      refine mv rfl rfl ?_
      refine b_nil (hK _ ?_)
      clear hK K
      exact to_le (s' := ⟨[(9, HV.fptr [slE (eSl eStr) WL] 0), (13, HV.int .i64 a32), (86, slE (eSl eStr) WL), (87, HV.int .i64 ((WL).length : Int)), (88, HV.int .i64 (IntKind.wrap .i64 (a1.2 + 1)))], []⟩) (AS.le_of ⟨rfl, rfl, rfl, rfl, rfl, trivial⟩ trivial) ⟨(a32, IntKind.wrap .i64 (a1.2 + 1)), (), h, rfl⟩
     refine AW.rgs rfl fun K hK => ?_
     refine bv rfl (v_bin rfl rfl b_lss) ?_
     refine b_fin hK (s' := ⟨[(9, HV.fptr [slE (eSl eStr) WL] 0), (13, HV.int .i64 a8.1), (15, slE eStr x5), (86, slE (eSl eStr) WL), (87, HV.int .i64 ((WL).length : Int)), (88, HV.int .i64 a1.2), (95, slE (eSl eStr) ((WL.take (a1.2).toNat).drop (0 : Int).toNat)), (96, HV.int .i64 (((WL.take (a1.2).toNat).drop (0 : Int).toNat).length : Int)), (97, HV.int .i64 a8.2), (98, HV.bool (decide (a8.2 < (((WL.take (a1.2).toNat).drop (0 : Int).toNat).length : Int))))], []⟩) (le_q rfl rfl) ?_
     clear hK K
     refine AW.cseq rfl (fun hc => ?_) (fun hc => ?_)
     ·have hc := of_decide_eq_true hc
      have h := ifT hc h
      refine AW.skip ?_
      refine AW.seq (AW.block ?_)
      refine AW.rgs rfl fun K hK => ?_
      obtain ⟨x12, h13, h⟩ := bS h
      refine bv rfl (v_idxF ty89 es89 rfl rfl (idx_lt h13)) ?_
      refine bv rfl (v_loadF ty22 rfl (l_cell (eSl eStr) h13 (o := 0) rfl rfl)) ?_
      refine mv rfl rfl ?_
      refine b_fin hK (s' := ⟨[(9, HV.fptr [slE (eSl eStr) WL] 0), (13, HV.int .i64 a8.1), (15, slE eStr x5), (17, slE eStr x12), (86, slE (eSl eStr) WL), (87, HV.int .i64 ((WL).length : Int)), (88, HV.int .i64 a1.2), (95, slE (eSl eStr) ((WL.take (a1.2).toNat).drop (0 : Int).toNat)), (96, HV.int .i64 (((WL.take (a1.2).toNat).drop (0 : Int).toNat).length : Int)), (97, HV.int .i64 a8.2)], []⟩) (le_q rfl rfl) ?_
      clear hK K
      refine AW.rgs rfl fun K hK => ?_
      refine mv rfl rfl ?_
      refine bv rfl (v_lenF rfl rfl ty22 rfl) ?_
      refine mv rfl rfl ?_
      refine b_fin hK (s' := ⟨[(9, HV.fptr [slE (eSl eStr) WL] 0), (13, HV.int .i64 a8.1), (15, slE eStr x5), (17, slE eStr x12), (86, slE (eSl eStr) WL), (87, HV.int .i64 ((WL).length : Int)), (88, HV.int .i64 a1.2), (95, slE (eSl eStr) ((WL.take (a1.2).toNat).drop (0 : Int).toNat)), (96, HV.int .i64 (((WL.take (a1.2).toNat).drop (0 : Int).toNat).length : Int)), (97, HV.int .i64 a8.2), (101, slE eStr x5), (102, HV.int .i64 ((x5).length : Int)), (103, HV.int .i64 0)], []⟩) (le_q rfl rfl) ?_
      clear hK K
      refine AW.lpX h (by first | exact up_then | exact up_to) (S := Int × Int) (V := Unit) (fun a v => ⟨[(9, HV.fptr [slE (eSl eStr) WL] 0), (13, HV.int .i64 a.1), (15, slE eStr x5), (17, slE eStr x12), (86, slE (eSl eStr) WL), (87, HV.int .i64 ((WL).length : Int)), (88, HV.int .i64 a1.2), (95, slE (eSl eStr) ((WL.take (a1.2).toNat).drop (0 : Int).toNat)), (96, HV.int .i64 (((WL.take (a1.2).toNat).drop (0 : Int).toNat).length : Int)), (97, HV.int .i64 a8.2), (101, slE eStr x5), (102, HV.int .i64 ((x5).length : Int)), (103, HV.int .i64 a.2)], []⟩) ?_ (X := Int) (W := Unit) (fun a v => ⟨[(9, HV.fptr [slE (eSl eStr) WL] 0), (13, HV.int .i64 a), (15, slE eStr x5), (86, slE (eSl eStr) WL), (87, HV.int .i64 ((WL).length : Int)), (88, HV.int .i64 a1.2), (95, slE (eSl eStr) ((WL.take (a1.2).toNat).drop (0 : Int).toNat)), (96, HV.int .i64 (((WL.take (a1.2).toNat).drop (0 : Int).toNat).length : Int)), (97, HV.int .i64 a8.2)], []⟩) (fun a30 w31 h => ?_) (fun a14 w15 st16 h => ?_)
      ·exact to_le (s' := ⟨[(9, HV.fptr [slE (eSl eStr) WL] 0), (13, HV.int .i64 a8.1), (15, slE eStr x5), (17, slE eStr x12), (86, slE (eSl eStr) WL), (87, HV.int .i64 ((WL).length : Int)), (88, HV.int .i64 a1.2), (95, slE (eSl eStr) ((WL.take (a1.2).toNat).drop (0 : Int).toNat)), (96, HV.int .i64 (((WL.take (a1.2).toNat).drop (0 : Int).toNat).length : Int)), (97, HV.int .i64 a8.2), (101, slE eStr x5), (102, HV.int .i64 ((x5).length : Int)), (103, HV.int .i64 0)], []⟩) (AS.le_of ⟨rfl, rfl, rfl, rfl, rfl, rfl, rfl, rfl, rfl, rfl, rfl, rfl, rfl, trivial⟩ trivial) ⟨(), rfl⟩
      ·refine AW.rg rfl fun K hK => ?_
       refine bv rfl (v_bin rfl rfl b_add) ?_
       refine mv rfl rfl ?_
       refine b_nil (hK _ ?_)
       clear hK K
       exact to_le (s' := ⟨[(9, HV.fptr [slE (eSl eStr) WL] 0), (13, HV.int .i64 a30), (15, slE eStr x5), (86, slE (eSl eStr) WL), (87, HV.int .i64 ((WL).length : Int)), (88, HV.int .i64 a1.2), (95, slE (eSl eStr) ((WL.take (a1.2).toNat).drop (0 : Int).toNat)), (96, HV.int .i64 (((WL.take (a1.2).toNat).drop (0 : Int).toNat).length : Int)), (97, HV.int .i64 (IntKind.wrap .i64 (a8.2 + 1)))], []⟩) (AS.le_of ⟨rfl, rfl, rfl, rfl, rfl, rfl, rfl, rfl, rfl, trivial⟩ trivial) ⟨(a30, IntKind.wrap .i64 (a8.2 + 1)), (), h, rfl⟩
      refine AW.rgs rfl fun K hK => ?_
      refine bv rfl (v_bin rfl rfl b_lss) ?_
      refine b_fin hK (s' := ⟨[(9, HV.fptr [slE (eSl eStr) WL] 0), (13, HV.int .i64 a14.1), (15, slE eStr x5), (17, slE eStr x12), (86, slE (eSl eStr) WL), (87, HV.int .i64 ((WL).length : Int)), (88, HV.int .i64 a1.2), (95, slE (eSl eStr) ((WL.take (a1.2).toNat).drop (0 : Int).toNat)), (96, HV.int .i64 (((WL.take (a1.2).toNat).drop (0 : Int).toNat).length : Int)), (97, HV.int .i64 a8.2), (101, slE eStr x5), (102, HV.int .i64 ((x5).length : Int)), (103, HV.int .i64 a14.2), (104, HV.bool (decide (a14.2 < ((x5).length : Int))))], []⟩) (le_q rfl rfl) ?_
      clear hK K
      refine AW.cseq rfl (fun hc => ?_) (fun hc => ?_)
      ·have hc := of_decide_eq_true hc
       have h := ifT hc h
       refine AW.skip ?_
       refine AW.seq (AW.block ?_)
       refine AW.rgs rfl fun K hK => ?_
       obtain ⟨x18, h19, h⟩ := bS h
       refine bv rfl (v_idxF ty22 es22 rfl rfl (idx_lt h19)) ?_
       refine bv rfl (v_loadF ty9 rfl (l_cell eStr h19 (o := 0) rfl rfl)) ?_
       refine mv rfl rfl ?_
       refine b_fin hK (s' := ⟨[(9, HV.fptr [slE (eSl eStr) WL] 0), (13, HV.int .i64 a14.1), (15, slE eStr x5), (17, slE eStr x12), (19, HV.str x18), (86, slE (eSl eStr) WL), (87, HV.int .i64 ((WL).length : Int)), (88, HV.int .i64 a1.2), (95, slE (eSl eStr) ((WL.take (a1.2).toNat).drop (0 : Int).toNat)), (96, HV.int .i64 (((WL.take (a1.2).toNat).drop (0 : Int).toNat).length : Int)), (97, HV.int .i64 a8.2), (101, slE eStr x5), (102, HV.int .i64 ((x5).length : Int)), (103, HV.int .i64 a14.2)], []⟩) (le_q rfl rfl) ?_
       clear hK K
       refine AW.rgs rfl fun K hK => ?_
       refine mv rfl rfl ?_
       refine bv rfl (v_lenF rfl rfl ty22 rfl) ?_
       refine mv rfl rfl ?_
       refine b_fin hK (s' := ⟨[(9, HV.fptr [slE (eSl eStr) WL] 0), (13, HV.int .i64 a14.1), (15, slE eStr x5), (17, slE eStr x12), (19, HV.str x18), (86, slE (eSl eStr) WL), (87, HV.int .i64 ((WL).length : Int)), (88, HV.int .i64 a1.2), (95, slE (eSl eStr) ((WL.take (a1.2).toNat).drop (0 : Int).toNat)), (96, HV.int .i64 (((WL.take (a1.2).toNat).drop (0 : Int).toNat).length : Int)), (97, HV.int .i64 a8.2), (101, slE eStr x5), (102, HV.int .i64 ((x5).length : Int)), (103, HV.int .i64 a14.2), (107, slE eStr x12), (108, HV.int .i64 ((x12).length : Int)), (109, HV.int .i64 0)], []⟩) (le_q rfl rfl) ?_
       clear hK K
       refine AW.lpX h (by first | exact up_then | exact up_to) (S := Int × Int) (V := Unit) (fun a v => ⟨[(9, HV.fptr [slE (eSl eStr) WL] 0), (13, HV.int .i64 a.1), (15, slE eStr x5), (17, slE eStr x12), (19, HV.str x18), (86, slE (eSl eStr) WL), (87, HV.int .i64 ((WL).length : Int)), (88, HV.int .i64 a1.2), (95, slE (eSl eStr) ((WL.take (a1.2).toNat).drop (0 : Int).toNat)), (96, HV.int .i64 (((WL.take (a1.2).toNat).drop (0 : Int).toNat).length : Int)), (97, HV.int .i64 a8.2), (101, slE eStr x5), (102, HV.int .i64 ((x5).length : Int)), (103, HV.int .i64 a14.2), (107, slE eStr x12), (108, HV.int .i64 ((x12).length : Int)), (109, HV.int .i64 a.2)], []⟩) ?_ (X := Int) (W := Unit) (fun a v => ⟨[(9, HV.fptr [slE (eSl eStr) WL] 0), (13, HV.int .i64 a), (15, slE eStr x5), (17, slE eStr x12), (86, slE (eSl eStr) WL), (87, HV.int .i64 ((WL).length : Int)), (88, HV.int .i64 a1.2), (95, slE (eSl eStr) ((WL.take (a1.2).toNat).drop (0 : Int).toNat)), (96, HV.int .i64 (((WL.take (a1.2).toNat).drop (0 : Int).toNat).length : Int)), (97, HV.int .i64 a8.2), (101, slE eStr x5), (102, HV.int .i64 ((x5).length : Int)), (103, HV.int .i64 a14.2)], []⟩) (fun a28 w29 h => ?_) (fun a20 w21 st22 h => ?_)
       ·exact to_le (s' := ⟨[(9, HV.fptr [slE (eSl eStr) WL] 0), (13, HV.int .i64 a14.1), (15, slE eStr x5), (17, slE eStr x12), (19, HV.str x18), (86, slE (eSl eStr) WL), (87, HV.int .i64 ((WL).length : Int)), (88, HV.int .i64 a1.2), (95, slE (eSl eStr) ((WL.take (a1.2).toNat).drop (0 : Int).toNat)), (96, HV.int .i64 (((WL.take (a1.2).toNat).drop (0 : Int).toNat).length : Int)), (97, HV.int .i64 a8.2), (101, slE eStr x5), (102, HV.int .i64 ((x5).length : Int)), (103, HV.int .i64 a14.2), (107, slE eStr x12), (108, HV.int .i64 ((x12).length : Int)), (109, HV.int .i64 0)], []⟩) (AS.le_of ⟨rfl, rfl, rfl, rfl, rfl, rfl, rfl, rfl, rfl, rfl, rfl, rfl, rfl, rfl, rfl, rfl, rfl, trivial⟩ trivial) ⟨(), rfl⟩
       ·refine AW.rg rfl fun K hK => ?_
        refine bv rfl (v_bin rfl rfl b_add) ?_
        refine mv rfl rfl ?_
        refine b_nil (hK _ ?_)
        clear hK K
        exact to_le (s' := ⟨[(9, HV.fptr [slE (eSl eStr) WL] 0), (13, HV.int .i64 a28), (15, slE eStr x5), (17, slE eStr x12), (86, slE (eSl eStr) WL), (87, HV.int .i64 ((WL).length : Int)), (88, HV.int .i64 a1.2), (95, slE (eSl eStr) ((WL.take (a1.2).toNat).drop (0 : Int).toNat)), (96, HV.int .i64 (((WL.take (a1.2).toNat).drop (0 : Int).toNat).length : Int)), (97, HV.int .i64 a8.2), (101, slE eStr x5), (102, HV.int .i64 ((x5).length : Int)), (103, HV.int .i64 (IntKind.wrap .i64 (a14.2 + 1)))], []⟩) (AS.le_of ⟨rfl, rfl, rfl, rfl, rfl, rfl, rfl, rfl, rfl, rfl, rfl, rfl, rfl, trivial⟩ trivial) ⟨(a28, IntKind.wrap .i64 (a14.2 + 1)), (), h, rfl⟩
       refine AW.rgs rfl fun K hK => ?_
       refine bv rfl (v_bin rfl rfl b_lss) ?_
       refine b_fin hK (s' := ⟨[(9, HV.fptr [slE (eSl eStr) WL] 0), (13, HV.int .i64 a20.1), (15, slE eStr x5), (17, slE eStr x12), (19, HV.str x18), (86, slE (eSl eStr) WL), (87, HV.int .i64 ((WL).length : Int)), (88, HV.int .i64 a1.2), (95, slE (eSl eStr) ((WL.take (a1.2).toNat).drop (0 : Int).toNat)), (96, HV.int .i64 (((WL.take (a1.2).toNat).drop (0 : Int).toNat).length : Int)), (97, HV.int .i64 a8.2), (101, slE eStr x5), (102, HV.int .i64 ((x5).length : Int)), (103, HV.int .i64 a14.2), (107, slE eStr x12), (108, HV.int .i64 ((x12).length : Int)), (109, HV.int .i64 a20.2), (110, HV.bool (decide (a20.2 < ((x12).length : Int))))], []⟩) (le_q rfl rfl) ?_
       clear hK K
       refine AW.cseq rfl (fun hc => ?_) (fun hc => ?_)
       ·have hc := of_decide_eq_true hc
        have h := ifT hc h
        refine AW.skip ?_
        refine AW.seq (AW.block ?_)
        refine AW.rgs rfl fun K hK => ?_
        obtain ⟨x24, h25, h⟩ := bS h
        refine bv rfl (v_idxF ty22 es22 rfl rfl (idx_lt h25)) ?_
        refine bv rfl (v_loadF ty9 rfl (l_cell eStr h25 (o := 0) rfl rfl)) ?_
        refine mv rfl rfl ?_
        refine b_fin hK (s' := ⟨[(9, HV.fptr [slE (eSl eStr) WL] 0), (13, HV.int .i64 a20.1), (15, slE eStr x5), (17, slE eStr x12), (19, HV.str x18), (21, HV.str x24), (86, slE (eSl eStr) WL), (87, HV.int .i64 ((WL).length : Int)), (88, HV.int .i64 a1.2), (95, slE (eSl eStr) ((WL.take (a1.2).toNat).drop (0 : Int).toNat)), (96, HV.int .i64 (((WL.take (a1.2).toNat).drop (0 : Int).toNat).length : Int)), (97, HV.int .i64 a8.2), (101, slE eStr x5), (102, HV.int .i64 ((x5).length : Int)), (103, HV.int .i64 a14.2), (107, slE eStr x12), (108, HV.int .i64 ((x12).length : Int)), (109, HV.int .i64 a20.2)], []⟩) (le_q rfl rfl) ?_
        clear hK K
        refine AW.rg rfl fun K hK => ?_
        refine mv rfl rfl ?_
        refine mv rfl rfl ?_
        refine mv rfl rfl ?_
        obtain ⟨x26, h27, h⟩ := bS h
        refine b_op rfl (o_call rfl rfl rfl rfl (ACallD.pure0 (w_distance_hamming h27)) ?_)
        refine bv rfl (v_min rfl rfl rfl) ?_
        refine mv rfl rfl ?_
        refine b_fin hK (s' := ⟨[(9, HV.fptr [slE (eSl eStr) WL] 0), (13, HV.int .i64 (min a20.1 x26)), (15, slE eStr x5), (17, slE eStr x12), (19, HV.str x18), (86, slE (eSl eStr) WL), (87, HV.int .i64 ((WL).length : Int)), (88, HV.int .i64 a1.2), (95, slE (eSl eStr) ((WL.take (a1.2).toNat).drop (0 : Int).toNat)), (96, HV.int .i64 (((WL.take (a1.2).toNat).drop (0 : Int).toNat).length : Int)), (97, HV.int .i64 a8.2), (101, slE eStr x5), (102, HV.int .i64 ((x5).length : Int)), (103, HV.int .i64 a14.2), (107, slE eStr x12), (108, HV.int .i64 ((x12).length : Int)), (109, HV.int .i64 a20.2)], []⟩) (le_q rfl rfl) ?_
        clear hK K
        refine AW.rg rfl fun K hK => ?_
        refine bv rfl (v_bin rfl rfl b_add) ?_
        refine mv rfl rfl ?_
        refine b_nil (hK _ ?_)
        clear hK K
        exact to_le (s' := ⟨[(9, HV.fptr [slE (eSl eStr) WL] 0), (13, HV.int .i64 (min a20.1 x26)), (15, slE eStr x5), (17, slE eStr x12), (19, HV.str x18), (86, slE (eSl eStr) WL), (87, HV.int .i64 ((WL).length : Int)), (88, HV.int .i64 a1.2), (95, slE (eSl eStr) ((WL.take (a1.2).toNat).drop (0 : Int).toNat)), (96, HV.int .i64 (((WL.take (a1.2).toNat).drop (0 : Int).toNat).length : Int)), (97, HV.int .i64 a8.2), (101, slE eStr x5), (102, HV.int .i64 ((x5).length : Int)), (103, HV.int .i64 a14.2), (107, slE eStr x12), (108, HV.int .i64 ((x12).length : Int)), (109, HV.int .i64 (IntKind.wrap .i64 (a20.2 + 1)))], []⟩) (AS.le_of ⟨rfl, rfl, rfl, rfl, rfl, rfl, rfl, rfl, rfl, rfl, rfl, rfl, rfl, rfl, rfl, rfl, rfl, trivial⟩ trivial) ⟨(min a20.1 x26, IntKind.wrap .i64 (a20.2 + 1)), (), h, rfl⟩
       have hc := of_decide_eq_false hc
       have h := ifF hc h
       refine AW.exit ?_
       exact to_le (s' := ⟨[(9, HV.fptr [slE (eSl eStr) WL] 0), (13, HV.int .i64 a20.1), (15, slE eStr x5), (17, slE eStr x12), (86, slE (eSl eStr) WL), (87, HV.int .i64 ((WL).length : Int)), (88, HV.int .i64 a1.2), (95, slE (eSl eStr) ((WL.take (a1.2).toNat).drop (0 : Int).toNat)), (96, HV.int .i64 (((WL.take (a1.2).toNat).drop (0 : Int).toNat).length : Int)), (97, HV.int .i64 a8.2), (101, slE eStr x5), (102, HV.int .i64 ((x5).length : Int)), (103, HV.int .i64 a14.2)], []⟩) (AS.le_of ⟨rfl, rfl, rfl, rfl, rfl, rfl, rfl, rfl, rfl, rfl, rfl, rfl, rfl, trivial⟩ trivial) ⟨a20.1, (), h, rfl⟩
      have hc := of_decide_eq_false hc
      have h := ifF hc h
      refine AW.exit ?_
      exact to_le (s' := ⟨[(9, HV.fptr [slE (eSl eStr) WL] 0), (13, HV.int .i64 a14.1), (15, slE eStr x5), (86, slE (eSl eStr) WL), (87, HV.int .i64 ((WL).length : Int)), (88, HV.int .i64 a1.2), (95, slE (eSl eStr) ((WL.take (a1.2).toNat).drop (0 : Int).toNat)), (96, HV.int .i64 (((WL.take (a1.2).toNat).drop (0 : Int).toNat).length : Int)), (97, HV.int .i64 a8.2)], []⟩) (AS.le_of ⟨rfl, rfl, rfl, rfl, rfl, rfl, rfl, rfl, rfl, trivial⟩ trivial) ⟨a14.1, (), h, rfl⟩
     have hc := of_decide_eq_false hc
     have h := ifF hc h
     refine AW.exit ?_
     exact to_le (s' := ⟨[(9, HV.fptr [slE (eSl eStr) WL] 0), (13, HV.int .i64 a8.1), (86, slE (eSl eStr) WL), (87, HV.int .i64 ((WL).length : Int)), (88, HV.int .i64 a1.2)], []⟩) (AS.le_of ⟨rfl, rfl, rfl, rfl, rfl, trivial⟩ trivial) ⟨a8.1, (), h, rfl⟩
    have hc := of_decide_eq_false hc
    have h := ifF hc h
    refine AW.exit ?_
    exact to_le (s' := ⟨[(13, HV.int .i64 a1.1)], []⟩) (AS.le_of ⟨rfl, trivial⟩ trivial) ⟨a1.1, (), h, rfl⟩
   refine AW.rgs rfl fun K hK => ?_
   refine bv rfl (v_bin rfl rfl b_lss) ?_
   refine b_fin hK (s' := ⟨[(1, HV.int .i64 p1), (2, HV.int .i64 p2), (3, HV.fptr [HV.int .i64 p0.1, HV.int .i64 p0.2.1, HV.int .i64 p0.2.2.1, slE (eSl eToWord) p0.2.2.2] 0), (8, HV.int .i64 a9.1), (47, HV.int .i64 p2), (48, HV.int .i64 a9.2), (49, HV.bool (decide (a9.2 < p2)))], []⟩) (le_q rfl rfl) ?_
   clear hK K
   refine AW.cseq rfl (fun hc => ?_) (fun hc => ?_)
   ·have hc := of_decide_eq_true hc
    have h := ifT hc h
    refine AW.skip ?_
    refine AW.seq (AW.block ?_)
    refine AW.rgs rfl fun K hK => ?_
    refine mv rfl rfl ?_
    refine bv rfl (v_fieldAddrF fo40_2 rfl) ?_
    refine bv rfl (v_loadF ty3 rfl (l_lit rfl rfl)) ?_
    refine bv rfl (v_bin rfl rfl b_mul) ?_
    refine mv rfl rfl ?_
    refine b_fin hK (s' := ⟨[(1, HV.int .i64 p1), (2, HV.int .i64 p2), (3, HV.fptr [HV.int .i64 p0.1, HV.int .i64 p0.2.1, HV.int .i64 p0.2.2.1, slE (eSl eToWord) p0.2.2.2] 0), (8, HV.int .i64 (IntKind.wrap .i64 (a9.1 * p0.2.2.1))), (47, HV.int .i64 p2), (48, HV.int .i64 a9.2)], []⟩) (le_q rfl rfl) ?_
    clear hK K
    refine AW.rgs rfl fun K hK => ?_
    refine mv rfl rfl ?_
    refine bv rfl (v_bin rfl rfl b_gtr) ?_
    refine b_fin hK (s' := ⟨[(1, HV.int .i64 p1), (2, HV.int .i64 p2), (3, HV.fptr [HV.int .i64 p0.1, HV.int .i64 p0.2.1, HV.int .i64 p0.2.2.1, slE (eSl eToWord) p0.2.2.2] 0), (8, HV.int .i64 (IntKind.wrap .i64 (a9.1 * p0.2.2.1))), (47, HV.int .i64 p2), (48, HV.int .i64 a9.2), (55, HV.bool (decide (256 < (IntKind.wrap .i64 (a9.1 * p0.2.2.1)))))], []⟩) (le_q rfl rfl) ?_
    clear hK K
    refine AW.cond rfl (fun hc => ?_) (fun hc => ?_)
    ·have hc := of_decide_eq_true hc
     have h := ifT hc h
     refine AW.rgs rfl fun K hK => ?_
     refine mv rfl rfl ?_
     refine mv rfl rfl ?_
     refine b_fin hK (s' := ⟨[(6, HV.int .i64 0), (7, HV.int .i64 4)], []⟩) (le_q rfl rfl) ?_
     clear hK K
     have h := hr12 _ h
     refine AW.ret ?_
     have h := Option.some.inj h
     subst h
     exact ret_pure (hs := [HV.int .i64 0, HV.int .i64 4]) (q := HV.tup [HV.int .i64 0, HV.int .i64 4]) (.inr rfl) (resT rfl (resT rfl rfl)) rfl ⟨trivial, trivial, trivial⟩
    have hc := of_decide_eq_false hc
    have h := ifF hc h
    refine AW.skip ?_
    refine AW.rg rfl fun K hK => ?_
    refine bv rfl (v_bin rfl rfl b_add) ?_
    refine mv rfl rfl ?_
    refine b_nil (hK _ ?_)
    clear hK K
    exact to_le (s' := ⟨[(1, HV.int .i64 p1), (2, HV.int .i64 p2), (3, HV.fptr [HV.int .i64 p0.1, HV.int .i64 p0.2.1, HV.int .i64 p0.2.2.1, slE (eSl eToWord) p0.2.2.2] 0), (8, HV.int .i64 (IntKind.wrap .i64 (a9.1 * p0.2.2.1))), (47, HV.int .i64 p2), (48, HV.int .i64 (IntKind.wrap .i64 (a9.2 + 1)))], []⟩) (AS.le_of ⟨rfl, rfl, rfl, rfl, rfl, rfl, trivial⟩ trivial) ⟨(IntKind.wrap .i64 (a9.1 * p0.2.2.1), IntKind.wrap .i64 (a9.2 + 1)), (), h, rfl⟩
   have hc := of_decide_eq_false hc
   have h := ifF hc h
   refine AW.exit ?_
   exact to_le (s' := ⟨[(1, HV.int .i64 p1), (2, HV.int .i64 p2), (3, HV.fptr [HV.int .i64 p0.1, HV.int .i64 p0.2.1, HV.int .i64 p0.2.2.1, slE (eSl eToWord) p0.2.2.2] 0)], []⟩) (AS.le_of ⟨rfl, rfl, rfl, trivial⟩ trivial) ⟨(), (), h, rfl⟩
  refine AW.rg rfl fun K hK => ?_
  refine mv rfl rfl ?_
  refine bv rfl (v_bin rfl rfl b_lss) ?_
  refine mv rfl rfl ?_
  by_cases hg15 : p2 < 1
  ·have h := ifT hg15 h
   refine b_F rfl rfl rfl rfl rfl (decide_eq_true hg15) ?_
   refine b_F rfl rfl rfl rfl rfl rfl ?_
   refine bv rfl (v_pickT rfl rfl rfl) ?_
   refine mv rfl rfl ?_
   refine b_nil (hK _ ?_)
   clear hK K
   exact to_le (s' := ⟨[(1, HV.int .i64 p1), (2, HV.int .i64 p2), (3, HV.fptr [HV.int .i64 p0.1, HV.int .i64 p0.2.1, HV.int .i64 p0.2.2.1, slE (eSl eToWord) p0.2.2.2] 0), (36, HV.bool true)], []⟩) (AS.le_of ⟨rfl, rfl, rfl, rfl, trivial⟩ trivial) ⟨true, (), h, rfl⟩
  have h := ifF hg15 h
  refine b_T rfl rfl rfl rfl (decide_eq_false hg15) (o_val rfl (mv_val rfl rfl).2 ?_)
  refine b_T rfl rfl rfl rfl rfl (o_val rfl (v_bin rfl rfl b_gtr) ?_)
  refine bv rfl (v_pickF rfl rfl rfl) ?_
  refine mv rfl rfl ?_
  refine b_nil (hK _ ?_)
  clear hK K
  exact to_le (s' := ⟨[(1, HV.int .i64 p1), (2, HV.int .i64 p2), (3, HV.fptr [HV.int .i64 p0.1, HV.int .i64 p0.2.1, HV.int .i64 p0.2.2.1, slE (eSl eToWord) p0.2.2.2] 0), (36, HV.bool (decide (16 < p2)))], []⟩) (AS.le_of ⟨rfl, rfl, rfl, rfl, trivial⟩ trivial) ⟨decide (16 < p2), (), h, rfl⟩
 refine AW.rg rfl fun K hK => ?_
 refine mv rfl rfl ?_
 refine bv rfl (v_bin rfl rfl b_lss) ?_
 refine mv rfl rfl ?_
 by_cases hg16 : p1 < 0
 ·have h := ifT hg16 h
  refine b_F rfl rfl rfl rfl rfl (decide_eq_true hg16) ?_
  refine b_F rfl rfl rfl rfl rfl rfl ?_
  refine b_F rfl rfl rfl rfl rfl rfl ?_
  refine b_F rfl rfl rfl rfl rfl rfl ?_
  refine b_F rfl rfl rfl rfl rfl rfl ?_
  refine bv rfl (v_pickT rfl rfl rfl) ?_
  refine mv rfl rfl ?_
  refine b_nil (hK _ ?_)
  clear hK K
  exact to_le (s' := ⟨[(1, HV.int .i64 p1), (2, HV.int .i64 p2), (3, HV.fptr [HV.int .i64 p0.1, HV.int .i64 p0.2.1, HV.int .i64 p0.2.2.1, slE (eSl eToWord) p0.2.2.2] 0), (26, HV.bool true)], []⟩) (AS.le_of ⟨rfl, rfl, rfl, rfl, trivial⟩ trivial) ⟨true, (), h, rfl⟩
 have h := ifF hg16 h
 refine b_T rfl rfl rfl rfl (decide_eq_false hg16) (o_val rfl (mv_val rfl rfl).2 ?_)
 refine b_T rfl rfl rfl rfl rfl (o_val rfl (v_fieldAddrF fo40_3 rfl) ?_)
 refine b_T rfl rfl rfl rfl rfl (o_val rfl (v_loadF ty38 rfl (l_lit rfl rfl)) ?_)
 refine b_T rfl rfl rfl rfl rfl (o_val rfl (v_lenF rfl rfl ty38 rfl) ?_)
 refine b_T rfl rfl rfl rfl rfl (o_val rfl (v_bin rfl rfl b_geq) ?_)
 refine bv rfl (v_pickF rfl rfl rfl) ?_
 refine mv rfl rfl ?_
 refine b_nil (hK _ ?_)
 clear hK K
 exact to_le (s' := ⟨[(1, HV.int .i64 p1), (2, HV.int .i64 p2), (3, HV.fptr [HV.int .i64 p0.1, HV.int .i64 p0.2.1, HV.int .i64 p0.2.2.1, slE (eSl eToWord) p0.2.2.2] 0), (26, HV.bool (decide (((p0.2.2.2).length : Int) ≤ p1)))], []⟩) (AS.le_of ⟨rfl, rfl, rfl, rfl, trivial⟩ trivial) ⟨decide (((p0.2.2.2).length : Int) ≤ p1), (), h, rfl⟩
theorem fw79_0 : fieldOf Try.prog 79 0 = some (0, { desc := TypeDesc.int .i64, size := 1, bytes := 8, zero := Value.int .i64 0 }) := by kernel_rfl
theorem fw79_1 : fieldOf Try.prog 79 1 = some (1, { desc := TypeDesc.int .i64, size := 1, bytes := 8, zero := Value.int .i64 0 }) := by kernel_rfl
theorem fw79_2 : fieldOf Try.prog 79 2 = some (2, { desc := TypeDesc.slice 76, size := 1, bytes := 24, zero := Value.slice none 0 0 }) := by kernel_rfl
theorem fw76_0 : fieldOf Try.prog 76 0 = some (0, { desc := TypeDesc.int .i64, size := 1, bytes := 8, zero := Value.int .i64 0 }) := by kernel_rfl
theorem fw76_1 : fieldOf Try.prog 76 1 = some (1, { desc := TypeDesc.int .i64, size := 1, bytes := 8, zero := Value.int .i64 0 }) := by kernel_rfl
theorem fw76_2 : fieldOf Try.prog 76 2 = some (2, { desc := TypeDesc.int .i64, size := 1, bytes := 8, zero := Value.int .i64 0 }) := by kernel_rfl
attribute [go_sem high] fw79_0 fw79_1 fw79_2 fw76_0 fw76_1 fw76_2
theorem hget_0 {id v : Nat} {o : AObj} {H : Heap} : hget ((id, v, o) :: H) id = some (v, o) := by simp [hget]
set_option linter.unusedSimpArgs false
set_option maxHeartbeats 1000000 in
theorem w79 {L n : Nat} {gS gE : HV} {stp : List Int → UInt8 → List Int} {set : List Int} {A : List Int → Prop} (hL : L ≤ 16) (h1g : gS.one = true) (h1e : gE.one = true) (hA0 : A set) (hA : ∀ a c, A a → c ∈ letters.take L → A (stp a c))
  (hstep : ∀ a c, A a → c ∈ letters.take L → Pure Try.prog 108 [.agg [num L, gS, gE], ints a, .int .u8 c.toNat] (· = ints (stp a c))) :
  ACall Try.prog 101 [.agg [num L, gS, gE], ints set, num n] [] fun r H' =>
   ((∀ j, 1 ≤ j → j ≤ n → (lvl stp (letters.take L) set j).length ≤ 4096) ∧ ∃ id ver es, r = .tup [.mp id ver, .bool true] ∧ H' = [(id, ver, .map es)] ∧ es.Perm ((lvl stp (letters.take L) set n).map ent)) ∨
   (∃ j, 1 ≤ j ∧ j ≤ n ∧ 4096 < (lvl stp (letters.take L) set j).length ∧ r = .tup [.v (.map none), .bool false] ∧ H' = []) := by
 refine ACall.facts (enters' Try.func101 rfl rfl) fun hf => ?_
 have hn : n ≤ 9223372036854775807 := by
  have := fact_num hf.2.2.1
  omega
 refine ACall.of_body Try.func101 rfl rfl (Nat.le_of_ble_eq_true rfl) ?_
 unfold Try.f101
 dsimp only [enumS, Nat.reduceAdd]
 simp only [num] at *
 refine AW.rseq (fid := 79) (mt := []) [1, 2, 3] rfl fun K hK => ?_
 simp only [go_sem, reduceIte, Nat.reduceEqDiff, Int.reduceLE]
 refine hK _ ?_
 clear hK K
 refine AW.rseq (fid := 79) (mt := []) [1, 2, 3, 8] rfl fun K hK => ?_
 simp only [go_sem, reduceIte, Nat.reduceEqDiff, Int.reduceLE]
 intro v0
 refine hK _ ?_
 clear hK K
 refine AW.seq ?_
 refine AW.rseq (fid := 79) (mt := []) [1, 2, 3, 8, 18] rfl fun K hK => ?_
 simp only [go_sem, ints, reduceIte, Nat.reduceEqDiff, Int.reduceLE]
 refine hK _ ?_
 clear hK K
 have h00 : ((0 : Nat) : Int) = 0 := rfl
 refine AW.cjoin2 (fun es : List (List UInt8 × HV) => ⟨[(2, .int .i64 n), (3, .fptr [.int .i64 L, gS, gE] 0), (8, .mp (79 * 1000 + 15) v0)], [(79 * 1000 + 15, v0, .map es)]⟩) (fun es => es = (lvl stp (letters.take L) set 0).map ent) rfl (fun hc => ?_) (fun hc => ?_) ?_
 ·have hc : 0 < set.length := by simpa using hc
  refine AW.region (fid := 79) (mt := []) [2, 3, 8] rfl fun K hK => ?_
  simp only [go_sem, reduceIte, Nat.reduceEqDiff, Int.reduceLE, List.length_nil, Nat.zero_le, mput]
  refine hK _ ?_
  clear hK K
  have hne : set ≠ [] := by rintro rfl; simp at hc
  refine ⟨[([], ints set)], by simp [lvl, hne, ent], AS.le_of ⟨rfl, rfl, rfl, trivial⟩ ⟨hget_0, trivial⟩⟩
 ·have hc : set = [] := by
   have : ¬ 0 < set.length := by simpa using hc
   exact List.eq_nil_of_length_eq_zero (by omega)
  refine AW.skip ⟨[], by simp [lvl, hc], AS.le_of ⟨rfl, rfl, rfl, trivial⟩ ⟨hget_0, trivial⟩⟩
 rintro es0 rfl
 refine AW.seq ?_
 refine AW.rseq (fid := 79) (mt := []) [3, 8, 21, 22] rfl fun K hK => ?_
 simp only [go_sem, reduceIte, Nat.reduceEqDiff, Int.reduceLE]
 refine hK _ ?_
 clear hK K
 refine AW.block ?_
 refine AW.loopS (fun p : Nat × Nat × Nat × List (List UInt8 × HV) => ⟨[(3, .fptr [.int .i64 L, gS, gE] 0), (8, .mp p.2.1 p.2.2.1), (21, .int .i64 n), (22, .int .i64 p.1)], [(p.2.1, p.2.2.1, .map p.2.2.2)]⟩)
  (fun p => p.1 ≤ n ∧ p.2.2.2.Perm ((lvl stp (letters.take L) set p.1).map ent) ∧ ∀ j, 1 ≤ j → j ≤ p.1 → (lvl stp (letters.take L) set j).length ≤ 4096) (fun p => n - p.1) (0, _, _, _)
  (AS.le_of ⟨rfl, rfl, rfl, rfl, trivial⟩ ⟨rfl, trivial⟩) ⟨Nat.zero_le _, List.Perm.refl _, fun j h1 h2 => by dsimp only at h2; omega⟩ ?_
 rintro ⟨i, aid, av, es⟩ ⟨hi, hes, hsz⟩
 dsimp only at hi hes hsz ⊢
 refine AW.rseq (fid := 79) (mt := []) [3, 8, 21, 22, 23] rfl fun K hK => ?_
 simp only [go_sem, reduceIte, Nat.reduceEqDiff, Int.reduceLE]
 refine hK _ ?_
 clear hK K
 refine AW.cseq rfl (fun hc => ?_) (fun hc => ?_)
 ·have hi' := dec_lt hc
  obtain ⟨f, hf1, hf2⟩ : ∃ f : Nat, f * 1000 + 24 ≠ aid ∧ f * 1000 + 26 ≠ aid := ⟨aid + 1, by omega, by omega⟩
  have hf3 := Ne.symm hf1
  have hf4 := Ne.symm hf2
  refine AW.skip ?_
  refine AW.seq (AW.block ?_)
  refine AW.rseq (fid := f) (mt := []) [3, 8, 9, 21, 22] rfl fun K hK => ?_
  simp only [go_sem, reduceIte, Nat.reduceEqDiff, Int.reduceLE, hf1, hf2, hf3, hf4]
  intro nv
  refine hK _ ?_
  clear hK K
  refine AW.seq ?_
  refine AW.rseq (fid := f) (mt := []) [3, 9, 21, 22, 26] rfl fun K hK => ?_
  simp only [go_sem, reduceIte, Nat.reduceEqDiff, Int.reduceLE, hf1, hf2, hf3, hf4, Nat.add_left_cancel_iff]
  refine ⟨hf2, fun iv => hK _ ?_⟩
  clear hK K
  refine AW.block ?_
  have hlk := lvl_keys (stp := stp) (set := set) (cs := letters.take L) (letters_nodup.sublist (List.take_sublist _ _)) i
  refine AW.loopS (fun p : List WS × List WS × List (List UInt8 × HV) × Bool => ⟨[(3, .fptr [.int .i64 L, gS, gE] 0), (9, .mp (f * 1000 + 24) nv), (21, .int .i64 n), (22, .int .i64 i), (26, .it (f * 1000 + 26) iv)],
    [(aid, av, .map es), (f * 1000 + 24, nv, .map p.2.2.1), (f * 1000 + 26, iv, .iter aid av (p.1.map (·.1)) p.2.2.2)]⟩)
   (fun p => (p.1 ++ p.2.1).Perm (lvl stp (letters.take L) set i) ∧ p.2.2.1.Perm ((p.1.flatMap (ext1 stp (letters.take L))).map ent) ∧ (p.1.flatMap (ext1 stp (letters.take L))).length ≤ 4096) (fun p => p.2.1.length) ([], lvl stp (letters.take L) set i, [], false)
   (AS.le_of ⟨rfl, rfl, rfl, rfl, rfl, trivial⟩ ⟨hget_0, by simp [hget, hf1, hf2, hf3, hf4], by simp [hget, hf1, hf2, hf3, hf4], trivial⟩) ⟨List.Perm.refl _, List.Perm.refl _, Nat.zero_le _⟩ ?_
  rintro ⟨vis, rest, es', cur⟩ ⟨hvr, hes', hlen⟩
  dsimp only at hvr hes' hlen ⊢
  refine AW.rseq (fid := f) (mt := []) [3, 9, 21, 22, 26, 28] rfl fun K hK => ?_
  simp only [go_sem, reduceIte, Nat.reduceEqDiff, Int.reduceLE, hf1, hf2, hf3, hf4, Nat.add_left_cancel_iff]
  refine ⟨fun hall => hK _ ?_, fun k v hkv hks => hK _ ?_⟩
  ·clear hK K
   have hr := rest_nil hlk hvr hes hall
   subst hr
   rw [List.append_nil] at hvr
   have hnx : es'.Perm ((lvl stp (letters.take L) set (i + 1)).map ent) := hes'.trans ((perm_flat hvr).map ent)
   have hln : (lvl stp (letters.take L) set (i + 1)).length ≤ 4096 := by
    have := (perm_flat (stp := stp) (cs := letters.take L) hvr).length_eq
    show ((lvl stp (letters.take L) set i).flatMap _).length ≤ 4096
    omega
   have hsz' : ∀ j, 1 ≤ j → j ≤ i + 1 → (lvl stp (letters.take L) set j).length ≤ 4096 := fun j h1 h2 => by
    rcases Nat.lt_or_ge i j with h | h
    ·have : j = i + 1 := by omega
     subst this; exact hln
    ·exact hsz j h1 h
   refine AW.cseq rfl (fun hc => by cases hc) (fun _ => ?_)
   refine AW.exit ?_
   refine AW.rseq (fid := f) (mt := []) [3, 8, 21, 22] rfl fun K hK => ?_
   simp only [go_sem, reduceIte, Nat.reduceEqDiff, Int.reduceLE, hf1, hf2, hf3, hf4, Nat.add_left_cancel_iff]
   refine hK _ ?_
   clear hK K
   refine AW.rseq (fid := f) (mt := []) [3, 8, 21, 22, 59] rfl fun K hK => ?_
   simp only [go_sem, reduceIte, Nat.reduceEqDiff, Int.reduceLE, hf1, hf2, hf3, hf4, Nat.add_left_cancel_iff]
   refine ⟨by rw [hes'.length_eq, List.length_map]; simp only [maxLen]; omega, hK _ ?_⟩
   clear hK K
   refine AW.cond rfl (fun hc => ?_) (fun hc => ?_)
   ·have h0 : es' = [] := by
     have : (es'.length : Int) = 0 := by simpa using hc
     exact List.eq_nil_of_length_eq_zero (by omega)
    subst h0
    have hl0 : lvl stp (letters.take L) set (i + 1) = [] := by
     have := hnx.length_eq
     simp only [List.length_nil, List.length_map] at this
     exact List.eq_nil_of_length_eq_zero this.symm
    have hlj := @lvl_nil stp (letters.take L) set (i + 1) hl0
    refine AW.exit ?_
    refine AW.rseq (fid := 79) (mt := []) [6, 7] rfl fun K hK => ?_
    simp only [go_sem, reduceIte, Nat.reduceEqDiff, Int.reduceLE, hf1, hf2, hf3, hf4, Nat.add_left_cancel_iff]
    refine hK _ ?_
    clear hK K
    refine AW.ret ⟨.inr rfl, ?_⟩
    simp only [go_sem, reduceIte, Nat.reduceEqDiff]
    refine ⟨_, [(f * 1000 + 24, nv, .map [])], Conv.drop (leH_get ⟨by simp [hget, hf1, hf2, hf3, hf4], trivial⟩), .inl ⟨fun j h1 h2 => ?_, _, _, _, rfl, rfl, ?_⟩⟩
    ·rcases Nat.lt_or_ge (i + 1) j with h | h
     ·rw [hlj (by omega)]; simp
     ·exact hsz' j h1 h
    ·rw [hlj (by omega)]; exact List.Perm.refl _
   ·refine AW.skip ?_
    refine AW.region (fid := 79) (mt := []) [3, 8, 21, 22] rfl fun K hK => ?_
    simp only [go_sem, reduceIte, Nat.reduceEqDiff, Int.reduceLE]
    refine hK _ ?_
    clear hK K
    refine ⟨(i + 1, f * 1000 + 24, nv, es'), ⟨by dsimp only; omega, hnx, hsz'⟩, by dsimp only; omega, ?_⟩
    dsimp only
    rw [cnt_next hn hi']
    exact AS.le_of ⟨rfl, rfl, rfl, rfl, trivial⟩ ⟨by simp [hget, hf1, hf2, hf3, hf4], trivial⟩
  ·clear hK K
   obtain ⟨x, l1, l2, rfl, hx, hvr'⟩ := next_pick hvr hes hkv hks
   cases hx
   have hxl : x ∈ lvl stp (letters.take L) set i := hvr'.mem_iff.1 (by simp)
   have hxA : A x.2 := lvl_all hA0 hA i x hxl
   have hxn : x.1.length = i := lvl_len i x hxl
   refine AW.cseq rfl (fun _ => ?_) (fun hc => by cases hc)
   refine AW.skip ?_
   refine AW.block ?_
   refine AW.rseq (fid := f) (mt := []) [3, 9, 10, 11, 21, 22, 26] rfl fun K hK => ?_
   simp only [go_sem, reduceIte, Nat.reduceEqDiff, Int.reduceLE, hf1, hf2, hf3, hf4, Nat.add_left_cancel_iff]
   refine ⟨_, alook_mem (perm_keys hes hlk) hkv, hK _ ?_⟩
   clear hK K
   refine AW.seq ?_
   refine AW.rseq (fid := f) (mt := []) [3, 9, 10, 11, 21, 22, 26, 33, 34] rfl fun K hK => ?_
   simp only [go_sem, reduceIte, Nat.reduceEqDiff, Int.reduceLE, List.getElem?_cons_zero, Nat.add_zero]
   refine hK _ ?_
   clear hK K
   refine AW.block ?_
   refine AW.loopS (fun p : Nat × List (List UInt8 × HV) => ⟨[(3, .fptr [.int .i64 L, gS, gE] 0), (9, .mp (f * 1000 + 24) nv), (10, .str x.1), (11, ints x.2), (21, .int .i64 n), (22, .int .i64 i), (26, .it (f * 1000 + 26) iv), (33, .int .i64 L), (34, .int .i64 p.1)],
     [(aid, av, .map es), (f * 1000 + 24, nv, .map p.2), (f * 1000 + 26, iv, .iter aid av (x.1 :: vis.map (·.1)) true)]⟩)
    (fun p => p.1 ≤ L ∧ p.2.Perm ((vis.flatMap (ext1 stp (letters.take L)) ++ ext1 stp ((letters.take L).take p.1) x).map ent)) (fun p => L - p.1) (0, es')
    (AS.le_of ⟨rfl, rfl, rfl, rfl, rfl, rfl, rfl, rfl, rfl, trivial⟩ ⟨hget_0, by simp [hget, hf1, hf2, hf3, hf4], by simp [hget, hf1, hf2, hf3, hf4], trivial⟩) ⟨Nat.zero_le _, by simpa [ext1] using hes'⟩ ?_
   rintro ⟨j, es2⟩ ⟨hj, hes2⟩
   dsimp only at hj hes2 ⊢
   refine AW.rseq (fid := f) (mt := []) [3, 9, 10, 11, 21, 22, 26, 33, 34, 35] rfl fun K hK => ?_
   simp only [go_sem, reduceIte, Nat.reduceEqDiff, Int.reduceLE]
   refine hK _ ?_
   clear hK K
   refine AW.cseq rfl (fun hc => ?_) (fun hc => ?_)
   ·have hj' := dec_lt hc
    have hjl : j < letters.length := by show j < 16; omega
    have hjt : j < (letters.take L).length := by rw [List.length_take]; exact Nat.lt_min.2 ⟨hj', hjl⟩
    have hcj : (letters.take L)[j] = letters[j] := List.getElem_take
    have hmem : letters[j] ∈ letters.take L := hcj ▸ List.getElem_mem hjt
    refine AW.skip ?_
    refine AW.seq (AW.block ?_)
    refine AW.rseq (fid := f) (mt := []) [3, 9, 10, 11, 12, 21, 22, 26, 33, 34] rfl fun K hK => ?_
    simp only [go_sem, reduceIte, Nat.reduceEqDiff, Int.reduceLE]
    refine hK _ ?_
    clear hK K
    have hlj : ([48, 49, 50, 51, 52, 53, 54, 55, 56, 57, 97, 98, 99, 100, 101, 102] : List UInt8)[j]? = some letters[j] := List.getElem?_eq_getElem (l := letters) hjl
    refine AW.rseq (fid := f) (mt := []) [3, 9, 10, 11, 13, 21, 22, 26, 33, 34] rfl fun K hK => ?_
    simp only [go_sem, reduceIte, Nat.reduceEqDiff, Int.reduceLE, List.length_nil, List.length_cons, Nat.reduceAdd, Nat.reduceLeDiff, hlj]
    refine ⟨by omega, hK _ ?_⟩
    clear hK K
    refine AW.rseq (fid := f) (mt := []) [3, 9, 10, 11, 13, 14, 21, 22, 26, 33, 34] rfl fun K hK => ?_
    simp only [go_sem, reduceIte, Nat.reduceEqDiff, Int.reduceLE, List.length_nil, List.length_cons, Nat.reduceAdd, Nat.reduceLeDiff, List.drop_zero, List.take_succ_cons, List.take_zero]
    refine (hstep x.2 letters[j] hxA hmem).use fun r hr => ?_
    subst hr
    refine hK _ ?_
    clear hK K
    refine AW.rseq (fid := f) (mt := []) [3, 9, 10, 11, 13, 14, 21, 22, 26, 33, 34, 45] rfl fun K hK => ?_
    simp only [go_sem, ints, reduceIte, Nat.reduceEqDiff, Int.reduceLE]
    refine hK _ ?_
    clear hK K
    have hxk : x.1 ∉ vis.map (·.1) := hks
    have htake := ext1_take (stp := stp) x hjt
    rw [hcj] at htake
    refine AW.cond rfl (fun hc => ?_) (fun hc => ?_)
    ·have hne : stp x.2 letters[j] ≠ [] := by
      intro h0
      rw [h0] at hc
      simp at hc
     rw [if_neg hne] at htake
     have hnew : alook (x.1 ++ [letters[j]]) es2 = none := hcj ▸ key_new (letters_nodup.sublist (List.take_sublist _ _)) hxk hjt hes2
     refine AW.region (fid := f) (mt := []) [3, 9, 10, 11, 21, 22, 26, 33, 34] rfl fun K hK => ?_
     simp only [go_sem, reduceIte, Nat.reduceEqDiff, Int.reduceLE, hf1, hf2, hf3, hf4, Nat.add_left_cancel_iff, utf_letters _ (List.getElem_mem hjl)]
     refine ⟨by simp only [List.length_cons, List.length_nil, maxLen, hxn]; omega, hf3, hK _ ?_⟩
     clear hK K
     refine AW.region (fid := f) (mt := []) [3, 9, 10, 11, 21, 22, 26, 33, 34] rfl fun K hK => ?_
     simp only [go_sem, reduceIte, Nat.reduceEqDiff, Int.reduceLE]
     refine hK _ ?_
     clear hK K
     refine ⟨(j + 1, mput (x.1 ++ [letters[j]]) (ints (stp x.2 letters[j])) es2), ⟨by dsimp only; omega, ?_⟩, by dsimp only; omega, ?_⟩
     ·dsimp only
      rw [mput_new hnew, htake, ← List.append_assoc, List.map_append]
      exact hes2.append (List.Perm.refl _)
     ·dsimp only
      rw [cnt_next (by omega) hj']
      exact AS.le_of ⟨rfl, rfl, rfl, rfl, rfl, rfl, rfl, rfl, rfl, trivial⟩ ⟨hget_0, by simp [hget, hf1, hf2, hf3, hf4, ints], by simp [hget, hf1, hf2, hf3, hf4], trivial⟩
    ·have he : stp x.2 letters[j] = [] := by
      have : ¬ 0 < (stp x.2 letters[j]).length := by simpa using hc
      exact List.eq_nil_of_length_eq_zero (by omega)
     rw [if_pos he, List.append_nil] at htake
     refine AW.skip ?_
     refine AW.region (fid := f) (mt := []) [3, 9, 10, 11, 21, 22, 26, 33, 34] rfl fun K hK => ?_
     simp only [go_sem, reduceIte, Nat.reduceEqDiff, Int.reduceLE]
     refine hK _ ?_
     clear hK K
     refine ⟨(j + 1, es2), ⟨by dsimp only; omega, ?_⟩, by dsimp only; omega, ?_⟩
     ·dsimp only
      rw [htake]
      exact hes2
     ·dsimp only
      rw [cnt_next (by omega) hj']
      exact AS.le_of ⟨rfl, rfl, rfl, rfl, rfl, rfl, rfl, rfl, rfl, trivial⟩ ⟨hget_0, by simp [hget, hf1, hf2, hf3, hf4], by simp [hget, hf1, hf2, hf3, hf4], trivial⟩
   ·have hj2 := cnt_ge hc hj
    subst hj2
    have htk : (letters.take j).take j = letters.take j := by rw [List.take_take, Nat.min_self]
    rw [htk] at hes2
    have hes3 : es2.Perm (((x :: vis).flatMap (ext1 stp (letters.take j))).map ent) := by
     refine hes2.trans (List.Perm.map _ ?_)
     rw [List.flatMap_cons]
     exact List.perm_append_comm
    refine AW.exit ?_
    refine AW.rseq (fid := f) (mt := []) [3, 9, 21, 22, 26, 55] rfl fun K hK => ?_
    simp only [go_sem, reduceIte, Nat.reduceEqDiff, Int.reduceLE, hf1, hf2, hf3, hf4, Nat.add_left_cancel_iff]
    have hle2 : es2.length = ((x :: vis).flatMap (ext1 stp (letters.take j))).length := by rw [hes3.length_eq, List.length_map]
    have htot : ((x :: vis).flatMap (ext1 stp (letters.take j))).length ≤ (lvl stp (letters.take j) set (i + 1)).length := by
     have := (perm_flat (stp := stp) (cs := letters.take j) hvr').length_eq
     rw [List.flatMap_append, List.length_append] at this
     show _ ≤ ((lvl stp (letters.take j) set i).flatMap _).length
     omega
    have hsmall : es2.length ≤ maxLen := by
     have hb : ∀ (y : WS), (ext1 stp (letters.take j) y).length ≤ 16 := fun y => by
      refine Nat.le_trans (List.length_filterMap_le _ _) ?_
      rw [List.length_take]
      exact Nat.le_trans (Nat.min_le_left _ _) hL
     rw [hle2, List.flatMap_cons, List.length_append]
     have := hb x
     simp only [maxLen]
     omega
    refine ⟨hsmall, hK _ ?_⟩
    clear hK K
    refine AW.cond rfl (fun hc => ?_) (fun hc => ?_)
    ·have hbig : 4096 < es2.length := by
      have : (4096 : Int) < es2.length := by simpa using hc
      omega
     refine AW.rseq (fid := 79) (mt := []) [6, 7] rfl fun K hK => ?_
     simp only [go_sem, reduceIte, Nat.reduceEqDiff, Int.reduceLE]
     refine hK _ ?_
     clear hK K
     refine AW.ret ⟨.inr rfl, ?_⟩
     simp only [go_sem, reduceIte, Nat.reduceEqDiff]
     exact ⟨_, [], Conv.drop (fun _ _ h => by cases h), .inr ⟨i + 1, by omega, by omega, by omega, rfl, rfl⟩⟩
    ·have hsm : es2.length ≤ 4096 := by
      have : ¬ (4096 : Int) < es2.length := by simpa using hc
      omega
     refine AW.skip ?_
     refine ⟨(x :: vis, l1 ++ l2, es2, true), ⟨hvr', hes3, by dsimp only; omega⟩, by simp, ?_⟩
     exact AS.le_of ⟨rfl, rfl, rfl, rfl, rfl, trivial⟩ ⟨hget_0, by simp [hget, hf1, hf2, hf3, hf4], by simp [hget, hf1, hf2, hf3, hf4], trivial⟩
 ·have hi2 := cnt_ge hc hi
  subst hi2
  refine AW.exit ?_
  refine AW.rseq (fid := 79) (mt := []) [6, 7] rfl fun K hK => ?_
  simp only [go_sem, reduceIte, Nat.reduceEqDiff, Int.reduceLE]
  refine hK _ ?_
  clear hK K
  refine AW.ret ⟨.inr rfl, ?_⟩
  simp only [go_sem, reduceIte, Nat.reduceEqDiff]
  exact ⟨_, _, Conv.refl _ _, .inl ⟨hsz, _, _, _, rfl, rfl, hes⟩⟩
theorem pick_key {vis rest ks : List (List UInt8)} {k : List UInt8} (hp : (vis ++ rest).Perm ks) (hm : k ∈ ks) (hk : k ∉ vis) : ∃ l1 l2, rest = l1 ++ k :: l2 ∧ ((k :: vis) ++ (l1 ++ l2)).Perm ks := by
 have hx : k ∈ rest := (List.mem_append.1 (hp.mem_iff.2 hm)).resolve_left hk
 obtain ⟨l1, l2, rfl⟩ := List.append_of_mem hx
 refine ⟨l1, l2, rfl, List.Perm.trans ?_ hp⟩
 have e1 : (k :: vis) ++ (l1 ++ l2) = k :: ((vis ++ l1) ++ l2) := by simp
 have e2 : vis ++ (l1 ++ k :: l2) = (vis ++ l1) ++ k :: l2 := by simp
 rw [e1, e2]
 exact List.perm_middle.symm
theorem no_rest {vis rest ks : List (List UInt8)} (hn : ks.Nodup) (hp : (vis ++ rest).Perm ks) (hall : ∀ k ∈ ks, k ∈ vis) : rest = [] := by
 cases rest with
 | nil => rfl
 | cons x rest =>
  have h1 := hp.nodup_iff.2 hn
  have hx : x ∈ vis := hall x (hp.mem_iff.1 (by simp))
  exact absurd rfl ((List.nodup_append.1 h1).2.2 x hx x (List.mem_cons_self ..))
theorem w127 {f mid mver lid lver : Nat} {es : List (List UInt8 × HV)} {H : Heap} {K : HV → Heap → Prop} (hn : (es.map (·.1)).Nodup) (hne : f * 1000 + 5 ≠ mid) (hm : hget H mid = some (mver, .map es)) (J : Nat → List (List UInt8) → Heap → Prop)
  (hJm : ∀ iv vis H, J iv vis H → hget H mid = some (mver, .map es)) (hJi : ∀ iv vis H, J iv vis H → ∃ cur, hget H (f * 1000 + 5) = some (iv, .iter mid mver vis cur))
  (h0 : ∀ iv, J iv [] (hset H (f * 1000 + 5) iv (.iter mid mver [] false)))
  (hstep : ∀ iv vis k H, J iv vis H → k ∈ es.map (·.1) → k ∉ vis → vis.length < es.length → YCall Try.prog lid lver [.str k] (hset H (f * 1000 + 5) iv (.iter mid mver (k :: vis) true)) fun r H' => r = .bool true ∧ J iv (k :: vis) H')
  (hdone : ∀ iv vis H, J iv vis H → vis.Perm (es.map (·.1)) → K (.tup []) H) : ACall Try.prog 109 [.yl lid lver, .fptr [.mp mid mver] 0] H K := by
 refine ACall.of_body Try.func109 rfl rfl (Nat.le_of_ble_eq_true rfl) ?_
 unfold Try.f109
 dsimp only [enumS, Nat.reduceAdd]
 refine AW.rseq (fid := f) (mt := []) [0, 5] rfl fun K1 hK1 => ?_
 simp only [go_sem, reduceIte, Nat.reduceEqDiff, Int.reduceLE, List.getElem?_cons_zero, hm]
 refine ⟨hne, fun iv => hK1 _ ?_⟩
 clear hK1 K1
 refine AW.block ?_
 refine AW.loopS (fun p : List (List UInt8) × List (List UInt8) × Heap => ⟨[(0, .yl lid lver), (5, .it (f * 1000 + 5) iv)], p.2.2⟩) (fun p => (p.1 ++ p.2.1).Perm (es.map (·.1)) ∧ J iv p.1 p.2.2) (fun p => p.2.1.length) ([], es.map (·.1), _)
  (AS.le_refl _) ⟨List.Perm.refl _, h0 iv⟩ ?_
 rintro ⟨vis, rest, H1⟩ ⟨hp, hj⟩
 dsimp only at hp hj ⊢
 have hm1 := hJm _ _ _ hj
 obtain ⟨cur, hi1⟩ := hJi _ _ _ hj
 refine AW.rseq (fid := f) (mt := []) [0, 5, 7] rfl fun K1 hK1 => ?_
 simp only [go_sem, reduceIte, Nat.reduceEqDiff, Int.reduceLE, hi1, hm1, List.getElem?_cons_zero]
 refine ⟨fun hall => hK1 _ ?_, fun k v hkv hks => hK1 _ ?_⟩
 ·clear hK1 K1
  have hr := no_rest hn hp fun k hk => by
   obtain ⟨q, hq, rfl⟩ := List.mem_map.1 hk
   exact hall q hq
  subst hr
  rw [List.append_nil] at hp
  refine AW.cseq rfl (fun hc => by cases hc) (fun _ => ?_)
  refine AW.exit ?_
  refine ⟨.inl rfl, ?_⟩
  simp only [go_sem, reduceIte, Nat.reduceEqDiff]
  exact ⟨_, _, Conv.refl _ _, hdone _ _ _ hj hp⟩
 ·clear hK1 K1
  have hk : k ∈ es.map (·.1) := List.mem_map.2 ⟨_, hkv, rfl⟩
  obtain ⟨l1, l2, rfl, hp'⟩ := pick_key hp hk hks
  refine AW.cseq rfl (fun _ => ?_) (fun hc => by cases hc)
  refine AW.skip ?_
  refine AW.block ?_
  refine AW.rseq (fid := f) (mt := []) [0, 3, 5] rfl fun K1 hK1 => ?_
  simp only [go_sem, reduceIte, Nat.reduceEqDiff, Int.reduceLE, hget_hset, hm1, if_neg (Ne.symm hne), List.getElem?_cons_zero]
  refine ⟨v, alook_mem hn hkv, hK1 _ ?_⟩
  clear hK1 K1
  refine AW.rseq (fid := f) (mt := []) [0, 5, 13] rfl fun K1 hK1 => ?_
  simp only [go_sem, reduceIte, Nat.reduceEqDiff, Int.reduceLE]
  refine (hstep iv vis k H1 hj hk hks (by have := hp.length_eq; simp at this; omega)).mono ?_
  rintro r H2 ⟨rfl, hj2⟩
  simp only [go_sem, reduceIte, Nat.reduceEqDiff, Int.reduceLE]
  refine hK1 _ ?_
  clear hK1 K1
  refine AW.cond rfl (fun hc => by cases hc) (fun _ => ?_)
  refine AW.skip ?_
  exact ⟨(k :: vis, l1 ++ l2, H2), ⟨hp', hj2⟩, by simp, ⟨leS_get ⟨rfl, rfl, trivial⟩, fun _ _ h => h⟩⟩
theorem AW.rangeFuncL {P : Program} {N : Nat} {s : AS} {Q : Exit → AS → Prop} {g : Operand} {ps : Array Tmp} {assign body : Code} {f : FuncId} {fs cs : List HV} (id : Nat) (hg : s.ev g = some (.fn (.func f) fs cs))
  (h : ∀ fn ver (L : LoopState → Option Code → AObj), (∀ st pend, L st pend = .loop st pend fn N s.slots ps assign body) → ACall P f (fs ++ [.yl id ver] ++ cs) (hset s.heap id ver (L .ready none)) fun _ H' =>
   ∃ st pend, hget H' id = some (ver, L st pend) ∧ st ≠ .busy ∧ match pend with
    | none => Q .normal { s with heap := hset H' id ver (L .exhausted none) }
    | some c => AW P none N c Q { s with heap := hset H' id ver (L .exhausted (some c)) }) :
  AW P none N (.rangeFunc g ps assign body) Q s :=
 AW.rangeFunc id hg fun fn ver => h fn ver (fun st pend => .loop st pend fn N s.slots ps assign body) fun _ _ => rfl
set_option maxHeartbeats 1000000 in
theorem w160 {f mid mver : Nat} {es : List (List UInt8 × HV)} (hn : (es.map (·.1)).Nodup) (hbig : es.length ≤ 1099511627776) (h2 : f * 1000 + 2 ≠ mid) (h5 : f * 1000 + 5 ≠ mid) (h11 : f * 1000 + 11 ≠ mid) (h9 : f * 1000 + 900 ≠ mid) :
  ACall Try.prog 83 [.v (.slice none 0 0), .fn (.func 109) [] [.fptr [.mp mid mver] 0]] [(mid, mver, .map es)] fun r H' => ∃ l, l.Perm (es.map (·.1)) ∧ ((l = [] ∧ r = .v (.slice none 0 0) ∧ H' = []) ∨
   ∃ id av, l ≠ [] ∧ r = .ar id av 1 0 l.length ∧ H' = [(id, av, .arr 1 9 (l.map .str))]) := by
 refine ACall.of_body Try.func83 rfl rfl (Nat.le_of_ble_eq_true rfl) ?_
 unfold Try.f83
 dsimp only [enumS, Nat.reduceAdd]
 refine AW.rseq (fid := f) (mt := [2]) [1, 2] rfl fun K hK => ?_
 simp only [go_sem, reduceIte, Nat.reduceEqDiff, Int.reduceLE, h2]
 intro bv
 refine hK _ ?_
 clear hK K
 refine AW.seq ?_
 refine AW.rseq (fid := f) (mt := [2]) [2, 6] rfl fun K hK => ?_
 simp only [go_sem, reduceIte, Nat.reduceEqDiff, Int.reduceLE]
 refine hK _ ?_
 clear hK K
 refine AW.block ?_
 have n95 : f * 1000 + 900 ≠ f * 1000 + 5 := by simp
 have n92 : f * 1000 + 900 ≠ f * 1000 + 2 := by simp
 have n911 : f * 1000 + 900 ≠ f * 1000 + 11 := by simp
 have n52 : f * 1000 + 5 ≠ f * 1000 + 2 := by simp
 have n511 : f * 1000 + 5 ≠ f * 1000 + 11 := by simp
 have n112 : f * 1000 + 11 ≠ f * 1000 + 2 := by simp
 refine AW.rangeFuncL (f * 1000 + 900) rfl fun fn lver L hL => ?_
 dsimp only [List.length_cons, List.length_nil, Nat.reduceAdd] at hL ⊢
 refine w127 (f := f) hn h5 (by rw [hget_hset, if_neg (Ne.symm h9)]; exact hget_0) (fun iv vis H => hget H mid = some (mver, .map es) ∧ (∃ cur, hget H (f * 1000 + 5) = some (iv, .iter mid mver vis cur)) ∧
  hget H (f * 1000 + 900) = some (lver, L .ready none) ∧
  ((vis = [] ∧ hget H (f * 1000 + 2) = some (bv, .arr 1 22 [.v (.slice none 0 0)])) ∨
   ∃ av, vis ≠ [] ∧ hget H (f * 1000 + 2) = some (bv, .arr 1 22 [.ar (f * 1000 + 11) av 1 0 vis.length]) ∧ hget H (f * 1000 + 11) = some (av, .arr 1 9 (vis.reverse.map .str)))) (fun _ _ _ h => h.1) (fun _ _ _ h => h.2.1) (fun iv => ?_) ?_ ?_
 ·simp [hget_hset, hget, hset, h2, h5, h9, h11, Ne.symm h2, Ne.symm h5, Ne.symm h9, Ne.symm h11]
 ·rintro iv vis k H1 ⟨hm, ⟨cur, hi⟩, hlp, hac⟩ hk hks hlt
  rw [hL] at hlp
  refine ⟨_, _, _, _, _, _, (by rw [hget_hset, if_neg n95]; exact hlp), rfl, by simp, fun l => ?_⟩
  dsimp only [setPs]
  refine AW.region (fid := f) (mt := [2]) [2, 5] rfl fun K hK => ?_
  simp only [go_sem, reduceIte, Nat.reduceEqDiff, Int.reduceLE]
  refine hK _ ?_
  clear hK K
  refine ⟨rfl, by rw [hget_hset, if_neg n95]; exact hlp, ?_⟩
  refine AW.block ?_
  have fin : ∀ (av : Nat) (H2 : Heap) (o : AObj), o = L .ready none → hget H2 mid = some (mver, .map es) → hget H2 (f * 1000 + 5) = some (iv, .iter mid mver (k :: vis) true) →
    hget H2 (f * 1000 + 2) = some (bv, .arr 1 22 [.ar (f * 1000 + 11) av 1 0 (vis.length + 1)]) → hget H2 (f * 1000 + 11) = some (av, .arr 1 9 ((k :: vis).reverse.map .str)) →
    HV.bool true = .bool true ∧ hget (hset H2 (f * 1000 + 900) lver o) mid = some (mver, .map es) ∧ (∃ cur, hget (hset H2 (f * 1000 + 900) lver o) (f * 1000 + 5) = some (iv, .iter mid mver (k :: vis) cur)) ∧
  hget (hset H2 (f * 1000 + 900) lver o) (f * 1000 + 900) = some (lver, L .ready none) ∧
  ((k :: vis = [] ∧ hget (hset H2 (f * 1000 + 900) lver o) (f * 1000 + 2) = some (bv, .arr 1 22 [.v (.slice none 0 0)])) ∨
   ∃ av, k :: vis ≠ [] ∧ hget (hset H2 (f * 1000 + 900) lver o) (f * 1000 + 2) = some (bv, .arr 1 22 [.ar (f * 1000 + 11) av 1 0 (k :: vis).length]) ∧ hget (hset H2 (f * 1000 + 900) lver o) (f * 1000 + 11) = some (av, .arr 1 9 ((k :: vis).reverse.map .str))) := by
   intro av H2 o ho g1 g2 g4 g5
   refine ⟨rfl, ?_, ⟨true, ?_⟩, ?_, .inr ⟨av, by simp, ?_, ?_⟩⟩
   ·rw [hget_hset, if_neg (Ne.symm h9)]; exact g1
   ·rw [hget_hset, if_neg (Ne.symm n95)]; exact g2
   ·rw [hget_hset, if_pos rfl, ho]
   ·rw [hget_hset, if_neg (Ne.symm n92)]; exact g4
   ·rw [hget_hset, if_neg (Ne.symm n911)]; exact g5
  have hm2 : maxLen = 9223372036854775807 := rfl
  rcases hac with ⟨rfl, hb⟩ | ⟨av, _, hb, ha⟩
  ·refine AW.region (fid := f) (mt := [2]) [2, 5] rfl fun K hK => ?_
   simp only [go_sem, reduceIte, Nat.reduceEqDiff, Int.reduceLE, hget_hset, Nat.add_left_cancel_iff, hb, List.getElem?_cons_zero, Nat.add_zero, List.length_nil, List.length_cons, Nat.zero_le, HV.one, zrep, List.replicate_succ, List.replicate_zero, List.flatten_cons, List.flatten_nil,
    List.set_cons_zero, Option.any_some, Nat.reduceAdd, Nat.reduceMul, Nat.reduceLeDiff, Nat.reduceBEq, Bool.or_false, BEq.rfl, List.take_succ_cons, List.take_zero, List.drop_zero]
   refine ⟨by simp [maxLen], fun av' => hK _ ?_⟩
   clear hK K
   refine ⟨?_, fin av' _ _ (hL _ _).symm ?_ ?_ ?_ ?_⟩
   ·rw [hget_hset, if_neg n92, hget_hset, if_neg n911, hget_hset, if_pos rfl]
   ·rw [hget_hset, if_neg (Ne.symm h2), hget_hset, if_neg (Ne.symm h11), hget_hset, if_neg (Ne.symm h9), hget_hset, if_neg (Ne.symm h5)]; exact hm
   ·rw [hget_hset, if_neg n52, hget_hset, if_neg n511, hget_hset, if_neg (Ne.symm n95), hget_hset, if_pos rfl]
   ·rw [hget_hset, if_pos rfl]; rfl
   ·rw [hget_hset, if_neg n112, hget_hset, if_pos rfl]; simp
  ·refine AW.region (fid := f) (mt := [2]) [2, 5] rfl fun K hK => ?_
   simp only [go_sem, reduceIte, Nat.reduceEqDiff, Int.reduceLE, hget_hset, Nat.add_left_cancel_iff, hb, ha, List.getElem?_cons_zero, Nat.add_zero, List.length_nil, List.length_cons, Nat.zero_le, HV.one, zrep, List.replicate_succ, List.replicate_zero, List.flatten_cons, List.flatten_nil,
    List.set_cons_zero, Option.any_some, Nat.reduceAdd, Nat.reduceMul, Nat.reduceLeDiff, Nat.reduceBEq, Bool.or_false, BEq.rfl, List.take_succ_cons, List.take_zero, List.drop_zero]
   have hb1 : (vis.length + 1) * 16 ≤ 140737488355328 := by clear fin hL hlp; omega
   have hb2 : vis.length + 1 ≤ maxLen := by clear fin hL hlp; omega
   refine ⟨by simp, hb1, hb2, fun av' => hK _ ?_⟩
   clear hK K
   refine ⟨?_, fin av' _ _ (hL _ _).symm ?_ ?_ ?_ ?_⟩
   ·rw [hget_hset, if_neg n92, hget_hset, if_neg n911, hget_hset, if_pos rfl]
   ·rw [hget_hset, if_neg (Ne.symm h2), hget_hset, if_neg (Ne.symm h11), hget_hset, if_neg (Ne.symm h9), hget_hset, if_neg (Ne.symm h5)]; exact hm
   ·rw [hget_hset, if_neg n52, hget_hset, if_neg n511, hget_hset, if_neg (Ne.symm n95), hget_hset, if_pos rfl]
   ·rw [hget_hset, if_pos rfl]
   ·rw [hget_hset, if_neg n112, hget_hset, if_pos rfl, List.take_of_length_le (by simp)]; simp
 ·rintro iv vis H1 ⟨hm, _, hlp, ⟨hv0, hb⟩ | ⟨av, hvn, hb, ha⟩⟩ hp
  ·refine ⟨.ready, none, hlp, by simp, ?_⟩
   dsimp only [blockQ, thenQ]
   clear hL
   refine AW.rseq (fid := f) (mt := [2]) [4] rfl fun K hK => ?_
   simp only [go_sem, reduceIte, Nat.reduceEqDiff, Int.reduceLE, hget_hset, Nat.add_left_cancel_iff, hb, List.getElem?_cons_zero]
   refine hK _ ?_
   clear hK K
   refine AW.ret ⟨.inr rfl, ?_⟩
   simp only [go_sem, reduceIte, Nat.reduceEqDiff]
   exact ⟨_, [], Conv.drop (fun _ _ h => by cases h), [], hv0 ▸ hp, .inl ⟨rfl, rfl, rfl⟩⟩
  ·refine ⟨.ready, none, hlp, by simp, ?_⟩
   dsimp only [blockQ, thenQ]
   clear hL
   refine AW.rseq (fid := f) (mt := [2]) [4] rfl fun K hK => ?_
   simp only [go_sem, reduceIte, Nat.reduceEqDiff, Int.reduceLE, hget_hset, Nat.add_left_cancel_iff, hb, List.getElem?_cons_zero]
   refine hK _ ?_
   clear hK K
   refine AW.ret ⟨.inr rfl, ?_⟩
   simp only [go_sem, reduceIte, Nat.reduceEqDiff]
   refine ⟨_, [(f * 1000 + 11, av, .arr 1 9 (vis.reverse.map .str))], Conv.drop (leH_get ⟨?_, trivial⟩), vis.reverse, (List.reverse_perm vis).trans hp, .inr ⟨_, av, by simpa using hvn, by rw [List.length_reverse], rfl⟩⟩
   rw [hget_hset, if_neg (Ne.symm n911)]; exact ha
def nilS : HV := .v (.slice none 0 0)
def strsN (l : List (List UInt8)) : HV := if l = [] then nilS else strs l
theorem w126 {f mid mver : Nat} {es : List (List UInt8 × HV)} (hn : (es.map (·.1)).Nodup) (hbig : es.length ≤ 1099511627776) (h2 : f * 1000 + 2 ≠ mid) (h5 : f * 1000 + 5 ≠ mid) (h11 : f * 1000 + 11 ≠ mid) (h9 : f * 1000 + 900 ≠ mid) :
  ACall Try.prog 58 [.fn (.func 109) [] [.fptr [.mp mid mver] 0]] [(mid, mver, .map es)] fun r H' => ∃ l, l.Perm (es.map (·.1)) ∧ ((l = [] ∧ r = .v (.slice none 0 0) ∧ H' = []) ∨
   ∃ id av, l ≠ [] ∧ r = .ar id av 1 0 l.length ∧ H' = [(id, av, .arr 1 9 (l.map .str))]) := by
 refine ACall.of_body Try.func58 rfl rfl (Nat.le_of_ble_eq_true rfl) ?_
 unfold Try.f58
 dsimp only [enumS, Nat.reduceAdd]
 refine AW.rseq (fid := f) (mt := []) [0] rfl fun K hK => ?_
 simp only [go_sem, reduceIte, Nat.reduceEqDiff, Int.reduceLE]
 refine hK _ ?_
 clear hK K
 refine AW.rseq (fid := f) (mt := []) [2] rfl fun K hK => ?_
 simp only [go_sem, reduceIte, Nat.reduceEqDiff, Int.reduceLE]
 refine (w160 hn hbig h2 h5 h11 h9).mono ?_
 rintro r H' hr
 refine hK _ ?_
 clear hK K
 refine AW.ret ⟨.inr rfl, ?_⟩
 simp only [go_sem, reduceIte, Nat.reduceEqDiff]
 exact ⟨_, _, Conv.refl _ _, hr⟩
theorem w81 {f mid mver : Nat} {es : List (List UInt8 × HV)} (hn : (es.map (·.1)).Nodup) (hbig : es.length ≤ 1099511627776) (h2 : f * 1000 + 2 ≠ mid) (h5 : f * 1000 + 5 ≠ mid) (h11 : f * 1000 + 11 ≠ mid) (h9 : f * 1000 + 900 ≠ mid) :
  ACall Try.prog 30 [.fn (.func 109) [] [.fptr [.mp mid mver] 0]] [(mid, mver, .map es)] fun r H' => (es = [] ∧ r = nilS ∧ H' = []) ∨
   ∃ id av, es ≠ [] ∧ r = .ar id av 1 0 es.length ∧ H' = [(id, av, .arr 1 9 ((sortS (es.map (·.1))).map .str))] := by
 refine ACall.of_body Try.func30 rfl rfl (Nat.le_of_ble_eq_true rfl) ?_
 unfold Try.f30
 dsimp only [enumS, Nat.reduceAdd]
 refine AW.rseq (fid := f) (mt := []) [0] rfl fun K hK => ?_
 simp only [go_sem, reduceIte, Nat.reduceEqDiff, Int.reduceLE]
 refine hK _ ?_
 clear hK K
 refine AW.rseq (fid := f) (mt := []) [3] rfl fun K hK => ?_
 simp only [go_sem, reduceIte, Nat.reduceEqDiff, Int.reduceLE]
 refine (w126 hn hbig h2 h5 h11 h9).mono ?_
 rintro r H' ⟨l, hp, ⟨rfl, rfl, rfl⟩ | ⟨id, av, hln, rfl, rfl⟩⟩
 ·refine hK _ ?_
  clear hK K
  have he : es = [] := by
   have := hp.length_eq
   simp only [List.length_nil, List.length_map] at this
   exact List.eq_nil_of_length_eq_zero this.symm
  refine AW.rseq (fid := f) (mt := []) [3] rfl fun K hK => ?_
  simp only [go_sem, reduceIte, Nat.reduceEqDiff, Int.reduceLE]
  refine w45n ?_
  refine hK _ ?_
  clear hK K
  refine AW.rseq (fid := f) (mt := []) [2] rfl fun K hK => ?_
  simp only [go_sem, reduceIte, Nat.reduceEqDiff, Int.reduceLE]
  refine hK _ ?_
  clear hK K
  refine AW.ret ⟨.inr rfl, ?_⟩
  simp only [go_sem, reduceIte, Nat.reduceEqDiff]
  exact ⟨_, _, Conv.refl _ _, .inl ⟨he, rfl, rfl⟩⟩
 ·refine hK _ ?_
  clear hK K
  have hlen := hp.length_eq
  rw [List.length_map] at hlen
  refine AW.rseq (fid := f) (mt := []) [3] rfl fun K hK => ?_
  simp only [go_sem, reduceIte, Nat.reduceEqDiff, Int.reduceLE]
  refine w45 hget_0 (by omega) ?_
  simp only [go_sem, reduceIte, Nat.reduceEqDiff, Int.reduceLE]
  refine hK _ ?_
  clear hK K
  refine AW.rseq (fid := f) (mt := []) [2] rfl fun K hK => ?_
  simp only [go_sem, reduceIte, Nat.reduceEqDiff, Int.reduceLE]
  refine hK _ ?_
  clear hK K
  refine AW.ret ⟨.inr rfl, ?_⟩
  simp only [go_sem, reduceIte, Nat.reduceEqDiff]
  exact ⟨_, _, Conv.refl _ _, .inr ⟨id, av, by rintro rfl; exact hln (List.eq_nil_of_length_eq_zero hlen), by rw [hlen], by rw [sortS_perm hp]⟩⟩
theorem w82 {id ver : Nat} {H : Heap} {K : HV → Heap → Prop} (hK : K (.fn (.func 109) [] [.fptr [.mp id ver] 0]) H) : ACall Try.prog 103 [.mp id ver] H K := by
 refine ACall.of_body Try.func103 rfl rfl (Nat.le_of_ble_eq_true rfl) ?_
 unfold Try.f103
 dsimp only [enumS, Nat.reduceAdd]
 refine AW.rseq (fid := 82) (mt := []) [1] rfl fun K1 hK1 => ?_
 simp only [go_sem, reduceIte, Nat.reduceEqDiff, Int.reduceLE, HV.one]
 refine hK1 _ ?_
 clear hK1 K1
 refine AW.rseq (fid := 82) (mt := []) [2] rfl fun K1 hK1 => ?_
 simp only [go_sem, reduceIte, Nat.reduceEqDiff, Int.reduceLE]
 refine hK1 _ ?_
 clear hK1 K1
 refine AW.ret ⟨.inr rfl, ?_⟩
 simp only [go_sem, reduceIte, Nat.reduceEqDiff]
 exact ⟨_, _, Conv.refl _ _, hK⟩
def wordsR (stp : List Int → UInt8 → List Int) (cs : List UInt8) (set : List Int) (n : Nat) : HV :=
 if okLvl stp cs set n = true then .tup [strsN (sortS ((lvl stp cs set n).map (·.1))), .int .i64 0] else .tup [nilS, .int .i64 4]
theorem clean_wordsR (stp : List Int → UInt8 → List Int) (cs : List UInt8) (set : List Int) (n : Nat) : clean (wordsR stp cs set n) := by
 unfold wordsR strsN
 split
 ·split
  ·exact ⟨trivial, trivial, trivial⟩
  ·exact ⟨clean_strs _, trivial, trivial⟩
 ·exact ⟨trivial, trivial, trivial⟩
set_option maxHeartbeats 1000000 in
theorem w36 {L n : Nat} {gS gE : HV} {stp : List Int → UInt8 → List Int} {set : List Int} {A : List Int → Prop} (hL : L ≤ 16) (h1g : gS.one = true) (h1e : gE.one = true) (hA0 : A set) (hA : ∀ a c, A a → c ∈ letters.take L → A (stp a c))
  (hstep : ∀ a c, A a → c ∈ letters.take L → Pure Try.prog 108 [.agg [num L, gS, gE], ints a, .int .u8 c.toNat] (· = ints (stp a c))) (h78 : Pure Try.prog 100 [.agg [num L, gS, gE], num n] (· = .int .i64 0)) (h80 : Pure Try.prog 102 [.agg [num L, gS, gE]] (· = ints set)) :
  Fresh Try.prog 90 [.agg [num L, gS, gE], num n] (wordsR stp (letters.take L) set n) := by
 refine Fresh.of_body 2 Try.func90 rfl rfl (Nat.le_of_ble_eq_true rfl) (clean_wordsR _ _ _ _) fun hf => ?_
 have h79 := w79 (n := n) hL h1g h1e hA0 hA hstep
 unfold Try.f90
 dsimp only [enumS, Nat.reduceAdd]
 simp only [num] at h78 h80 h79 ⊢
 refine AW.rseq (fid := 36) (mt := []) [1, 2] rfl fun K hK => ?_
 simp only [go_sem, reduceIte, Nat.reduceEqDiff, Int.reduceLE]
 refine hK _ ?_
 clear hK K
 refine AW.seq ?_
 refine AW.rseq (fid := 36) (mt := []) [1, 2, 6] rfl fun K hK => ?_
 simp only [go_sem, reduceIte, Nat.reduceEqDiff, Int.reduceLE, List.length_nil, List.length_cons, Nat.reduceAdd, Nat.reduceLeDiff, List.drop_zero, List.take_succ_cons, List.take_zero]
 refine h78.use fun r hr => ?_
 subst hr
 refine hK _ ?_
 clear hK K
 refine AW.rseq (fid := 36) (mt := []) [1, 2, 6, 13] rfl fun K hK => ?_
 simp only [go_sem, reduceIte, Nat.reduceEqDiff, Int.reduceLE]
 refine hK _ ?_
 clear hK K
 refine AW.cond rfl (fun hc => by simp at hc) (fun _ => ?_)
 refine AW.skip ?_
 refine AW.seq (AW.any follows ?_)
 refine AnyAt.steady (q := 0) 4 (AnyAt _ _ _ _ _ 4) rfl rfl (by decide) (by decide) rfl rfl (fun _ h => h) ?_
 dsimp only [List.take, List.drop, Nat.sub_zero]
 simp only [go_sem, reduceIte, Nat.reduceEqDiff, Int.reduceLE, List.length_nil, List.length_cons, Nat.reduceAdd, Nat.reduceLeDiff, List.drop_zero, List.take_succ_cons, List.take_zero]
 refine ⟨_, ACallD.pure0 h80, ?_⟩
 refine AnyAt.op rfl (by decide) rfl (AOpI.plain rfl rfl (aop_sound (fid := 36) (mt := []) rfl ?_))
 dsimp only [List.getElem_toArray, List.getElem_cons_succ, List.getElem_cons_zero]
 simp only [go_sem, ints, reduceIte, Nat.reduceEqDiff, Int.reduceLE, List.length_nil, List.length_cons, Nat.reduceAdd, Nat.reduceLeDiff, List.drop_zero, List.take_succ_cons, List.take_zero, List.getElem?_cons_zero, List.getElem?_cons_succ]
 simp only [ints] at h79
 refine h79.mono ?_
 rintro r H' (⟨hok, id, ver, es, rfl, rfl, hes⟩ | ⟨j, h1, h2, h3, rfl, rfl⟩)
 ·have hok' := okLvl_iff.2 hok
  refine AnyAt.steady (q := 5) 10 (AnyAt _ _ _ _ _ 10) rfl rfl (by decide) (by decide) rfl rfl (fun _ h => h) ?_
  dsimp only [Nat.reduceSub, List.take, List.drop]
  simp only [go_sem, reduceIte, Nat.reduceEqDiff, Int.reduceLE, Nat.reduceSub, List.length_nil, List.length_cons, Nat.reduceAdd, Nat.reduceLeDiff, List.drop_zero, List.take_succ_cons, List.take_zero, List.getElem?_cons_zero, List.getElem?_cons_succ]
  refine AnyAt.done rfl ?_
  refine AW.seq ?_
  refine AW.rseq (fid := 36) (mt := []) [7, 24] rfl fun K hK => ?_
  simp only [go_sem, reduceIte, Nat.reduceEqDiff, Int.reduceLE]
  refine hK _ ?_
  clear hK K
  refine AW.cond rfl (fun hc => by simp at hc) (fun _ => ?_)
  refine AW.skip ?_
  refine AW.rseq (fid := 36) (mt := []) [4, 5] rfl fun K hK => ?_
  simp only [go_sem, reduceIte, Nat.reduceEqDiff, Int.reduceLE]
  refine w82 ?_
  have hkn : (es.map (·.1)).Nodup := perm_keys hes (lvl_keys (letters_nodup.sublist (List.take_sublist _ _)) n)
  have hlen : es.length = (lvl stp (letters.take L) set n).length := by rw [hes.length_eq, List.length_map]
  have hbig : es.length ≤ 1099511627776 := by
   rw [hlen]
   cases n with
   | zero => simp only [lvl]; split <;> simp
   | succ n => have := hok (n + 1) (by omega) (Nat.le_refl _); omega
  have hsk : sortS (es.map (·.1)) = sortS ((lvl stp (letters.take L) set n).map (·.1)) := by
   refine sortS_perm ?_
   have := hes.map (·.1)
   rw [List.map_map] at this
   exact this
  refine (w81 (f := id + 1) hkn hbig (by omega) (by omega) (by omega) (by omega)).mono ?_
  rintro r H' (⟨he, rfl, rfl⟩ | ⟨id', av, hen, rfl, rfl⟩)
  ·refine hK _ ?_
   clear hK K
   refine AW.ret ⟨.inr rfl, ?_⟩
   simp only [go_sem, reduceIte, Nat.reduceEqDiff]
   have hl0 : lvl stp (letters.take L) set n = [] := List.eq_nil_of_length_eq_zero (by rw [← hlen, he]; rfl)
   refine ⟨_, _, Conv.refl _ _, rfl, rfl, ?_⟩
   simp only [wordsR, hok', if_true, hl0, List.map_nil, sortS, List.mergeSort_nil, strsN, frz, List.map_cons]
   rfl
  ·refine hK _ ?_
   clear hK K
   refine AW.ret ⟨.inr rfl, ?_⟩
   simp only [go_sem, reduceIte, Nat.reduceEqDiff]
   refine ⟨_, _, Conv.refl _ _, rfl, ?_, ?_⟩
   ·simp only [nfH, nfO, Bool.and_true]
    have : ∀ l : List (List UInt8), nfL (l.map HV.str) = true := fun l => by
     induction l with
     | nil => rfl
     | cons a l ih => simp only [List.map_cons, nfL, nf, ih, Bool.and_self]
    exact this _
   ·have hne : sortS ((lvl stp (letters.take L) set n).map (·.1)) ≠ [] := by
     intro h0
     have h1 := congrArg List.length h0
     rw [sortS_len, List.length_map, ← hlen] at h1
     exact hen (List.eq_nil_of_length_eq_zero h1)
    have hll : (sortS (es.map (·.1))).length = es.length := by rw [sortS_len, List.length_map]
    have hfr : frz 2 [(id', av, AObj.arr 1 9 ((sortS (es.map (·.1))).map HV.str))] (.tup [.ar id' av 1 0 es.length, .int .i64 0]) = .tup [.sl 1 es.length ((sortS (es.map (·.1))).map HV.str), .int .i64 0] := by
     have h5 : ((sortS (es.map (·.1))).map HV.str).length = es.length := by rw [List.length_map, hll]
     simp only [frz, List.map_cons, List.map_nil, hget_0, Nat.zero_add, Nat.mul_one, h5, Nat.le_refl, and_self, if_true, List.drop_zero]
     rw [← h5, List.take_length]
     rw [List.map_id']
    refine hfr.trans ?_
    rw [hsk] at hll ⊢
    simp only [wordsR, hok', if_true, strsN, if_neg hne, strs]
    rw [hll]
 ·have hok' : ¬ okLvl stp (letters.take L) set n = true := fun h => by
   have := okLvl_iff.1 h j h1 h2
   omega
  refine AnyAt.steady (q := 5) 10 (AnyAt _ _ _ _ _ 10) rfl rfl (by decide) (by decide) rfl rfl (fun _ h => h) ?_
  dsimp only [Nat.reduceSub, List.take, List.drop]
  simp only [go_sem, reduceIte, Nat.reduceEqDiff, Int.reduceLE, Nat.reduceSub, List.length_nil, List.length_cons, Nat.reduceAdd, Nat.reduceLeDiff, List.drop_zero, List.take_succ_cons, List.take_zero, List.getElem?_cons_zero, List.getElem?_cons_succ]
  refine AnyAt.done rfl ?_
  refine AW.seq ?_
  refine AW.rseq (fid := 36) (mt := []) [7, 24] rfl fun K hK => ?_
  simp only [go_sem, reduceIte, Nat.reduceEqDiff, Int.reduceLE]
  refine hK _ ?_
  clear hK K
  refine AW.cond rfl (fun _ => ?_) (fun hc => by simp at hc)
  refine AW.rseq (fid := 36) (mt := []) [4, 5] rfl fun K hK => ?_
  simp only [go_sem, reduceIte, Nat.reduceEqDiff, Int.reduceLE]
  refine hK _ ?_
  clear hK K
  refine AW.ret ⟨.inr rfl, ?_⟩
  simp only [go_sem, reduceIte, Nat.reduceEqDiff]
  refine ⟨_, _, Conv.refl _ _, rfl, rfl, ?_⟩
  simp only [wordsR, if_neg hok', frz, List.map_cons]
  rfl
theorem names_ok : Try.prog.funcs.toList.all (fun x => !(x.name == "runtime.NumGoroutine")) = true := by kernel_rfl
theorem fn_ok (f : FuncId) (x : Func) (h : Try.prog.funcs[f]? = some x) : Try.prog.funcs[f]? = some x ∧ (x.name == "runtime.NumGoroutine") = false := by
 refine ⟨h, ?_⟩
 have := List.all_eq_true.1 names_ok x (by
  rw [← Array.getElem?_toList] at h
  exact List.mem_of_getElem? h)
 simpa using this
def idxExt (f : FuncId) (args : List HV) : Option HV :=
 match f, args with
 | 82, [.str l, .int .u8 c] => some (.int .i64 (Lib.indexByte l c.toNat.toUInt8))
 | _, _ => none
theorem idxExt_ok (f : FuncId) (args : List HV) (r : HV) (h : idxExt f args = some r) : Fresh Try.prog f args r := by
 unfold idxExt at h
 split at h
 ·cases h
  exact (w51 _ _).fresh trivial rfl
 ·cases h
def trySort (f : FuncId) : Option Bool := match f with
 | 10 => some true
 | 116 => some false
 | _ => none
def tabsOf (P : Program) (l : List (FuncId × List HV × HV)) : Tabs where
 ty := ty P
 fn := fun f => P.funcs[f]?
 ext := fun f args => match idxExt f args with
  | some r => some r
  | none => elook l f args
 sort := trySort
 keep := fun _ _ => none
theorem tabsOf_ok {P : Program} {l : List (FuncId × List HV × HV)} (hn : ∀ (f : FuncId) (x : Func), P.funcs[f]? = some x → (x.name == "runtime.NumGoroutine") = false) (hi : ∀ f args r, idxExt f args = some r → Fresh P f args r) (h1 : SortsS P 10) (h2 : SortsI P 116)
  (hd : P.follows .mixedOrders = true) (hl : ∀ e ∈ l, Fresh P e.1 e.2.1 e.2.2) : (tabsOf P l).Ok P where
 ty := fun _ _ h => h
 fn := fun f x h => ⟨h, hn f x h⟩
 ext := fun f args r h => by
  simp only [tabsOf] at h
  split at h
  ·rename_i hx; cases h; exact hi _ _ _ hx
  ·exact elook_ok hl f args r h
 sortS := fun f h => by
  simp only [tabsOf, trySort] at h
  split at h
  ·exact h1
  ·cases h
  ·cases h
 sortI := fun f h => by
  simp only [tabsOf, trySort] at h
  split at h
  ·cases h
  ·exact h2
  ·cases h
 draw := hd
theorem tabs_ok {l : List (FuncId × List HV × HV)} (hl : ∀ e ∈ l, Fresh Try.prog e.1 e.2.1 e.2.2) : (tabsOf Try.prog l).Ok Try.prog :=
 tabsOf_ok (fun f x h => (fn_ok f x h).2) idxExt_ok sorts45 sorts179 follows hl
def gE : HV := .sl 3 3 [num 0, num 0, num 0, num 0, num 1, num 1, num 1, num 0, num 0]
def gAw : HV := .agg [num 2, num 2, gE]
theorem a86 : Fresh Try.prog 110 [gAw] (num 0) := Fresh.of_comes (T := tabsOf Try.prog []) (k := 1000) (tabs_ok (fun _ h => by cases h)) (by kernel_rfl)
def k86 : List (FuncId × List HV × HV) := [(110, [gAw], num 0)]
theorem k86_ok : (tabsOf Try.prog k86).Ok Try.prog := tabs_ok fun e h => by
 simp only [k86, List.mem_singleton] at h
 subst h
 exact a86
theorem a78 : Fresh Try.prog 100 [gAw, num 3] (num 0) := Fresh.of_comes (k := 1000) k86_ok (by kernel_rfl)
theorem a80 : Fresh Try.prog 102 [gAw] (ints [0, 1]) := Fresh.of_comes (k := 1000) k86_ok (by kernel_rfl)
def stpA (a : List Int) (c : UInt8) : List Int := if c = 48 then (if a = [] then [] else [0]) else if a = [0, 1] ∨ a = [0] then [1] else []
def setsA (a : List Int) : Prop := a = [0, 1] ∨ a = [0] ∨ a = [1] ∨ a = []
theorem a125 : ∀ a c, setsA a → c ∈ letters.take 2 → Pure Try.prog 108 [gAw, ints a, .int .u8 c.toNat] (· = ints (stpA a c)) := by
 intro a c ha hc
 have hc : c = 48 ∨ c = 49 := by simpa [letters] using hc
 rcases ha with rfl | rfl | rfl | rfl <;> rcases hc with rfl | rfl
 ·exact Pure.of_comes (k := 1000) k86_ok (by kernel_rfl)
 ·exact Pure.of_comes (k := 1000) k86_ok (by kernel_rfl)
 ·exact Pure.of_comes (k := 1000) k86_ok (by kernel_rfl)
 ·exact Pure.of_comes (k := 1000) k86_ok (by kernel_rfl)
 ·exact Pure.of_comes (k := 1000) k86_ok (by kernel_rfl)
 ·exact Pure.nilI (Pure.of_comes (k := 1000) k86_ok (by kernel_rfl))
 ·exact Pure.nilI (Pure.of_comes (k := 1000) k86_ok (by kernel_rfl))
 ·exact Pure.nilI (Pure.of_comes (k := 1000) k86_ok (by kernel_rfl))
def wordsA : List (List UInt8) := [[48, 48, 48], [48, 48, 49], [48, 49, 48], [49, 48, 48], [49, 48, 49]]
theorem a36 : Fresh Try.prog 90 [gAw, num 3] (.tup [strs wordsA, .int .i64 0]) := by
 have h := w36 (L := 2) (n := 3) (gS := num 2) (gE := gE) (stp := stpA) (set := [0, 1]) (A := setsA) (by decide) rfl rfl (.inl rfl) (fun a c ha hc => ?_) a125 a78.pure a80.pure
 ·have hw : wordsR stpA (letters.take 2) [0, 1] 3 = .tup [strs wordsA, .int .i64 0] := by
   have h1 : okLvl stpA (letters.take 2) [0, 1] 3 = true := by decide
   have h2 : sortS ((lvl stpA (letters.take 2) [0, 1] 3).map (·.1)) = wordsA := sortS_eq (by decide) (by decide)
   simp only [wordsR, h1, if_true, h2]
   rfl
  rw [← hw]
  exact h
 ·have hc : c = 48 ∨ c = 49 := by simpa [letters] using hc
  rcases ha with rfl | rfl | rfl | rfl <;> rcases hc with rfl | rfl <;> (unfold setsA; decide)
def k36 : List (FuncId × List HV × HV) := [(90, [gAw, num 3], .tup [strs wordsA, .int .i64 0])]
theorem k36_ok : (tabsOf Try.prog k36).Ok Try.prog := tabs_ok fun e h => by
 simp only [k36, List.mem_singleton] at h
 subst h
 exact a36
theorem w15 : Fresh Try.prog 13 [] (.bool true) := Fresh.of_comes (k := 3000) k36_ok (by kernel_rfl)
theorem w_law46_awake {r : Bool} (h : m_law46_awake = some r) : Pure Try.prog 13 [] (· = HV.bool r) := by
 cases h
 exact w15.pure
end Go.AW
namespace Go.AW
open Go
set_option linter.unusedVariables false
noncomputable def m_law46_DistanceFree_1_1 (p0 : TToWord) : Option (Bool) :=
 some (decide (20 < ((p0.2).length : Int)))
noncomputable def m_slices_IndexFunc_Lapi_Cell_api_Cell (p0 : List (TToWord)) (p1 : TToWord → Option (Bool)) : Option (Int) :=
 lpO (loopW (S := Int) (X := Ou (Unit) (Int)) (fun a1 =>
     if a1 < ((p0).length : Int) then
      (idx p0 a1).bind fun x5 =>
      (p1 x5).bind fun x7 =>
      if x7 = true then
       some (Stp.exit (Ou.ret a1))
      else
       some (Stp.next (IntKind.wrap .i64 (a1 + 1)))
     else
      some (Stp.exit (Ou.go ()))) 0) (fun a9 =>
     some (-1)) some
noncomputable def m_slices_ContainsFunc_Lapi_Cell_api_Cell (p0 : List (TToWord)) : Option (Bool) :=
 (m_slices_IndexFunc_Lapi_Cell_api_Cell p0 (fun b0 => m_law46_DistanceFree_1_1 b0 )).bind fun x1 =>
 some (decide (0 ≤ x1))
noncomputable def m_law46_DistanceFree_1 (p0 : List (TToWord)) : Option (Bool) :=
 jp (fun (a1 : Bool) =>
   some a1)
   fun k3 =>
  if 6 < ((p0).length : Int) then
   k3 true
  else
   (m_slices_ContainsFunc_Lapi_Cell_api_Cell p0).bind fun x4 =>
   k3 x4
noncomputable def m_slices_IndexFunc_LLapi_Cell_Lapi_Cell (p0 : List (List (TToWord))) (p1 : (List (TToWord)) → Option (Bool)) : Option (Int) :=
 lpO (loopW (S := Int) (X := Ou (Unit) (Int)) (fun a1 =>
     if a1 < ((p0).length : Int) then
      (idx p0 a1).bind fun x5 =>
      (p1 x5).bind fun x7 =>
      if x7 = true then
       some (Stp.exit (Ou.ret a1))
      else
       some (Stp.next (IntKind.wrap .i64 (a1 + 1)))
     else
      some (Stp.exit (Ou.go ()))) 0) (fun a9 =>
     some (-1)) some
noncomputable def m_slices_ContainsFunc_LLapi_Cell_Lapi_Cell (p0 : List (List (TToWord))) : Option (Bool) :=
 (m_slices_IndexFunc_LLapi_Cell_Lapi_Cell p0 (fun b0 => m_law46_DistanceFree_1 b0 )).bind fun x1 =>
 some (decide (0 ≤ x1))
noncomputable def m_law46_DistanceFree (p0 : TLettersBlockInputsRows) (p1 : Int) (p2 : Int) : Option (Bool) :=
 jp (fun (a1 : Bool) =>
   if a1 = true then
    (m_law46_awake).bind fun x4 =>
    some x4
   else
    (m_slices_ContainsFunc_LLapi_Cell_Lapi_Cell p0.2.2.2).bind fun x6 =>
    if x6 = true then
     (m_law46_awake).bind fun x8 =>
     some x8
    else
     (m_distance_Free p0 p1 p2).bind fun x10 =>
     (m_ref46_Free p0 p1 p2).bind fun x12 =>
     jp (fun (a14 : Bool) =>
       if a14 = true then
        some false
       else
        jp (fun (a17 : Bool) =>
          if a17 = true then
           (m_law46_awake).bind fun x20 =>
           some x20
          else
           (m_distance_Free p0 p1 (IntKind.wrap .i64 (p2 - 1))).bind fun x22 =>
           jp (fun (a24 : Bool) =>
             some a24)
             fun k26 =>
            if x22.2 = 0 then
             if x22.1 ≤ x10.1 then
              (m_ref25_Check p0).bind fun x27 =>
              if x27 = 0 then
               (m_law46_awake).bind fun x29 =>
               k26 x29
              else
               k26 false
             else
              k26 false
            else
             k26 false)
          fun k19 =>
         if x10.2 ≠ 0 then
          k19 true
         else
          k19 (decide (p2 < 2)))
       fun k16 =>
      if x10.1 ≠ x12.1 then
       k16 true
      else
       k16 (decide (x10.2 ≠ x12.2)))
   fun k3 =>
  if 6 < ((p0.2.2.2).length : Int) then
   k3 true
  else
   if 4 < p0.2.2.1 then
    if p0.2.2.1 ≤ 256 then
     k3 true
    else
     if 4 < p0.2.1 then
      if p0.2.1 ≤ 16 then
       k3 true
      else
       if 3 < p2 then
        k3 (decide (p2 ≤ 16))
       else
        k3 false
     else
      if 3 < p2 then
       k3 (decide (p2 ≤ 16))
      else
       k3 false
   else
    if 4 < p0.2.1 then
     if p0.2.1 ≤ 16 then
      k3 true
     else
      if 3 < p2 then
       k3 (decide (p2 ≤ 16))
      else
       k3 false
    else
     if 3 < p2 then
      k3 (decide (p2 ≤ 16))
     else
      k3 false
end Go.AW
