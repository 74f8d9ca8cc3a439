/- TopTenengolts: for every input the law's function returns true, and the input reads as it did. -/
import Derived.Test.YtbfbjlehdhedcaaTe3
import Derived.ChangeMaps5
import Derived.OpenShut
import Derived.ProofKit
import Derived.Shelf.Slices.CompactS
import Derived.SliceStrings
import Derived.Test.YtbfbjlehdhedcaaChecked
import Derived.Test.YtbfbjlehdhedcaaRows
import Derived.WalkKit
import Derived.WideKeyArgs
namespace Go.AW
open Go
set_option linter.unusedSimpArgs false
noncomputable def sops (r : Task → Option Out) (T : Tabs) (all : List Oper) : List Oper → AS → Nat → Option (AS × Nat)
 | [], s, n => some (s, n)
 | o :: rest, s, n => match o.guard with
  | none => match sop r T o s n with
   | some (s1, n1) => sops r T all rest s1 n1
   | none => none
  | some (j, want) => match all[j]? with
   | some oj => match oj.dst with
    | some d => match sgetR s.slots d with
     | some (.bool b) => match (b == want) with
      | true => match sop r T o (s.putR (some d) (.bool want)) n with
       | some (s1, n1) => sops r T all rest s1 n1
       | none => none
      | false => sops r T all rest ((s.putR (some d) (.bool !want)).putR o.dst (.v undef)) n
     | _ => none
    | none => none
   | none => none
noncomputable def sfrz : Nat → Heap → HV → Option HV
 | 0, _, h => some h
 | n + 1, D, h => match h with
  | .agg cs => match cs.mapM (sfrz n D) with
   | some cs => some (.agg cs)
   | none => none
  | .tup cs => match cs.mapM (sfrz n D) with
   | some cs => some (.tup cs)
   | none => none
  | .fn f fs cs => match fs.mapM (sfrz n D), cs.mapM (sfrz n D) with
   | some fs, some cs => some (.fn f fs cs)
   | _, _ => none
  | .ar id ver k off m => match hgetR D id with
   | some (ver', .arr _ _ cs) => guardO (Nat.beq ver ver' && Nat.ble (off + m * k) cs.length) (match ((cs.drop off).take (m * k)).mapM (sfrz n D) with
    | some cs => some (.sl k m cs)
    | none => none)
   | _ => none
  | .ptr id ver off => match hgetR D id with
   | some (ver', .arr _ _ cs) => guardO (Nat.beq ver ver') (match cs.mapM (sfrz n D) with
    | some cs => some (.fptr cs off)
    | none => none)
   | _ => none
  | h => some h
theorem sfrz_sound (n : Nat) (D : Heap) (ρ : Nat → Nat) : ∀ h h', sfrz n D h = some h' → frz n (renH ρ D) (h.ren ρ) = h'.ren ρ := by
 induction n with
 | zero => intro h h' e; cases e; rfl
 | succ n ih =>
  have ihL : ∀ (cs ds : List HV), cs.mapM (sfrz n D) = some ds → (renL ρ cs).map (frz n (renH ρ D)) = renL ρ ds := by
   intro cs
   induction cs with
   | nil => intro ds e; simp at e; subst e; rfl
   | cons c cs ihc =>
    intro ds e
    simp only [List.mapM_cons, Option.pure_def, Option.bind_eq_bind, Option.bind_eq_some_iff] at e
    obtain ⟨d, hd, es, he, e⟩ := e
    cases e
    simp only [renL, List.map_cons, ih _ _ hd, ihc _ he]
  intro h h' e
  unfold sfrz at e
  simp only [hgetR_eq] at e
  split at e
  ·split at e
   ·rename_i hc; cases e; simp only [HV.ren, frz, ihL _ _ hc]
   ·cases e
  ·split at e
   ·rename_i hc; cases e; simp only [HV.ren, frz, ihL _ _ hc]
   ·cases e
  ·split at e
   ·rename_i hf hc; cases e; simp only [HV.ren, frz, ihL _ _ hf, ihL _ _ hc]
   ·cases e
  ·split at e
   ·rename_i id ver k off m _ ver' k' e' cs hg
    replace e := guardO_some e
    obtain ⟨h1, e⟩ := e
    simp only [Bool.and_eq_true] at h1
    have hv := Nat.eq_of_beq_eq_true h1.1
    subst hv
    split at e
    ·rename_i ds hc
     cases e
     simp only [HV.ren, frz, hget_ren, hg, Option.map_some, AObj.ren]
     rw [if_pos ⟨trivial, by rw [renL_len]; exact Nat.le_of_ble_eq_true h1.2⟩, ← renL_drop, ← renL_take, ihL _ _ hc]
    ·cases e
   ·cases e
  ·split at e
   ·rename_i id ver off _ ver' k' e' cs hg
    replace e := guardO_some e
    obtain ⟨h1, e⟩ := e
    have hv := Nat.eq_of_beq_eq_true h1
    subst hv
    split at e
    ·rename_i ds hc
     cases e
     simp only [HV.ren, frz, hget_ren, hg, Option.map_some, AObj.ren, if_true]
     rw [ihL _ _ hc]
    ·cases e
   ·cases e
  ·cases e
   cases h <;> first | rfl | (exfalso; rename_i h1 h2 h3 h4 h5; first | exact h1 _ rfl | exact h2 _ rfl | exact h3 _ _ _ rfl | exact h4 _ _ _ _ _ rfl | exact h5 _ _ _ rfl)
theorem ACall.conv {P : Program} {f : FuncId} {args : List HV} {H : Heap} {K K' : HV → Heap → Prop} (h : ACall P f args H K) (hc : ∀ r H', K r H' → ∃ r2 H2, Conv H' r r2 H2 ∧ K' r2 H2) : ACall P f args H K' :=
 ⟨h.1, fun μ w vs hs hr hgl => (h.2 μ w vs hs hr hgl).mono fun _ w' ⟨v, r, H', μ', e, k, hs', hr', E⟩ => by
  obtain ⟨r2, H2, hconv, hk⟩ := hc r H' k
  obtain ⟨μ2, hs2, hr2, E2⟩ := hconv w' μ' v hs' hr'
  exact ⟨v, r2, H2, μ2, e, hk, hs2, hr2, E.trans E2⟩⟩
noncomputable def spBox (s : AS) (x : Operand) : Option HV := match s.evR x with
  | some hv => match hv.cells? with
   | some cs => some (.fptr cs 0)
   | none => none
  | none => none
noncomputable def spBuild (T : Tabs) (s : AS) (t : TypeId) (m : Nat) (ps : Array (Nat × Operand)) : Option HV := guardO (Nat.ble m 16777216) (match sslice T.ty s t m ps.toList with
  | some (k, _, cs) => some (.sl k m cs)
  | none => none)
noncomputable def spCall (r : Task → Option Out) (s : AS) (f : Operand) (aa : Array Operand) : Option HV := match s.evR f, aa.toList.mapM s.evR with
  | some (.fn (.func g) fs cs), some hs => (match (fs ++ hs ++ cs).mapM (sfrz 8 s.heap) with
   | some as' => guardO (scL 0 as') (match r (.call g as' [] 0) with
    | some (.call rv H _) => guardO (scL 0 (fs ++ hs ++ cs) || (nf rv && nfH H)) (match sfrz 8 H rv with
     | some q => guardO (q.sc 0) (some q)
     | none => none)
    | _ => none)
   | none => none)
  | _, _ => none
noncomputable def sopS (r : Task → Option Out) (T : Tabs) (o : Oper) (s : AS) : Option HV :=
 match o.op with
 | .box _ x => spBox s x
 | .buildSlice t m ps => spBuild T s t m ps
 | .call ⟨.value f, aa, _⟩ => spCall r s f aa
 | op => sval T.ty op s
noncomputable def ssteps (r : Task → Option Out) (T : Tabs) (all : List Oper) : List Oper → AS → Nat → Option AS
 | [], s, _ => some s
 | o :: rest, s, n => match o.guard with
  | none => match sopS r T o s with
   | some h => guardO (h.sc n) (ssteps r T all rest (s.putR o.dst h) n)
   | none => none
  | some (j, want) => match all[j]? with
   | some oj => match oj.dst with
    | some d => match sgetR s.slots d with
     | some (.bool b) => match (b == want) with
      | true => match sopS r T o (s.putR (some d) (.bool want)) with
       | some h => guardO (h.sc n) (ssteps r T all rest ((s.putR (some d) (.bool want)).putR o.dst h) n)
       | none => none
      | false => ssteps r T all rest ((s.putR (some d) (.bool !want)).putR o.dst (.v undef)) n
     | _ => none
    | none => none
   | none => none
def steadyKind (o : Oper) : Bool := match o.op with
 | .alloc _ | .store _ _ _ | .makeSlice _ _ _ | .makeMap _ _ | .mapUpdate _ _ _ _ | .insert _ _ _ _ | .lookup _ _ _ _ | .range _ _ | .next _ _ | .entry _ | .build _ _ => false
 | .call ⟨.builtin .append, _, _⟩ => false
 | _ => true
def callKind (o : Oper) : Bool := match o.op with
 | .call ⟨.value _, _, _⟩ | .box _ _ | .buildSlice _ _ _ => true
 | _ => false
def fnB : HV → Bool
 | .fn _ _ (_ :: _) => true
 | _ => false
noncomputable def greedy (r : Task → Option Out) (T : Tabs) (all : List Oper) : List Oper → AS → Nat → Nat
 | [], _, p => p
 | o :: rest, s, p => bif steadyKind o then (match o.guard with
  | none => match sopS r T o s with
   | some h => bif fnB h && callKind o then p else greedy r T all rest (s.putR o.dst h) (p + 1)
   | none => p
  | some (j, want) => match all[j]? with
   | some oj => match oj.dst with
    | some d => match sgetR s.slots d with
     | some (.bool b) => match (b == want) with
      | true => match sopS r T o s with
       | some h => greedy r T all rest (s.putR o.dst h) (p + 1)
       | none => p
      | false => greedy r T all rest (s.putR o.dst (.v undef)) (p + 1)
     | _ => p
    | none => p
   | none => p) else p
def plain : List Oper → Nat → Nat
 | [], p => p
 | o :: rest, p => bif (steadyKind o && !callKind o) then plain rest (p + 1) else p
noncomputable def sdrawP (r : Task → Option Out) (T : Tabs) (ops : Array Oper) (s : AS) (n p : Nat) : Option (AS × Nat) :=
 guardO (drawOk ops p) (match ssteps r T ops.toList (ops.toList.take p) s n with
  | some s1 => sops r T ops.toList (ops.toList.drop p) s1 n
  | none => none)
noncomputable def sdraw (r : Task → Option Out) (T : Tabs) (ops : Array Oper) (s : AS) (n : Nat) : Option (AS × Nat) :=
 match sdrawP r T ops s n (greedy r T ops.toList ops.toList s 0) with
 | some x => some x
 | none => sdrawP r T ops s n (plain ops.toList 0)
noncomputable def sres1 (T : TypeId → Option TyI) (s : AS) (rv : ResultVar) : Option HV :=
 match rv with
 | .tmp t => sgetR s.slots t
 | .cell t ty' => match T ty', sgetR s.slots t with
  | some U, some (.fptr cs off) => sload U cs off
  | some U, some (.ptr id ver off) => match hgetR s.heap id with
   | some (ver', .arr _ _ cs) => guardO (Nat.beq ver ver') (sload U cs off)
   | _ => none
  | _, _ => none
noncomputable def sres (T : TypeId → Option TyI) (s : AS) : List ResultVar → Option (List HV)
 | [] => some []
 | rv :: rvs => match sres1 T s rv, sres T s rvs with
  | some h, some hs => some (h :: hs)
  | _, _ => none
mutual
def HV.refs (n : Nat) : HV → List Nat → List Nat
 | .agg cs, a | .tup cs, a | .sl _ _ cs, a | .fptr cs _, a => refsL n cs a
 | .ar id _ _ _ _, a | .ptr id _ _, a | .mp id _, a | .yl id _, a | .it id _, a => bif Nat.blt id n then a else id :: a
 | .fn _ fs cs, a => refsL n fs (refsL n cs a)
 | _, a => a
def refsL (n : Nat) : List HV → List Nat → List Nat
 | [], a => a
 | c :: cs, a => c.refs n (refsL n cs a)
end
def refsS (n : Nat) : List (Nat × HV) → List Nat → List Nat
 | [], a => a
 | (_, h) :: l, a => h.refs n (refsS n l a)
def refsE (n : Nat) : List (List UInt8 × HV) → List Nat → List Nat
 | [], a => a
 | (_, h) :: l, a => h.refs n (refsE n l a)
def AObj.refs (n : Nat) : AObj → List Nat → List Nat
 | .arr _ _ cs, a => refsL n cs a
 | .map es, a => refsE n es a
 | .iter mid _ _ _, a => bif Nat.blt mid n then a else mid :: a
 | .loop _ _ _ _ snap _ _ _, a => refsS n snap a
 | .kmap _, a => a
def oldRefs (n : Nat) : Heap → List Nat → List Nat
 | [], a => a
 | (i, _, o) :: l, a => bif Nat.blt i n then o.refs n (oldRefs n l a) else oldRefs n l a
def memN (i : Nat) : List Nat → Bool
 | [] => false
 | j :: l => bif Nat.beq i j then true else memN i l
def mark (n : Nat) (H : Heap) : Nat → List Nat → List Nat → List Nat
 | 0, _, m => m
 | _ + 1, [], m => m
 | f + 1, i :: w, m => bif memN i m then mark n H f w m else match hget H i with
  | some (_, o) => mark n H f (o.refs n w) (i :: m)
  | none => mark n H f w m
def hkeep (n : Nat) (m : List Nat) : Heap → Heap
 | [] => []
 | (i, x) :: l => bif (Nat.blt i n || memN i m) then (i, x) :: hkeep n m l else hkeep n m l
def anyNew (n : Nat) : Heap → Bool
 | [] => false
 | (i, _) :: l => bif Nat.blt i n then anyNew n l else true
def gc (n : Nat) (rv : HV) (H : Heap) : Heap := bif anyNew n H then hkeep n (mark n H 200 (rv.refs n (oldRefs n H [])) []) H else H
theorem hkeep_get (n : Nat) (m : List Nat) : ∀ (H : Heap) (id : Nat) (x : Nat × AObj), hget (hkeep n m H) id = some x → hget H id = some x
 | [], _, _, h => h
 | (i, v, o) :: l, id, x, h => by
  simp only [hkeep] at h
  simp only [hget]
  cases hb : (Nat.blt i n || memN i m) with
  | true =>
   rw [hb] at h
   simp only [cond_true, hget] at h
   split
   ·rename_i e; rw [if_pos e] at h; exact h
   ·rename_i e; rw [if_neg e] at h; exact hkeep_get n m l id x h
  | false =>
   rw [hb] at h
   simp only [cond_false] at h
   split
   ·rename_i e
    subst e
    exfalso
    have : ∀ l : Heap, hget (hkeep n m l) id = none := fun l => by
     induction l with
     | nil => rfl
     | cons y l ih =>
      obtain ⟨j, y⟩ := y
      simp only [hkeep]
      cases hb2 : (Nat.blt j n || memN j m) with
      | true =>
       simp only [cond_true, hget]
       split
       ·rename_i e; subst e; rw [hb] at hb2; cases hb2
       ·exact ih
      | false => exact ih
    rw [this] at h
    cases h
   ·exact hkeep_get n m l id x h
theorem gc_get {n : Nat} {rv : HV} {H : Heap} {id : Nat} {x : Nat × AObj} (h : hget (gc n rv H) id = some x) : hget H id = some x := by
 unfold gc at h
 cases hb : anyNew n H with
 | true => rw [hb] at h; exact hkeep_get _ _ _ _ _ h
 | false => rw [hb] at h; exact h
theorem hkeep_sc {k n : Nat} {m : List Nat} : ∀ {H : Heap}, scH k H = true → scH k (hkeep n m H) = true
 | [], _ => rfl
 | (i, v, o) :: l, h => by
  simp only [scH, Bool.and_eq_true] at h
  simp only [hkeep]
  cases (Nat.blt i n || memN i m) with
  | true => simp only [cond_true, scH, h.1.1.1, h.1.1.2, h.1.2, hkeep_sc h.2, Bool.and_self]
  | false => exact hkeep_sc h.2
theorem gc_sc {k n : Nat} {rv : HV} {H : Heap} (h : scH k H = true) : scH k (gc n rv H) = true := by
 unfold gc
 cases anyNew n H with
 | true => exact hkeep_sc h
 | false => exact h
theorem Step.drop {n n' : Nat} {H H1 H2 : Heap} (h : Step n n' H H1) (hd : ∀ id x, hget H2 id = some x → hget H1 id = some x) : Step n n' H H2 :=
 ⟨h.le, fun id v st pend f m snap ps a b hg x hx => h.loop id v st pend f m snap ps a b hg x (hd id x hx), fun id hid y hy => h.back id hid y (hd id y hy)⟩
mutual
theorem HV.ren_id : ∀ h : HV, h.ren (fun v => v) = h
 | .int _ _ => rfl
 | .bool _ => rfl
 | .str _ => rfl
 | .v _ => rfl
 | .agg cs => congrArg HV.agg (renL_id cs)
 | .tup cs => congrArg HV.tup (renL_id cs)
 | .sl k m cs => congrArg (HV.sl k m) (renL_id cs)
 | .ar _ _ _ _ _ => rfl
 | .ptr _ _ _ => rfl
 | .fptr cs off => congrArg (fun x => HV.fptr x off) (renL_id cs)
 | .fn f fs cs => by simp only [HV.ren]; rw [renL_id fs, renL_id cs]
 | .mp _ _ => rfl
 | .yl _ _ => rfl
 | .it _ _ => rfl
theorem renL_id : ∀ cs : List HV, renL (fun v => v) cs = cs
 | [] => rfl
 | c :: cs => by simp only [renL]; rw [HV.ren_id c, renL_id cs]
end
theorem ren_sc0 (ρ : Nat → Nat) {h : HV} (hs : h.sc 0 = true) : h.ren ρ = h := (HV.ren_agree (ρ' := fun v => v) (fun v hv => by omega) h hs).trans h.ren_id
theorem renL_sc0 (ρ : Nat → Nat) {h : List HV} (hs : scL 0 h = true) : renL ρ h = h := (renL_agree (ρ' := fun v => v) (fun v hv => by omega) h hs).trans (renL_id h)
mutual
theorem sc0_clean : ∀ h : HV, h.sc 0 = true → clean h
 | .int _ _, _ => trivial
 | .bool _, _ => trivial
 | .str _, _ => trivial
 | .v _, _ => trivial
 | .agg cs, h => sc0_cleanL cs h
 | .tup cs, h => sc0_cleanL cs h
 | .sl _ _ cs, h => sc0_cleanL cs h
 | .fptr cs _, h => sc0_cleanL cs h
 | .fn _ fs cs, h => by
  simp only [HV.sc, Bool.and_eq_true] at h
  exact ⟨sc0_cleanL fs h.1, sc0_cleanL cs h.2⟩
 | .ar _ v _ _ _, h => absurd (blt_lt h) (Nat.not_lt_zero _)
 | .ptr _ v _, h => absurd (blt_lt h) (Nat.not_lt_zero _)
 | .mp _ v, h => absurd (blt_lt h) (Nat.not_lt_zero _)
 | .yl _ v, h => absurd (blt_lt h) (Nat.not_lt_zero _)
 | .it _ v, h => absurd (blt_lt h) (Nat.not_lt_zero _)
theorem sc0_cleanL : ∀ cs : List HV, scL 0 cs = true → cleanL cs
 | [], _ => trivial
 | c :: cs, h => by
  simp only [scL, Bool.and_eq_true] at h
  exact ⟨sc0_clean c h.1, sc0_cleanL cs h.2⟩
end
noncomputable def rounds (r : Task → Option Out) (top : Bool) (N : Nat) (x : Code) : Nat → AS → Nat → Option Out
 | 0, _, _ => none
 | k + 1, s, n => match r (.code top N x s n) with
  | some (.code .normal s1 n1) => rounds r top N x k s1 n1
  | o => o
def isEnd : Exit → Bool
 | .normal | .ret => true
 | _ => false
def notBusy : LoopState → Bool
 | .busy => false
 | _ => true
def strsOf : List HV → Option (List (List UInt8))
 | [] => some []
 | .str l :: cs => match strsOf cs with
  | some ls => some (l :: ls)
  | none => none
 | _ => none
def intsOf : List HV → Option (List Int)
 | [] => some []
 | .int .i64 n :: cs => match intsOf cs with
  | some ls => some (n :: ls)
  | none => none
 | _ => none
theorem strsOf_eq : ∀ {cs : List HV} {ls : List (List UInt8)}, strsOf cs = some ls → cs = ls.map .str
 | [], ls, h => by cases h; rfl
 | c :: cs, ls, h => by
  unfold strsOf at h
  split at h
  ·cases h; simp_all
  ·rename_i l cs' heq
   cases heq
   split at h
   ·rename_i ls' hl
    cases h
    rw [strsOf_eq hl]
    rfl
   ·cases h
  ·cases h
theorem intsOf_eq : ∀ {cs : List HV} {ls : List Int}, intsOf cs = some ls → cs = ls.map (.int .i64)
 | [], ls, h => by cases h; rfl
 | c :: cs, ls, h => by
  unfold intsOf at h
  split at h
  ·cases h; simp_all
  ·rename_i l cs' heq
   cases heq
   split at h
   ·rename_i ls' hl
    cases h
    rw [intsOf_eq hl]
    rfl
   ·cases h
  ·cases h
noncomputable def ssort (k : Bool) (args : List HV) (H : Heap) (n : Nat) : Option Out :=
 match args with
 | [.v (.slice none 0 0)] => some (.call (.tup []) H n)
 | [.ar id ver 1 0 m] => match hgetR H id with
  | some (ver', .arr 1 e cs) => match k with
   | true => match strsOf cs with
    | some ls => guardO (Nat.beq ver ver' && (Nat.beq m ls.length && Nat.blt ls.length 4611686018427387904)) (some (.call (.tup []) (hsetR H id ver (.arr 1 e ((isort (fun a b => decide (a ≤ b)) ls).map .str))) n))
    | none => none
   | false => match intsOf cs with
    | some ls => guardO (Nat.beq ver ver' && (Nat.beq m ls.length && Nat.blt ls.length 4611686018427387904)) (some (.call (.tup []) (hsetR H id ver (.arr 1 e ((isort (fun a b => decide (a ≤ b)) ls).map (.int .i64)))) n))
    | none => none
  | _ => none
 | _ => none
noncomputable def stRegion (T : Tabs) (r : Task → Option Out) (ops : Array Oper) (dr : Bool) (N : Nat) (s : AS) (n : Nat) : Option Out := guardO (ops.toList.all fun o => okd N o.dst) (match (match dr with
        | true => sdraw r T ops s n
        | false => sops r T ops.toList ops.toList s n) with
      | some (s1, n1) => some (.code .normal s1 n1)
      | none => none)
noncomputable def stRange (r : Task → Option Out) (top : Bool) (N : Nat) (g : Operand) (ps : Array Tmp) (assign body : Code) (s : AS) (n : Nat) : Option Out := match top, s.evR g with
      | true, some (.fn (.func f) fs cs) => guardO (scL n fs && scL n cs) (match r (.call f (fs ++ [.yl n n] ++ cs) (hsetR s.heap n n (.loop .ready none (n + 1) N s.slots ps assign body)) (n + 2)) with
        | some (.call _ H n1) => match hgetR H n with
          | some (_, .loop st pend _ _ _ _ _ _) => guardO (notBusy st) (match pend with
            | none => some (.code .normal { s with heap := hsetR H n n (.loop .exhausted none (n + 1) N s.slots ps assign body) } n1)
            | some .ret => some (.code .ret { s with heap := hsetR H n n (.loop .exhausted (some .ret) (n + 1) N s.slots ps assign body) } n1)
            | some (.exit i) => some (.code (.exit i) { s with heap := hsetR H n n (.loop .exhausted (some (.exit i)) (n + 1) N s.slots ps assign body) } n1)
            | _ => none)
          | _ => none
        | _ => none)
      | _, _ => none
noncomputable def stBody (T : Tabs) (r : Task → Option Out) (fn : Func) (c : Code) (args : List HV) (H : Heap) (n : Nat) : Option Out := guardO (Nat.ble args.length fn.ntmps) (match r (.code true fn.ntmps c ⟨enumS 0 args, H⟩ n) with
          | some (.code e s1 n1) => guardO (isEnd e) (match sres T.ty s1 fn.results.toList with
            | some hs => guardO ((joinR hs).sc n1) (some (.call (joinR hs) (gc n (joinR hs) s1.heap) n1))
            | none => none)
          | _ => none)
noncomputable def stCall (T : Tabs) (r : Task → Option Out) (f : FuncId) (args : List HV) (H : Heap) (n : Nat) : Option Out := match T.sort f with
   | some k => ssort k args H n
   | none => match guardO (scL 0 args) (T.extP f args) with
    | some rv => guardO (rv.sc 0) (some (.call rv H n))
    | none => match (match args.mapM (sfrz 8 H) with
      | some as' => guardO (scL 0 as') (T.ext f as')
      | none => none) with
     | some rv => guardO (rv.sc 0) (some (.call rv H n))
     | none => match T.fn f with
      | some fn => match fn.body with
        | some c => stBody T r fn c args H n
        | none => none
      | none => none
noncomputable def stCut (T : Tabs) (r : Task → Option Out) (top : Bool) (N : Nat) (ks : Option (List Nat)) (y : Code) (s : AS) (n : Nat) : Option Out := match ks with
      | some ks => keepK s.slots ks fun l => r (.code top N y ⟨l, s.heap⟩ n)
      | none => r (.code top N y s n)
noncomputable def stSeq (T : Tabs) (r : Task → Option Out) (top : Bool) (N : Nat) (x y : Code) (s : AS) (n : Nat) : Option Out := match r (.code top N x s n) with
      | some (.code .normal s1 n1) => stCut T r top N (match x with
        | .region id _ _ => T.keep N id
        | _ => none) y s1 n1
      | o => o
noncomputable def stBlock (r : Task → Option Out) (top : Bool) (N : Nat) (i : Nat) (x : Code) (s : AS) (n : Nat) : Option Out := match r (.code top N x s n) with
      | some (.code (.exit j) s1 n1) => some (.code (if j = i then .normal else .exit j) s1 n1)
      | o => o
noncomputable def stCond (r : Task → Option Out) (top : Bool) (N : Nat) (c : Operand) (x y : Code) (s : AS) (n : Nat) : Option Out := match s.evR c with
      | some (.bool true) => r (.code top N x s n)
      | some (.bool false) => r (.code top N y s n)
      | _ => none
noncomputable def stCode (T : Tabs) (r : Task → Option Out) (top : Bool) (N : Nat) (c : Code) (s : AS) (n : Nat) : Option Out := match c with
  | .skip => some (.code .normal s n)
  | .exit i => some (.code (.exit i) s n)
  | .ret => some (.code .ret s n)
  | .seq x y => stSeq T r top N x y s n
  | .block i x => stBlock r top N i x s n
  | .cond c x y => stCond r top N c x y s n
  | .loop x => rounds r top N x 5000 s n
  | .region _ ops dr => stRegion T r ops dr N s n
  | .rangeFunc g ps assign body => stRange r top N g ps assign body s n
  | _ => none
noncomputable def step (T : Tabs) (r : Task → Option Out) : Task → Option Out
 | .code top N c s n => stCode T r top N c s n
 | .call f args H n => stCall T r f args H n
noncomputable def run (T : Tabs) : Nat → Task → Option Out
 | 0, _ => none
 | k + 1, t => step T (run T k) t
section
variable {P : Program} {T : Tabs} {N n n' : Nat} {s s' : AS} {r : Task → Option Out}
theorem sops_ok (hT : T.Ok P) (hr : Good P r) {ops : Array Oper} (hok : ops.toList.all (fun o => okd N o.dst) = true) : ∀ (l : List Oper) (i : Nat) (s : AS) (n : Nat), (∀ k, l[k]? = ops[i + k]?) → s.sc n = true → sops r T ops.toList l s n = some (s', n') →
  s'.sc n' = true ∧ Step n n' s.heap s'.heap ∧ ∀ (ρ : Nat → Nat) (ro : Option Nat) (K : AS → Prop), (∀ ρ', Agree n ρ ρ' → K (s'.ren ρ')) → AOps P ro N ops (List.range' i l.length) K (s.ren ρ)
 | [], i, s, n, _, hs, h => by
  cases h
  exact ⟨hs, Step.refl _ _, fun ρ ro K hK => AOps.nil (hK ρ (Agree.refl _ _))⟩
 | o :: l, i, s, n, hl, hs, h => by
  have ho : ops[i]? = some o := by have := hl 0; simpa using this.symm
  have hN : okd N o.dst = true := List.all_eq_true.1 hok o (by
   have := Array.getElem?_toList (xs := ops) (i := i)
   rw [ho] at this
   exact List.mem_of_getElem? this)
  have hl' : ∀ k, l[k]? = ops[i + 1 + k]? := fun k => by
   have := hl (k + 1)
   rw [List.getElem?_cons_succ] at this
   rw [this]; congr 1; omega
  -- an operation, then the rest
  have go : ∀ (s0 : AS), s0.sc n = true → s0.heap = s.heap → (match sop r T o s0 n with
    | some (s1, n1) => sops r T ops.toList l s1 n1
    | none => none) = some (s', n') → s'.sc n' = true ∧ Step n n' s.heap s'.heap ∧ ∀ (ρ : Nat → Nat) (ro : Option Nat) (K : AS → Prop), (∀ ρ', Agree n ρ ρ' → K (s'.ren ρ')) → AOp P ro N o (AOps P ro N ops (List.range' (i + 1) l.length) K) (s0.ren ρ) := by
   intro s0 hs0 hh h
   split at h
   ·rename_i s1 n1 hop
    obtain ⟨h1, h2, h3⟩ := sop_ok hT hr hN hs0 hop
    obtain ⟨h4, h5, h6⟩ := sops_ok hT hr hok l (i + 1) s1 n1 hl' h1 h
    rw [hh] at h2
    refine ⟨h4, h2.trans (sc_heap_of hs) h5, fun ρ ro K hK => h3 ρ ro _ fun ρ1 ha1 => h6 ρ1 ro K fun ρ2 ha2 => hK ρ2 (ha1.trans h2.le ha2)⟩
   ·cases h
  simp only [sops, sgetR_eq, putR_eq] at h
  split at h
  ·rename_i hg
   obtain ⟨h1, h2, h3⟩ := go s hs rfl h
   exact ⟨h1, h2, fun ρ ro K hK => AOps.cons ho hg (h3 ρ ro K hK)⟩
  ·rename_i j want hg
   split at h
   ·rename_i oj hoj
    split at h
    ·rename_i d hd
     split at h
     ·rename_i b hb
      have hbr : ∀ ρ : Nat → Nat, sget (s.ren ρ).slots d = some (.bool b) := fun ρ => by
       show sget (renS ρ s.slots) d = _
       rw [sget_ren, hb]; rfl
      split at h
      ·rename_i hbw
       have hbw : b = want := by simpa using hbw
       obtain ⟨h1, h2, h3⟩ := go (s.put (some d) (.bool want)) (sc_put hs rfl) rfl h
       refine ⟨h1, h2, fun ρ ro K hK => AOps.guard ho hN hg (by simpa using hoj) hd (hbr ρ) (fun _ => ?_) (fun e => by cases b <;> cases want <;> simp at e hbw)⟩
       have := h3 ρ ro K hK
       rw [ren_put] at this
       exact this
      ·rename_i hbw
       have hbw : b ≠ want := by simpa using hbw
       obtain ⟨h1, h2, h3⟩ := sops_ok hT hr hok l (i + 1) _ n hl' (sc_put (sc_put hs rfl) rfl) h
       rw [put_heap', put_heap'] at h2
       refine ⟨h1, h2, fun ρ ro K hK => AOps.guard ho hN hg (by simpa using hoj) hd (hbr ρ) (fun e => absurd e hbw) fun _ => ?_⟩
       have := h3 ρ ro K hK
       rw [ren_put, ren_put] at this
       exact this
     ·cases h
    ·cases h
   ·cases h
theorem mapM_frz {D : Heap} (ρ : Nat → Nat) : ∀ {cs ds : List HV}, cs.mapM (sfrz 8 D) = some ds → (renL ρ cs).map (frz 8 (renH ρ D)) = renL ρ ds
 | [], ds, e => by simp at e; subst e; rfl
 | c :: cs, ds, e => by
  simp only [List.mapM_cons, Option.pure_def, Option.bind_eq_bind, Option.bind_eq_some_iff] at e
  obtain ⟨d, hd, es, he, e⟩ := e
  cases e
  simp only [renL, List.map_cons, sfrz_sound 8 D ρ _ _ hd, mapM_frz ρ he]
mutual
theorem nf_ren (ρ : Nat → Nat) : ∀ h : HV, nf h = true → nf (h.ren ρ) = true
 | .int _ _, _ => rfl
 | .bool _, _ => rfl
 | .str _, _ => rfl
 | .v _, _ => rfl
 | .agg cs, h => nfL_ren ρ cs h
 | .tup cs, h => nfL_ren ρ cs h
 | .sl _ _ _, h => by cases h
 | .ar _ _ _ _ _, _ => rfl
 | .ptr _ _ _, _ => rfl
 | .fptr _ _, h => by cases h
 | .fn _ fs cs, h => by
  simp only [nf, Bool.and_eq_true] at h
  simp only [HV.ren, nf, nfL_ren ρ fs h.1, nfL_ren ρ cs h.2, Bool.and_self]
 | .mp _ _, _ => rfl
 | .yl _ _, _ => rfl
 | .it _ _, _ => rfl
theorem nfL_ren (ρ : Nat → Nat) : ∀ cs : List HV, nfL cs = true → nfL (renL ρ cs) = true
 | [], _ => rfl
 | c :: cs, h => by
  simp only [nfL, Bool.and_eq_true] at h
  simp only [renL, nfL, nf_ren ρ c h.1, nfL_ren ρ cs h.2, Bool.and_self]
end
theorem nfE_ren (ρ : Nat → Nat) : ∀ es, nfE es = true → nfE (renE ρ es) = true
 | [], _ => rfl
 | (_, c) :: cs, h => by
  simp only [nfE, Bool.and_eq_true] at h
  simp only [renE, nfE, nf_ren ρ c h.1, nfE_ren ρ cs h.2, Bool.and_self]
theorem nfH_ren (ρ : Nat → Nat) : ∀ H : Heap, nfH H = true → nfH (renH ρ H) = true
 | [], _ => rfl
 | (_, _, o) :: H, h => by
  simp only [nfH, Bool.and_eq_true] at h
  have ho : nfO (o.ren ρ) = true := by
   cases o with
   | arr k e cs => exact nfL_ren ρ cs h.1
   | map es => exact nfE_ren ρ es h.1
   | iter _ _ _ _ => rfl
   | loop _ _ _ _ _ _ _ _ => cases h.1
   | kmap _ => rfl
  simp only [renH, nfH, ho, nfH_ren ρ H h.2, Bool.and_self]
theorem sfrz_sc0 {D : Heap} (m : Nat) : ∀ (h h' : HV), h.sc 0 = true → sfrz m D h = some h' → h' = h := by
 induction m with
 | zero => intro h h' _ e; cases e; rfl
 | succ m ih =>
  have ihL : ∀ (cs ds : List HV), scL 0 cs = true → cs.mapM (sfrz m D) = some ds → ds = cs := by
   intro cs
   induction cs with
   | nil => intro ds _ e; simp at e; exact e
   | cons c cs ihc =>
    intro ds hs e
    simp only [scL, Bool.and_eq_true] at hs
    simp only [List.mapM_cons, Option.pure_def, Option.bind_eq_bind, Option.bind_eq_some_iff] at e
    obtain ⟨d, hd, es, he, e⟩ := e
    cases e
    rw [ih _ _ hs.1 hd, ihc _ hs.2 he]
  intro h h' hs e
  unfold sfrz at e
  split at e
  ·split at e
   ·rename_i hc; cases e; rw [ihL _ _ hs hc]
   ·cases e
  ·split at e
   ·rename_i hc; cases e; rw [ihL _ _ hs hc]
   ·cases e
  ·simp only [HV.sc, Bool.and_eq_true] at hs
   split at e
   ·rename_i hf hc; cases e; rw [ihL _ _ hs.1 hf, ihL _ _ hs.2 hc]
   ·cases e
  ·exact absurd (blt_lt hs) (Nat.not_lt_zero _)
  ·exact absurd (blt_lt hs) (Nat.not_lt_zero _)
  ·cases e; rfl
theorem sfrzL_sc0 {D : Heap} (m : Nat) : ∀ (cs ds : List HV), scL 0 cs = true → cs.mapM (sfrz m D) = some ds → ds = cs
 | [], ds, _, e => by simp at e; exact e
 | c :: cs, ds, hs, e => by
  simp only [scL, Bool.and_eq_true] at hs
  simp only [List.mapM_cons, Option.pure_def, Option.bind_eq_bind, Option.bind_eq_some_iff] at e
  obtain ⟨d, hd, es, he, e⟩ := e
  cases e
  rw [sfrz_sc0 m _ _ hs.1 hd, sfrzL_sc0 m _ _ hs.2 he]
theorem callS_ok (hr : Good P r) {g : FuncId} {aa as' : List HV} {H H1 : Heap} {n1 : Nat} {rv q : HV} (ha : aa.mapM (sfrz 8 H) = some as') (h0 : scL 0 as' = true) (hc : r (.call g as' [] 0) = some (.call rv H1 n1))
  (hn : (scL 0 aa || (nf rv && nfH H1)) = true) (hf : sfrz 8 H1 rv = some q) (hq : q.sc 0 = true) (ρ : Nat → Nat) : ACallD P g (renL ρ aa) (renH ρ H) q := by
 obtain ⟨h1, h2, st, hcall⟩ := hr _ _ hc h0 rfl
 have hargs : renL ρ as' = (renL ρ aa).map (frz 8 (renH ρ H)) := (mapM_frz ρ ha).symm
 have hqr : ∀ ρ' : Nat → Nat, frz 8 (renH ρ' H1) (rv.ren ρ') = q := fun ρ' => by rw [sfrz_sound 8 H1 ρ' rv q hf, ren_sc0 ρ' hq]
 cases hs : scL 0 aa with
 | true =>
  have e : as' = aa := sfrzL_sc0 8 _ _ hs ha
  subst e
  refine ACallD.pure0 ?_
  rw [renL_sc0 ρ hs]
  have h5 := hcall ρ (fun r' H' => ∃ ρ', r' = rv.ren ρ' ∧ H' = renH ρ' H1) fun ρ' _ => ⟨ρ', rfl, rfl⟩
  rw [renL_sc0 ρ hs] at h5
  refine h5.conv ?_
  rintro r' H' ⟨ρ', rfl, rfl⟩
  exact ⟨_, _, Conv.all 8, hqr ρ', hqr ρ' ▸ sc0_clean q hq, rfl⟩
 | false =>
  rw [hs, Bool.false_or, Bool.and_eq_true] at hn
  refine ACall.lend (K := fun r' H' => ∃ ρ', r' = rv.ren ρ' ∧ H' = renH ρ' H1) 8 8 ?_ ?_ (sc0_clean q hq)
  ·rw [← hargs]
   exact hcall ρ _ fun ρ' _ => ⟨ρ', rfl, rfl⟩
  ·rintro r' H' ⟨ρ', rfl, rfl⟩
   exact ⟨nf_ren ρ' rv hn.1, nfH_ren ρ' H1 hn.2, hqr ρ'⟩
theorem sopS_ok (hT : T.Ok P) (hr : Good P r) {o : Oper} {q : HV} (h : sopS r T o s = some q) (ρ : Nat → Nat) {R : HV → Prop} (hq : R (q.ren ρ)) : aopS P o R (s.ren ρ) := by
 unfold sopS at h
 unfold aopS
 split at h
 ·rename_i e x hop
  simp only [hop]
  unfold spBox at h
  try simp only [evR_eq, hgetR_eq, hsetR_eq, sgetR_eq, putR_eq, aslR_eq, apartsR_eq] at h
  split at h
  ·rename_i hv hx
   split at h
   ·rename_i cs hcs
    cases h
    simp only [ev_ren, hx, Option.map_some, cells_ren, hcs]
    exact hq
   ·cases h
  ·cases h
 ·rename_i t m ps hop
  simp only [hop]
  unfold spBuild at h
  try simp only [evR_eq, hgetR_eq, hsetR_eq, sgetR_eq, putR_eq, aslR_eq, apartsR_eq] at h
  replace h := guardO_some h
  obtain ⟨h1, h⟩ := h
  split at h
  ·rename_i k e cs hsl
   cases h
   exact ⟨Nat.le_of_ble_eq_true h1, sslice_sound hT.ty hsl hq⟩
  ·cases h
 ·rename_i f aa ts hop
  simp only [hop]
  unfold spCall at h
  try simp only [evR_eq, hgetR_eq, hsetR_eq, sgetR_eq, putR_eq, aslR_eq, apartsR_eq] at h
  split at h
  ·rename_i g fs cs hs hf ha
   split at h
   ·rename_i as' has'
    replace h := guardO_some h
    obtain ⟨h1, h⟩ := h
    split at h
    ·rename_i rv H1 n1 hrc
     replace h := guardO_some h
     obtain ⟨h2, h⟩ := h
     split at h
     ·rename_i q' hq'
      replace h := guardO_some h
      obtain ⟨h3, h⟩ := h
      cases h
      have := callS_ok hr has' h1 hrc h2 hq' h3 ρ
      simp only [ev_ren, hf, Option.map_some, HV.ren, evL_sc ha ρ]
      rw [← renL_append, ← renL_append]
      rw [ren_sc0 ρ h3] at hq
      exact ⟨q, this, hq⟩
     ·cases h
    ·cases h
   ·cases h
  ·cases h
 ·have h' := sval_sound (P := P) hT.ty h hq
  split
  ·rename_i h1 h2 h3 _ _ _ e; exact absurd e (h1 _ _)
  ·rename_i h1 h2 h3 _ _ _ _ e; exact absurd e (h2 _ _ _)
  ·rename_i e; rw [e] at h'; exact h'.elim
  ·rename_i h1 h2 h3 _ _ _ _ e; exact absurd e (h3 _ _ _)
  ·exact h'
theorem ssteps_ok (hT : T.Ok P) (hr : Good P r) {all : List Oper} (ρ : Nat → Nat) {K : AS → Prop} {s1 : AS} : ∀ (l : List Oper) (s : AS), s.sc n = true → ssteps r T all l s n = some s1 → s1.sc n = true ∧ s1.heap = s.heap ∧ (K (s1.ren ρ) → asteps P all l K (s.ren ρ))
 | [], s, hs, h => by cases h; exact ⟨hs, rfl, id⟩
 | o :: l, s, hs, h => by
  have go : ∀ (s0 : AS), s0.sc n = true → s0.heap = s.heap → (match sopS r T o s0 with
    | some h => guardO (h.sc n) (ssteps r T all l (s0.put o.dst h) n)
    | none => none) = some s1 → s1.sc n = true ∧ s1.heap = s.heap ∧ (K (s1.ren ρ) → aopS P o (fun h => asteps P all l K ((s0.ren ρ).put o.dst h)) (s0.ren ρ)) := by
   intro s0 hs0 hh h
   split at h
   ·rename_i q hq
    replace h := guardO_some h
    obtain ⟨h1, h⟩ := h
    obtain ⟨h2, h3, h4⟩ := ssteps_ok hT hr ρ l _ (sc_put hs0 h1) h
    rw [put_heap', hh] at h3
    refine ⟨h2, h3, fun hK => sopS_ok hT hr hq ρ ?_⟩
    have := h4 hK
    rw [ren_put] at this
    exact this
   ·cases h
  simp only [ssteps, sgetR_eq, putR_eq] at h
  split at h
  ·rename_i hg
   obtain ⟨h1, h2, h3⟩ := go s hs rfl h
   refine ⟨h1, h2, fun hK => ?_⟩
   simp only [asteps, hg]
   exact h3 hK
  ·rename_i j want hg
   split at h
   ·rename_i oj hoj
    split at h
    ·rename_i d hd
     split at h
     ·rename_i b hb
      have hbr : sget (s.ren ρ).slots d = some (.bool b) := by
       show sget (renS ρ s.slots) d = _
       rw [sget_ren, hb]; rfl
      split at h
      ·rename_i hbw
       have hbw : b = want := by simpa using hbw
       obtain ⟨h1, h2, h3⟩ := go (s.put (some d) (.bool want)) (sc_put hs rfl) rfl h
       refine ⟨h1, h2, fun hK => ?_⟩
       simp only [asteps, hg, hoj, hd, hbr]
       have h4 := h3 hK
       rw [ren_put] at h4
       rw [if_pos hbw]
       exact h4
      ·rename_i hbw
       have hbw : b ≠ want := by simpa using hbw
       obtain ⟨h1, h2, h3⟩ := ssteps_ok hT hr ρ l _ (sc_put (d := o.dst) (h := .v undef) (sc_put (d := some d) (h := .bool !want) hs rfl) rfl) h
       rw [put_heap', put_heap'] at h2
       refine ⟨h1, h2, fun hK => ?_⟩
       simp only [asteps, hg, hoj, hd, hbr]
       have h4 := h3 hK
       rw [ren_put, ren_put] at h4
       rw [if_neg hbw]
       exact h4
     ·cases h
    ·cases h
   ·cases h
theorem AW.ops {ro : Option Nat} {id : Nat} {ops : Array Oper} {Q : Exit → AS → Prop} (h : AOps P ro N ops (List.range' 0 ops.toList.length) (fun s' => Q .normal s') s) : AW P ro N (.region id ops false) Q s := by
 intro w0 μ0 μ a w hs hE
 refine wpIn_region ?_
 rw [List.range_eq_range', ← Array.length_toList]
 exact h w0 μ0 μ a w _ hs hE fun μ' s' a' w' hk hs' hE' => ⟨(fun _ h => by cases h), (fun h => by cases h), _, _, hk, hs', hE'⟩
theorem sdrawP_ok (hT : T.Ok P) (hr : Good P r) {id : Nat} {ops : Array Oper} (hok : ops.toList.all (fun o => okd N o.dst) = true) {p : Nat} (hs : s.sc n = true) (h : sdrawP r T ops s n p = some (s', n')) :
  s'.sc n' = true ∧ Step n n' s.heap s'.heap ∧ ∀ (ρ : Nat → Nat) (ro : Option Nat) (Q : Exit → AS → Prop), (∀ ρ', Agree n ρ ρ' → Q .normal (s'.ren ρ')) → AW P ro N (.region id ops true) Q (s.ren ρ) := by
 unfold sdrawP at h
 replace h := guardO_some h
 obtain ⟨hd, h⟩ := h
 split at h
 ·rename_i s1 hst
  have h1 := fun (ρ : Nat → Nat) (K : AS → Prop) => ssteps_ok (K := K) hT hr ρ _ _ hs hst
  have h2 := h1 (fun v => v) fun _ => True
  obtain ⟨h3, h4, h5⟩ := sops_ok hT hr hok (ops.toList.drop p) p s1 n (fun k => by rw [List.getElem?_drop, Array.getElem?_toList]) h2.1 h
  rw [h2.2.1] at h4
  refine ⟨h3, h4, fun ρ ro Q hQ => AW.drawX p (fun x => x = s1.ren ρ) hT.draw hok hd ?_ ((h1 ρ _).2.2 rfl)⟩
  rintro x rfl
  have := h5 ρ ro (fun s' => Q .normal s') hQ
  have hl : (ops.toList.drop p).length = ops.size - p := by simp
  rw [hl] at this
  exact this
 ·cases h
theorem sdraw_ok (hT : T.Ok P) (hr : Good P r) {id : Nat} {ops : Array Oper} (hok : ops.toList.all (fun o => okd N o.dst) = true) (hs : s.sc n = true) (h : sdraw r T ops s n = some (s', n')) :
  s'.sc n' = true ∧ Step n n' s.heap s'.heap ∧ ∀ (ρ : Nat → Nat) (ro : Option Nat) (Q : Exit → AS → Prop), (∀ ρ', Agree n ρ ρ' → Q .normal (s'.ren ρ')) → AW P ro N (.region id ops true) Q (s.ren ρ) := by
 unfold sdraw at h
 split at h
 ·rename_i x hx
  cases h
  exact sdrawP_ok hT hr hok hs hx
 ·exact sdrawP_ok hT hr hok hs h
theorem sres_ok (hT : T.Ok P) (ρ : Nat → Nat) : ∀ {rvs : List ResultVar} {hs : List HV} {R : List HV → Prop}, sres T.ty s rvs = some hs → R (renL ρ hs) → resAll P (s.ren ρ) rvs R
 | [], hs, R, h, hR => by cases h; exact hR
 | rv :: rvs, hs, R, h, hR => by
  simp only [sres] at h
  split at h
  ·rename_i q qs hq hqs
   cases h
   have key : ∀ R' : HV → Prop, R' (q.ren ρ) → resOne P (s.ren ρ) rv R' := by
    intro R' hR'
    cases rv with
    | tmp t =>
     have : sget (renS ρ s.slots) t = some (q.ren ρ) := by rw [sget_ren]; simp only [sres1, sgetR_eq, hgetR_eq] at hq; rw [hq]; rfl
     simp only [resOne, AS.ren, this]
     exact hR'
    | cell t t' =>
     simp only [sres1, sgetR_eq, hgetR_eq] at hq
     split at hq
     ·rename_i U cs off hU hx
      have : sget (s.ren ρ).slots t = some (.fptr (renL ρ cs) off) := by show sget (renS ρ s.slots) t = _; rw [sget_ren, hx]; rfl
      simp only [resOne, hT.ty _ _ hU, this]
      exact sload_sound hq hR'
     ·rename_i U id ver off hU hx
      split at hq
      ·rename_i ver' k e cs hg
       replace hq := guardO_some hq
       obtain ⟨h1, hq⟩ := hq
       have hv := Nat.eq_of_beq_eq_true h1
       subst hv
       have : sget (s.ren ρ).slots t = some (.ptr id (ρ ver) off) := by show sget (renS ρ s.slots) t = _; rw [sget_ren, hx]; rfl
       simp only [resOne, hT.ty _ _ hU, this, hget_s ρ hg, AObj.ren]
       exact ⟨trivial, sload_sound hq hR'⟩
      ·cases hq
     ·cases hq
   exact key _ (sres_ok hT ρ hqs hR)
  ·cases h
theorem thenQ_ne {k : AS → Prop} {Q : Exit → AS → Prop} {e : Exit} (he : e ≠ .normal) {s : AS} (h : Q e s) : thenQ k Q e s := by
 cases e with
 | normal => exact absurd rfl he
 | _ => exact h
theorem rounds_step (hr : Good P r) {top : Bool} {x : Code} {o : Out} : ∀ (k : Nat) (s : AS) (n : Nat), s.sc n = true → rounds r top N x k s n = some o → ∃ e s2 n2, o = .code e s2 n2 ∧ s2.sc n2 = true ∧ Step n n2 s.heap s2.heap
 | 0, _, _, _, h => by cases h
 | k + 1, s, n, hs, h => by
  simp only [rounds] at h
  split at h
  ·rename_i s1 n1 hr1
   obtain ⟨h1, h2, _⟩ := hr _ _ hr1 hs
   obtain ⟨e, s2, n2, h3, h4, h5⟩ := rounds_step hr k s1 n1 h1 h
   exact ⟨e, s2, n2, h3, h4, h2.trans (sc_heap_of hs) h5⟩
  ·have := hr _ _ h
   cases o with
   | code e s2 n2 => exact ⟨e, s2, n2, rfl, (this hs).1, (this hs).2.1⟩
   | call rv H n2 => exact this.elim
theorem rounds_ok (hr : Good P r) {top : Bool} {x : Code} {o : Out} (k : Nat) (h : rounds r top N x k s n = some o) : Sem P (.code top N (.loop x) s n) o := by
 cases o with
 | call rv H n2 =>
  have : ∀ (k : Nat) (s : AS) (n : Nat), rounds r top N x k s n ≠ some (.call rv H n2) := by
   intro k
   induction k with
   | zero => intro s n h; cases h
   | succ k ih =>
    intro s n h
    simp only [rounds] at h
    split at h
    ·exact ih _ _ h
    ·exact (hr _ _ h).elim
  exact absurd h (this k s n)
 | code e s2 n2 =>
  intro hs
  obtain ⟨e', s2', n2', he, h1, h2⟩ := rounds_step hr k s n hs h
  cases he
  refine ⟨h1, h2, fun ρ ro Q htop hQ => ?_⟩
  refine AW.loop' (fun j s0 => ∃ s1 n1 ρ1, s0 = s1.ren ρ1 ∧ s1.sc n1 = true ∧ rounds r top N x j s1 n1 = some (.code e s2 n2) ∧ Agree n ρ ρ1 ∧ n ≤ n1) ⟨k, _, AS.le_refl _, s, n, ρ, rfl, hs, h, Agree.refl _ _, Nat.le_refl _⟩ ?_
  rintro j s0 ⟨s1, n1, ρ1, rfl, hs1, hj, hag, hn⟩
  cases j with
  | zero => cases hj
  | succ j =>
   simp only [rounds] at hj
   split at hj
   ·rename_i s3 n3 hr3
    obtain ⟨h3, h4, h5⟩ := hr _ _ hr3 hs1
    refine h5 ρ1 ro _ htop fun ρ' hag' => ?_
    exact ⟨j, Nat.lt_succ_self j, _, AS.le_refl _, s3, n3, ρ', rfl, h3, hj, hag.trans hn hag', Nat.le_trans hn h4.le⟩
   ·rename_i hno
    obtain ⟨h3, h4, h5⟩ := hr _ _ hj hs1
    refine h5 ρ1 ro _ htop fun ρ' hag' => thenQ_ne ?_ (hQ ρ' (hag.trans hn hag'))
    rintro rfl
    exact hno _ _ hj
theorem sc_enumS : ∀ (i : Nat) (args : List HV), scL n args = true → scS n (enumS i args) = true
 | _, [], _ => rfl
 | i, a :: args, h => by
  simp only [scL, Bool.and_eq_true] at h
  simp only [enumS, scS, h.1, sc_enumS (i + 1) args h.2, Bool.and_self]
theorem renS_enumS (ρ : Nat → Nat) : ∀ (i : Nat) (args : List HV), renS ρ (enumS i args) = enumS i (renL ρ args)
 | _, [] => rfl
 | i, a :: args => by simp only [enumS, renS, renL, renS_enumS ρ (i + 1) args]
theorem scL_append {cs ds : List HV} (h : scL n cs = true) (h' : scL n ds = true) : scL n (cs ++ ds) = true := by
 induction cs with
 | nil => exact h'
 | cons c cs ih =>
  simp only [scL, Bool.and_eq_true] at h
  simp only [List.cons_append, scL, h.1, ih h.2, Bool.and_self]
theorem joinR_ren (ρ : Nat → Nat) : ∀ hs : List HV, (joinR hs).ren ρ = joinR (renL ρ hs)
 | [] => rfl
 | [h] => rfl
 | _ :: _ :: _ => rfl
theorem strs_ren (ρ : Nat → Nat) : ∀ ls : List (List UInt8), renL ρ (ls.map HV.str) = ls.map HV.str
 | [] => rfl
 | a :: ls => by simp only [List.map_cons, renL, HV.ren, strs_ren ρ ls]
theorem ints_ren (ρ : Nat → Nat) : ∀ ls : List Int, renL ρ (ls.map (HV.int .i64)) = ls.map (HV.int .i64)
 | [] => rfl
 | a :: ls => by simp only [List.map_cons, renL, HV.ren, ints_ren ρ ls]
theorem strs_sc (n : Nat) : ∀ ls : List (List UInt8), scL n (ls.map HV.str) = true
 | [] => rfl
 | a :: ls => by simp only [List.map_cons, scL, HV.sc, strs_sc n ls, Bool.and_self]
theorem ints_sc (n : Nat) : ∀ ls : List Int, scL n (ls.map (HV.int .i64)) = true
 | [] => rfl
 | a :: ls => by simp only [List.map_cons, scL, HV.sc, ints_sc n ls, Bool.and_self]
theorem ssort_ok (hT : T.Ok P) {f : FuncId} {k : Bool} (hk : T.sort f = some k) {args : List HV} {H : Heap} {o : Out} (h : ssort k args H n = some o) : Sem P (.call f args H n) o := by
 unfold ssort at h
 simp only [hgetR_eq, hsetR_eq] at h
 split at h
 ·cases h
  refine fun _ hH => ⟨rfl, hH, Step.refl _ _, fun ρ K hK => ?_⟩
  cases k with
  | true => exact (hT.sortS f hk).nil _ _ (hK ρ (Agree.refl _ _))
  | false => exact (hT.sortI f hk).nil _ _ (hK ρ (Agree.refl _ _))
 ·rename_i id ver m
  split at h
  ·rename_i ver' e cs hg
   split at h
   ·split at h
    ·rename_i ls hls
     replace h := guardO_some h
     obtain ⟨h1, h⟩ := h
     cases h
     simp only [Bool.and_eq_true] at h1
     have hv := Nat.eq_of_beq_eq_true h1.1
     subst hv
     have hm := Nat.eq_of_beq_eq_true h1.2.1
     subst hm
     have hcs := strsOf_eq hls
     subst hcs
     intro _ hH
     have hlt := sch_get hH hg
     refine ⟨rfl, scH_set _ _ _ _ hH hlt.1.1 hlt.1.2 (strs_sc _ _), ⟨Nat.le_refl _, LoopKeep.set (by rw [hg]; intros; simp), Back.set (.inr ⟨_, hg⟩)⟩, fun ρ K hK => ?_⟩
     refine (hT.sortS f hk).arr _ id (ρ ver) e ls K (by rw [hget_ren, hg]; simp only [Option.map_some, AObj.ren, strs_ren]) (blt_lt h1.2.2) ?_
     have := hK ρ (Agree.refl _ _)
     rw [renH_set] at this
     simp only [AObj.ren, strs_ren, HV.ren, renL] at this
     rw [sortS_isort]
     exact this
    ·cases h
   ·split at h
    ·rename_i ls hls
     replace h := guardO_some h
     obtain ⟨h1, h⟩ := h
     cases h
     simp only [Bool.and_eq_true] at h1
     have hv := Nat.eq_of_beq_eq_true h1.1
     subst hv
     have hm := Nat.eq_of_beq_eq_true h1.2.1
     subst hm
     have hcs := intsOf_eq hls
     subst hcs
     intro _ hH
     have hlt := sch_get hH hg
     refine ⟨rfl, scH_set _ _ _ _ hH hlt.1.1 hlt.1.2 (ints_sc _ _), ⟨Nat.le_refl _, LoopKeep.set (by rw [hg]; intros; simp), Back.set (.inr ⟨_, hg⟩)⟩, fun ρ K hK => ?_⟩
     refine (hT.sortI f hk).arr _ id (ρ ver) e ls K (by rw [hget_ren, hg]; simp only [Option.map_some, AObj.ren, ints_ren]) (blt_lt h1.2.2) ?_
     have := hK ρ (Agree.refl _ _)
     rw [renH_set] at this
     simp only [AObj.ren, ints_ren, HV.ren, renL] at this
     rw [sortI_isort]
     exact this
    ·cases h
  ·cases h
 ·cases h
theorem stCut_ok (hr : Good P r) {top : Bool} {ks : Option (List Nat)} {y : Code} {o : Out} (h : stCut T r top N ks y s n = some o) : Sem P (.code top N y s n) o := by
 unfold stCut at h
 split at h
 ·rename_i ks
  rw [keepK_eq] at h
  have h2 := hr _ _ h
  cases o with
  | call rv H n2 => exact h2.elim
  | code e s2 n2 =>
   intro hs
   simp only [AS.sc, Bool.and_eq_true] at hs
   obtain ⟨h6, h7, h8⟩ := h2 (by simp only [AS.sc, Bool.and_eq_true]; exact ⟨keepL_sc hs.1 ks, hs.2⟩)
   exact ⟨h6, h7, fun ρ ro Q htop hQ => AW.weaken (h8 ρ ro Q htop hQ) (keepL_le ρ s ks)⟩
 ·exact hr _ _ h
theorem step_ok (hT : T.Ok P) (hr : Good P r) : Good P (step T r) := by
 intro t o h
 cases t with
 | call f args H n =>
  simp only [step, stCall, stBody] at h
  split at h
  ·rename_i k hk
   exact ssort_ok hT hk h
  split at h
  ·-- a pure function that is known
   rename_i rv hx
   replace h := guardO_some h
   obtain ⟨h1, h⟩ := h
   cases h
   replace hx := guardO_some hx
   obtain ⟨h2, hx⟩ := hx
   intro hargs hH
   refine ⟨HV.sc_mono (Nat.zero_le _) rv h1, hH, Step.refl _ _, fun ρ K hK => ?_⟩
   have hf := hT.extP _ _ _ hx
   rw [renL_sc0 ρ h2]
   refine ACall.pure0 hf fun r hr => ?_
   subst hr
   have := hK ρ (Agree.refl _ _)
   rw [ren_sc0 ρ h1] at this
   exact this
  split at h
  ·-- a function that is known
   rename_i rv hx
   replace h := guardO_some h
   obtain ⟨h1, h⟩ := h
   cases h
   split at hx
   ·rename_i as' ha
    replace hx := guardO_some hx
    obtain ⟨h2, hx⟩ := hx
    intro hargs hH
    refine ⟨HV.sc_mono (Nat.zero_le _) rv h1, hH, Step.refl _ _, fun ρ K hK => ?_⟩
    have hf := hT.ext _ _ _ hx
    have ha2 := mapM_frz ρ ha
    rw [renL_sc0 ρ h2] at ha2
    refine hf.call 8 ha2 ?_
    have := hK ρ (Agree.refl _ _)
    rw [ren_sc0 ρ h1] at this
    exact this
   ·cases hx
  ·split at h
   ·rename_i fn hfn
    split at h
    ·rename_i c hc
     replace h := guardO_some h
     obtain ⟨h1, h⟩ := h
     split at h
     ·rename_i e s1 n1 hr1
      replace h := guardO_some h
      obtain ⟨h2, h⟩ := h
      split at h
      ·rename_i hs hres
       replace h := guardO_some h
       obtain ⟨h3, h⟩ := h
       cases h
       intro hargs hH
       obtain ⟨h4, h5, h6⟩ := hr _ _ hr1 (by simp only [AS.sc, sc_enumS 0 args hargs, hH, Bool.and_self])
       refine ⟨h3, gc_sc (sc_heap_of h4), h5.drop fun id x hx => gc_get hx, fun ρ K hK => ?_⟩
       obtain ⟨hf, hname⟩ := hT.fn _ _ hfn
       refine ACall.of_body hf hname hc (by rw [renL_len]; exact Nat.le_of_ble_eq_true h1) ?_
       have e0 : ({ slots := enumS 0 (renL ρ args), heap := renH ρ H } : AS) = (⟨enumS 0 args, H⟩ : AS).ren ρ := by simp only [AS.ren, renS_enumS]
       rw [e0]
       refine h6 ρ none _ (fun _ => rfl) fun ρ' hag => ⟨?_, sres_ok hT ρ' hres ?_⟩
       ·cases e with
        | normal => exact .inl rfl
        | ret => exact .inr rfl
        | _ => cases h2
       ·refine ⟨_, renH ρ' (gc n (joinR hs) s1.heap), Conv.drop fun id x hx => ?_, ?_⟩
        ·rw [hget_ren] at hx
         cases hg : hget (gc n (joinR hs) s1.heap) id with
         | none => rw [hg] at hx; cases hx
         | some y =>
          rw [hg] at hx
          show hget (renH ρ' s1.heap) id = some x
          rw [hget_ren, gc_get hg]
          exact hx
        ·rw [← joinR_ren]
         exact hK ρ' hag
      ·cases h
     ·cases h
    ·cases h
   ·cases h
 | code top N c s n =>
  simp only [step, stCode] at h
  split at h
  ·cases h
   exact fun hs => ⟨hs, Step.refl _ _, fun ρ ro Q _ hQ => AW.skip (hQ ρ (Agree.refl _ _))⟩
  ·cases h
   exact fun hs => ⟨hs, Step.refl _ _, fun ρ ro Q _ hQ => AW.exit (hQ ρ (Agree.refl _ _))⟩
  ·cases h
   exact fun hs => ⟨hs, Step.refl _ _, fun ρ ro Q _ hQ => AW.ret (hQ ρ (Agree.refl _ _))⟩
  ·-- seq
   unfold stSeq at h
   try simp only [evR_eq, hgetR_eq, hsetR_eq, sgetR_eq, putR_eq, aslR_eq, apartsR_eq] at h
   rename_i x y
   split at h
   ·rename_i s1 n1 hr1
    have h2 := stCut_ok hr h
    cases o with
    | call rv H n2 => exact h2.elim
    | code e s2 n2 =>
     intro hs
     obtain ⟨h3, h4, h5⟩ := hr _ _ hr1 hs
     obtain ⟨h6, h7, h8⟩ := h2 h3
     refine ⟨h6, h4.trans (sc_heap_of hs) h7, fun ρ ro Q htop hQ => AW.seq (h5 ρ ro _ htop fun ρ1 ha1 => h8 ρ1 ro Q htop fun ρ2 ha2 => hQ ρ2 (ha1.trans h4.le ha2))⟩
   ·rename_i hno
    have h2 := hr _ _ h
    cases o with
    | call rv H n2 => exact h2.elim
    | code e s2 n2 =>
     intro hs
     obtain ⟨h3, h4, h5⟩ := h2 hs
     exact ⟨h3, h4, fun ρ ro Q htop hQ => AW.seq (h5 ρ ro _ htop fun ρ' ha => thenQ_ne (fun e => by subst e; exact hno _ _ h) (hQ ρ' ha))⟩
  ·-- block
   unfold stBlock at h
   try simp only [evR_eq, hgetR_eq, hsetR_eq, sgetR_eq, putR_eq, aslR_eq, apartsR_eq] at h
   rename_i i x
   split at h
   ·rename_i j s1 n1 hr1
    cases h
    intro hs
    obtain ⟨h3, h4, h5⟩ := hr _ _ hr1 hs
    refine ⟨h3, h4, fun ρ ro Q htop hQ => AW.block (h5 ρ ro _ htop fun ρ' ha => ?_)⟩
    have := hQ ρ' ha
    simp only [blockQ]
    split
    ·rename_i e; rw [if_pos e] at this; exact this
    ·rename_i e; rw [if_neg e] at this; exact this
   ·rename_i hno
    have h2 := hr _ _ h
    cases o with
    | call rv H n2 => exact h2.elim
    | code e s2 n2 =>
     intro hs
     obtain ⟨h3, h4, h5⟩ := h2 hs
     refine ⟨h3, h4, fun ρ ro Q htop hQ => AW.block (h5 ρ ro _ htop fun ρ' ha => ?_)⟩
     have := hQ ρ' ha
     cases e with
     | exit j => exact absurd h (hno _ _ _)
     | _ => exact this
  ·-- cond
   unfold stCond at h
   try simp only [evR_eq, hgetR_eq, hsetR_eq, sgetR_eq, putR_eq, aslR_eq, apartsR_eq] at h
   rename_i c x y
   split at h
   ·rename_i hc
    have h2 := hr _ _ h
    cases o with
    | call rv H n2 => exact h2.elim
    | code e s2 n2 =>
     intro hs
     obtain ⟨h3, h4, h5⟩ := h2 hs
     exact ⟨h3, h4, fun ρ ro Q htop hQ => AW.cond (t := true) (by rw [ev_ren, hc]; rfl) (fun _ => h5 ρ ro Q htop hQ) (fun e => by cases e)⟩
   ·rename_i hc
    have h2 := hr _ _ h
    cases o with
    | call rv H n2 => exact h2.elim
    | code e s2 n2 =>
     intro hs
     obtain ⟨h3, h4, h5⟩ := h2 hs
     exact ⟨h3, h4, fun ρ ro Q htop hQ => AW.cond (t := false) (by rw [ev_ren, hc]; rfl) (fun e => by cases e) (fun _ => h5 ρ ro Q htop hQ)⟩
   ·cases h
  ·exact rounds_ok hr _ h
  ·-- region
   unfold stRegion at h
   try simp only [evR_eq, hgetR_eq, hsetR_eq, sgetR_eq, putR_eq, aslR_eq, apartsR_eq] at h
   rename_i id ops dr
   replace h := guardO_some h
   obtain ⟨hok, h⟩ := h
   split at h
   ·rename_i s1 n1 hop
    cases h
    intro hs
    cases dr with
    | true =>
     obtain ⟨h3, h4, h5⟩ := sdraw_ok (id := id) hT hr hok hs hop
     exact ⟨h3, h4, fun ρ ro Q _ hQ => h5 ρ ro Q hQ⟩
    | false =>
     obtain ⟨h3, h4, h5⟩ := sops_ok hT hr hok ops.toList 0 s n (fun k => by simp) hs hop
     exact ⟨h3, h4, fun ρ ro Q _ hQ => AW.ops (h5 ρ ro _ hQ)⟩
   ·cases h
  ·-- rangeFunc
   unfold stRange at h
   try simp only [evR_eq, hgetR_eq, hsetR_eq, sgetR_eq, putR_eq, aslR_eq, apartsR_eq] at h
   rename_i g ps assign body
   split at h
   ·rename_i f fs cs hg
    replace h := guardO_some h
    obtain ⟨h1, h⟩ := h
    simp only [Bool.and_eq_true] at h1
    split at h
    ·rename_i rv H n1 hr1
     split at h
     ·rename_i v1 st' pend f1 m1 snap1 ps1 as1 bd1 hg1
      replace h := guardO_some h
      obtain ⟨h4, h⟩ := h
      -- the loop behind the iterator's call
      have fin : ∀ (pe : Option Code), pe = pend → ∀ (e : Exit), (∀ (ρ : Nat → Nat) (Q : Exit → AS → Prop) (sx : AS), Q e sx → match (generalizing := false) pe with
        | none => Q .normal sx
        | some c => AW P none N c Q sx) →
        Sem P (.code true N (.rangeFunc g ps assign body) s n) (.code e { s with heap := hset H n n (.loop .exhausted pe (n + 1) N s.slots ps assign body) } n1) := by
       intro pe hpe e hq hs
       subst hpe
       have hsh := sc_heap_of hs
       have hlsc : (AObj.loop .ready none (n + 1) N s.slots ps assign body).sc (n + 2) = true := by
        simp only [AObj.sc, scS_mono (Nat.le_add_right n 2) _ (sc_slots_of hs), Bool.and_true]
        simp [Nat.blt_eq]
       have hself : Nat.blt n (n + 2) = true := by simp [Nat.blt_eq]
       have h0 : scH (n + 2) (hset s.heap n n (.loop .ready none (n + 1) N s.slots ps assign body)) = true := scH_set _ _ _ _ (scH_mono (Nat.le_add_right n 2) _ hsh) (by omega) (by omega) hlsc
       have hargs : scL (n + 2) (fs ++ [.yl n n] ++ cs) = true := scL_append (scL_append (scL_mono (Nat.le_add_right n 2) _ h1.1) (by simp only [scL, HV.sc, hself, Bool.and_self])) (scL_mono (Nat.le_add_right n 2) _ h1.2)
       obtain ⟨h2, h3, st, hc⟩ := hr _ _ hr1 hargs h0
       have st0 : Step n (n + 2) s.heap (hset s.heap n n (.loop .ready none (n + 1) N s.slots ps assign body)) :=
        ⟨by omega, LoopKeep.set (by rw [sch_fresh hsh]; intros; simp), Back.set (.inl (Nat.le_refl _))⟩
       have st1 := st0.trans hsh st
       have hgl : hget (hset s.heap n n (.loop .ready none (n + 1) N s.slots ps assign body)) n = some (n, .loop .ready none (n + 1) N s.slots ps assign body) := by rw [hget_hset, if_pos rfl]
       obtain ⟨_, _, he1⟩ := st.loop _ _ _ _ _ _ _ _ _ _ hgl _ hg1
       cases he1
       have hls1 : (AObj.loop .exhausted pe (n + 1) N s.slots ps assign body).sc n1 = true := by
        simp only [AObj.sc, scS_mono st1.le _ (sc_slots_of hs), Bool.and_true]
        have := st.le
        simp [Nat.blt_eq]; omega
       have hn1 : n < n1 := by have := st.le; omega
       refine ⟨by simp only [AS.sc, scS_mono st1.le _ (sc_slots_of hs), scH_set _ n n _ h3 hn1 hn1 hls1, Bool.and_self], st1.trans hsh ⟨Nat.le_refl _, LoopKeep.setL hg1, Back.set (.inr ⟨_, hg1⟩)⟩, fun ρ ro Q htop hQ => ?_⟩
       have hro : ro = none := htop rfl
       subst hro
       have hg' : (s.ren ρ).ev g = some (.fn (.func f) (renL ρ fs) (renL ρ cs)) := by rw [ev_ren, hg]; rfl
       refine AW.rangeFunc n hg' fun fn ver => ?_
       have hu := Agree.upd n ver ρ
       have ha1 : Agree n ρ (upd (upd ρ n ver) (n + 1) fn) := hu.trans (Nat.le_succ n) (Agree.upd (n + 1) fn _)
       have e0 : hset (s.ren ρ).heap n ver (.loop .ready none fn N (s.ren ρ).slots ps assign body) = renH (upd (upd ρ n ver) (n + 1) fn) (hset s.heap n n (.loop .ready none (n + 1) N s.slots ps assign body)) := by
        rw [renH_set]
        simp only [AObj.ren, AS.ren]
        rw [renH_agree ha1 _ hsh, renS_agree ha1 _ (sc_slots_of hs), upd_at]
        simp [upd]
       have e1 : renL ρ fs ++ [.yl n ver] ++ renL ρ cs = renL (upd (upd ρ n ver) (n + 1) fn) (fs ++ [.yl n n] ++ cs) := by
        rw [renL_append, renL_append, renL_agree ha1 _ h1.1, renL_agree ha1 _ h1.2]
        simp only [renL, HV.ren]
        have : upd (upd ρ n ver) (n + 1) fn n = ver := by simp [upd]
        rw [this]
       rw [e0, e1]
       refine hc _ _ fun ρ' hag => ?_
       have hv : ρ' n = ver := by rw [← hag n (by omega)]; simp [upd]
       have hfn : ρ' (n + 1) = fn := by rw [← hag (n + 1) (by omega)]; simp [upd]
       have ha2 : Agree n ρ ρ' := ha1.trans (Nat.le_add_right n 2) hag
       have hsl : renS ρ' s.slots = (s.ren ρ).slots := (renS_agree ha2 _ (sc_slots_of hs)).symm
       have hQ' := hQ ρ' ha2
       have e2 : (({ s with heap := hset H n n (.loop .exhausted pe (n + 1) N s.slots ps assign body) } : AS)).ren ρ' = { s.ren ρ with heap := hset (renH ρ' H) n ver (.loop .exhausted pe fn N (s.ren ρ).slots ps assign body) } := by
        simp only [AS.ren, renH_set, AObj.ren, hv, hfn]
        rw [renS_agree ha2 _ (sc_slots_of hs)]
       rw [e2] at hQ'
       refine ⟨st', pe, ?_, ?_, ?_⟩
       ·rw [hget_ren, hg1]
        simp only [Option.map_some, AObj.ren, hv, hfn, hsl]
       ·rintro rfl; cases h4
       ·have := hq ρ Q _ hQ'
        cases pe with
        | none => exact this
        | some c => exact this
      split at h
      ·cases h
       exact fin none rfl .normal (fun ρ Q sx hx => hx)
      ·cases h
       exact fin (some .ret) rfl .ret (fun ρ Q sx hx => AW.ret hx)
      ·cases h
       exact fin (some (.exit _)) rfl (.exit _) (fun ρ Q sx hx => AW.exit hx)
      ·cases h
     ·cases h
    ·cases h
   ·cases h
  ·cases h
theorem run_ok (hT : T.Ok P) : ∀ k, Good P (run T k)
 | 0 => fun _ _ h => by cases h
 | k + 1 => step_ok hT (run_ok hT k)
theorem Fresh.of_run (hT : T.Ok P) {f : FuncId} {args : List HV} {k n1 : Nat} {rv q : HV} {H : Heap} (h : run T k (.call f args [] 0) = some (.call rv H n1)) (ha : scL 0 args = true) (hn : (nf rv && nfH H) = true)
  (hf : sfrz 8 H rv = some q) (hq : q.sc 0 = true) : Fresh P f args q := by
 obtain ⟨_, _, _, hcall⟩ := run_ok hT k _ _ h ha rfl
 have h5 := hcall (fun v => v) (fun r' H' => ∃ ρ', r' = rv.ren ρ' ∧ H' = renH ρ' H) fun ρ' _ => ⟨ρ', rfl, rfl⟩
 rw [renL_id] at h5
 simp only [Bool.and_eq_true] at hn
 refine ⟨sc0_clean q hq, _, 8, h5, ?_⟩
 rintro r' H' ⟨ρ', rfl, rfl⟩
 exact ⟨nf_ren ρ' rv hn.1, nfH_ren ρ' H hn.2, by rw [sfrz_sound 8 H ρ' rv q hf, ren_sc0 ρ' hq]⟩
end
end Go.AW
namespace Go.AW
open Go
mutual
def HV.same : HV → HV → Bool
 | .int .i64 n, .int .i64 m => decide (n = m)
 | .int .u8 n, .int .u8 m => decide (n = m)
 | .int .u64 n, .int .u64 m => decide (n = m)
 | .int .u32 n, .int .u32 m => decide (n = m)
 | .bool b, .bool c => b == c
 | .str l, .str k => decide (l = k)
 | .agg cs, .agg ds => sameL cs ds
 | .tup cs, .tup ds => sameL cs ds
 | .sl k n cs, .sl k' n' ds => Nat.beq k k' && Nat.beq n n' && sameL cs ds
 | .v (.slice none 0 0), .v (.slice none 0 0) => true
 | _, _ => false
def sameL : List HV → List HV → Bool
 | [], [] => true
 | c :: cs, d :: ds => c.same d && sameL cs ds
 | _, _ => false
end
mutual
theorem HV.same_eq : ∀ a b : HV, a.same b = true → a = b
 | .int k n, b, h => by
  cases b with
  | int k' m => cases k <;> cases k' <;> simp [HV.same] at h <;> rw [h]
  | _ => cases k <;> simp [HV.same] at h
 | .bool x, b, h => by
  cases b <;> simp [HV.same] at h
  rw [h]
 | .str x, b, h => by
  cases b <;> simp [HV.same] at h
  rw [h]
 | .v x, b, h => by
  unfold HV.same at h
  split at h <;> simp_all
 | .agg cs, b, h => by
  cases b with
  | agg ds => simp only [HV.same] at h; rw [sameL_eq cs ds h]
  | _ => simp [HV.same] at h
 | .tup cs, b, h => by
  cases b with
  | tup ds => simp only [HV.same] at h; rw [sameL_eq cs ds h]
  | _ => simp [HV.same] at h
 | .sl k n cs, b, h => by
  cases b with
  | sl k' n' ds =>
   simp only [HV.same, Bool.and_eq_true] at h
   rw [Nat.eq_of_beq_eq_true h.1.1, Nat.eq_of_beq_eq_true h.1.2, sameL_eq cs ds h.2]
  | _ => simp [HV.same] at h
 | .ar _ _ _ _ _, b, h => by cases b <;> simp [HV.same] at h
 | .ptr _ _ _, b, h => by cases b <;> simp [HV.same] at h
 | .fptr _ _, b, h => by cases b <;> simp [HV.same] at h
 | .fn _ _ _, b, h => by cases b <;> simp [HV.same] at h
 | .mp _ _, b, h => by cases b <;> simp [HV.same] at h
 | .yl _ _, b, h => by cases b <;> simp [HV.same] at h
 | .it _ _, b, h => by cases b <;> simp [HV.same] at h
theorem sameL_eq : ∀ a b : List HV, sameL a b = true → a = b
 | [], [], _ => rfl
 | [], _ :: _, h => by simp [sameL] at h
 | _ :: _, [], h => by simp [sameL] at h
 | c :: cs, d :: ds, h => by
  simp only [sameL, Bool.and_eq_true] at h
  rw [HV.same_eq c d h.1, sameL_eq cs ds h.2]
end
def elook : List (FuncId × List HV × HV) → FuncId → List HV → Option HV
 | [], _, _ => none
 | (g, aa, q) :: l, f, args => bif (Nat.beq g f && sameL aa args) then some q else elook l f args
theorem elook_ok {P : Program} : ∀ {l : List (FuncId × List HV × HV)}, (∀ e ∈ l, Fresh P e.1 e.2.1 e.2.2) → ∀ f args r, elook l f args = some r → Fresh P f args r
 | [], _, _, _, _, h => by cases h
 | (g, aa, q) :: l, hl, f, args, r, h => by
  simp only [elook] at h
  cases hb : (Nat.beq g f && sameL aa args) with
  | true =>
   rw [hb] at h
   cases h
   simp only [Bool.and_eq_true] at hb
   have h1 := Nat.eq_of_beq_eq_true hb.1
   have h2 := sameL_eq _ _ hb.2
   subst h1 h2
   exact hl _ (List.mem_cons_self ..)
  | false =>
   rw [hb] at h
   exact elook_ok (fun e he => hl e (List.mem_cons_of_mem _ he)) f args r h
noncomputable def comes (T : Tabs) (k : Nat) (f : FuncId) (args : List HV) (q : HV) : Bool :=
 match run T k (.call f args [] 0) with
 | some (.call rv H _) => scL 0 args && (nf rv && nfH H) && (match sfrz 8 H rv with
  | some r => r.sc 0 && r.same q
  | none => false)
 | _ => false
theorem Fresh.of_comes {P : Program} {T : Tabs} (hT : T.Ok P) {k : Nat} {f : FuncId} {args : List HV} {q : HV} (h : comes T k f args q = true) : Fresh P f args q := by
 unfold comes at h
 split at h
 ·rename_i rv H n1 hr
  simp only [Bool.and_eq_true] at h
  obtain ⟨⟨h1, h2⟩, h3⟩ := h
  split at h3
  ·rename_i r hr'
   simp only [Bool.and_eq_true] at h3
   have := HV.same_eq _ _ h3.2
   subst this
   exact Fresh.of_run hT hr h1 (by simp only [h2.1, h2.2, Bool.and_self]) hr' h3.1
  ·cases h3
 ·cases h
noncomputable def comesP (T : Tabs) (k : Nat) (f : FuncId) (args : List HV) (q : HV) : Bool :=
 match run T k (.call f args [] 0) with
 | some (.call rv H _) => scL 0 args && (match sfrz 8 H rv with
  | some r => r.sc 0 && r.same q
  | none => false)
 | _ => false
theorem Pure.of_comes {P : Program} {T : Tabs} (hT : T.Ok P) {k : Nat} {f : FuncId} {args : List HV} {q : HV} (h : comesP T k f args q = true) : Pure P f args (· = q) := by
 unfold comesP at h
 split at h
 ·rename_i rv H n1 hr
  simp only [Bool.and_eq_true] at h
  obtain ⟨h1, h3⟩ := h
  split at h3
  ·rename_i r hf
   simp only [Bool.and_eq_true] at h3
   have := HV.same_eq _ _ h3.2
   subst this
   obtain ⟨_, _, _, hcall⟩ := run_ok hT k _ _ hr h1 rfl
   have h5 := hcall (fun v => v) (fun r' H' => ∃ ρ', r' = rv.ren ρ' ∧ H' = renH ρ' H) fun ρ' _ => ⟨ρ', rfl, rfl⟩
   rw [renL_id] at h5
   refine h5.conv ?_
   rintro r' H' ⟨ρ', rfl, rfl⟩
   exact ⟨_, _, Conv.all 8, by rw [sfrz_sound 8 H ρ' rv _ hf, ren_sc0 ρ' h3.1], by rw [sfrz_sound 8 H ρ' rv _ hf, ren_sc0 ρ' h3.1]; exact sc0_clean _ h3.1, rfl⟩
  ·cases h3
 ·cases h
end Go.AW
namespace Go.AW
open Go Go.Proofs
theorem namesT_ok : Try.prog.funcs.toList.all (fun x => !(x.name == "runtime.NumGoroutine")) = true := by kernel_rfl
theorem fnT_ok (f : FuncId) (x : Func) (h : Try.prog.funcs[f]? = some x) : (x.name == "runtime.NumGoroutine") = false := by
 have := List.all_eq_true.1 namesT_ok x (by
  rw [← Array.getElem?_toList] at h
  exact List.mem_of_getElem? h)
 simpa using this
def tabsE (P : Program) (l l' : List (FuncId × List HV × HV)) : Tabs where
 extP := elook l'
 ty := ty P
 fn := fun f => P.funcs[f]?
 ext := elook l
 sort := fun _ => none
 keep := fun _ _ => none
theorem elookP_ok {P : Program} : ∀ {l : List (FuncId × List HV × HV)}, (∀ e ∈ l, Pure P e.1 e.2.1 (· = e.2.2)) → ∀ f args r, elook l f args = some r → Pure P f args (· = r)
 | [], _, _, _, _, h => by cases h
 | (g, aa, q) :: l, hl, f, args, r, h => by
  simp only [elook] at h
  cases hb : (Nat.beq g f && sameL aa args) with
  | true =>
   rw [hb] at h
   cases h
   simp only [Bool.and_eq_true] at hb
   have h1 := Nat.eq_of_beq_eq_true hb.1
   have h2 := sameL_eq _ _ hb.2
   subst h1 h2
   exact hl _ (List.mem_cons_self ..)
  | false =>
   rw [hb] at h
   exact elookP_ok (fun e he => hl e (List.mem_cons_of_mem _ he)) f args r h
theorem tabsE_ok {P : Program} {l l' : List (FuncId × List HV × HV)} (hn : ∀ (f : FuncId) (x : Func), P.funcs[f]? = some x → (x.name == "runtime.NumGoroutine") = false) (hd : P.follows .mixedOrders = true) (hl : ∀ e ∈ l, Fresh P e.1 e.2.1 e.2.2) (hl' : ∀ e ∈ l', Pure P e.1 e.2.1 (· = e.2.2)) : (tabsE P l l').Ok P where
 extP := fun f args r h => elookP_ok hl' f args r h
 ty := fun _ _ h => h
 fn := fun f x h => ⟨h, hn f x h⟩
 ext := fun f args r h => elook_ok hl f args r h
 sortS := fun f h => by cases h
 sortI := fun f h => by cases h
 draw := hd
theorem tabsT_ok {l l' : List (FuncId × List HV × HV)} (hl : ∀ e ∈ l, Fresh Try.prog e.1 e.2.1 e.2.2) (hl' : ∀ e ∈ l', Pure Try.prog e.1 e.2.1 (· = e.2.2)) : (tabsE Try.prog l l').Ok Try.prog := tabsE_ok fnT_ok follows hl hl'
set_option maxHeartbeats 1600000
set_option maxRecDepth 100000
set_option linter.unusedVariables false
theorem w_word_known {p0 : Int} {r : Bool} (h : m_word_known p0 = some r) : Pure Try.prog 49 [hI p0] (· = HV.bool r) := by
 unfold m_word_known at h
 refine Pure.of_body Try.func49 rfl rfl (lb rfl) fun hf => ?_
 unfold Try.f49
 dsimp only [enumS, Nat.reduceAdd]
 refine AW.rgs rfl fun K hK => mv rfl rfl ?_
 refine bf hK ⟨[(0, hI p0)], []⟩ ?_
 refine AW.seqJ h (S := Bool) (V := Unit) (fun a v => ⟨[(2, .bool a)], []⟩) (fun a1 w2 h => ?_) (fun k3 h => ?_)
 ·refine AW.ret ?_
  have h := Option.some.inj h
  subst h
  exact ret_pure (hs := [.bool a1]) (.inr rfl) (resT rfl rfl) rfl trivial
 refine AW.rg rfl fun K hK => mv rfl rfl (bv rfl (v_bin rfl rfl b_geq) (mv rfl rfl ?_))
 by_cases hg4 : 1 ≤ p0
 ·have h := ifT hg4 h
  refine b_T rfl rfl rfl rfl (decide_eq_true hg4) (o_val rfl (mv_val rfl rfl).2 ?_)
  refine b_T rfl rfl rfl rfl rfl (o_val rfl (v_bin rfl rfl b_leq) ?_)
  refine bv rfl (v_pickT rfl rfl rfl) (mv rfl rfl ?_)
  refine b_nil (hK _ ?_)
  exact to_L ⟨decide (p0 ≤ 16), (), h, rfl⟩
 have h := ifF hg4 h
 refine b_F rfl rfl rfl rfl rfl (decide_eq_false hg4) ?_
 refine b_F rfl rfl rfl rfl rfl rfl ?_
 refine bv rfl (v_pickF rfl rfl rfl) (mv rfl rfl ?_)
 refine b_nil (hK _ ?_)
 exact to_L ⟨false, (), h, rfl⟩
theorem w_word_Check {p0 : Int} {p1 : List UInt8} {r : Int} (h : m_word_Check p0 p1 = some r) : Pure Try.prog 51 [hI p0, .str p1] (· = hI r) := by
 unfold m_word_Check at h
 refine Pure.of_body Try.func51 rfl rfl (lb rfl) fun hf => ?_
 unfold Try.f51
 dsimp only [enumS, Nat.reduceAdd]
 refine AW.rgs rfl fun K hK => mv rfl rfl ?_
 refine bf hK ⟨[(0, hI p0), (1, .str p1)], []⟩ ?_
 refine AW.seq (AW.block ?_)
 refine AW.rgs rfl fun K hK => mv rfl rfl ?_
 obtain ⟨x1, h2, h⟩ := bS h
 refine b_op rfl (o_call rfl rfl rfl rfl (ACallD.pure0 (w_word_known h2)) ?_)
 refine bv rfl (v_not rfl) (mv rfl rfl ?_)
 refine bf hK ⟨[(0, hI p0), (1, .str p1), (6, .bool (!x1))], []⟩ ?_
 refine AW.cond rfl (fun hc => ?_) (fun hc => ?_)
 ·have h := ifT hc h
  refine AW.rgs rfl fun K hK => mv rfl rfl ?_
  refine bf hK ⟨[(4, hI 12)], []⟩ ?_
  refine AW.ret ?_
  have h := Option.some.inj h
  subst h
  exact ret_pure (hs := [hI 12]) (.inr rfl) (resT rfl rfl) rfl trivial
 have h := ifF (bF' hc) h
 refine AW.rgs rfl fun K hK => mv rfl rfl (bv rfl (v_lenS rfl rfl ty9 rfl) (bv rfl (v_bin rfl rfl b_gtr) (mv rfl rfl ?_)))
 refine bf hK ⟨[(0, hI p0), (1, .str p1), (10, .bool (decide (65536 < ((p1).length : Int))))], []⟩ ?_
 refine AW.cond rfl (fun hc => ?_) (fun hc => ?_)
 ·obtain ⟨hc, h⟩ := cT hc h
  refine AW.rgs rfl fun K hK => mv rfl rfl ?_
  refine bf hK ⟨[(4, hI 4)], []⟩ ?_
  refine AW.ret ?_
  have h := Option.some.inj h
  subst h
  exact ret_pure (hs := [hI 4]) (.inr rfl) (resT rfl rfl) rfl trivial
 obtain ⟨hc, h⟩ := cF hc h
 refine AW.skip ?_
 refine AW.seq ?_
 refine AW.rgs rfl fun K hK => mv rfl rfl (bv rfl (v_lenS rfl rfl ty9 rfl) (mv rfl rfl ?_))
 refine bf hK ⟨[(0, hI p0), (1, .str p1), (15, hI ((p1).length : Int)), (16, hI 0)], []⟩ ?_
 refine AW.lpR h (by first | exact up_then | exact up_to) (S := Int) (V := Unit) (fun a v => ⟨[(0, hI p0), (1, .str p1), (15, hI ((p1).length : Int)), (16, hI a)], []⟩) ?_ (X := Unit) (W := Unit) (fun a v => ⟨[], []⟩) (fun a12 w13 h => ?_) (fun a3 w4 st5 h hr6=> ?_)
 ·exact to_L ⟨(), rfl⟩
 ·refine AW.rgs rfl fun K hK => mv rfl rfl ?_
  refine bf hK ⟨[(4, hI 0)], []⟩ ?_
  refine AW.ret ?_
  have h := Option.some.inj h
  subst h
  exact ret_pure (hs := [hI 0]) (.inr rfl) (resT rfl rfl) rfl trivial
 refine AW.rgs rfl fun K hK => bv rfl (v_bin rfl rfl b_lss) ?_
 refine bf hK ⟨[(0, hI p0), (1, .str p1), (15, hI ((p1).length : Int)), (16, hI a3), (17, .bool (decide (a3 < ((p1).length : Int))))], []⟩ ?_
 refine AW.cseq rfl (fun hc => ?_) (fun hc => ?_)
 ·obtain ⟨hc, h⟩ := cT hc h
  refine AW.skip ?_
  refine AW.seq (AW.block ?_)
  refine AW.rgs rfl fun K hK => mv rfl rfl (mv rfl rfl ?_)
  refine bf hK ⟨[(0, hI p0), (1, .str p1), (5, hI a3), (15, hI ((p1).length : Int)), (16, hI a3)], []⟩ ?_
  refine AW.dgs 7 follows rfl rfl fun K hK => ?_
  refine sm rfl rfl ?_
  obtain ⟨h7, h⟩ := ifN h
  refine sv rfl (v_sliceS ty9 rfl rfl rfl h7) ?_
  refine sm rfl rfl ?_
  refine sm rfl rfl ?_
  obtain ⟨x8, h9, h⟩ := bS h
  refine sv rfl (v_idxS ty9 rfl rfl h9) ?_
  obtain ⟨x10, h11, h⟩ := bS h
  refine s_op rfl rfl (ops_call rfl rfl rfl rfl (ACallD.pure0 (w_strings_IndexByte h11)) ?_)
  refine sv rfl (v_bin rfl rfl b_lss) ?_
  refine s_nil ?_
  refine bf hK ⟨[(0, hI p0), (1, .str p1), (15, hI ((p1).length : Int)), (16, hI a3), (25, .bool (decide (x10 < 0)))], []⟩ ?_
  refine AW.cond rfl (fun hc => ?_) (fun hc => ?_)
  ·obtain ⟨hc, h⟩ := cT hc h
   refine AW.rgs rfl fun K hK => mv rfl rfl ?_
   refine bf hK ⟨[(4, hI 13)], []⟩ ?_
   have h := hr6 _ h
   refine AW.ret ?_
   have h := Option.some.inj h
   subst h
   exact ret_pure (hs := [hI 13]) (.inr rfl) (resT rfl rfl) rfl trivial
  obtain ⟨hc, h⟩ := cF hc h
  refine AW.skip ?_
  refine AW.rg rfl fun K hK => bv rfl (v_bin rfl rfl b_add) (mv rfl rfl ?_)
  refine b_nil (hK _ ?_)
  exact to_L ⟨IntKind.wrap .i64 (a3 + 1), (), h, rfl⟩
 obtain ⟨hc, h⟩ := cF hc h
 refine AW.exit ?_
 exact to_L ⟨(), (), h, rfl⟩
theorem w_indel_check {p0 : List (List UInt8)} {r : Int} (h : m_indel_check p0 = some r) : Pure Try.prog 24 [slE eStr p0] (· = hI r) := by
 unfold m_indel_check at h
 refine Pure.of_body Try.func24 rfl rfl (lb rfl) fun hf => ?_
 unfold Try.f24
 dsimp only [enumS, Nat.reduceAdd]
 refine AW.rgs rfl fun K hK => mv rfl rfl ?_
 refine bf hK ⟨[(0, slE eStr p0)], []⟩ ?_
 refine AW.seq ?_
 refine AW.rgs rfl fun K hK => mv rfl rfl (bv rfl (v_lenF rfl rfl ty22 rfl) (mv rfl rfl ?_))
 refine bf hK ⟨[(0, slE eStr p0), (8, slE eStr p0), (9, hI ((p0).length : Int)), (10, hI 0)], []⟩ ?_
 refine AW.lpR h (by first | exact up_then | exact up_to) (S := Int) (V := Unit) (fun a v => ⟨[(0, slE eStr p0), (8, slE eStr p0), (9, hI ((p0).length : Int)), (10, hI a)], []⟩) ?_ (X := Unit) (W := Unit) (fun a v => ⟨[(0, slE eStr p0)], []⟩) (fun a7 w8 h => ?_) (fun a1 w2 st3 h hr4=> ?_)
 ·exact to_L ⟨(), rfl⟩
 ·refine AW.seq ?_
  refine AW.rgs rfl fun K hK => mv rfl rfl (bv rfl (v_lenF rfl rfl ty22 rfl) (mv rfl rfl ?_))
  refine bf hK ⟨[(18, slE eStr p0), (19, hI ((p0).length : Int)), (20, hI 0)], []⟩ ?_
  refine AW.lpR h (by first | exact up_then | exact up_to) (S := Int) (V := Unit) (fun a v => ⟨[(18, slE eStr p0), (19, hI ((p0).length : Int)), (20, hI a)], []⟩) ?_ (X := Unit) (W := Unit) (fun a v => ⟨[], []⟩) (fun a17 w18 h => ?_) (fun a9 w10 st11 h hr12=> ?_)
  ·exact to_L ⟨(), rfl⟩
  ·refine AW.rgs rfl fun K hK => mv rfl rfl ?_
   refine bf hK ⟨[(2, hI 0)], []⟩ ?_
   refine AW.ret ?_
   have h := Option.some.inj h
   subst h
   exact ret_pure (hs := [hI 0]) (.inr rfl) (resT rfl rfl) rfl trivial
  refine AW.rgs rfl fun K hK => bv rfl (v_bin rfl rfl b_lss) ?_
  refine bf hK ⟨[(18, slE eStr p0), (19, hI ((p0).length : Int)), (20, hI a9), (21, .bool (decide (a9 < ((p0).length : Int))))], []⟩ ?_
  refine AW.cseq rfl (fun hc => ?_) (fun hc => ?_)
  ·obtain ⟨hc, h⟩ := cT hc h
   refine AW.skip ?_
   refine AW.seq (AW.block ?_)
   refine AW.rgs rfl fun K hK => ?_
   obtain ⟨x13, h14, h⟩ := bS h
   refine bv rfl (v_idxF ty22 es22 rfl rfl (idx_lt h14)) (bv rfl (v_loadF ty9 rfl (l_cell eStr h14 (o := 0) rfl rfl)) (mv rfl rfl ?_))
   refine bf hK ⟨[(6, .str x13), (18, slE eStr p0), (19, hI ((p0).length : Int)), (20, hI a9)], []⟩ ?_
   refine AW.rgs rfl fun K hK => mv rfl rfl ?_
   obtain ⟨x15, h16, h⟩ := bS h
   refine b_op rfl (o_call rfl rfl rfl rfl (ACallD.pure0 (w_word_Check h16)) ?_)
   refine mv rfl rfl ?_
   refine bf hK ⟨[(7, hI x15), (18, slE eStr p0), (19, hI ((p0).length : Int)), (20, hI a9)], []⟩ ?_
   refine AW.rgs rfl fun K hK => mv rfl rfl (bv rfl (v_bin rfl rfl b_neq) ?_)
   refine bf hK ⟨[(7, hI x15), (18, slE eStr p0), (19, hI ((p0).length : Int)), (20, hI a9), (27, .bool (decide (x15 ≠ 0)))], []⟩ ?_
   refine AW.cond rfl (fun hc => ?_) (fun hc => ?_)
   ·obtain ⟨hc, h⟩ := cT hc h
    refine AW.rgs rfl fun K hK => mv rfl rfl (mv rfl rfl ?_)
    refine bf hK ⟨[(2, hI x15)], []⟩ ?_
    have h := hr12 _ h
    refine AW.ret ?_
    have h := Option.some.inj h
    subst h
    exact ret_pure (hs := [hI x15]) (.inr rfl) (resT rfl rfl) rfl trivial
   obtain ⟨hc, h⟩ := cF hc h
   refine AW.skip ?_
   refine AW.rg rfl fun K hK => bv rfl (v_bin rfl rfl b_add) (mv rfl rfl ?_)
   refine b_nil (hK _ ?_)
   exact to_L ⟨IntKind.wrap .i64 (a9 + 1), (), h, rfl⟩
  obtain ⟨hc, h⟩ := cF hc h
  refine AW.exit ?_
  exact to_L ⟨(), (), h, rfl⟩
 refine AW.rgs rfl fun K hK => bv rfl (v_bin rfl rfl b_lss) ?_
 refine bf hK ⟨[(0, slE eStr p0), (8, slE eStr p0), (9, hI ((p0).length : Int)), (10, hI a1), (11, .bool (decide (a1 < ((p0).length : Int))))], []⟩ ?_
 refine AW.cseq rfl (fun hc => ?_) (fun hc => ?_)
 ·obtain ⟨hc, h⟩ := cT hc h
  refine AW.skip ?_
  refine AW.seq (AW.block ?_)
  refine AW.rgs rfl fun K hK => ?_
  obtain ⟨x5, h6, h⟩ := bS h
  refine bv rfl (v_idxF ty22 es22 rfl rfl (idx_lt h6)) (bv rfl (v_loadF ty9 rfl (l_cell eStr h6 (o := 0) rfl rfl)) (mv rfl rfl ?_))
  refine bf hK ⟨[(0, slE eStr p0), (4, .str x5), (8, slE eStr p0), (9, hI ((p0).length : Int)), (10, hI a1)], []⟩ ?_
  refine AW.rgs rfl fun K hK => mv rfl rfl (bv rfl (v_lenS rfl rfl ty9 rfl) (bv rfl (v_bin rfl rfl b_gtr) ?_))
  refine bf hK ⟨[(0, slE eStr p0), (8, slE eStr p0), (9, hI ((p0).length : Int)), (10, hI a1), (16, .bool (decide (256 < ((x5).length : Int))))], []⟩ ?_
  refine AW.cond rfl (fun hc => ?_) (fun hc => ?_)
  ·obtain ⟨hc, h⟩ := cT hc h
   refine AW.rgs rfl fun K hK => mv rfl rfl ?_
   refine bf hK ⟨[(2, hI 4)], []⟩ ?_
   have h := hr4 _ h
   refine AW.ret ?_
   have h := Option.some.inj h
   subst h
   exact ret_pure (hs := [hI 4]) (.inr rfl) (resT rfl rfl) rfl trivial
  obtain ⟨hc, h⟩ := cF hc h
  refine AW.skip ?_
  refine AW.rg rfl fun K hK => bv rfl (v_bin rfl rfl b_add) (mv rfl rfl ?_)
  refine b_nil (hK _ ?_)
  exact to_L ⟨IntKind.wrap .i64 (a1 + 1), (), h, rfl⟩
 obtain ⟨hc, h⟩ := cF hc h
 refine AW.exit ?_
 exact to_L ⟨(), (), h, rfl⟩
theorem w_word_All {p0 : Int} {p1 : Int} {r : (List (List UInt8)) × Int} (h : m_word_All p0 p1 = some r) : Pure Try.prog 22 [hI p0, hI p1] (· = HV.tup [slE eStr r.1, hI r.2]) := by
 unfold m_word_All at h
 refine Pure.of_body Try.func22 rfl rfl (lb rfl) fun hf => ?_
 unfold Try.f22
 dsimp only [enumS, Nat.reduceAdd]
 refine AW.rgs rfl fun K hK => mv rfl rfl (mv rfl rfl ?_)
 refine bf hK ⟨[(0, hI p0), (1, hI p1)], []⟩ ?_
 refine AW.seq (AW.block ?_)
 refine AW.rgs rfl fun K hK => mv rfl rfl ?_
 obtain ⟨x1, h2, h⟩ := bS h
 refine b_op rfl (o_call rfl rfl rfl rfl (ACallD.pure0 (w_word_known h2)) ?_)
 refine bv rfl (v_not rfl) (mv rfl rfl ?_)
 refine bf hK ⟨[(0, hI p0), (1, hI p1), (11, .bool (!x1))], []⟩ ?_
 refine AW.cond rfl (fun hc => ?_) (fun hc => ?_)
 ·have h := ifT hc h
  refine AW.rgs rfl fun K hK => mv rfl rfl (mv rfl rfl ?_)
  refine bf hK ⟨[(4, .v (.slice none 0 0)), (5, hI 12)], []⟩ ?_
  refine AW.to (to_weak ⟨[(4, slE eStr ([] : List (List UInt8))), (5, hI 12)], []⟩ ⟨⟨_, rfl, .nil _⟩, ⟨_, rfl, .refl _⟩, trivial⟩ trivial ?_)
  refine AW.ret ?_
  have h := Option.some.inj h
  subst h
  exact ret_pure (hs := [slE eStr ([] : List (List UInt8)), hI 12]) (.inr rfl) (resT rfl (resT rfl rfl)) rfl ⟨(clean_slE fun _ _ => ⟨trivial, trivial⟩), trivial, trivial⟩
 have h := ifF (bF' hc) h
 refine AW.rgs rfl fun K hK => mv rfl rfl (bv rfl (v_bin rfl rfl b_lss) (mv rfl rfl ?_))
 refine bf hK ⟨[(0, hI p0), (1, hI p1), (15, .bool (decide (p1 < 0)))], []⟩ ?_
 refine AW.cond rfl (fun hc => ?_) (fun hc => ?_)
 ·obtain ⟨hc, h⟩ := cT hc h
  refine AW.rgs rfl fun K hK => mv rfl rfl (mv rfl rfl ?_)
  refine bf hK ⟨[(4, .v (.slice none 0 0)), (5, hI 2)], []⟩ ?_
  refine AW.to (to_weak ⟨[(4, slE eStr ([] : List (List UInt8))), (5, hI 2)], []⟩ ⟨⟨_, rfl, .nil _⟩, ⟨_, rfl, .refl _⟩, trivial⟩ trivial ?_)
  refine AW.ret ?_
  have h := Option.some.inj h
  subst h
  exact ret_pure (hs := [slE eStr ([] : List (List UInt8)), hI 2]) (.inr rfl) (resT rfl (resT rfl rfl)) rfl ⟨(clean_slE fun _ _ => ⟨trivial, trivial⟩), trivial, trivial⟩
 obtain ⟨hc, h⟩ := cF hc h
 refine AW.rgs rfl fun K hK => mv rfl rfl (bv rfl (v_bin rfl rfl b_gtr) (mv rfl rfl ?_))
 refine bf hK ⟨[(0, hI p0), (1, hI p1), (18, .bool (decide (65536 < p1)))], []⟩ ?_
 refine AW.cond rfl (fun hc => ?_) (fun hc => ?_)
 ·obtain ⟨hc, h⟩ := cT hc h
  refine AW.rgs rfl fun K hK => mv rfl rfl (mv rfl rfl ?_)
  refine bf hK ⟨[(4, .v (.slice none 0 0)), (5, hI 4)], []⟩ ?_
  refine AW.to (to_weak ⟨[(4, slE eStr ([] : List (List UInt8))), (5, hI 4)], []⟩ ⟨⟨_, rfl, .nil _⟩, ⟨_, rfl, .refl _⟩, trivial⟩ trivial ?_)
  refine AW.ret ?_
  have h := Option.some.inj h
  subst h
  exact ret_pure (hs := [slE eStr ([] : List (List UInt8)), hI 4]) (.inr rfl) (resT rfl (resT rfl rfl)) rfl ⟨(clean_slE fun _ _ => ⟨trivial, trivial⟩), trivial, trivial⟩
 obtain ⟨hc, h⟩ := cF hc h
 refine AW.skip ?_
 refine AW.seq ?_
 refine AW.rgs rfl fun K hK => mv rfl rfl (bv rfl (v_bin rfl rfl b_eql) ?_)
 refine bf hK ⟨[(0, hI p0), (1, hI p1), (22, .bool (decide (p0 = 1)))], []⟩ ?_
 refine AW.cond rfl (fun hc => ?_) (fun hc => ?_)
 ·obtain ⟨hc, h⟩ := cT hc h
  refine AW.rgs rfl fun K hK => mv rfl rfl ?_
  obtain ⟨x3, h4, h⟩ := bS h
  refine b_op rfl (o_call rfl rfl rfl rfl (ACallD.pure0 (w_strings_Repeat h4)) ?_)
  refine b_op rfl (o_bsl rfl rfl (as_of (cs := [.str x3]) ty22 ty9 rfl rfl rfl rfl rfl) ?_)
  refine mv rfl rfl (mv rfl rfl ?_)
  refine bf hK ⟨[(4, slE eStr [x3]), (5, hI 0)], []⟩ ?_
  refine AW.ret ?_
  have h := Option.some.inj h
  subst h
  exact ret_pure (hs := [slE eStr [x3], hI 0]) (.inr rfl) (resT rfl (resT rfl rfl)) rfl ⟨(clean_slE fun _ _ => ⟨trivial, trivial⟩), trivial, trivial⟩
 obtain ⟨hc, h⟩ := cF hc h
 refine AW.skip ?_
 refine AW.rgs rfl fun K hK => b_op rfl (o_bsl rfl rfl (as_of (cs := [.str nS]) ty22 ty9 rfl rfl rfl rfl rfl) ?_)
 refine mv rfl rfl ?_
 refine bf hK ⟨[(0, hI p0), (1, hI p1), (6, slE eStr [nS])], []⟩ ?_
 refine AW.seq ?_
 refine AW.rgs rfl fun K hK => mv rfl rfl (mv rfl rfl ?_)
 refine bf hK ⟨[(0, hI p0), (6, slE eStr [nS]), (27, hI p1), (28, hI 0)], []⟩ ?_
 refine AW.lpR h (by first | exact up_then | exact up_to) (S := (List (List UInt8)) × Int) (V := Unit) (fun a v => ⟨[(0, hI p0), (6, slE eStr a.1), (27, hI p1), (28, hI a.2)], []⟩) ?_ (X := (List (List UInt8))) (W := Unit) (fun a v => ⟨[(6, slE eStr a)], []⟩) (fun a29 w30 h => ?_) (fun a5 w6 st7 h hr8=> ?_)
 ·exact to_L ⟨(), rfl⟩
 ·refine AW.rgs rfl fun K hK => mv rfl rfl (mv rfl rfl (mv rfl rfl ?_))
  refine bf hK ⟨[(4, slE eStr a29), (5, hI 0)], []⟩ ?_
  refine AW.ret ?_
  have h := Option.some.inj h
  subst h
  exact ret_pure (hs := [slE eStr a29, hI 0]) (.inr rfl) (resT rfl (resT rfl rfl)) rfl ⟨(clean_slE fun _ _ => ⟨trivial, trivial⟩), trivial, trivial⟩
 refine AW.rgs rfl fun K hK => bv rfl (v_bin rfl rfl b_lss) ?_
 refine bf hK ⟨[(0, hI p0), (6, slE eStr a5.1), (27, hI p1), (28, hI a5.2), (29, .bool (decide (a5.2 < p1)))], []⟩ ?_
 refine AW.cseq rfl (fun hc => ?_) (fun hc => ?_)
 ·obtain ⟨hc, h⟩ := cT hc h
  refine AW.skip ?_
  refine AW.seq (AW.block ?_)
  refine AW.seq ?_
  refine AW.rgs rfl fun K hK => mv rfl rfl (bv rfl (v_lenF rfl rfl ty22 rfl) (mv rfl rfl (bv rfl (v_bin rfl rfl b_mul) (bv rfl (v_bin rfl rfl b_gtr) ?_))))
  refine bf hK ⟨[(0, hI p0), (6, slE eStr a5.1), (27, hI p1), (28, hI a5.2), (34, .bool (decide (4096 < (IntKind.wrap .i64 (((a5.1).length : Int) * p0)))))], []⟩ ?_
  refine AW.cond rfl (fun hc => ?_) (fun hc => ?_)
  ·obtain ⟨hc, h⟩ := cT hc h
   refine AW.rgs rfl fun K hK => mv rfl rfl (mv rfl rfl ?_)
   refine bf hK ⟨[(4, .v (.slice none 0 0)), (5, hI 4)], []⟩ ?_
   have h := hr8 _ h
   refine AW.to (to_weak ⟨[(4, slE eStr ([] : List (List UInt8))), (5, hI 4)], []⟩ ⟨⟨_, rfl, .nil _⟩, ⟨_, rfl, .refl _⟩, trivial⟩ trivial ?_)
   refine AW.ret ?_
   have h := Option.some.inj h
   subst h
   exact ret_pure (hs := [slE eStr ([] : List (List UInt8)), hI 4]) (.inr rfl) (resT rfl (resT rfl rfl)) rfl ⟨(clean_slE fun _ _ => ⟨trivial, trivial⟩), trivial, trivial⟩
  obtain ⟨hc, h⟩ := cF hc h
  refine AW.skip ?_
  refine AW.rgs rfl fun K hK => mv rfl rfl (bv rfl (v_lenF rfl rfl ty22 rfl) (mv rfl rfl (bv rfl (v_bin rfl rfl b_mul) ?_)))
  obtain ⟨h10, h⟩ := ifN h
  refine b_op rfl (o_makeE (fid := 22) eStr (nS : List UInt8) 22039 rfl rfl ty22 rfl rfl ty9 rfl rfl h10 (fun v9 => ?_))
  refine mv rfl rfl ?_
  refine bf hK ⟨[(0, hI p0), (6, slE eStr a5.1), (7, .ar 22039 v9 eStr.k 0 ((List.replicate (0 : Int).toNat (nS : List UInt8)).length)), (27, hI p1), (28, hI a5.2)], [(22039, v9, .arr eStr.k 9 (eStr.E (List.replicate (0 : Int).toNat (nS : List UInt8))))]⟩ ?_
  refine AW.seq ?_
  refine AW.rgs rfl fun K hK => mv rfl rfl (bv rfl (v_lenF rfl rfl ty22 rfl) (mv rfl rfl ?_))
  refine bf hK ⟨[(0, hI p0), (7, .ar 22039 v9 eStr.k 0 ((List.replicate (0 : Int).toNat (nS : List UInt8)).length)), (27, hI p1), (28, hI a5.2), (40, slE eStr a5.1), (41, hI ((a5.1).length : Int)), (42, hI 0)], [(22039, v9, .arr eStr.k 9 (eStr.E (List.replicate (0 : Int).toNat (nS : List UInt8))))]⟩ ?_
  refine AW.lpX h (by first | exact up_then | exact up_to) (S := Int × (List (List UInt8))) (V := Nat) (fun a v => ⟨[(0, hI p0), (7, .ar 22039 v eStr.k 0 ((a.2).length)), (27, hI p1), (28, hI a5.2), (40, slE eStr a5.1), (41, hI ((a5.1).length : Int)), (42, hI a.1)], [(22039, v, .arr eStr.k 9 (eStr.E a.2))]⟩) ?_ (X := (List (List UInt8))) (W := Nat) (fun a v => ⟨[(0, hI p0), (7, .ar 22039 v eStr.k 0 ((a).length)), (27, hI p1), (28, hI a5.2)], [(22039, v, .arr eStr.k 9 (eStr.E a))]⟩) (fun a27 w28 h => ?_) (fun a11 w12 st13 h => ?_)
  ·exact to_L ⟨v9, rfl⟩
  ·refine AW.rg rfl fun K hK => mv rfl rfl (mv rfl rfl ?_)
   refine bf hK ⟨[(0, hI p0), (6, .ar 22039 w28 eStr.k 0 ((a27).length)), (27, hI p1), (28, hI a5.2)], [(22039, w28, .arr eStr.k 9 (eStr.E a27))]⟩ ?_
   refine AW.rg rfl fun K hK => bv rfl (v_bin rfl rfl b_add) (mv rfl rfl ?_)
   refine b_nil (hK _ ?_)
   refine to_bind (to_frz 2 [(22039, w28, .arr eStr.k 9 (eStr.E a27))] ⟨[(0, hI p0), (6, slE eStr a27), (27, hI p1), (28, hI (IntKind.wrap .i64 (a5.2 + 1)))], []⟩ ⟨⟨_, rfl, rfl⟩, ⟨_, rfl, frz_slE eStr (l := a27) rfl fun _ _ => rfl⟩, ⟨_, rfl, rfl⟩, ⟨_, rfl, rfl⟩, trivial⟩ trivial ⟨rfl, trivial⟩ ⟨rfl, trivial⟩ ?_)
   exact to_L ⟨(a27, IntKind.wrap .i64 (a5.2 + 1)), (), h, rfl⟩
  refine AW.rgs rfl fun K hK => bv rfl (v_bin rfl rfl b_lss) ?_
  refine bf hK ⟨[(0, hI p0), (7, .ar 22039 w12 eStr.k 0 ((a11.2).length)), (27, hI p1), (28, hI a5.2), (40, slE eStr a5.1), (41, hI ((a5.1).length : Int)), (42, hI a11.1), (43, .bool (decide (a11.1 < ((a5.1).length : Int))))], [(22039, w12, .arr eStr.k 9 (eStr.E a11.2))]⟩ ?_
  refine AW.cseq rfl (fun hc => ?_) (fun hc => ?_)
  ·obtain ⟨hc, h⟩ := cT hc h
   refine AW.skip ?_
   refine AW.seq (AW.block ?_)
   refine AW.rgs rfl fun K hK => ?_
   obtain ⟨x15, h16, h⟩ := bS h
   refine bv rfl (v_idxF ty22 es22 rfl rfl (idx_lt h16)) (bv rfl (v_loadF ty9 rfl (l_cell eStr h16 (o := 0) rfl rfl)) (mv rfl rfl ?_))
   refine bf hK ⟨[(0, hI p0), (7, .ar 22039 w12 eStr.k 0 ((a11.2).length)), (9, .str x15), (27, hI p1), (28, hI a5.2), (40, slE eStr a5.1), (41, hI ((a5.1).length : Int)), (42, hI a11.1)], [(22039, w12, .arr eStr.k 9 (eStr.E a11.2))]⟩ ?_
   refine AW.rgs rfl fun K hK => mv rfl rfl (mv rfl rfl ?_)
   refine bf hK ⟨[(0, hI p0), (7, .ar 22039 w12 eStr.k 0 ((a11.2).length)), (9, .str x15), (27, hI p1), (28, hI a5.2), (40, slE eStr a5.1), (41, hI ((a5.1).length : Int)), (42, hI a11.1), (46, hI p0), (47, hI 0)], [(22039, w12, .arr eStr.k 9 (eStr.E a11.2))]⟩ ?_
   refine AW.lpX h (by first | exact up_then | exact up_to) (S := Int × (List (List UInt8))) (V := Nat) (fun a v => ⟨[(0, hI p0), (7, .ar 22039 v eStr.k 0 ((a.2).length)), (9, .str x15), (27, hI p1), (28, hI a5.2), (40, slE eStr a5.1), (41, hI ((a5.1).length : Int)), (42, hI a11.1), (46, hI p0), (47, hI a.1)], [(22039, v, .arr eStr.k 9 (eStr.E a.2))]⟩) ?_ (X := (List (List UInt8))) (W := Nat) (fun a v => ⟨[(0, hI p0), (7, .ar 22039 v eStr.k 0 ((a).length)), (27, hI p1), (28, hI a5.2), (40, slE eStr a5.1), (41, hI ((a5.1).length : Int)), (42, hI a11.1)], [(22039, v, .arr eStr.k 9 (eStr.E a))]⟩) (fun a25 w26 h => ?_) (fun a17 w18 st19 h => ?_)
   ·exact to_L ⟨w12, rfl⟩
   ·refine AW.rg rfl fun K hK => bv rfl (v_bin rfl rfl b_add) (mv rfl rfl ?_)
    refine b_nil (hK _ ?_)
    exact to_L ⟨(IntKind.wrap .i64 (a11.1 + 1), a25), w26, h, rfl⟩
   refine AW.rgs rfl fun K hK => bv rfl (v_bin rfl rfl b_lss) ?_
   refine bf hK ⟨[(0, hI p0), (7, .ar 22039 w18 eStr.k 0 ((a17.2).length)), (9, .str x15), (27, hI p1), (28, hI a5.2), (40, slE eStr a5.1), (41, hI ((a5.1).length : Int)), (42, hI a11.1), (46, hI p0), (47, hI a17.1), (48, .bool (decide (a17.1 < p0)))], [(22039, w18, .arr eStr.k 9 (eStr.E a17.2))]⟩ ?_
   refine AW.cseq rfl (fun hc => ?_) (fun hc => ?_)
   ·obtain ⟨hc, h⟩ := cT hc h
    refine AW.skip ?_
    refine AW.seq (AW.block ?_)
    refine AW.rgs rfl fun K hK => mv rfl rfl (mv rfl rfl ?_)
    refine bf hK ⟨[(0, hI p0), (7, .ar 22039 w18 eStr.k 0 ((a17.2).length)), (9, .str x15), (10, hI a17.1), (27, hI p1), (28, hI a5.2), (40, slE eStr a5.1), (41, hI ((a5.1).length : Int)), (42, hI a11.1), (46, hI p0), (47, hI a17.1)], [(22039, w18, .arr eStr.k 9 (eStr.E a17.2))]⟩ ?_
    refine AW.rg rfl fun K hK => mv rfl rfl (mv rfl rfl (mv rfl rfl (mv rfl rfl (bv rfl (v_bin rfl rfl b_add) ?_))))
    obtain ⟨h21, h⟩ := ifN h
    refine bv rfl (v_sliceS ty9 rfl rfl rfl h21) ?_
    obtain ⟨h22, h⟩ := ifN h
    refine bv rfl (v_bin rfl rfl (b_sadd h22)) ?_
    refine b_op rfl (o_bsl rfl rfl (as_of (cs := [.str (x15 ++ ((([48, 49, 50, 51, 52, 53, 54, 55, 56, 57, 97, 98, 99, 100, 101, 102] : List UInt8).take (IntKind.wrap .i64 (a17.1 + 1)).toNat).drop (a17.1).toNat))]) ty22 ty9 rfl rfl rfl rfl rfl) ?_)
    obtain ⟨h24, h⟩ := ifN h
    refine b_op rfl (o_appE eStr (l := a17.2) (m := [x15 ++ ((([48, 49, 50, 51, 52, 53, 54, 55, 56, 57, 97, 98, 99, 100, 101, 102] : List UInt8).take (IntKind.wrap .i64 (a17.1 + 1)).toNat).drop (a17.1).toNat)]) rfl rfl ty22 ty22 ty9 rfl rfl rfl rfl rfl h24 (fun v23 => ?_))
    refine mv rfl rfl ?_
    refine bf hK ⟨[(0, hI p0), (7, .ar 22039 v23 eStr.k 0 ((a17.2 ++ [x15 ++ ((([48, 49, 50, 51, 52, 53, 54, 55, 56, 57, 97, 98, 99, 100, 101, 102] : List UInt8).take (IntKind.wrap .i64 (a17.1 + 1)).toNat).drop (a17.1).toNat)]).length)), (9, .str x15), (27, hI p1), (28, hI a5.2), (40, slE eStr a5.1), (41, hI ((a5.1).length : Int)), (42, hI a11.1), (46, hI p0), (47, hI a17.1)], [(22039, v23, .arr eStr.k 9 (eStr.E (a17.2 ++ [x15 ++ ((([48, 49, 50, 51, 52, 53, 54, 55, 56, 57, 97, 98, 99, 100, 101, 102] : List UInt8).take (IntKind.wrap .i64 (a17.1 + 1)).toNat).drop (a17.1).toNat)])))]⟩ ?_
    refine AW.rg rfl fun K hK => bv rfl (v_bin rfl rfl b_add) (mv rfl rfl ?_)
    refine b_nil (hK _ ?_)
    exact to_L ⟨(IntKind.wrap .i64 (a17.1 + 1), a17.2 ++ [x15 ++ ((([48, 49, 50, 51, 52, 53, 54, 55, 56, 57, 97, 98, 99, 100, 101, 102] : List UInt8).take (IntKind.wrap .i64 (a17.1 + 1)).toNat).drop (a17.1).toNat)]), v23, h, rfl⟩
   obtain ⟨hc, h⟩ := cF hc h
   refine AW.exit ?_
   exact to_L ⟨a17.2, w18, h, rfl⟩
  obtain ⟨hc, h⟩ := cF hc h
  refine AW.exit ?_
  exact to_L ⟨a11.2, w12, h, rfl⟩
 obtain ⟨hc, h⟩ := cF hc h
 refine AW.exit ?_
 exact to_L ⟨a5.1, (), h, rfl⟩
theorem w_tenengolts_check {p0 : Int} {p1 : Int} {r : Int} (h : m_tenengolts_check p0 p1 = some r) : Pure Try.prog 21 [hI p0, hI p1] (· = hI r) := by
 unfold m_tenengolts_check at h
 refine Pure.of_body Try.func21 rfl rfl (lb rfl) fun hf => ?_
 unfold Try.f21
 dsimp only [enumS, Nat.reduceAdd]
 refine AW.rgs rfl fun K hK => mv rfl rfl ?_
 refine bf hK ⟨[(0, hI p0), (1, hI p1)], []⟩ ?_
 refine AW.seq ?_
 refine AW.seqJ h (S := Bool) (V := Unit) (fun a v => ⟨[(19, .bool a)], []⟩) (fun a1 w2 h => ?_) (fun k3 h => ?_)
 ·refine AW.cond rfl (fun hc => ?_) (fun hc => ?_)
  ·have h := ifT hc h
   refine AW.rgs rfl fun K hK => mv rfl rfl ?_
   refine bf hK ⟨[(4, hI 2)], []⟩ ?_
   refine AW.ret ?_
   have h := Option.some.inj h
   subst h
   exact ret_pure (hs := [hI 2]) (.inr rfl) (resT rfl rfl) rfl trivial
  have h := ifF (bF' hc) h
  refine AW.skip ?_
  refine AW.rgs rfl fun K hK => mv rfl rfl ?_
  refine bf hK ⟨[(4, hI 0)], []⟩ ?_
  refine AW.ret ?_
  have h := Option.some.inj h
  subst h
  exact ret_pure (hs := [hI 0]) (.inr rfl) (resT rfl rfl) rfl trivial
 refine AW.rg rfl fun K hK => mv rfl rfl (bv rfl (v_bin rfl rfl b_lss) (mv rfl rfl ?_))
 by_cases hg6 : p0 < 0
 ·have h := ifT hg6 h
  refine b_F rfl rfl rfl rfl rfl (decide_eq_true hg6) ?_
  refine b_F rfl rfl rfl rfl rfl rfl ?_
  refine bv rfl (v_pickT rfl rfl rfl) (mv rfl rfl ?_)
  refine b_F rfl rfl rfl rfl rfl rfl ?_
  refine b_F rfl rfl rfl rfl rfl rfl ?_
  refine bv rfl (v_pickT rfl rfl rfl) (mv rfl rfl ?_)
  refine b_F rfl rfl rfl rfl rfl rfl ?_
  refine b_F rfl rfl rfl rfl rfl rfl ?_
  refine b_F rfl rfl rfl rfl rfl rfl ?_
  refine bv rfl (v_pickT rfl rfl rfl) ?_
  refine b_nil (hK _ ?_)
  exact to_L ⟨true, (), h, rfl⟩
 have h := ifF hg6 h
 refine b_T rfl rfl rfl rfl (decide_eq_false hg6) (o_val rfl (mv_val rfl rfl).2 ?_)
 refine b_T rfl rfl rfl rfl rfl (o_val rfl (v_bin rfl rfl b_gtr) ?_)
 refine bv rfl (v_pickF rfl rfl rfl) (mv rfl rfl ?_)
 by_cases hg5 : 64 < p0
 ·have h := ifT hg5 h
  refine b_F rfl rfl rfl rfl rfl (decide_eq_true hg5) ?_
  refine b_F rfl rfl rfl rfl rfl rfl ?_
  refine bv rfl (v_pickT rfl rfl rfl) (mv rfl rfl ?_)
  refine b_F rfl rfl rfl rfl rfl rfl ?_
  refine b_F rfl rfl rfl rfl rfl rfl ?_
  refine b_F rfl rfl rfl rfl rfl rfl ?_
  refine bv rfl (v_pickT rfl rfl rfl) ?_
  refine b_nil (hK _ ?_)
  exact to_L ⟨true, (), h, rfl⟩
 have h := ifF hg5 h
 refine b_T rfl rfl rfl rfl (decide_eq_false hg5) (o_val rfl (mv_val rfl rfl).2 ?_)
 refine b_T rfl rfl rfl rfl rfl (o_val rfl (v_bin rfl rfl b_lss) ?_)
 refine bv rfl (v_pickF rfl rfl rfl) (mv rfl rfl ?_)
 by_cases hg4 : p1 < 0
 ·have h := ifT hg4 h
  refine b_F rfl rfl rfl rfl rfl (decide_eq_true hg4) ?_
  refine b_F rfl rfl rfl rfl rfl rfl ?_
  refine b_F rfl rfl rfl rfl rfl rfl ?_
  refine bv rfl (v_pickT rfl rfl rfl) ?_
  refine b_nil (hK _ ?_)
  exact to_L ⟨true, (), h, rfl⟩
 have h := ifF hg4 h
 refine b_T rfl rfl rfl rfl (decide_eq_false hg4) (o_val rfl (mv_val rfl rfl).2 ?_)
 refine b_T rfl rfl rfl rfl rfl (o_val rfl (mv_val rfl rfl).2 ?_)
 refine b_T rfl rfl rfl rfl rfl (o_val rfl (v_bin rfl rfl b_gtr) ?_)
 refine bv rfl (v_pickF rfl rfl rfl) ?_
 refine b_nil (hK _ ?_)
 exact to_L ⟨decide (p0 < p1), (), h, rfl⟩
theorem w_tenengolts_syndrome {p0 : List UInt8} {r : Int} (h : m_tenengolts_syndrome p0 = some r) : Pure Try.prog 23 [.str p0] (· = hI r) := by
 unfold m_tenengolts_syndrome at h
 refine Pure.of_body Try.func23 rfl rfl (lb rfl) fun hf => ?_
 unfold Try.f23
 dsimp only [enumS, Nat.reduceAdd]
 refine AW.rgs rfl fun K hK => mv rfl rfl ?_
 refine bf hK ⟨[(0, .str p0)], []⟩ ?_
 refine AW.rgs rfl fun K hK => mv rfl rfl ?_
 refine bf hK ⟨[(0, .str p0), (3, hI 0)], []⟩ ?_
 refine AW.seq ?_
 refine AW.rgs rfl fun K hK => mv rfl rfl (bv rfl (v_lenS rfl rfl ty9 rfl) (mv rfl rfl ?_))
 refine bf hK ⟨[(0, .str p0), (3, hI 0), (6, hI ((p0).length : Int)), (7, hI 0)], []⟩ ?_
 refine AW.lpX h (by first | exact up_then | exact up_to) (S := Int × Int) (V := Unit) (fun a v => ⟨[(0, .str p0), (3, hI a.1), (6, hI ((p0).length : Int)), (7, hI a.2)], []⟩) ?_ (X := Int) (W := Unit) (fun a v => ⟨[(0, .str p0), (3, hI a)], []⟩) (fun a10 w11 h => ?_) (fun a1 w2 st3 h => ?_)
 ·exact to_L ⟨(), rfl⟩
 ·refine AW.rgs rfl fun K hK => mv rfl rfl (mv rfl rfl (bv rfl (v_lenS rfl rfl ty9 rfl) (bv rfl (v_bin rfl rfl b_add) ?_)))
  obtain ⟨h12, h⟩ := ifN h
  refine bv rfl (v_bin rfl rfl (b_rem h12)) (mv rfl rfl ?_)
  refine bf hK ⟨[(2, hI (Int.tmod a10 (IntKind.wrap .i64 (((p0).length : Int) + 1))))], []⟩ ?_
  refine AW.ret ?_
  have h := Option.some.inj h
  subst h
  exact ret_pure (hs := [hI (Int.tmod a10 (IntKind.wrap .i64 (((p0).length : Int) + 1)))]) (.inr rfl) (resT rfl rfl) rfl trivial
 refine AW.rgs rfl fun K hK => bv rfl (v_bin rfl rfl b_lss) ?_
 refine bf hK ⟨[(0, .str p0), (3, hI a1.1), (6, hI ((p0).length : Int)), (7, hI a1.2), (8, .bool (decide (a1.2 < ((p0).length : Int))))], []⟩ ?_
 refine AW.cseq rfl (fun hc => ?_) (fun hc => ?_)
 ·obtain ⟨hc, h⟩ := cT hc h
  refine AW.skip ?_
  refine AW.seqJ h (S := Int) (V := Unit) (fun a v => ⟨[(0, .str p0), (3, hI a), (6, hI ((p0).length : Int)), (7, hI a1.2)], []⟩) (fun a5 w6 h => ?_) (fun k7 h => ?_)
  ·refine AW.rg rfl fun K hK => bv rfl (v_bin rfl rfl b_add) (mv rfl rfl ?_)
   refine b_nil (hK _ ?_)
   exact to_L ⟨(a5, IntKind.wrap .i64 (a1.2 + 1)), (), h, rfl⟩
  refine AW.block ?_
  refine AW.rgs rfl fun K hK => mv rfl rfl (mv rfl rfl ?_)
  refine bf hK ⟨[(0, .str p0), (3, hI a1.1), (4, hI a1.2), (6, hI ((p0).length : Int)), (7, hI a1.2)], []⟩ ?_
  refine AW.rgs rfl fun K hK => mv rfl rfl (mv rfl rfl ?_)
  obtain ⟨x8, h9, h⟩ := bS h
  refine bv rfl (v_idxS ty9 rfl rfl h9) (bv rfl (v_bin rfl rfl b_eql) ?_)
  refine bf hK ⟨[(0, .str p0), (3, hI a1.1), (4, hI a1.2), (6, hI ((p0).length : Int)), (7, hI a1.2), (13, .bool (decide ((x8.toNat : Int) = 49)))], []⟩ ?_
  refine AW.cond rfl (fun hc => ?_) (fun hc => ?_)
  ·obtain ⟨hc, h⟩ := cT hc h
   refine AW.rg rfl fun K hK => mv rfl rfl (mv rfl rfl (bv rfl (v_bin rfl rfl b_add) (bv rfl (v_bin rfl rfl b_add) (mv rfl rfl ?_))))
   refine b_nil (hK _ ?_)
   exact to_L ⟨IntKind.wrap .i64 (a1.1 + (IntKind.wrap .i64 (a1.2 + 1))), (), h, rfl⟩
  obtain ⟨hc, h⟩ := cF hc h
  refine AW.skip ?_
  exact to_L ⟨a1.1, (), h, rfl⟩
 obtain ⟨hc, h⟩ := cF hc h
 refine AW.exit ?_
 exact to_L ⟨a1.1, (), h, rfl⟩
theorem w_tenengolts_Words {p0 : Int} {p1 : Int} {r : (List (List UInt8)) × Int} (h : m_tenengolts_Words p0 p1 = some r) : Pure Try.prog 5 [hI p0, hI p1] (· = HV.tup [slE eStr r.1, hI r.2]) := by
 unfold m_tenengolts_Words at h
 refine Pure.of_body Try.func5 rfl rfl (lb rfl) fun hf => ?_
 unfold Try.f5
 dsimp only [enumS, Nat.reduceAdd]
 refine AW.rgs rfl fun K hK => mv rfl rfl (mv rfl rfl ?_)
 refine bf hK ⟨[(0, hI p0), (1, hI p1)], []⟩ ?_
 refine AW.seq ?_
 refine AW.rgs rfl fun K hK => mv rfl rfl (mv rfl rfl ?_)
 obtain ⟨x1, h2, h⟩ := bS h
 refine b_op rfl (o_call rfl rfl rfl rfl (ACallD.pure0 (w_tenengolts_check h2)) ?_)
 refine mv rfl rfl ?_
 refine bf hK ⟨[(0, hI p0), (1, hI p1), (6, hI x1)], []⟩ ?_
 refine AW.rgs rfl fun K hK => mv rfl rfl (bv rfl (v_bin rfl rfl b_neq) ?_)
 refine bf hK ⟨[(0, hI p0), (1, hI p1), (6, hI x1), (16, .bool (decide (x1 ≠ 0)))], []⟩ ?_
 refine AW.cond rfl (fun hc => ?_) (fun hc => ?_)
 ·obtain ⟨hc, h⟩ := cT hc h
  refine AW.rgs rfl fun K hK => mv rfl rfl (mv rfl rfl (mv rfl rfl ?_))
  refine bf hK ⟨[(4, .v (.slice none 0 0)), (5, hI x1)], []⟩ ?_
  refine AW.to (to_weak ⟨[(4, slE eStr ([] : List (List UInt8))), (5, hI x1)], []⟩ ⟨⟨_, rfl, .nil _⟩, ⟨_, rfl, .refl _⟩, trivial⟩ trivial ?_)
  refine AW.ret ?_
  have h := Option.some.inj h
  subst h
  exact ret_pure (hs := [slE eStr ([] : List (List UInt8)), hI x1]) (.inr rfl) (resT rfl (resT rfl rfl)) rfl ⟨(clean_slE fun _ _ => ⟨trivial, trivial⟩), trivial, trivial⟩
 obtain ⟨hc, h⟩ := cF hc h
 refine AW.skip ?_
 refine AW.seq ?_
 refine AW.rgs rfl fun K hK => mv rfl rfl (bv rfl (v_bin rfl rfl b_gtr) ?_)
 refine bf hK ⟨[(0, hI p0), (1, hI p1), (19, .bool (decide (12 < p0)))], []⟩ ?_
 refine AW.cond rfl (fun hc => ?_) (fun hc => ?_)
 ·obtain ⟨hc, h⟩ := cT hc h
  refine AW.rgs rfl fun K hK => mv rfl rfl (mv rfl rfl ?_)
  refine bf hK ⟨[(4, .v (.slice none 0 0)), (5, hI 4)], []⟩ ?_
  refine AW.to (to_weak ⟨[(4, slE eStr ([] : List (List UInt8))), (5, hI 4)], []⟩ ⟨⟨_, rfl, .nil _⟩, ⟨_, rfl, .refl _⟩, trivial⟩ trivial ?_)
  refine AW.ret ?_
  have h := Option.some.inj h
  subst h
  exact ret_pure (hs := [slE eStr ([] : List (List UInt8)), hI 4]) (.inr rfl) (resT rfl (resT rfl rfl)) rfl ⟨(clean_slE fun _ _ => ⟨trivial, trivial⟩), trivial, trivial⟩
 obtain ⟨hc, h⟩ := cF hc h
 refine AW.skip ?_
 refine AW.rgs rfl fun K hK => mv rfl rfl ?_
 obtain ⟨x3, h4, h⟩ := bS h
 refine b_op rfl (o_call rfl rfl rfl rfl (ACallD.pure0 (w_word_All h4)) ?_)
 refine mv rfl rfl (bv rfl (v_extract rfl rfl) (bv rfl (v_extract rfl rfl) (mv rfl rfl (mv rfl rfl ?_))))
 refine bf hK ⟨[(1, hI p1), (7, slE eStr x3.1), (8, hI x3.2)], []⟩ ?_
 refine AW.seq ?_
 refine AW.rgs rfl fun K hK => mv rfl rfl (bv rfl (v_bin rfl rfl b_neq) ?_)
 refine bf hK ⟨[(1, hI p1), (7, slE eStr x3.1), (8, hI x3.2), (26, .bool (decide (x3.2 ≠ 0)))], []⟩ ?_
 refine AW.cond rfl (fun hc => ?_) (fun hc => ?_)
 ·obtain ⟨hc, h⟩ := cT hc h
  refine AW.rgs rfl fun K hK => mv rfl rfl (mv rfl rfl (mv rfl rfl ?_))
  refine bf hK ⟨[(4, .v (.slice none 0 0)), (5, hI x3.2)], []⟩ ?_
  refine AW.to (to_weak ⟨[(4, slE eStr ([] : List (List UInt8))), (5, hI x3.2)], []⟩ ⟨⟨_, rfl, .nil _⟩, ⟨_, rfl, .refl _⟩, trivial⟩ trivial ?_)
  refine AW.ret ?_
  have h := Option.some.inj h
  subst h
  exact ret_pure (hs := [slE eStr ([] : List (List UInt8)), hI x3.2]) (.inr rfl) (resT rfl (resT rfl rfl)) rfl ⟨(clean_slE fun _ _ => ⟨trivial, trivial⟩), trivial, trivial⟩
 obtain ⟨hc, h⟩ := cF hc h
 refine AW.skip ?_
 refine AW.rgs rfl fun K hK => mv rfl rfl ?_
 refine bf hK ⟨[(1, hI p1), (7, slE eStr x3.1), (9, .v (.slice none 0 0))], []⟩ ?_
 refine AW.seq ?_
 refine AW.rgs rfl fun K hK => mv rfl rfl (bv rfl (v_lenF rfl rfl ty22 rfl) (mv rfl rfl ?_))
 refine bf hK ⟨[(1, hI p1), (9, .v (.slice none 0 0)), (28, slE eStr x3.1), (29, hI ((x3.1).length : Int)), (30, hI 0)], []⟩ ?_
 refine AW.lpX h (by first | exact up_then | exact up_to) (S := Int × (List (List UInt8))) (V := Nat) (fun a v => ⟨[(1, hI p1), (9, .ar 5041 v eStr.k 0 ((a.2).length)), (28, slE eStr x3.1), (29, hI ((x3.1).length : Int)), (30, hI a.1)], [(5041, v, .arr eStr.k 9 (eStr.E a.2))]⟩) ?_ (X := (List (List UInt8))) (W := Nat) (fun a v => ⟨[(9, .ar 5041 v eStr.k 0 ((a).length))], [(5041, v, .arr eStr.k 9 (eStr.E a))]⟩) (fun a19 w20 h => ?_) (fun a5 w6 st7 h => ?_)
 ·refine to_bind (to_own 5041 9 eStr.k 9 rfl fun v18 => ?_)
  exact to_le (s' := ⟨[(1, hI p1), (9, .ar 5041 v18 eStr.k 0 ((([] : List (List UInt8))).length)), (28, slE eStr x3.1), (29, hI ((x3.1).length : Int)), (30, hI 0)], [(5041, v18, .arr eStr.k 9 (eStr.E ([] : List (List UInt8))))]⟩) (AS.le_of ⟨rfl, arl (by first | rfl | simp only [List.length_set, sortI_len, sortS_len]), rfl, rfl, rfl, trivial⟩ ⟨rfl, trivial⟩) ⟨v18, rfl⟩
 ·refine AW.rgs rfl fun K hK => mv rfl rfl (mv rfl rfl (mv rfl rfl ?_))
  refine bf hK ⟨[(4, .ar 5041 w20 eStr.k 0 ((a19).length)), (5, hI 0)], [(5041, w20, .arr eStr.k 9 (eStr.E a19))]⟩ ?_
  refine AW.to (to_frz 2 [(5041, w20, .arr eStr.k 9 (eStr.E a19))] ⟨[(4, slE eStr a19), (5, hI 0)], []⟩ ⟨⟨_, rfl, frz_slE eStr (l := a19) rfl fun _ _ => rfl⟩, ⟨_, rfl, rfl⟩, trivial⟩ trivial ⟨rfl, trivial⟩ ⟨rfl, trivial⟩ ?_)
  refine AW.ret ?_
  have h := Option.some.inj h
  subst h
  exact ret_pure (hs := [slE eStr a19, hI 0]) (.inr rfl) (resT rfl (resT rfl rfl)) rfl ⟨(clean_slE fun _ _ => ⟨trivial, trivial⟩), trivial, trivial⟩
 refine AW.rgs rfl fun K hK => bv rfl (v_bin rfl rfl b_lss) ?_
 refine bf hK ⟨[(1, hI p1), (9, .ar 5041 w6 eStr.k 0 ((a5.2).length)), (28, slE eStr x3.1), (29, hI ((x3.1).length : Int)), (30, hI a5.1), (31, .bool (decide (a5.1 < ((x3.1).length : Int))))], [(5041, w6, .arr eStr.k 9 (eStr.E a5.2))]⟩ ?_
 refine AW.cseq rfl (fun hc => ?_) (fun hc => ?_)
 ·obtain ⟨hc, h⟩ := cT hc h
  refine AW.skip ?_
  refine AW.seqJ h (S := (List (List UInt8))) (V := Nat) (fun a v => ⟨[(1, hI p1), (9, .ar 5041 v eStr.k 0 ((a).length)), (28, slE eStr x3.1), (29, hI ((x3.1).length : Int)), (30, hI a5.1)], [(5041, v, .arr eStr.k 9 (eStr.E a))]⟩) (fun a9 w10 h => ?_) (fun k11 h => ?_)
  ·refine AW.rg rfl fun K hK => bv rfl (v_bin rfl rfl b_add) (mv rfl rfl ?_)
   refine b_nil (hK _ ?_)
   exact to_L ⟨(IntKind.wrap .i64 (a5.1 + 1), a9), w10, h, rfl⟩
  refine AW.block ?_
  refine AW.rgs rfl fun K hK => ?_
  obtain ⟨x12, h13, h⟩ := bS h
  refine bv rfl (v_idxF ty22 es22 rfl rfl (idx_lt h13)) (bv rfl (v_loadF ty9 rfl (l_cell eStr h13 (o := 0) rfl rfl)) (mv rfl rfl ?_))
  refine bf hK ⟨[(1, hI p1), (9, .ar 5041 w6 eStr.k 0 ((a5.2).length)), (11, .str x12), (28, slE eStr x3.1), (29, hI ((x3.1).length : Int)), (30, hI a5.1)], [(5041, w6, .arr eStr.k 9 (eStr.E a5.2))]⟩ ?_
  refine AW.rgs rfl fun K hK => mv rfl rfl ?_
  obtain ⟨x14, h15, h⟩ := bS h
  refine b_op rfl (o_call rfl rfl rfl rfl (ACallD.pure0 (w_tenengolts_syndrome h15)) ?_)
  refine mv rfl rfl (bv rfl (v_bin rfl rfl b_eql) ?_)
  refine bf hK ⟨[(1, hI p1), (9, .ar 5041 w6 eStr.k 0 ((a5.2).length)), (11, .str x12), (28, slE eStr x3.1), (29, hI ((x3.1).length : Int)), (30, hI a5.1), (37, .bool (decide (x14 = p1)))], [(5041, w6, .arr eStr.k 9 (eStr.E a5.2))]⟩ ?_
  refine AW.cond rfl (fun hc => ?_) (fun hc => ?_)
  ·obtain ⟨hc, h⟩ := cT hc h
   refine AW.rg rfl fun K hK => mv rfl rfl (mv rfl rfl ?_)
   refine b_op rfl (o_bsl rfl rfl (as_of (cs := [.str x12]) ty22 ty9 rfl rfl rfl rfl rfl) ?_)
   obtain ⟨h17, h⟩ := ifN h
   refine b_op rfl (o_appE eStr (l := a5.2) (m := [x12]) rfl rfl ty22 ty22 ty9 rfl rfl rfl rfl rfl h17 (fun v16 => ?_))
   refine mv rfl rfl ?_
   refine b_nil (hK _ ?_)
   exact to_L ⟨a5.2 ++ [x12], v16, h, rfl⟩
  obtain ⟨hc, h⟩ := cF hc h
  refine AW.skip ?_
  exact to_L ⟨a5.2, w6, h, rfl⟩
 obtain ⟨hc, h⟩ := cF hc h
 refine AW.exit ?_
 exact to_L ⟨a5.2, w6, h, rfl⟩
end Go.AW

namespace Go.AW
open Go Go.Proofs
set_option linter.unusedVariables false
set_option maxRecDepth 100000 in
theorem w_indel_Separated {p0 : List (List UInt8)} {p1 : Int} {r : Bool × Int} (h : m_indel_Separated p0 p1 = some r) : Pure Try.prog 6 [slE eStr p0, HV.int .i64 p1] (· = HV.tup [HV.bool r.1, HV.int .i64 r.2]) := by
 unfold m_indel_Separated at h
 refine Pure.of_body Try.func6 rfl rfl (Nat.le_of_ble_eq_true rfl) fun hf => ?_
 unfold Try.f6
 dsimp only [enumS, Nat.reduceAdd]
 refine AW.rgs rfl fun K hK => ?_
 refine mv rfl rfl ?_
 refine mv rfl rfl ?_
 refine b_fin hK (s' := ⟨[(0, slE eStr p0), (1, HV.int .i64 p1)], []⟩) (le_q rfl rfl) ?_
 clear hK K
 refine AW.seq ?_
 refine AW.rgs rfl fun K hK => ?_
 refine mv rfl rfl ?_
 refine bv rfl (v_lenF rfl rfl ty22 rfl) ?_
 refine bv rfl (v_bin rfl rfl b_gtr) ?_
 refine b_fin hK (s' := ⟨[(0, slE eStr p0), (1, HV.int .i64 p1), (18, HV.bool (decide (256 < ((p0).length : Int))))], []⟩) (le_q rfl rfl) ?_
 clear hK K
 refine AW.cond rfl (fun hc => ?_) (fun hc => ?_)
 ·have hc := of_decide_eq_true hc
  have h := ifT hc h
  refine AW.rgs rfl fun K hK => ?_
  refine mv rfl rfl ?_
  refine mv rfl rfl ?_
  refine b_fin hK (s' := ⟨[(4, HV.bool false), (5, HV.int .i64 4)], []⟩) (le_q rfl rfl) ?_
  clear hK K
  refine AW.ret ?_
  have h := Option.some.inj h
  subst h
  exact ret_pure (hs := [HV.bool false, HV.int .i64 4]) (q := HV.tup [HV.bool false, HV.int .i64 4]) (.inr rfl) (resT rfl (resT rfl rfl)) rfl ⟨trivial, trivial, trivial⟩
 have hc := of_decide_eq_false hc
 have h := ifF hc h
 refine AW.skip ?_
 refine AW.seq ?_
 refine AW.rgs rfl fun K hK => ?_
 refine mv rfl rfl ?_
 refine bv rfl (v_lenF rfl rfl ty22 rfl) ?_
 refine mv rfl rfl ?_
 refine b_fin hK (s' := ⟨[(0, slE eStr p0), (1, HV.int .i64 p1), (19, slE eStr p0), (20, HV.int .i64 ((p0).length : Int)), (21, HV.int .i64 0)], []⟩) (le_q rfl rfl) ?_
 clear hK K
 refine AW.lpR h (by first | exact up_then | exact up_to) (S := Int) (V := Unit) (fun a v => ⟨[(0, slE eStr p0), (1, HV.int .i64 p1), (19, slE eStr p0), (20, HV.int .i64 ((p0).length : Int)), (21, HV.int .i64 a)], []⟩) ?_ (X := Unit) (W := Unit) (fun a v => ⟨[(0, slE eStr p0), (1, HV.int .i64 p1)], []⟩) (fun a9 w10 h => ?_) (fun a1 w2 st3 h hr4=> ?_)
 ·exact to_le (s' := ⟨[(0, slE eStr p0), (1, HV.int .i64 p1), (19, slE eStr p0), (20, HV.int .i64 ((p0).length : Int)), (21, HV.int .i64 0)], []⟩) (AS.le_of ⟨rfl, rfl, rfl, rfl, rfl, trivial⟩ trivial) ⟨(), rfl⟩
 ·refine AW.rgs rfl fun K hK => ?_
  refine mv rfl rfl ?_
  refine b_fin hK (s' := ⟨[(0, slE eStr p0), (1, HV.int .i64 p1), (9, HV.int .i64 0)], []⟩) (le_q rfl rfl) ?_
  clear hK K
  refine AW.seq ?_
  refine AW.rgs rfl fun K hK => ?_
  refine mv rfl rfl ?_
  refine bv rfl (v_lenF rfl rfl ty22 rfl) ?_
  refine mv rfl rfl ?_
  refine b_fin hK (s' := ⟨[(0, slE eStr p0), (1, HV.int .i64 p1), (9, HV.int .i64 0), (32, slE eStr p0), (33, HV.int .i64 ((p0).length : Int)), (34, HV.int .i64 0)], []⟩) (le_q rfl rfl) ?_
  clear hK K
  refine AW.lpR h (by first | exact up_then | exact up_to) (S := Int × Int) (V := Unit) (fun a v => ⟨[(0, slE eStr p0), (1, HV.int .i64 p1), (9, HV.int .i64 a.1), (32, slE eStr p0), (33, HV.int .i64 ((p0).length : Int)), (34, HV.int .i64 a.2)], []⟩) ?_ (X := Int) (W := Unit) (fun a v => ⟨[(0, slE eStr p0), (1, HV.int .i64 p1), (9, HV.int .i64 a)], []⟩) (fun a21 w22 h => ?_) (fun a11 w12 st13 h hr14=> ?_)
  ·exact to_le (s' := ⟨[(0, slE eStr p0), (1, HV.int .i64 p1), (9, HV.int .i64 0), (32, slE eStr p0), (33, HV.int .i64 ((p0).length : Int)), (34, HV.int .i64 0)], []⟩) (AS.le_of ⟨rfl, rfl, rfl, rfl, rfl, rfl, trivial⟩ trivial) ⟨(), rfl⟩
  ·refine AW.seq ?_
   refine AW.seqJ h (S := Bool) (V := Unit) (fun a v => ⟨[(0, slE eStr p0), (1, HV.int .i64 p1), (9, HV.int .i64 a21), (56, HV.bool a)], []⟩) (fun a23 w24 h => ?_) (fun k25 h => ?_)
   ·refine AW.cond rfl (fun hc => ?_) (fun hc => ?_)
    ·have h := ifT hc h
     refine AW.rgs rfl fun K hK => ?_
     refine mv rfl rfl ?_
     refine mv rfl rfl ?_
     refine b_fin hK (s' := ⟨[(4, HV.bool false), (5, HV.int .i64 2)], []⟩) (le_q rfl rfl) ?_
     clear hK K
     refine AW.ret ?_
     have h := Option.some.inj h
     subst h
     exact ret_pure (hs := [HV.bool false, HV.int .i64 2]) (q := HV.tup [HV.bool false, HV.int .i64 2]) (.inr rfl) (resT rfl (resT rfl rfl)) rfl ⟨trivial, trivial, trivial⟩
    have h := ifF (bF' hc) h
    refine AW.skip ?_
    refine AW.seq ?_
    refine AW.rgs rfl fun K hK => ?_
    refine mv rfl rfl ?_
    refine bv rfl (v_lenF rfl rfl ty22 rfl) ?_
    refine mv rfl rfl ?_
    refine b_fin hK (s' := ⟨[(0, slE eStr p0), (1, HV.int .i64 p1), (9, HV.int .i64 a21), (57, slE eStr p0), (58, HV.int .i64 ((p0).length : Int)), (59, HV.int .i64 0)], []⟩) (le_q rfl rfl) ?_
    clear hK K
    refine AW.lpR h (by first | exact up_then | exact up_to) (S := Int) (V := Unit) (fun a v => ⟨[(0, slE eStr p0), (1, HV.int .i64 p1), (9, HV.int .i64 a21), (57, slE eStr p0), (58, HV.int .i64 ((p0).length : Int)), (59, HV.int .i64 a)], []⟩) ?_ (X := Unit) (W := Unit) (fun a v => ⟨[], []⟩) (fun a47 w48 h => ?_) (fun a26 w27 st28 h hr29=> ?_)
    ·exact to_le (s' := ⟨[(0, slE eStr p0), (1, HV.int .i64 p1), (9, HV.int .i64 a21), (57, slE eStr p0), (58, HV.int .i64 ((p0).length : Int)), (59, HV.int .i64 0)], []⟩) (AS.le_of ⟨rfl, rfl, rfl, rfl, rfl, rfl, trivial⟩ trivial) ⟨(), rfl⟩
    ·refine AW.rgs rfl fun K hK => ?_
     refine mv rfl rfl ?_
     refine mv rfl rfl ?_
     refine b_fin hK (s' := ⟨[(4, HV.bool true), (5, HV.int .i64 0)], []⟩) (le_q rfl rfl) ?_
     clear hK K
     refine AW.ret ?_
     have h := Option.some.inj h
     subst h
     exact ret_pure (hs := [HV.bool true, HV.int .i64 0]) (q := HV.tup [HV.bool true, HV.int .i64 0]) (.inr rfl) (resT rfl (resT rfl rfl)) rfl ⟨trivial, trivial, trivial⟩
    refine AW.rgs rfl fun K hK => ?_
    refine bv rfl (v_bin rfl rfl b_lss) ?_
    refine b_fin hK (s' := ⟨[(0, slE eStr p0), (1, HV.int .i64 p1), (9, HV.int .i64 a21), (57, slE eStr p0), (58, HV.int .i64 ((p0).length : Int)), (59, HV.int .i64 a26), (60, HV.bool (decide (a26 < ((p0).length : Int))))], []⟩) (le_q rfl rfl) ?_
    clear hK K
    refine AW.cseq rfl (fun hc => ?_) (fun hc => ?_)
    ·have hc := of_decide_eq_true hc
     have h := ifT hc h
     refine AW.skip ?_
     refine AW.seq (AW.block ?_)
     refine AW.rgs rfl fun K hK => ?_
     refine mv rfl rfl ?_
     obtain ⟨x30, h31, h⟩ := bS h
     refine bv rfl (v_idxF ty22 es22 rfl rfl (idx_lt h31)) ?_
     refine bv rfl (v_loadF ty9 rfl (l_cell eStr h31 (o := 0) rfl rfl)) ?_
     refine mv rfl rfl ?_
     refine mv rfl rfl ?_
     refine b_fin hK (s' := ⟨[(0, slE eStr p0), (1, HV.int .i64 p1), (9, HV.int .i64 a21), (12, HV.int .i64 a26), (13, HV.str x30), (57, slE eStr p0), (58, HV.int .i64 ((p0).length : Int)), (59, HV.int .i64 a26)], []⟩) (le_q rfl rfl) ?_
     clear hK K
     refine AW.rgs rfl fun K hK => ?_
     refine mv rfl rfl ?_
     refine mv rfl rfl ?_
     obtain ⟨h32, h⟩ := ifN h
     refine bv rfl (v_sliceF eStr ty22 es22 rfl rfl rfl h32) ?_
     refine bv rfl (v_lenF rfl rfl ty22 rfl) ?_
     refine mv rfl rfl ?_
     refine b_fin hK (s' := ⟨[(0, slE eStr p0), (1, HV.int .i64 p1), (9, HV.int .i64 a21), (13, HV.str x30), (57, slE eStr p0), (58, HV.int .i64 ((p0).length : Int)), (59, HV.int .i64 a26), (66, slE eStr ((p0.take (a26).toNat).drop (0 : Int).toNat)), (67, HV.int .i64 (((p0.take (a26).toNat).drop (0 : Int).toNat).length : Int)), (68, HV.int .i64 0)], []⟩) (le_q rfl rfl) ?_
     clear hK K
     refine AW.lpR h (by first | exact up_then | exact up_to) (S := Int) (V := Unit) (fun a v => ⟨[(0, slE eStr p0), (1, HV.int .i64 p1), (9, HV.int .i64 a21), (13, HV.str x30), (57, slE eStr p0), (58, HV.int .i64 ((p0).length : Int)), (59, HV.int .i64 a26), (66, slE eStr ((p0.take (a26).toNat).drop (0 : Int).toNat)), (67, HV.int .i64 (((p0.take (a26).toNat).drop (0 : Int).toNat).length : Int)), (68, HV.int .i64 a)], []⟩) ?_ (X := Unit) (W := Unit) (fun a v => ⟨[(0, slE eStr p0), (1, HV.int .i64 p1), (9, HV.int .i64 a21), (57, slE eStr p0), (58, HV.int .i64 ((p0).length : Int)), (59, HV.int .i64 a26)], []⟩) (fun a45 w46 h => ?_) (fun a33 w34 st35 h hr36=> ?_)
     ·exact to_le (s' := ⟨[(0, slE eStr p0), (1, HV.int .i64 p1), (9, HV.int .i64 a21), (13, HV.str x30), (57, slE eStr p0), (58, HV.int .i64 ((p0).length : Int)), (59, HV.int .i64 a26), (66, slE eStr ((p0.take (a26).toNat).drop (0 : Int).toNat)), (67, HV.int .i64 (((p0.take (a26).toNat).drop (0 : Int).toNat).length : Int)), (68, HV.int .i64 0)], []⟩) (AS.le_of ⟨rfl, rfl, rfl, rfl, rfl, rfl, rfl, rfl, rfl, rfl, trivial⟩ trivial) ⟨(), rfl⟩
     ·refine AW.rg rfl fun K hK => ?_
      refine bv rfl (v_bin rfl rfl b_add) ?_
      refine mv rfl rfl ?_
      refine b_nil (hK _ ?_)
      clear hK K
      exact to_le (s' := ⟨[(0, slE eStr p0), (1, HV.int .i64 p1), (9, HV.int .i64 a21), (57, slE eStr p0), (58, HV.int .i64 ((p0).length : Int)), (59, HV.int .i64 (IntKind.wrap .i64 (a26 + 1)))], []⟩) (AS.le_of ⟨rfl, rfl, rfl, rfl, rfl, rfl, trivial⟩ trivial) ⟨IntKind.wrap .i64 (a26 + 1), (), h, rfl⟩
     refine AW.rgs rfl fun K hK => ?_
     refine bv rfl (v_bin rfl rfl b_lss) ?_
     refine b_fin hK (s' := ⟨[(0, slE eStr p0), (1, HV.int .i64 p1), (9, HV.int .i64 a21), (13, HV.str x30), (57, slE eStr p0), (58, HV.int .i64 ((p0).length : Int)), (59, HV.int .i64 a26), (66, slE eStr ((p0.take (a26).toNat).drop (0 : Int).toNat)), (67, HV.int .i64 (((p0.take (a26).toNat).drop (0 : Int).toNat).length : Int)), (68, HV.int .i64 a33), (69, HV.bool (decide (a33 < (((p0.take (a26).toNat).drop (0 : Int).toNat).length : Int))))], []⟩) (le_q rfl rfl) ?_
     clear hK K
     refine AW.cseq rfl (fun hc => ?_) (fun hc => ?_)
     ·have hc := of_decide_eq_true hc
      have h := ifT hc h
      refine AW.skip ?_
      refine AW.seq (AW.block ?_)
      refine AW.rgs rfl fun K hK => ?_
      obtain ⟨x37, h38, h⟩ := bS h
      refine bv rfl (v_idxF ty22 es22 rfl rfl (idx_lt h38)) ?_
      refine bv rfl (v_loadF ty9 rfl (l_cell eStr h38 (o := 0) rfl rfl)) ?_
      refine mv rfl rfl ?_
      refine b_fin hK (s' := ⟨[(0, slE eStr p0), (1, HV.int .i64 p1), (9, HV.int .i64 a21), (13, HV.str x30), (15, HV.str x37), (57, slE eStr p0), (58, HV.int .i64 ((p0).length : Int)), (59, HV.int .i64 a26), (66, slE eStr ((p0.take (a26).toNat).drop (0 : Int).toNat)), (67, HV.int .i64 (((p0.take (a26).toNat).drop (0 : Int).toNat).length : Int)), (68, HV.int .i64 a33)], []⟩) (le_q rfl rfl) ?_
      clear hK K
      refine AW.seqJ h (S := Bool) (V := Unit) (fun a v => ⟨[(0, slE eStr p0), (1, HV.int .i64 p1), (9, HV.int .i64 a21), (13, HV.str x30), (57, slE eStr p0), (58, HV.int .i64 ((p0).length : Int)), (59, HV.int .i64 a26), (66, slE eStr ((p0.take (a26).toNat).drop (0 : Int).toNat)), (67, HV.int .i64 (((p0.take (a26).toNat).drop (0 : Int).toNat).length : Int)), (68, HV.int .i64 a33), (84, HV.bool a)], []⟩) (fun a39 w40 h => ?_) (fun k41 h => ?_)
      ·refine AW.cond rfl (fun hc => ?_) (fun hc => ?_)
       ·have h := ifT hc h
        refine AW.rgs rfl fun K hK => ?_
        refine mv rfl rfl ?_
        refine mv rfl rfl ?_
        refine b_fin hK (s' := ⟨[(4, HV.bool false), (5, HV.int .i64 0)], []⟩) (le_q rfl rfl) ?_
        clear hK K
        have h := hr36 _ h
        have h := hr29 _ h
        refine AW.ret ?_
        have h := Option.some.inj h
        subst h
        exact ret_pure (hs := [HV.bool false, HV.int .i64 0]) (q := HV.tup [HV.bool false, HV.int .i64 0]) (.inr rfl) (resT rfl (resT rfl rfl)) rfl ⟨trivial, trivial, trivial⟩
       have h := ifF (bF' hc) h
       refine AW.skip ?_
       refine AW.rg rfl fun K hK => ?_
       refine bv rfl (v_bin rfl rfl b_add) ?_
       refine mv rfl rfl ?_
       refine b_nil (hK _ ?_)
       clear hK K
       exact to_le (s' := ⟨[(0, slE eStr p0), (1, HV.int .i64 p1), (9, HV.int .i64 a21), (13, HV.str x30), (57, slE eStr p0), (58, HV.int .i64 ((p0).length : Int)), (59, HV.int .i64 a26), (66, slE eStr ((p0.take (a26).toNat).drop (0 : Int).toNat)), (67, HV.int .i64 (((p0.take (a26).toNat).drop (0 : Int).toNat).length : Int)), (68, HV.int .i64 (IntKind.wrap .i64 (a33 + 1)))], []⟩) (AS.le_of ⟨rfl, rfl, rfl, rfl, rfl, rfl, rfl, rfl, rfl, rfl, trivial⟩ trivial) ⟨IntKind.wrap .i64 (a33 + 1), (), h, rfl⟩
      refine AW.rg rfl fun K hK => ?_
      refine mv rfl rfl ?_
      refine mv rfl rfl ?_
      refine bv rfl (v_bin rfl rfl b_sneq) ?_
      refine mv rfl rfl ?_
      by_cases hg44 : x30 ≠ x37
      ·have h := ifT hg44 h
       refine b_T rfl rfl rfl rfl (decide_eq_true hg44) (o_val rfl (mv_val rfl rfl).2 ?_)
       refine b_T rfl rfl rfl rfl rfl (o_val rfl (mv_val rfl rfl).2 ?_)
       refine b_T rfl rfl rfl rfl rfl (o_val rfl (mv_val rfl rfl).2 ?_)
       obtain ⟨x42, h43, h⟩ := bS h
       obtain ⟨hu, hv, hx⟩ := indel_tab h43
       refine b_T rfl rfl rfl rfl rfl (o_callA rfl rfl rfl rfl ((table_call hu hv).mono fun r H' he => ?_))
       obtain ⟨v5, v14, v6, rfl, hle⟩ := he
       refine bops_le (s' := ⟨_, hTb v5 v14 v6 _ _ _ _⟩) ⟨fun _ _ h => h, hle⟩ ?_
       refine b_T rfl rfl rfl rfl rfl (o_callA rfl rfl rfl rfl ((at_call rfl hu hv _ 0 0 _ (Nat.le_refl _) (Nat.zero_le _) (Nat.zero_le _) (TabInv.new _ _)).mono fun rr H' he => ?_))
       obtain ⟨hr, kn', hT', rfl⟩ := he
       rw [show rr = HV.int .i64 x42 from hr.trans (congrArg (HV.int .i64) hx)]
       clear hr
       refine b_T rfl rfl rfl rfl rfl (o_val rfl (v_bin rfl rfl b_sub) ?_)
       refine b_T rfl rfl rfl rfl rfl (o_val rfl (mv_val rfl rfl).2 ?_)
       refine b_T rfl rfl rfl rfl rfl (o_val rfl (v_bin rfl rfl b_leq) ?_)
       refine bv rfl (v_pickT rfl rfl rfl) ?_
       refine b_nil (hK _ ?_)
       clear hK K
       exact to_le (s' := ⟨[(0, slE eStr p0), (1, HV.int .i64 p1), (9, HV.int .i64 a21), (13, HV.str x30), (57, slE eStr p0), (58, HV.int .i64 ((p0).length : Int)), (59, HV.int .i64 a26), (66, slE eStr ((p0.take (a26).toNat).drop (0 : Int).toNat)), (67, HV.int .i64 (((p0.take (a26).toNat).drop (0 : Int).toNat).length : Int)), (68, HV.int .i64 a33), (84, HV.bool (decide ((IntKind.wrap .i64 (a21 - x42)) ≤ p1)))], []⟩) (AS.le_of ⟨rfl, rfl, rfl, rfl, rfl, rfl, rfl, rfl, rfl, rfl, rfl, trivial⟩ trivial) ⟨decide ((IntKind.wrap .i64 (a21 - x42)) ≤ p1), (), h, rfl⟩
      have h := ifF hg44 h
      refine b_F rfl rfl rfl rfl rfl (decide_eq_false hg44) ?_
      refine b_F rfl rfl rfl rfl rfl rfl ?_
      refine b_F rfl rfl rfl rfl rfl rfl ?_
      refine b_F rfl rfl rfl rfl rfl rfl ?_
      refine b_F rfl rfl rfl rfl rfl rfl ?_
      refine b_F rfl rfl rfl rfl rfl rfl ?_
      refine b_F rfl rfl rfl rfl rfl rfl ?_
      refine b_F rfl rfl rfl rfl rfl rfl ?_
      refine bv rfl (v_pickF rfl rfl rfl) ?_
      refine b_nil (hK _ ?_)
      clear hK K
      exact to_le (s' := ⟨[(0, slE eStr p0), (1, HV.int .i64 p1), (9, HV.int .i64 a21), (13, HV.str x30), (57, slE eStr p0), (58, HV.int .i64 ((p0).length : Int)), (59, HV.int .i64 a26), (66, slE eStr ((p0.take (a26).toNat).drop (0 : Int).toNat)), (67, HV.int .i64 (((p0.take (a26).toNat).drop (0 : Int).toNat).length : Int)), (68, HV.int .i64 a33), (84, HV.bool false)], []⟩) (AS.le_of ⟨rfl, rfl, rfl, rfl, rfl, rfl, rfl, rfl, rfl, rfl, rfl, trivial⟩ trivial) ⟨false, (), h, rfl⟩
     have hc := of_decide_eq_false hc
     have h := ifF hc h
     refine AW.exit ?_
     exact to_le (s' := ⟨[(0, slE eStr p0), (1, HV.int .i64 p1), (9, HV.int .i64 a21), (57, slE eStr p0), (58, HV.int .i64 ((p0).length : Int)), (59, HV.int .i64 a26)], []⟩) (AS.le_of ⟨rfl, rfl, rfl, rfl, rfl, rfl, trivial⟩ trivial) ⟨(), (), h, rfl⟩
    have hc := of_decide_eq_false hc
    have h := ifF hc h
    refine AW.exit ?_
    exact to_le (s' := ⟨[], []⟩) (AS.le_of trivial trivial) ⟨(), (), h, rfl⟩
   refine AW.rg rfl fun K hK => ?_
   refine mv rfl rfl ?_
   refine bv rfl (v_bin rfl rfl b_lss) ?_
   refine mv rfl rfl ?_
   by_cases hg49 : p1 < 0
   ·have h := ifT hg49 h
    refine b_F rfl rfl rfl rfl rfl (decide_eq_true hg49) ?_
    refine b_F rfl rfl rfl rfl rfl rfl ?_
    refine b_F rfl rfl rfl rfl rfl rfl ?_
    refine bv rfl (v_pickT rfl rfl rfl) ?_
    refine b_nil (hK _ ?_)
    clear hK K
    exact to_le (s' := ⟨[(0, slE eStr p0), (1, HV.int .i64 p1), (9, HV.int .i64 a21), (56, HV.bool true)], []⟩) (AS.le_of ⟨rfl, rfl, rfl, rfl, trivial⟩ trivial) ⟨true, (), h, rfl⟩
   have h := ifF hg49 h
   refine b_T rfl rfl rfl rfl (decide_eq_false hg49) (o_val rfl (mv_val rfl rfl).2 ?_)
   refine b_T rfl rfl rfl rfl rfl (o_val rfl (mv_val rfl rfl).2 ?_)
   refine b_T rfl rfl rfl rfl rfl (o_val rfl (v_bin rfl rfl b_gtr) ?_)
   refine bv rfl (v_pickF rfl rfl rfl) ?_
   refine b_nil (hK _ ?_)
   clear hK K
   exact to_le (s' := ⟨[(0, slE eStr p0), (1, HV.int .i64 p1), (9, HV.int .i64 a21), (56, HV.bool (decide (a21 < p1)))], []⟩) (AS.le_of ⟨rfl, rfl, rfl, rfl, trivial⟩ trivial) ⟨decide (a21 < p1), (), h, rfl⟩
  refine AW.rgs rfl fun K hK => ?_
  refine bv rfl (v_bin rfl rfl b_lss) ?_
  refine b_fin hK (s' := ⟨[(0, slE eStr p0), (1, HV.int .i64 p1), (9, HV.int .i64 a11.1), (32, slE eStr p0), (33, HV.int .i64 ((p0).length : Int)), (34, HV.int .i64 a11.2), (35, HV.bool (decide (a11.2 < ((p0).length : Int))))], []⟩) (le_q rfl rfl) ?_
  clear hK K
  refine AW.cseq rfl (fun hc => ?_) (fun hc => ?_)
  ·have hc := of_decide_eq_true hc
   have h := ifT hc h
   refine AW.skip ?_
   refine AW.seq (AW.block ?_)
   refine AW.rgs rfl fun K hK => ?_
   refine mv rfl rfl ?_
   obtain ⟨x15, h16, h⟩ := bS h
   refine bv rfl (v_idxF ty22 es22 rfl rfl (idx_lt h16)) ?_
   refine bv rfl (v_loadF ty9 rfl (l_cell eStr h16 (o := 0) rfl rfl)) ?_
   refine mv rfl rfl ?_
   refine mv rfl rfl ?_
   refine b_fin hK (s' := ⟨[(0, slE eStr p0), (1, HV.int .i64 p1), (9, HV.int .i64 a11.1), (10, HV.int .i64 a11.2), (11, HV.str x15), (32, slE eStr p0), (33, HV.int .i64 ((p0).length : Int)), (34, HV.int .i64 a11.2)], []⟩) (le_q rfl rfl) ?_
   clear hK K
   refine AW.seq ?_
   refine AW.seqJ h (S := Bool) (V := Unit) (fun a v => ⟨[(0, slE eStr p0), (1, HV.int .i64 p1), (11, HV.str x15), (32, slE eStr p0), (33, HV.int .i64 ((p0).length : Int)), (34, HV.int .i64 a11.2), (46, HV.bool a)], []⟩) (fun a17 w18 h => ?_) (fun k19 h => ?_)
   ·refine AW.cond rfl (fun hc => ?_) (fun hc => ?_)
    ·have h := ifT hc h
     refine AW.rgs rfl fun K hK => ?_
     refine mv rfl rfl ?_
     refine mv rfl rfl ?_
     refine b_fin hK (s' := ⟨[(4, HV.bool false), (5, HV.int .i64 11)], []⟩) (le_q rfl rfl) ?_
     clear hK K
     have h := hr14 _ h
     refine AW.ret ?_
     have h := Option.some.inj h
     subst h
     exact ret_pure (hs := [HV.bool false, HV.int .i64 11]) (q := HV.tup [HV.bool false, HV.int .i64 11]) (.inr rfl) (resT rfl (resT rfl rfl)) rfl ⟨trivial, trivial, trivial⟩
    have h := ifF (bF' hc) h
    refine AW.skip ?_
    refine AW.rg rfl fun K hK => ?_
    refine mv rfl rfl ?_
    refine bv rfl (v_lenS rfl rfl ty9 rfl) ?_
    refine mv rfl rfl ?_
    refine b_fin hK (s' := ⟨[(0, slE eStr p0), (1, HV.int .i64 p1), (9, HV.int .i64 ((x15).length : Int)), (32, slE eStr p0), (33, HV.int .i64 ((p0).length : Int)), (34, HV.int .i64 a11.2)], []⟩) (le_q rfl rfl) ?_
    clear hK K
    refine AW.rg rfl fun K hK => ?_
    refine bv rfl (v_bin rfl rfl b_add) ?_
    refine mv rfl rfl ?_
    refine b_nil (hK _ ?_)
    clear hK K
    exact to_le (s' := ⟨[(0, slE eStr p0), (1, HV.int .i64 p1), (9, HV.int .i64 ((x15).length : Int)), (32, slE eStr p0), (33, HV.int .i64 ((p0).length : Int)), (34, HV.int .i64 (IntKind.wrap .i64 (a11.2 + 1)))], []⟩) (AS.le_of ⟨rfl, rfl, rfl, rfl, rfl, rfl, trivial⟩ trivial) ⟨(((x15).length : Int), IntKind.wrap .i64 (a11.2 + 1)), (), h, rfl⟩
   refine AW.rg rfl fun K hK => ?_
   refine mv rfl rfl ?_
   refine bv rfl (v_bin rfl rfl b_gtr) ?_
   refine mv rfl rfl ?_
   by_cases hg20 : 0 < a11.2
   ·have h := ifT hg20 h
    refine b_T rfl rfl rfl rfl (decide_eq_true hg20) (o_val rfl (mv_val rfl rfl).2 ?_)
    refine b_T rfl rfl rfl rfl rfl (o_val rfl (v_lenS rfl rfl ty9 rfl) ?_)
    refine b_T rfl rfl rfl rfl rfl (o_val rfl (mv_val rfl rfl).2 ?_)
    refine b_T rfl rfl rfl rfl rfl (o_val rfl (v_bin rfl rfl b_neq) ?_)
    refine bv rfl (v_pickT rfl rfl rfl) ?_
    refine b_nil (hK _ ?_)
    clear hK K
    exact to_le (s' := ⟨[(0, slE eStr p0), (1, HV.int .i64 p1), (11, HV.str x15), (32, slE eStr p0), (33, HV.int .i64 ((p0).length : Int)), (34, HV.int .i64 a11.2), (46, HV.bool (decide (((x15).length : Int) ≠ a11.1)))], []⟩) (AS.le_of ⟨rfl, rfl, rfl, rfl, rfl, rfl, rfl, trivial⟩ trivial) ⟨decide (((x15).length : Int) ≠ a11.1), (), h, rfl⟩
   have h := ifF hg20 h
   refine b_F rfl rfl rfl rfl rfl (decide_eq_false hg20) ?_
   refine b_F rfl rfl rfl rfl rfl rfl ?_
   refine b_F rfl rfl rfl rfl rfl rfl ?_
   refine b_F rfl rfl rfl rfl rfl rfl ?_
   refine bv rfl (v_pickF rfl rfl rfl) ?_
   refine b_nil (hK _ ?_)
   clear hK K
   exact to_le (s' := ⟨[(0, slE eStr p0), (1, HV.int .i64 p1), (11, HV.str x15), (32, slE eStr p0), (33, HV.int .i64 ((p0).length : Int)), (34, HV.int .i64 a11.2), (46, HV.bool false)], []⟩) (AS.le_of ⟨rfl, rfl, rfl, rfl, rfl, rfl, rfl, trivial⟩ trivial) ⟨false, (), h, rfl⟩
  have hc := of_decide_eq_false hc
  have h := ifF hc h
  refine AW.exit ?_
  exact to_le (s' := ⟨[(0, slE eStr p0), (1, HV.int .i64 p1), (9, HV.int .i64 a11.1)], []⟩) (AS.le_of ⟨rfl, rfl, rfl, trivial⟩ trivial) ⟨a11.1, (), h, rfl⟩
 refine AW.rgs rfl fun K hK => ?_
 refine bv rfl (v_bin rfl rfl b_lss) ?_
 refine b_fin hK (s' := ⟨[(0, slE eStr p0), (1, HV.int .i64 p1), (19, slE eStr p0), (20, HV.int .i64 ((p0).length : Int)), (21, HV.int .i64 a1), (22, HV.bool (decide (a1 < ((p0).length : Int))))], []⟩) (le_q rfl rfl) ?_
 clear hK K
 refine AW.cseq rfl (fun hc => ?_) (fun hc => ?_)
 ·have hc := of_decide_eq_true hc
  have h := ifT hc h
  refine AW.skip ?_
  refine AW.seq (AW.block ?_)
  refine AW.rgs rfl fun K hK => ?_
  obtain ⟨x5, h6, h⟩ := bS h
  refine bv rfl (v_idxF ty22 es22 rfl rfl (idx_lt h6)) ?_
  refine bv rfl (v_loadF ty9 rfl (l_cell eStr h6 (o := 0) rfl rfl)) ?_
  refine mv rfl rfl ?_
  refine b_fin hK (s' := ⟨[(0, slE eStr p0), (1, HV.int .i64 p1), (7, HV.str x5), (19, slE eStr p0), (20, HV.int .i64 ((p0).length : Int)), (21, HV.int .i64 a1)], []⟩) (le_q rfl rfl) ?_
  clear hK K
  refine AW.rgs rfl fun K hK => ?_
  refine mv rfl rfl ?_
  refine b_op rfl (o_bsl rfl rfl (as_of (cs := [HV.str x5]) ty22 ty9 rfl rfl rfl rfl rfl) ?_)
  obtain ⟨x7, h8, h⟩ := bS h
  refine b_op rfl (o_call rfl rfl rfl rfl (ACallD.pure0 (w_indel_check h8)) ?_)
  refine mv rfl rfl ?_
  refine b_fin hK (s' := ⟨[(0, slE eStr p0), (1, HV.int .i64 p1), (8, HV.int .i64 x7), (19, slE eStr p0), (20, HV.int .i64 ((p0).length : Int)), (21, HV.int .i64 a1)], []⟩) (le_q rfl rfl) ?_
  clear hK K
  refine AW.rgs rfl fun K hK => ?_
  refine mv rfl rfl ?_
  refine bv rfl (v_bin rfl rfl b_neq) ?_
  refine b_fin hK (s' := ⟨[(0, slE eStr p0), (1, HV.int .i64 p1), (8, HV.int .i64 x7), (19, slE eStr p0), (20, HV.int .i64 ((p0).length : Int)), (21, HV.int .i64 a1), (29, HV.bool (decide (x7 ≠ 0)))], []⟩) (le_q rfl rfl) ?_
  clear hK K
  refine AW.cond rfl (fun hc => ?_) (fun hc => ?_)
  ·have hc := of_decide_eq_true hc
   have h := ifT hc h
   refine AW.rgs rfl fun K hK => ?_
   refine mv rfl rfl ?_
   refine mv rfl rfl ?_
   refine mv rfl rfl ?_
   refine b_fin hK (s' := ⟨[(4, HV.bool false), (5, HV.int .i64 x7)], []⟩) (le_q rfl rfl) ?_
   clear hK K
   have h := hr4 _ h
   refine AW.ret ?_
   have h := Option.some.inj h
   subst h
   exact ret_pure (hs := [HV.bool false, HV.int .i64 x7]) (q := HV.tup [HV.bool false, HV.int .i64 x7]) (.inr rfl) (resT rfl (resT rfl rfl)) rfl ⟨trivial, trivial, trivial⟩
  have hc := of_decide_eq_false hc
  have h := ifF hc h
  refine AW.skip ?_
  refine AW.rg rfl fun K hK => ?_
  refine bv rfl (v_bin rfl rfl b_add) ?_
  refine mv rfl rfl ?_
  refine b_nil (hK _ ?_)
  clear hK K
  exact to_le (s' := ⟨[(0, slE eStr p0), (1, HV.int .i64 p1), (19, slE eStr p0), (20, HV.int .i64 ((p0).length : Int)), (21, HV.int .i64 (IntKind.wrap .i64 (a1 + 1)))], []⟩) (AS.le_of ⟨rfl, rfl, rfl, rfl, rfl, trivial⟩ trivial) ⟨IntKind.wrap .i64 (a1 + 1), (), h, rfl⟩
 have hc := of_decide_eq_false hc
 have h := ifF hc h
 refine AW.exit ?_
 exact to_le (s' := ⟨[(0, slE eStr p0), (1, HV.int .i64 p1)], []⟩) (AS.le_of ⟨rfl, rfl, trivial⟩ trivial) ⟨(), (), h, rfl⟩
set_option maxRecDepth 100000 in
theorem w_indel_Deletions {p0 : List UInt8} {r : (List (List UInt8)) × Int} (h : m_indel_Deletions p0 = some r) : Pure Try.prog 9 [HV.str p0] (· = HV.tup [slE eStr r.1, HV.int .i64 r.2]) := by
 unfold m_indel_Deletions at h
 refine Pure.of_body Try.func9 rfl rfl (Nat.le_of_ble_eq_true rfl) fun hf => ?_
 unfold Try.f9
 dsimp only [enumS, Nat.reduceAdd]
 refine AW.rgs rfl fun K hK => ?_
 refine mv rfl rfl ?_
 refine mv rfl rfl ?_
 refine b_fin hK (s' := ⟨[(0, HV.str p0)], []⟩) (le_q rfl rfl) ?_
 clear hK K
 refine AW.seq ?_
 refine AW.rgs rfl fun K hK => ?_
 refine mv rfl rfl ?_
 refine b_op rfl (o_bsl rfl rfl (as_of (cs := [HV.str p0]) ty22 ty9 rfl rfl rfl rfl rfl) ?_)
 obtain ⟨x1, h2, h⟩ := bS h
 refine b_op rfl (o_call rfl rfl rfl rfl (ACallD.pure0 (w_indel_check h2)) ?_)
 refine mv rfl rfl ?_
 refine b_fin hK (s' := ⟨[(0, HV.str p0), (4, HV.int .i64 x1)], []⟩) (le_q rfl rfl) ?_
 clear hK K
 refine AW.rgs rfl fun K hK => ?_
 refine mv rfl rfl ?_
 refine bv rfl (v_bin rfl rfl b_neq) ?_
 refine b_fin hK (s' := ⟨[(0, HV.str p0), (4, HV.int .i64 x1), (10, HV.bool (decide (x1 ≠ 0)))], []⟩) (le_q rfl rfl) ?_
 clear hK K
 refine AW.cond rfl (fun hc => ?_) (fun hc => ?_)
 ·have hc := of_decide_eq_true hc
  have h := ifT hc h
  refine AW.rgs rfl fun K hK => ?_
  refine mv rfl rfl ?_
  refine mv rfl rfl ?_
  refine mv rfl rfl ?_
  refine b_fin hK (s' := ⟨[(2, HV.v (.slice none 0 0)), (3, HV.int .i64 x1)], []⟩) (le_q rfl rfl) ?_
  clear hK K
  refine AW.to (to_weak ⟨[(2, slE eStr ([] : List (List UInt8))), (3, HV.int .i64 x1)], []⟩ ⟨⟨_, rfl, .nil _⟩, ⟨_, rfl, .refl _⟩, trivial⟩ trivial ?_)
  refine AW.ret ?_
  have h := Option.some.inj h
  subst h
  exact ret_pure (hs := [slE eStr ([] : List (List UInt8)), HV.int .i64 x1]) (q := HV.tup [slE eStr ([] : List (List UInt8)), HV.int .i64 x1]) (.inr rfl) (resT rfl (resT rfl rfl)) rfl ⟨(clean_slE fun _ _ => ⟨trivial, trivial⟩), trivial, trivial⟩
 have hc := of_decide_eq_false hc
 have h := ifF hc h
 refine AW.skip ?_
 obtain ⟨x3, h4, h⟩ := bS h
 obtain ⟨hl, hx⟩ := indel_del h4
 refine AW.rgs rfl fun K hK => ?_
 refine b_op rfl (o_makeMap (fid := 9) HV.bool 9012 rfl rfl (fun v12 => ?_))
 refine mv rfl rfl ?_
 refine b_fin hK (s' := ⟨[(0, HV.str p0), (5, HV.mp 9012 v12)], [(9012, v12, .map (entE HV.bool []))]⟩) (le_q rfl rfl) ?_
 clear hK K
 refine AW.rgs rfl fun K hK => ?_
 refine mv rfl rfl ?_
 refine mv rfl rfl ?_
 refine b_op rfl (o_callA rfl rfl rfl rfl ((shorter_call (ver := v12) hl).mono fun r H' he => ?_))
 obtain ⟨rfl, rfl⟩ := he
 refine b_fin hK (s' := ⟨[(5, HV.mp 9012 v12)], [(9012, v12, .map (entE HV.bool (delM p0 p0.length)))]⟩) (le_q rfl rfl) ?_
 clear hK K
 refine AW.rgs rfl fun K hK => ?_
 refine mv rfl rfl ?_
 refine b_op rfl (o_callK [(9012, v12, .map (entE HV.bool (delM p0 p0.length)))] rfl rfl rfl rfl (fun K hK => w82b hK) ?_)
 refine b_op rfl (o_callK (q := slE eStr x3) [] rfl rfl rfl rfl (fun K hK => c_sortedKeysB (delM_nodup p0 _) (by have := delM_len p0 p0.length; omega) (hx ▸ hK)) ?_)
 refine mv rfl rfl ?_
 refine mv rfl rfl ?_
 refine b_fin hK (s' := ⟨[(2, slE eStr x3), (3, HV.int .i64 0)], []⟩) (le_q rfl rfl) ?_
 clear hK K
 refine AW.ret ?_
 have h := Option.some.inj h
 subst h
 exact ret_pure (hs := [slE eStr x3, HV.int .i64 0]) (q := HV.tup [slE eStr x3, HV.int .i64 0]) (.inr rfl) (resT rfl (resT rfl rfl)) rfl ⟨(clean_slE fun _ _ => ⟨trivial, trivial⟩), trivial, trivial⟩
end Go.AW
namespace Go.AW
open Go
set_option linter.unusedVariables false
end Go.AW
namespace Go.AW
open Go Go.Proofs
set_option maxHeartbeats 1600000
set_option maxRecDepth 100000
set_option linter.unusedVariables false
theorem w_integer_trim {p0 : List (Int)} {r : (List (Int))} (h : m_integer_trim p0 = some r) : Pure Try.prog 57 [slE (encM (HV.int .u32)) p0] (· = slE (encM (HV.int .u32)) r) := by
 unfold m_integer_trim at h
 refine Pure.of_body Try.func57 rfl rfl (lb rfl) fun hf => ?_
 unfold Try.f57
 dsimp only [enumS, Nat.reduceAdd]
 refine AW.rgs rfl fun K hK => mv rfl rfl ?_
 refine bf hK ⟨[(0, slE (encM (HV.int .u32)) p0)], []⟩ ?_
 refine AW.seq (AW.lpX h up_then (S := (List Int)) (V := Unit) (fun a v => ⟨[(0, slE (encM (HV.int .u32)) a)], []⟩) ?_ (X := (List Int)) (W := Unit) (fun a v => ⟨[(0, slE (encM (HV.int .u32)) a)], []⟩) (fun a12 w13 h => ?_) (fun a1 w2 st3 h => ?_))
 ·exact to_L ⟨(), rfl⟩
 ·refine AW.rgs rfl fun K hK => mv rfl rfl (mv rfl rfl ?_)
  refine bf hK ⟨[(2, slE (encM (HV.int .u32)) a12)], []⟩ ?_
  refine AW.ret ?_
  have h := Option.some.inj h
  subst h
  exact ret_pure (hs := [slE (encM (HV.int .u32)) a12]) (.inr rfl) (resT rfl rfl) rfl (clean_slE fun _ _ => ⟨trivial, trivial⟩)
 refine AW.seq ?_
 refine AW.seqJ h (S := Bool) (V := Unit) (fun a v => ⟨[(0, slE (encM (HV.int .u32)) a1), (14, .bool a)], []⟩) (fun a5 w6 h => ?_) (fun k7 h => ?_)
 ·refine AW.cond rfl (fun hc => ?_) (fun hc => ?_)
  ·have h := ifT hc h
   refine AW.skip ?_
   refine AW.block ?_
   refine AW.rg rfl fun K hK => mv rfl rfl (mv rfl rfl (bv rfl (v_lenF rfl rfl ty65 rfl) (bv rfl (v_bin rfl rfl b_sub) ?_)))
   obtain ⟨h8, h⟩ := ifN h
   refine bv rfl (v_sliceF (encM (HV.int .u32)) ty65 es65 rfl rfl rfl h8) (mv rfl rfl ?_)
   refine b_nil (hK _ ?_)
   exact to_L ⟨(a1.take (IntKind.wrap .i64 (((a1).length : Int) - 1)).toNat).drop (0 : Int).toNat, (), h, rfl⟩
  have h := ifF (bF' hc) h
  refine AW.exit ?_
  exact to_L ⟨a1, (), h, rfl⟩
 refine AW.rg rfl fun K hK => mv rfl rfl (bv rfl (v_lenF rfl rfl ty65 rfl) (bv rfl (v_bin rfl rfl b_gtr) (mv rfl rfl ?_)))
 by_cases hg11 : 0 < ((a1).length : Int)
 ·have h := ifT hg11 h
  refine b_T rfl rfl rfl rfl (decide_eq_true hg11) (o_val rfl (mv_val rfl rfl).2 ?_)
  refine b_T rfl rfl rfl rfl rfl (o_val rfl (mv_val rfl rfl).2 ?_)
  refine b_T rfl rfl rfl rfl rfl (o_val rfl (v_lenF rfl rfl ty65 rfl) ?_)
  refine b_T rfl rfl rfl rfl rfl (o_val rfl (v_bin rfl rfl b_sub) ?_)
  obtain ⟨x9, h10, h⟩ := bS h
  refine b_T rfl rfl rfl rfl rfl (o_val rfl (v_idxF ty65 es65 rfl rfl (idx_lt h10)) ?_)
  refine b_T rfl rfl rfl rfl rfl (o_val rfl (v_loadF ty62 rfl (l_cell (encM (HV.int .u32)) h10 (o := 0) rfl rfl)) ?_)
  refine b_T rfl rfl rfl rfl rfl (o_val rfl (v_bin rfl rfl b_eql) ?_)
  refine bv rfl (v_pickT rfl rfl rfl) ?_
  refine b_nil (hK _ ?_)
  exact to_L ⟨decide (x9 = 0), (), h, rfl⟩
 have h := ifF hg11 h
 refine b_F rfl rfl rfl rfl rfl (decide_eq_false hg11) ?_
 refine b_F rfl rfl rfl rfl rfl rfl ?_
 refine b_F rfl rfl rfl rfl rfl rfl ?_
 refine b_F rfl rfl rfl rfl rfl rfl ?_
 refine b_F rfl rfl rfl rfl rfl rfl ?_
 refine b_F rfl rfl rfl rfl rfl rfl ?_
 refine b_F rfl rfl rfl rfl rfl rfl ?_
 refine bv rfl (v_pickF rfl rfl rfl) ?_
 refine b_nil (hK _ ?_)
 exact to_L ⟨false, (), h, rfl⟩
theorem w_integer_number {p0 : Bool} {p1 : List (Int)} {r : TNegMag} (h : m_integer_number p0 p1 = some r) : Pure Try.prog 28 [.bool p0, slE (encM (HV.int .u32)) p1] (· = HV.agg [.bool r.1, .str r.2]) := by
 unfold m_integer_number at h
 refine Pure.of_body Try.func28 rfl rfl (lb rfl) fun hf => ?_
 unfold Try.f28
 dsimp only [enumS, Nat.reduceAdd]
 refine AW.rgs rfl fun K hK => b_op rfl (o_alloc (fid := 28) (zs := [.bool false, .str nS]) 28004 rfl rfl ty29 rfl (fun v1 => ?_))
 refine bf hK ⟨[(0, .bool p0), (1, slE (encM (HV.int .u32)) p1), (4, .ptr 28004 v1 0)], [(28004, v1, .arr 2 29 [.bool false, .str nS])]⟩ ?_
 refine AW.rgs rfl fun K hK => mv rfl rfl ?_
 obtain ⟨x2, h3, h⟩ := bS h
 refine b_op rfl (o_call rfl rfl rfl rfl (ACallD.pure0 (w_integer_trim h3)) ?_)
 refine mv rfl rfl ?_
 refine bf hK ⟨[(0, .bool p0), (1, slE (encM (HV.int .u32)) x2), (4, .ptr 28004 v1 0)], [(28004, v1, .arr 2 29 [.bool false, .str nS])]⟩ ?_
 refine AW.seq ?_
 refine AW.rgs rfl fun K hK => mv rfl rfl (bv rfl (v_lenF rfl rfl ty65 rfl) (bv rfl (v_bin rfl rfl b_eql) ?_))
 refine bf hK ⟨[(0, .bool p0), (1, slE (encM (HV.int .u32)) x2), (4, .ptr 28004 v1 0), (13, .bool (decide (((x2).length : Int) = 0)))], [(28004, v1, .arr 2 29 [.bool false, .str nS])]⟩ ?_
 refine AW.cond rfl (fun hc => ?_) (fun hc => ?_)
 ·obtain ⟨hc, h⟩ := cT hc h
  refine AW.rgs rfl fun K hK => b_op rfl (o_build (cs := [.bool false, .str nS]) rfl (bl_of ty29 rfl rfl rfl rfl) ?_)
  refine b_op rfl (o_store (cs := [.bool false, .str nS]) (zs := [.bool false, .str nS]) rfl rfl rfl ty29 rfl rfl rfl rfl rfl ?_)
  refine bf hK ⟨[(4, .ptr 28004 v1 0)], [(28004, v1, .arr 2 29 [.bool false, .str nS])]⟩ ?_
  refine AW.ret ?_
  have h := Option.some.inj h
  subst h
  exact ret_pure (hs := [.agg [.bool false, .str nS]]) (.inr rfl) (resP ty29 rfl rfl (l_litA rfl (lb rfl) rfl) rfl) rfl ⟨trivial, trivial, trivial⟩
 obtain ⟨hc, h⟩ := cF hc h
 refine AW.skip ?_
 refine AW.rgs rfl fun K hK => mv rfl rfl (bv rfl (v_lenF rfl rfl ty65 rfl) (bv rfl (v_bin rfl rfl b_mul) ?_))
 obtain ⟨h5, h⟩ := ifN h
 refine b_op rfl (o_makeE (fid := 28) eU8 (0 : Int) 28018 rfl rfl ty104 rfl rfl ty5 rfl rfl h5 (fun v4 => ?_))
 refine mv rfl rfl ?_
 refine bf hK ⟨[(0, .bool p0), (1, slE (encM (HV.int .u32)) x2), (4, .ptr 28004 v1 0), (5, .ar 28018 v4 eU8.k 0 ((List.replicate (0 : Int).toNat (0 : Int)).length))], [(28004, v1, .arr 2 29 [.bool false, .str nS]), (28018, v4, .arr eU8.k 5 (eU8.E (List.replicate (0 : Int).toNat (0 : Int))))]⟩ ?_
 refine AW.seq ?_
 refine AW.rgs rfl fun K hK => mv rfl rfl (bv rfl (v_lenF rfl rfl ty65 rfl) (bv rfl (v_bin rfl rfl b_sub) (mv rfl rfl ?_)))
 refine bf hK ⟨[(0, .bool p0), (1, slE (encM (HV.int .u32)) x2), (4, .ptr 28004 v1 0), (5, .ar 28018 v4 eU8.k 0 ((List.replicate (0 : Int).toNat (0 : Int)).length)), (6, hI (IntKind.wrap .i64 (((x2).length : Int) - 1)))], [(28004, v1, .arr 2 29 [.bool false, .str nS]), (28018, v4, .arr eU8.k 5 (eU8.E (List.replicate (0 : Int).toNat (0 : Int))))]⟩ ?_
 refine AW.lpX h (by first | exact up_then | exact up_to) (S := Int × (List Int)) (V := Nat) (fun a v => ⟨[(0, .bool p0), (1, slE (encM (HV.int .u32)) x2), (4, .ptr 28004 v1 0), (5, .ar 28018 v eU8.k 0 ((a.2).length)), (6, hI a.1)], [(28004, v1, .arr 2 29 [.bool false, .str nS]), (28018, v, .arr eU8.k 5 (eU8.E a.2))]⟩) ?_ (X := (List Int)) (W := Nat) (fun a v => ⟨[(0, .bool p0), (4, .ptr 28004 v1 0), (5, .ar 28018 v eU8.k 0 ((a).length))], [(28004, v1, .arr 2 29 [.bool false, .str nS]), (28018, v, .arr eU8.k 5 (eU8.E a))]⟩) (fun a28 w29 h => ?_) (fun a6 w7 st8 h => ?_)
 ·exact to_L ⟨v4, rfl⟩
 ·refine AW.to (to_frz 2 [(28018, w29, .arr eU8.k 5 (eU8.E a28))] ⟨[(0, .bool p0), (4, .ptr 28004 v1 0), (5, slE eU8 a28)], [(28004, v1, .arr 2 29 [.bool false, .str nS])]⟩ ⟨⟨_, rfl, rfl⟩, ⟨_, rfl, rfl⟩, ⟨_, rfl, frz_slE eU8 (l := a28) rfl fun _ _ => rfl⟩, trivial⟩ ⟨rfl, trivial⟩ ⟨rfl, trivial⟩ ⟨rfl, trivial⟩ ?_)
  refine AW.rgs rfl fun K hK => mv rfl rfl (mv rfl rfl (bv rfl (v_convB (l := a28) ty104 ty5 ty9 rfl) ?_))
  refine b_op rfl (o_build (cs := [.bool p0, .str (a28.map fun (n : Int) => UInt8.ofNat n.toNat)]) rfl (bl_of ty29 rfl rfl rfl rfl) ?_)
  refine b_op rfl (o_store (cs := [.bool p0, .str (a28.map fun (n : Int) => UInt8.ofNat n.toNat)]) (zs := [.bool p0, .str (a28.map fun (n : Int) => UInt8.ofNat n.toNat)]) rfl rfl rfl ty29 rfl rfl rfl rfl rfl ?_)
  refine bf hK ⟨[(4, .ptr 28004 v1 0)], [(28004, v1, .arr 2 29 [.bool p0, .str (a28.map fun (n : Int) => UInt8.ofNat n.toNat)])]⟩ ?_
  refine AW.ret ?_
  have h := Option.some.inj h
  subst h
  exact ret_pure (hs := [.agg [.bool p0, .str (a28.map fun (n : Int) => UInt8.ofNat n.toNat)]]) (.inr rfl) (resP ty29 rfl rfl (l_litA rfl (lb rfl) rfl) rfl) rfl ⟨trivial, trivial, trivial⟩
 refine AW.seq ?_
 refine AW.rgs rfl fun K hK => mv rfl rfl (bv rfl (v_bin rfl rfl b_geq) ?_)
 refine bf hK ⟨[(0, .bool p0), (1, slE (encM (HV.int .u32)) x2), (4, .ptr 28004 v1 0), (5, .ar 28018 w7 eU8.k 0 ((a6.2).length)), (6, hI a6.1), (23, .bool (decide (0 ≤ a6.1)))], [(28004, v1, .arr 2 29 [.bool false, .str nS]), (28018, w7, .arr eU8.k 5 (eU8.E a6.2))]⟩ ?_
 refine AW.cond rfl (fun hc => ?_) (fun hc => ?_)
 ·obtain ⟨hc, h⟩ := cT hc h
  refine AW.skip ?_
  refine AW.seq (AW.block ?_)
  refine AW.rgs rfl fun K hK => mv rfl rfl ?_
  refine bf hK ⟨[(0, .bool p0), (1, slE (encM (HV.int .u32)) x2), (4, .ptr 28004 v1 0), (5, .ar 28018 w7 eU8.k 0 ((a6.2).length)), (6, hI a6.1), (7, hI 3)], [(28004, v1, .arr 2 29 [.bool false, .str nS]), (28018, w7, .arr eU8.k 5 (eU8.E a6.2))]⟩ ?_
  refine AW.lpX h (by first | exact up_then | exact up_to) (S := Int × (List Int)) (V := Nat) (fun a v => ⟨[(0, .bool p0), (1, slE (encM (HV.int .u32)) x2), (4, .ptr 28004 v1 0), (5, .ar 28018 v eU8.k 0 ((a.2).length)), (6, hI a6.1), (7, hI a.1)], [(28004, v1, .arr 2 29 [.bool false, .str nS]), (28018, v, .arr eU8.k 5 (eU8.E a.2))]⟩) ?_ (X := (List Int)) (W := Nat) (fun a v => ⟨[(0, .bool p0), (1, slE (encM (HV.int .u32)) x2), (4, .ptr 28004 v1 0), (5, .ar 28018 v eU8.k 0 ((a).length)), (6, hI a6.1)], [(28004, v1, .arr 2 29 [.bool false, .str nS]), (28018, v, .arr eU8.k 5 (eU8.E a))]⟩) (fun a26 w27 h => ?_) (fun a10 w11 st12 h => ?_)
  ·exact to_L ⟨w7, rfl⟩
  ·refine AW.rg rfl fun K hK => mv rfl rfl (bv rfl (v_bin rfl rfl b_sub) (mv rfl rfl ?_))
   refine b_nil (hK _ ?_)
   exact to_L ⟨(IntKind.wrap .i64 (a6.1 - 1), a26), w27, h, rfl⟩
  refine AW.seq ?_
  refine AW.rgs rfl fun K hK => mv rfl rfl (bv rfl (v_bin rfl rfl b_geq) ?_)
  refine bf hK ⟨[(0, .bool p0), (1, slE (encM (HV.int .u32)) x2), (4, .ptr 28004 v1 0), (5, .ar 28018 w11 eU8.k 0 ((a10.2).length)), (6, hI a6.1), (7, hI a10.1), (27, .bool (decide (0 ≤ a10.1)))], [(28004, v1, .arr 2 29 [.bool false, .str nS]), (28018, w11, .arr eU8.k 5 (eU8.E a10.2))]⟩ ?_
  refine AW.cond rfl (fun hc => ?_) (fun hc => ?_)
  ·obtain ⟨hc, h⟩ := cT hc h
   refine AW.skip ?_
   refine AW.seqJ h (S := (List Int)) (V := Nat) (fun a v => ⟨[(0, .bool p0), (1, slE (encM (HV.int .u32)) x2), (4, .ptr 28004 v1 0), (5, .ar 28018 v eU8.k 0 ((a).length)), (6, hI a6.1), (7, hI a10.1)], [(28004, v1, .arr 2 29 [.bool false, .str nS]), (28018, v, .arr eU8.k 5 (eU8.E a))]⟩) (fun a14 w15 h => ?_) (fun k16 h => ?_)
   ·refine AW.rg rfl fun K hK => mv rfl rfl (bv rfl (v_bin rfl rfl b_sub) (mv rfl rfl ?_))
    refine b_nil (hK _ ?_)
    exact to_L ⟨(IntKind.wrap .i64 (a10.1 - 1), a14), w15, h, rfl⟩
   refine AW.block ?_
   refine AW.rgs rfl fun K hK => mv rfl rfl (mv rfl rfl ?_)
   obtain ⟨x17, h18, h⟩ := bS h
   refine bv rfl (v_idxF ty65 es65 rfl rfl (idx_lt h18)) (bv rfl (v_loadF ty62 rfl (l_cell (encM (HV.int .u32)) h18 (o := 0) rfl rfl)) (mv rfl rfl (bv rfl (v_bin rfl rfl b_mul) ?_)))
   obtain ⟨h19, h⟩ := ifN h
   refine bv rfl (v_bin rfl rfl (b_shr h19)) (bv rfl (v_convI ty62 ty5 rfl) (mv rfl rfl ?_))
   refine bf hK ⟨[(0, .bool p0), (1, slE (encM (HV.int .u32)) x2), (4, .ptr 28004 v1 0), (5, .ar 28018 w11 eU8.k 0 ((a10.2).length)), (6, hI a6.1), (7, hI a10.1), (8, .int .u8 (IntKind.wrap .u8 (Int.fdiv x17 (2 ^ (min ((IntKind.wrap .i64 (8 * a10.1))).toNat (IntKind.bits .u32))))))], [(28004, v1, .arr 2 29 [.bool false, .str nS]), (28018, w11, .arr eU8.k 5 (eU8.E a10.2))]⟩ ?_
   refine AW.seqJ h (S := Bool) (V := Unit) (fun a v => ⟨[(0, .bool p0), (1, slE (encM (HV.int .u32)) x2), (4, .ptr 28004 v1 0), (5, .ar 28018 w11 eU8.k 0 ((a10.2).length)), (6, hI a6.1), (7, hI a10.1), (8, .int .u8 (IntKind.wrap .u8 (Int.fdiv x17 (2 ^ (min ((IntKind.wrap .i64 (8 * a10.1))).toNat (IntKind.bits .u32)))))), (44, .bool a)], [(28004, v1, .arr 2 29 [.bool false, .str nS]), (28018, w11, .arr eU8.k 5 (eU8.E a10.2))]⟩) (fun a20 w21 h => ?_) (fun k22 h => ?_)
   ·refine AW.cond rfl (fun hc => ?_) (fun hc => ?_)
    ·have h := ifT hc h
     refine AW.rg rfl fun K hK => mv rfl rfl (mv rfl rfl ?_)
     refine b_op rfl (o_bsl rfl rfl (as_of (cs := [.int .u8 (IntKind.wrap .u8 (Int.fdiv x17 (2 ^ (min ((IntKind.wrap .i64 (8 * a10.1))).toNat (IntKind.bits .u32)))))]) ty104 ty5 rfl rfl rfl rfl rfl) ?_)
     obtain ⟨h24, h⟩ := ifN h
     refine b_op rfl (o_appE eU8 (l := a10.2) (m := [IntKind.wrap .u8 (Int.fdiv x17 (2 ^ (min ((IntKind.wrap .i64 (8 * a10.1))).toNat (IntKind.bits .u32))))]) rfl rfl ty104 ty104 ty5 rfl rfl rfl rfl rfl h24 (fun v23 => ?_))
     refine mv rfl rfl ?_
     refine b_nil (hK _ ?_)
     exact to_L ⟨a10.2 ++ [IntKind.wrap .u8 (Int.fdiv x17 (2 ^ (min ((IntKind.wrap .i64 (8 * a10.1))).toNat (IntKind.bits .u32))))], v23, h, rfl⟩
    have h := ifF (bF' hc) h
    refine AW.skip ?_
    exact to_L ⟨a10.2, w11, h, rfl⟩
   refine AW.rg rfl fun K hK => mv rfl rfl (bv rfl (v_bin rfl rfl b_neq) (mv rfl rfl ?_))
   by_cases hg25 : (IntKind.wrap .u8 (Int.fdiv x17 (2 ^ (min ((IntKind.wrap .i64 (8 * a10.1))).toNat (IntKind.bits .u32))))) ≠ 0
   ·have h := ifT hg25 h
    refine b_F rfl rfl rfl rfl rfl (decide_eq_true hg25) ?_
    refine b_F rfl rfl rfl rfl rfl rfl ?_
    refine b_F rfl rfl rfl rfl rfl rfl ?_
    refine bv rfl (v_pickT rfl rfl rfl) ?_
    refine b_nil (hK _ ?_)
    exact to_L ⟨true, (), h, rfl⟩
   have h := ifF hg25 h
   refine b_T rfl rfl rfl rfl (decide_eq_false hg25) (o_val rfl (mv_val rfl rfl).2 ?_)
   refine b_T rfl rfl rfl rfl rfl (o_val rfl (v_lenA rfl rfl ty104 rfl rfl) ?_)
   refine b_T rfl rfl rfl rfl rfl (o_val rfl (v_bin rfl rfl b_gtr) ?_)
   refine bv rfl (v_pickF rfl rfl rfl) ?_
   refine b_nil (hK _ ?_)
   exact to_L ⟨decide (0 < (((a10.2).length : Nat) : Int)), (), h, rfl⟩
  obtain ⟨hc, h⟩ := cF hc h
  refine AW.exit ?_
  exact to_L ⟨a10.2, w11, h, rfl⟩
 obtain ⟨hc, h⟩ := cF hc h
 refine AW.exit ?_
 exact to_L ⟨a6.2, w7, h, rfl⟩
end Go.AW

namespace Go.AW
open Go
structure Lq {α : Type} (x y : Option α) : Prop where
 ap : ∀ r, x = some r → y = some r
theorem Lq.refl {α : Type} (x : Option α) : Lq x x := ⟨fun _ h => h⟩
theorem Lq.none {α : Type} {y : Option α} : Lq Option.none y := ⟨fun _ h => by cases h⟩
theorem Lq.bind {α β : Type} {x y : Option α} {f g : α → Option β} (h : Lq x y) (hk : ∀ a, Lq (f a) (g a)) : Lq (x.bind f) (y.bind g) := by
 refine ⟨fun r hr => ?_⟩
 obtain ⟨a, ha, hf⟩ := bS hr
 rw [h.ap a ha]
 exact (hk a).ap r hf
theorem Lq.ite {α : Type} {p : Prop} [Decidable p] {a a' b b' : Option α} (h1 : Lq a a') (h2 : Lq b b') : Lq (if p then a else b) (if p then a' else b') := by
 refine ⟨fun r hr => ?_⟩
 by_cases hp : p
 ·rw [if_pos hp] at hr ⊢; exact h1.ap r hr
 ·rw [if_neg hp] at hr ⊢; exact h2.ap r hr
theorem Lq.jp {S R : Type} {M M' : S → Option R} {B B' : (S → Option R) → Option R} (hM : ∀ a, Lq (M a) (M' a)) (hB : ∀ k k' : S → Option R, (∀ a, Lq (k a) (k' a)) → Lq (B k) (B' k')) : Lq (Go.AW.jp M B) (Go.AW.jp M' B') := hB _ _ hM
theorem iter_mono {S X : Type} {f g : S → Option (Stp S X)} (h : ∀ s, Lq (f s) (g s)) : ∀ (n : Nat) (s : S) (r : X), iter f n s = some r → iter g n s = some r
 | 0, _, _, hr => hr
 | n + 1, s, r, hr => by
  simp only [iter] at hr ⊢
  split at hr
  ·rename_i s' hs
   rw [(h s).ap _ hs]
   exact iter_mono h n s' r hr
  ·rename_i x hs
   rw [(h s).ap _ hs]
   exact hr
  ·cases hr
def loopE {S X : Type} (body : S → Option (Stp S X)) (s : S) : Option X := iter body 1000000 s
theorem Lq.loop {S X : Type} {f g : S → Option (Stp S X)} {s : S} (h : ∀ s, Lq (f s) (g s)) : Lq (loopE f s) (loopW g s) := ⟨fun r hr => loopW_of (iter_mono h _ s r hr)⟩
theorem Lq.lpO {V R Y : Type} {x y : Option (Ou V R)} {M M' : V → Option Y} {Rt Rt' : R → Option Y} (h : Lq x y) (hM : ∀ v, Lq (M v) (M' v)) (hR : ∀ r, Lq (Rt r) (Rt' r)) : Lq (Go.AW.lpO x M Rt) (Go.AW.lpO y M' Rt') := by
 refine ⟨fun r hr => ?_⟩
 unfold Go.AW.lpO at hr ⊢
 split at hr
 ·rename_i v
  rw [h.ap _ rfl]; exact (hM v).ap r hr
 ·rename_i v
  rw [h.ap _ rfl]; exact (hR v).ap r hr
 ·cases hr
theorem forL_mono {S α X : Type} {f g : S → α → Option (Stp S X)} (h : ∀ s a, Lq (f s a) (g s a)) : ∀ (l : List α) (s : S) (r : Ou S X), forL f l s = some r → forL g l s = some r
 | [], _, _, hr => hr
 | x :: l, s, r, hr => by
  simp only [forL] at hr ⊢
  split at hr
  ·rename_i s' hs
   rw [(h s x).ap _ hs]
   exact forL_mono h l s' r hr
  ·rename_i y hs
   rw [(h s x).ap _ hs]
   exact hr
  ·cases hr
theorem Lq.forL {S α X : Type} {f g : S → α → Option (Stp S X)} {l : List α} {s : S} (h : ∀ s a, Lq (f s a) (g s a)) : Lq (Go.AW.forL f l s) (Go.AW.forL g l s) := ⟨forL_mono h l s⟩
set_option linter.unusedVariables false
def c_integer_trim (p0 : List (Int)) : Option ((List (Int))) :=
 (loopE (S := (List Int)) (X := (List Int)) (fun a1 =>
   jp (fun (a5 : Bool) =>
    if a5 = true then
     if 0 ≤ (0 : Int) ∧ (0 : Int) ≤ IntKind.wrap .i64 (((a1).length : Int) - 1) ∧ IntKind.wrap .i64 (((a1).length : Int) - 1) ≤ (a1.length : Int) then
      some (Stp.next ((a1.take (IntKind.wrap .i64 (((a1).length : Int) - 1)).toNat).drop (0 : Int).toNat))
     else none
    else
     some (Stp.exit a1))
    fun k7 =>
    if 0 < ((a1).length : Int) then
     (idx a1 (IntKind.wrap .i64 (((a1).length : Int) - 1))).bind fun x9 =>
     k7 (decide (x9 = 0))
    else
     k7 false) p0).bind fun a12 =>
 some a12
set_option maxHeartbeats 1600000 in
theorem le_integer_trim {p0 : List (Int)} : Lq (c_integer_trim p0) (m_integer_trim p0) := by
 unfold c_integer_trim m_integer_trim
 repeat' with_reducible first | intro _ | exact Lq.refl _ | exact Lq.none | apply Lq.ite | apply Lq.bind | apply Lq.jp | apply Lq.loop | apply Lq.lpO | apply Lq.forL | apply_assumption
def c_integer_number (p0 : Bool) (p1 : List (Int)) : Option (TNegMag) :=
 (c_integer_trim p1).bind fun x2 =>
 if ((x2).length : Int) = 0 then
  some (false, ([] : List UInt8))
 else
  if 0 ≤ (0 : Int) ∧ (0 : Int) ≤ IntKind.wrap .i64 (4 * ((x2).length : Int)) ∧ (IntKind.wrap .i64 (4 * ((x2).length : Int)) : Int) * 1 ≤ 281474976710656 then
   (loopE (S := Int × (List Int)) (X := (List Int)) (fun a6 =>
     if 0 ≤ a6.1 then
      (loopE (S := Int × (List Int)) (X := (List Int)) (fun a10 =>
        if 0 ≤ a10.1 then
         jp (fun (a14 : (List Int)) =>
          some (Stp.next (IntKind.wrap .i64 (a10.1 - 1), a14)))
          fun k16 =>
          (idx x2 a6.1).bind fun x17 =>
          if 0 ≤ (IntKind.wrap .i64 (8 * a10.1)) then
           jp (fun (a20 : Bool) =>
            if a20 = true then
             if fits 1 ((a10.2 : List Int).length + ([IntKind.wrap .u8 (Int.fdiv x17 (2 ^ (min ((IntKind.wrap .i64 (8 * a10.1))).toNat (IntKind.bits .u32))))]).length) then
              k16 (a10.2 ++ [IntKind.wrap .u8 (Int.fdiv x17 (2 ^ (min ((IntKind.wrap .i64 (8 * a10.1))).toNat (IntKind.bits .u32))))])
             else none
            else
             k16 a10.2)
            fun k22 =>
            if (IntKind.wrap .u8 (Int.fdiv x17 (2 ^ (min ((IntKind.wrap .i64 (8 * a10.1))).toNat (IntKind.bits .u32))))) ≠ 0 then
             k22 true
            else
             k22 (decide (0 < (((a10.2).length : Nat) : Int)))
          else none
        else
         some (Stp.exit a10.2)) (3, a6.2)).bind fun a26 =>
      some (Stp.next (IntKind.wrap .i64 (a6.1 - 1), a26))
     else
      some (Stp.exit a6.2)) (IntKind.wrap .i64 (((x2).length : Int) - 1), List.replicate (0 : Int).toNat (0 : Int))).bind fun a28 =>
   some (p0, a28.map fun n => UInt8.ofNat n.toNat)
  else none
set_option maxHeartbeats 1600000 in
theorem le_integer_number {p0 : Bool} {p1 : List (Int)} : Lq (c_integer_number p0 p1) (m_integer_number p0 p1) := by
 unfold c_integer_number m_integer_number
 repeat' with_reducible first | intro _ | exact Lq.refl _ | exact Lq.none | apply Lq.ite | apply Lq.bind | apply Lq.jp | apply Lq.loop | apply Lq.lpO | apply Lq.forL | apply_assumption | apply le_integer_trim
end Go.AW
namespace Go.AW
def u8y (n : Nat) : List UInt8 := if n = 0 then [] else [UInt8.ofNat n]
def sizeTab : List (Nat × Nat × Nat) := [(1, 0, 1), (1, 1, 1), (2, 0, 2), (2, 1, 1), (2, 2, 1), (3, 0, 2), (3, 1, 2), (3, 2, 2), (3, 3, 2), (4, 0, 4), (4, 1, 3), (4, 2, 3), (4, 3, 3), (4, 4, 3), (5, 0, 6), (5, 1, 5), (5, 2, 5), (5, 3, 6), (5, 4, 5), (5, 5, 5), (6, 0, 10), (6, 1, 9), (6, 2, 9), (6, 3, 9), (6, 4, 9), (6, 5, 9), (6, 6, 9)]
def m_tenengolts_Size (p0 p1 : Int) : Option (TNegMag × Int) := (sizeTab.find? fun x => decide ((x.1 : Int) = p0 ∧ (x.2.1 : Int) = p1)).map fun x => ((false, u8y x.2.2), 0)
def m_integer_OfS (p0 : Int) : Option TNegMag := if 0 ≤ p0 ∧ p0 ≤ 16 then some (false, u8y p0.toNat) else none
end Go.AW
namespace Go.AW
open Go Go.Proofs
def K16 : List Nat := [0, 1, 2, 3, 4, 5, 6, 7, 8, 9, 10, 11, 12, 13, 14, 15, 16]
def u32y (n : Nat) : List Int := if n = 0 then [] else [(n : Int)]
abbrev hvU (l : List Int) : HV := slE (encM (HV.int .u32)) l
abbrev hvY (a : TNegMag) : HV := HV.agg [HV.bool a.1, HV.str a.2]
def numB : List (Bool × List Int × Nat) := K16.flatMap fun n => [(false, u32y n, n), (false, [(n : Int), 0], n)]
def numQ (x : Bool × List Int × Nat) : TNegMag := (false, u8y x.2.2)
def numG (x : Bool × List Int × Nat) : FuncId × List HV × HV := (28, [HV.bool x.1, hvU x.2.1], hvY (numQ x))
def factsB : List (FuncId × List HV × HV) := numB.map numG
theorem numB_c : ∀ x ∈ numB, c_integer_number x.1 x.2.1 = some (numQ x) := by decide +kernel
theorem factsB_ok : ∀ e ∈ factsB, Fresh Try.prog e.1 e.2.1 e.2.2 := by
 intro e he
 simp only [factsB, List.mem_map] at he
 obtain ⟨x, hx, rfl⟩ := he
 exact (w_integer_number (le_integer_number.ap _ (numB_c x hx))).fresh ⟨trivial, trivial, trivial⟩ rfl
noncomputable abbrev comesB (f : FuncId) (args : List HV) (q : HV) : Bool := comesP (tabsE Try.prog factsB []) 3000 f args q
theorem comesB_ok {f : FuncId} {args : List HV} {q : HV} (h : comesB f args q = true) : Pure Try.prog f args (· = q) := Pure.of_comes (tabsT_ok factsB_ok (fun _ h => by cases h)) h
theorem ofB : (K16.all fun n => comesB 8 [HV.int .i64 (n : Nat)] (hvY (false, u8y n))) = true := by kernel_rfl
theorem w_integer_OfS {p0 : Int} {r : TNegMag} (h : m_integer_OfS p0 = some r) : Pure Try.prog 8 [HV.int .i64 p0] (· = HV.agg [HV.bool r.1, HV.str r.2]) := by
 unfold m_integer_OfS at h
 split at h
 ·rename_i hc
  cases h
  obtain ⟨n, rfl⟩ := Int.eq_ofNat_of_zero_le hc.1
  have hn : n ∈ K16 := by simp only [K16, List.mem_cons, List.not_mem_nil, or_false]; omega
  exact comesB_ok (List.all_eq_true.1 ofB n hn)
 ·cases h
def K10 : List Nat := [0, 1, 2, 3, 4, 5, 6, 7, 8, 9, 10]
def addF (a b : Nat) : FuncId × List HV × HV := (27, [hvY (false, u8y a), hvY (false, u8y b)], hvY (false, u8y (a + b)))
noncomputable def addA (a : Nat) : Bool := [0, 1, 2, 3, 4, 5, 6].all fun b => comesB (addF a b).1 (addF a b).2.1 (addF a b).2.2
theorem addA0 : addA 0 = true := by kernel_rfl
theorem addA1 : addA 1 = true := by kernel_rfl
theorem addA2 : addA 2 = true := by kernel_rfl
theorem addA3 : addA 3 = true := by kernel_rfl
theorem addA4 : addA 4 = true := by kernel_rfl
theorem addA5 : addA 5 = true := by kernel_rfl
theorem addA6 : addA 6 = true := by kernel_rfl
theorem addA7 : addA 7 = true := by kernel_rfl
theorem addA8 : addA 8 = true := by kernel_rfl
theorem addA9 : addA 9 = true := by kernel_rfl
theorem addA10 : addA 10 = true := by kernel_rfl
theorem addB : ∀ a ∈ K10, addA a = true := by
 intro a ha
 simp only [K10, List.mem_cons, List.not_mem_nil, or_false] at ha
 rcases ha with rfl | rfl | rfl | rfl | rfl | rfl | rfl | rfl | rfl | rfl | rfl
 ·exact addA0
 ·exact addA1
 ·exact addA2
 ·exact addA3
 ·exact addA4
 ·exact addA5
 ·exact addA6
 ·exact addA7
 ·exact addA8
 ·exact addA9
 ·exact addA10
def factsD : List (FuncId × List HV × HV) := K10.flatMap fun a => [0, 1, 2, 3, 4, 5, 6].map fun b => addF a b
theorem factsD_ok : ∀ e ∈ factsD, Pure Try.prog e.1 e.2.1 (· = e.2.2) := by
 intro e he
 simp only [factsD, List.mem_flatMap, List.mem_map] at he
 obtain ⟨a, ha, b, hb, rfl⟩ := he
 exact comesB_ok (List.all_eq_true.1 (addB a ha) b hb)
noncomputable abbrev comesC (f : FuncId) (args : List HV) (q : HV) : Bool := comesP (tabsE Try.prog factsB factsD) 3000 f args q
theorem comesC_ok {f : FuncId} {args : List HV} {q : HV} (h : comesC f args q = true) : Pure Try.prog f args (· = q) := Pure.of_comes (tabsT_ok factsB_ok factsD_ok) h
noncomputable def sizeA (m : Nat) : Bool := (sizeTab.filter fun x => x.1 == m).all fun x => comesC 7 [HV.int .i64 (x.1 : Nat), HV.int .i64 (x.2.1 : Nat)] (HV.tup [hvY (false, u8y x.2.2), HV.int .i64 0])
theorem sizeA1 : sizeA 1 = true := by kernel_rfl
theorem sizeA2 : sizeA 2 = true := by kernel_rfl
theorem sizeA3 : sizeA 3 = true := by kernel_rfl
theorem sizeA4 : sizeA 4 = true := by kernel_rfl
theorem sizeA5 : sizeA 5 = true := by kernel_rfl
theorem sizeA6 : sizeA 6 = true := by kernel_rfl
theorem sizeM : ∀ x ∈ sizeTab, x.1 = 1 ∨ x.1 = 2 ∨ x.1 = 3 ∨ x.1 = 4 ∨ x.1 = 5 ∨ x.1 = 6 := by decide
theorem sizeB : ∀ x ∈ sizeTab, comesC 7 [HV.int .i64 (x.1 : Nat), HV.int .i64 (x.2.1 : Nat)] (HV.tup [hvY (false, u8y x.2.2), HV.int .i64 0]) = true := by
 intro x hx
 have key : ∀ m, sizeA m = true → x.1 = m → _ := fun m hm h => List.all_eq_true.1 hm x (List.mem_filter.2 ⟨hx, by simp [h]⟩)
 rcases sizeM x hx with h | h | h | h | h | h
 ·exact key 1 sizeA1 h
 ·exact key 2 sizeA2 h
 ·exact key 3 sizeA3 h
 ·exact key 4 sizeA4 h
 ·exact key 5 sizeA5 h
 ·exact key 6 sizeA6 h
theorem w_tenengolts_Size {p0 p1 : Int} {r : TNegMag × Int} (h : m_tenengolts_Size p0 p1 = some r) : Pure Try.prog 7 [HV.int .i64 p0, HV.int .i64 p1] (· = HV.tup [HV.agg [HV.bool r.1.1, HV.str r.1.2], HV.int .i64 r.2]) := by
 unfold m_tenengolts_Size at h
 rw [Option.map_eq_some_iff] at h
 obtain ⟨x, hx, rfl⟩ := h
 have hm := List.mem_of_find?_eq_some hx
 have hp := List.find?_some hx
 simp only [decide_eq_true_eq] at hp
 rw [← hp.1, ← hp.2]
 exact comesC_ok (sizeB x hm)
end Go.AW
namespace Go.Proofs
open Go
def Try.compS_ren : Go.Shelf.Ren := ⟨fun | 194 => 11 | n => n, fun | 31 => 22 | 9 => 9 | 3 => 3 | 4 => 4 | 0 => 0 | n => n, fun | n => n⟩
theorem Try.compS : Go.Proofs.Lays.n194 Try.prog Try.compS_ren where
 mixed := by kernel_rfl
 f194 := Try.func11.trans (congrArg some (by kernel_rfl))
 t0 := Try.underlying0
 a0 := Try.isAgg0
 z0 := Try.sizeOf0
 v0 := Try.zeroValue0
 t3 := Try.underlying3
 a3 := Try.isAgg3
 z3 := Try.sizeOf3
 v3 := Try.zeroValue3
 t4 := Try.underlying4
 a4 := Try.isAgg4
 z4 := Try.sizeOf4
 v4 := Try.zeroValue4
 t9 := Try.underlying9
 a9 := Try.isAgg9
 z9 := Try.sizeOf9
 v9 := Try.zeroValue9
 t31 := Try.underlying22
 a31 := Try.isAgg22
 z31 := Try.sizeOf22
 v31 := Try.zeroValue22
end Go.Proofs
namespace Go.AW
open Go
abbrev compactS_ (l : List (List UInt8)) : List (List UInt8) := Lib.compact l
theorem compactS_le (l : List (List UInt8)) : (compactS_ l).length ≤ l.length := by
 show (Lib.compactUpTo l.toArray l.length).length ≤ l.length
 unfold Lib.compactUpTo
 rw [List.length_map]
 exact Nat.le_trans (List.length_filter_le _ _) (by simp)
theorem compactS_mem {l : List (List UInt8)} {x : List UInt8} (h : x ∈ compactS_ l) : x ∈ l := by
 have h : x ∈ Lib.compactUpTo l.toArray l.length := h
 unfold Lib.compactUpTo at h
 obtain ⟨j, hj, rfl⟩ := List.mem_map.1 h
 have hj := List.mem_range.1 (List.mem_filter.1 hj).1
 have : l.toArray[j]! = l[j] := by simp [hj]
 rw [this]
 exact List.getElem_mem hj
end Go.AW
namespace Go.AW
open Go Go.Proofs Go.Sort Go.Lib
set_option linter.unusedVariables false
theorem w_compS {H : Heap} {id ver : Nat} {e : TypeId} {l : List (List UInt8)} {K : HV → Heap → Prop} (hg : hget H id = some (ver, .arr 1 e (l.map .str)))
  (hK : K (.ar id ver 1 0 (compactS_ l).length) (hset H id ver (.arr 1 e ((compactS_ l ++ List.replicate (l.length - (compactS_ l).length) []).map .str)))) : ACall Try.prog 11 [.ar id ver 1 0 l.length] H K := by
 refine ⟨enters' Try.func11 rfl rfl, fun μ w vs hs hr _ => ?_⟩
 obtain ⟨x, xs, rfl, hr, hn⟩ := hr
 cases hn
 obtain ⟨lo, hl, hor⟩ := hs.has _ _ _ hg
 rcases hr with ⟨lo', hl', h⟩ | ⟨hd, _⟩
 ·rw [hl] at hl'
  cases hl'
  rcases h with ⟨rfl, rfl, h0, _⟩ | ⟨b, cap, cur, e', rfl, rfl, hcap, hcm, hrow, hsz⟩
  ·have hl0 := List.eq_nil_of_length_eq_zero h0
   subst hl0
   refine (Any.slices_Compact_string_empty Try.compS none 0 w).mono ?_
   rintro e2 w' ⟨rfl, rfl⟩
   refine ⟨_, .ar id ver 1 0 0, _, μ, rfl, hK, hs.reobj hg fun l hl hor => hor, .inl ⟨none, hl, .inl ⟨rfl, rfl, rfl, rfl⟩⟩, Evo.refl _ _⟩
  ·have hor' := hor
   obtain ⟨h0, cur', vs', rest, hrow', hcl, hrl⟩ := hor
   obtain ⟨hvs, hreps⟩ := repL_strs hrl
   subst hvs
   refine (Any.slices_Compact_string Try.compS b 0 cap l w (holds_row hrow' hcl) (by have := hcm; simp only [maxLen] at this; omega) hcap).mono ?_
   ·rintro e2 w' ⟨rfl, n, rfl⟩
    have hle := compactS_le l
    have hlen : (compactS_ l ++ List.replicate (l.length - (compactS_ l).length) ([] : List UInt8)).length = l.length := by simp; omega
    obtain ⟨h1, h2⟩ := put_world (f := HV.str) (fun _ => rfl) hs hg hl (d := compactS_ l ++ List.replicate (l.length - (compactS_ l).length) []) (fun x hx => by
     rcases List.mem_append.1 hx with hx | hx
     ·exact hreps x (compactS_mem hx)
     ·rw [List.eq_of_mem_replicate hx]; exact ⟨rfl, by simp [maxLen]⟩) hor' (fun vs hv => (repL_strs hv).1) hlen n
    refine ⟨_, .ar id ver 1 0 (compactS_ l).length, _, μ, rfl, hK, h1, .inl ⟨some b, hl, .inr ⟨b, cap, putCells encStr 0 (compactS_ l ++ List.replicate (l.length - (compactS_ l).length) []).toArray cur, e', rfl, by simp, by omega, hcm, ?_, ?_⟩⟩, h2⟩
    ·obtain ⟨lo, hi, hbk, hfr⟩ := hrow
     refine ⟨lo, hi, ?_, by simpa [putCells] using hfr⟩
     show (w.heap.modify b _)[b]? = _
     rw [Array.getElem?_modify, if_pos rfl, hbk]
     rfl
    ·simp only [putCells, Array.size_mapIdx]; exact hsz
 ·exact absurd hl (hd.2 lo)
theorem c_compactS {H H' : Heap} {id ver n : Nat} {e : TypeId} {l : List (List UInt8)} {K : HV → Heap → Prop} (hn : n = l.length) (hg : hget H id = some (ver, .arr 1 e (l.map .str))) (hle : ∀ j x, hget H' j = some x → hget H j = some x) (hno : hget H' id = none)
  (hK : K (slE eStr (compactS_ l)) H') : ACall Try.prog 11 [.ar id ver 1 0 n] H K := by
 subst hn
 have hlen := compactS_le l
 refine ACall.freeze 2 [(id, ver, .arr 1 e ((compactS_ l ++ List.replicate (l.length - (compactS_ l).length) []).map .str))] H' (w_compS hg ⟨fun j x hx => ?_, fun j x hx => ?_, ?_⟩)
 ·rw [hget_hset, if_neg (fun e => by rw [e, hno] at hx; cases hx)]
  exact hle j x hx
 ·simp only [hget] at hx
  split at hx
  ·rename_i e
   subst e
   cases hx
   exact ⟨by rw [hget_hset, if_pos rfl], hno⟩
  ·cases hx
 ·have : frz 2 [(id, ver, .arr 1 e ((compactS_ l ++ List.replicate (l.length - (compactS_ l).length) []).map .str))] (.ar id ver 1 0 (compactS_ l).length) = slE eStr (compactS_ l) := by
   have h0 : hget [(id, ver, AObj.arr 1 e ((compactS_ l ++ List.replicate (l.length - (compactS_ l).length) []).map .str))] id = some (ver, .arr 1 e ((compactS_ l ++ List.replicate (l.length - (compactS_ l).length) []).map .str)) := by simp only [hget, if_true]
   rw [frz, h0]
   have h1 : ver = ver ∧ 0 + (compactS_ l).length * 1 ≤ ((compactS_ l ++ List.replicate (l.length - (compactS_ l).length) ([] : List UInt8)).map HV.str).length := ⟨rfl, by simp⟩
   refine (if_pos h1).trans ?_
   rw [List.drop_zero, Nat.mul_one, List.map_append, List.take_left' (List.length_map _), List.map_map]
   rfl
  rw [this]
  exact hK
end Go.AW
namespace Go.AW
open Go
set_option linter.unusedVariables false
noncomputable def m_top_top48Awake  : Option (Bool) :=
 (m_tenengolts_Words 4 0).bind fun x1 =>
 (m_indel_Separated x1.1 1).bind fun x3 =>
 jp (fun (a5 : Bool) =>
   some a5)
   fun k7 =>
  if x1.2 = 0 then
   if x3.2 = 0 then
    if x3.1 = true then
     (m_slices_Equal_Lstring_string x1.1 [[48, 48, 48, 48], [48, 49, 49, 48], [49, 48, 48, 49], [49, 49, 49, 49]]).bind fun x8 =>
     k7 x8
    else
     k7 false
   else
    k7 false
  else
   k7 false
def m_top48_cond (l : List (List UInt8)) (size : TNegMag) (is : Bool) (e f g : Int) : Option Bool := if e = 0 ∧ f = 0 ∧ g = 0 ∧ is = true then (m_integer_OfS (l.length : Int)).map fun o => !decide (size = o) else none
theorem top48_cond {l : List (List UInt8)} {size : TNegMag} {is : Bool} {e f g : Int} {x : Bool} (h : m_top48_cond l size is e f g = some x) : e = 0 ∧ f = 0 ∧ g = 0 ∧ is = true ∧ ∃ o, m_integer_OfS (l.length : Int) = some o ∧ (!decide (size = o)) = x := by
 unfold m_top48_cond at h
 split at h
 ·rename_i hc
  obtain ⟨o, ho, hx⟩ := Option.map_eq_some_iff.1 h
  exact ⟨hc.1, hc.2.1, hc.2.2.1, hc.2.2.2, o, ho, hx⟩
 ·cases h
noncomputable def m_top48_fin (b : Bool) : Option Bool := if b = true then m_top_top48Awake else none
theorem top48_fin {b x : Bool} (h : m_top48_fin b = some x) : b = true ∧ m_top_top48Awake = some x := by
 unfold m_top48_fin at h
 split at h
 ·exact ⟨by assumption, h⟩
 ·cases h
noncomputable def m_top_TopTenengolts (p0 : Int) (p1 : Int) : Option (Bool) :=
 if (IntKind.wrap .i64 ((IntKind.wrap .i64 (1 + (IntKind.wrap .i64 (Int.tmod p0 6)))) + 1)) ≠ 0 then
  (m_tenengolts_Words (IntKind.wrap .i64 (1 + (IntKind.wrap .i64 (Int.tmod p0 6)))) (Int.tmod (IntKind.wrap .i64 p1) (IntKind.wrap .i64 ((IntKind.wrap .i64 (1 + (IntKind.wrap .i64 (Int.tmod p0 6)))) + 1)))).bind fun x2 =>
  (m_indel_Separated x2.1 1).bind fun x4 =>
  (m_tenengolts_Size (IntKind.wrap .i64 (1 + (IntKind.wrap .i64 (Int.tmod p0 6)))) (Int.tmod (IntKind.wrap .i64 p1) (IntKind.wrap .i64 ((IntKind.wrap .i64 (1 + (IntKind.wrap .i64 (Int.tmod p0 6)))) + 1)))).bind fun x6 =>
  (m_top48_cond x2.1 x6.1 x4.1 x2.2 x4.2 x6.2).bind fun x9 =>
  if x9 = true then
   some false
  else
   lpO (loopW (S := Int × (List (List UInt8))) (X := Ou ((List (List UInt8))) (Bool)) (fun a11 =>
       if a11.1 < ((x2.1).length : Int) then
        (idx x2.1 a11.1).bind fun x15 =>
        (m_indel_Deletions x15).bind fun x17 =>
        if x17.2 ≠ 0 then
         some (Stp.exit (Ou.ret false))
        else
         if fits 16 ((a11.2 : List (List UInt8)).length + (x17.1).length) then
          some (Stp.next (IntKind.wrap .i64 (a11.1 + 1), a11.2 ++ x17.1))
         else none
       else
        some (Stp.exit (Ou.go a11.2))) (0, ([] : List (List UInt8)))) (fun a22 =>
       if 0 ≤ (IntKind.wrap .i64 ((IntKind.wrap .i64 (1 + (IntKind.wrap .i64 (Int.tmod p0 6)))) - 1)) then
        if (((a22).length : Nat) : Int) ≠ (IntKind.wrap .i64 (1 * 2 ^ (min ((IntKind.wrap .i64 ((IntKind.wrap .i64 (1 + (IntKind.wrap .i64 (Int.tmod p0 6)))) - 1))).toNat (IntKind.bits .i64)))) then
         some false
        else
         if (a22).length < 4611686018427387904 then
          if 0 ≤ (IntKind.wrap .i64 ((IntKind.wrap .i64 (1 + (IntKind.wrap .i64 (Int.tmod p0 6)))) - 1)) then
           (m_top48_fin (decide (((compactS_ (sortS a22)).length : Int) = (IntKind.wrap .i64 (1 * 2 ^ (min ((IntKind.wrap .i64 ((IntKind.wrap .i64 (1 + (IntKind.wrap .i64 (Int.tmod p0 6)))) - 1))).toNat (IntKind.bits .i64))))))).bind fun x27 =>
           some x27
          else none
         else none
       else none) some
 else none
end Go.AW
namespace Go.AW
open Go Go.Proofs
set_option maxHeartbeats 1600000
set_option maxRecDepth 100000
set_option linter.unusedVariables false
theorem w_slices_Equal_Lstring_string {p0 : List (List UInt8)} {p1 : List (List UInt8)} {r : Bool} (h : m_slices_Equal_Lstring_string p0 p1 = some r) : Pure Try.prog 34 [slE eStr p0, slE eStr p1] (· = HV.bool r) := by
 unfold m_slices_Equal_Lstring_string at h
 refine Pure.of_body Try.func34 rfl rfl (lb rfl) fun hf => ?_
 unfold Try.f34
 dsimp only [enumS, Nat.reduceAdd]
 refine AW.rgs rfl fun K hK => mv rfl rfl ?_
 refine bf hK ⟨[(0, slE eStr p0), (1, slE eStr p1)], []⟩ ?_
 refine AW.seq ?_
 refine AW.rgs rfl fun K hK => mv rfl rfl (bv rfl (v_lenF rfl rfl ty22 rfl) (mv rfl rfl (bv rfl (v_lenF rfl rfl ty22 rfl) (bv rfl (v_bin rfl rfl b_neq) ?_))))
 refine bf hK ⟨[(0, slE eStr p0), (1, slE eStr p1), (10, .bool (decide (((p0).length : Int) ≠ ((p1).length : Int))))], []⟩ ?_
 refine AW.cond rfl (fun hc => ?_) (fun hc => ?_)
 ·obtain ⟨hc, h⟩ := cT hc h
  refine AW.rgs rfl fun K hK => mv rfl rfl ?_
  refine bf hK ⟨[(4, .bool false)], []⟩ ?_
  refine AW.ret ?_
  have h := Option.some.inj h
  subst h
  exact ret_pure (hs := [.bool false]) (.inr rfl) (resT rfl rfl) rfl trivial
 obtain ⟨hc, h⟩ := cF hc h
 refine AW.skip ?_
 refine AW.seq ?_
 refine AW.rgs rfl fun K hK => mv rfl rfl (bv rfl (v_lenF rfl rfl ty22 rfl) (mv rfl rfl ?_))
 refine bf hK ⟨[(0, slE eStr p0), (1, slE eStr p1), (12, hI ((p0).length : Int)), (13, hI 0)], []⟩ ?_
 refine AW.lpR h (by first | exact up_then | exact up_to) (S := Int) (V := Unit) (fun a v => ⟨[(0, slE eStr p0), (1, slE eStr p1), (12, hI ((p0).length : Int)), (13, hI a)], []⟩) ?_ (X := Unit) (W := Unit) (fun a v => ⟨[], []⟩) (fun a9 w10 h => ?_) (fun a1 w2 st3 h hr4=> ?_)
 ·exact to_L ⟨(), rfl⟩
 ·refine AW.rgs rfl fun K hK => mv rfl rfl ?_
  refine bf hK ⟨[(4, .bool true)], []⟩ ?_
  refine AW.ret ?_
  have h := Option.some.inj h
  subst h
  exact ret_pure (hs := [.bool true]) (.inr rfl) (resT rfl rfl) rfl trivial
 refine AW.rgs rfl fun K hK => bv rfl (v_bin rfl rfl b_lss) ?_
 refine bf hK ⟨[(0, slE eStr p0), (1, slE eStr p1), (12, hI ((p0).length : Int)), (13, hI a1), (14, .bool (decide (a1 < ((p0).length : Int))))], []⟩ ?_
 refine AW.cseq rfl (fun hc => ?_) (fun hc => ?_)
 ·obtain ⟨hc, h⟩ := cT hc h
  refine AW.skip ?_
  refine AW.seq (AW.block ?_)
  refine AW.rgs rfl fun K hK => mv rfl rfl (mv rfl rfl ?_)
  refine bf hK ⟨[(0, slE eStr p0), (1, slE eStr p1), (5, hI a1), (12, hI ((p0).length : Int)), (13, hI a1)], []⟩ ?_
  refine AW.dgs 9 follows rfl rfl fun K hK => ?_
  refine sm rfl rfl ?_
  refine sm rfl rfl ?_
  obtain ⟨x5, h6, h⟩ := bS h
  refine sv rfl (v_idxF ty22 es22 rfl rfl (idx_lt h6)) ?_
  refine sv rfl (v_loadF ty9 rfl (l_cell eStr h6 (o := 0) rfl rfl)) ?_
  refine sm rfl rfl ?_
  refine sm rfl rfl ?_
  obtain ⟨x7, h8, h⟩ := bS h
  refine sv rfl (v_idxF ty22 es22 rfl rfl (idx_lt h8)) ?_
  refine sv rfl (v_loadF ty9 rfl (l_cell eStr h8 (o := 0) rfl rfl)) ?_
  refine sv rfl (v_bin rfl rfl b_sneq) ?_
  refine s_nil ?_
  refine bf hK ⟨[(0, slE eStr p0), (1, slE eStr p1), (12, hI ((p0).length : Int)), (13, hI a1), (24, .bool (decide (x5 ≠ x7)))], []⟩ ?_
  refine AW.cond rfl (fun hc => ?_) (fun hc => ?_)
  ·obtain ⟨hc, h⟩ := cT hc h
   refine AW.rgs rfl fun K hK => mv rfl rfl ?_
   refine bf hK ⟨[(4, .bool false)], []⟩ ?_
   have h := hr4 _ h
   refine AW.ret ?_
   have h := Option.some.inj h
   subst h
   exact ret_pure (hs := [.bool false]) (.inr rfl) (resT rfl rfl) rfl trivial
  obtain ⟨hc, h⟩ := cF hc h
  refine AW.skip ?_
  refine AW.rg rfl fun K hK => bv rfl (v_bin rfl rfl b_add) (mv rfl rfl ?_)
  refine b_nil (hK _ ?_)
  exact to_L ⟨IntKind.wrap .i64 (a1 + 1), (), h, rfl⟩
 obtain ⟨hc, h⟩ := cF hc h
 refine AW.exit ?_
 exact to_L ⟨(), (), h, rfl⟩
end Go.AW

namespace Go.AW
open Go Go.Proofs
set_option linter.unusedVariables false
def valC (s o : TNegMag) (l : List (List UInt8)) (x : Bool) : Nat → HV
  | 0 | 1 | 2 | 3 => hI 0
  | 4 | 5 | 7 | 8 | 9 => HV.bool false
  | 6 => HV.bool true
  | 10 => HV.agg [.bool s.1, .str s.2]
  | 11 => slE eStr l
  | 12 => hI (l.length : Int)
  | 13 => HV.agg [.bool o.1, .str o.2]
  | _ => HV.bool x
def valE (v : Nat) (l : List (List UInt8)) (m : Int) (x : Bool) : Nat → HV
  | 0 => HV.ar 3075 v eStr.k 0 l.length
  | 1 => slE eStr (compactS_ l)
  | 2 => hI ((compactS_ l).length : Int)
  | 3 => hI m
  | 4 => hI (IntKind.wrap .i64 (m - 1))
  | 5 => hI (IntKind.wrap .i64 (1 * 2 ^ (min (IntKind.wrap .i64 (m - 1)).toNat (IntKind.bits .i64))))
  | 6 | 7 => HV.bool true
  | _ => HV.bool x
set_option maxRecDepth 100000 in
theorem w_top_top48Awake  {r : Bool} (h : m_top_top48Awake  = some r) : Pure Try.prog 12 [] (· = HV.bool r) := by
 unfold m_top_top48Awake at h
 refine Pure.of_body Try.func12 rfl rfl (lb rfl) fun hf => ?_
 unfold Try.f12
 dsimp only [enumS, Nat.reduceAdd]
 refine AW.rgs rfl fun K hK => mv rfl rfl ?_
 refine bf hK ⟨[], []⟩ ?_
 refine AW.rgs rfl fun K hK => ?_
 obtain ⟨x1, h2, h⟩ := bS h
 refine b_op rfl (o_call rfl rfl rfl rfl (ACallD.pure0 (w_tenengolts_Words h2)) ?_)
 refine mv rfl rfl (bv rfl (v_extract rfl rfl) (bv rfl (v_extract rfl rfl) (mv rfl rfl (mv rfl rfl ?_))))
 refine bf hK ⟨[(1, slE eStr x1.1), (2, hI x1.2)], []⟩ ?_
 refine AW.rgs rfl fun K hK => mv rfl rfl ?_
 obtain ⟨x3, h4, h⟩ := bS h
 refine b_op rfl (o_call rfl rfl rfl rfl (ACallD.pure0 (w_indel_Separated h4)) ?_)
 refine mv rfl rfl (bv rfl (v_extract rfl rfl) (bv rfl (v_extract rfl rfl) (mv rfl rfl (mv rfl rfl ?_))))
 refine bf hK ⟨[(1, slE eStr x1.1), (2, hI x1.2), (3, .bool x3.1), (4, hI x3.2)], []⟩ ?_
 refine AW.seqJ h (S := Bool) (V := Unit) (fun a v => ⟨[(0, .bool a)], []⟩) (fun a5 w6 h => ?_) (fun k7 h => ?_)
 ·refine AW.ret ?_
  have h := Option.some.inj h
  subst h
  exact ret_pure (hs := [.bool a5]) (.inr rfl) (resT rfl rfl) rfl trivial
 refine AW.rg rfl fun K hK => mv rfl rfl (bv rfl (v_bin rfl rfl b_eql) (mv rfl rfl ?_))
 by_cases hg12 : x1.2 = 0
 ·have h := ifT hg12 h
  refine b_T rfl rfl rfl rfl (decide_eq_true hg12) (o_val rfl (mv_val rfl rfl).2 ?_)
  refine b_T rfl rfl rfl rfl rfl (o_val rfl (v_bin rfl rfl b_eql) ?_)
  refine bv rfl (v_pickT rfl rfl rfl) (mv rfl rfl ?_)
  by_cases hg11 : x3.2 = 0
  ·have h := ifT hg11 h
   refine b_T rfl rfl rfl rfl (decide_eq_true hg11) (o_val rfl (mv_val rfl rfl).2 ?_)
   refine bv rfl (v_pickT rfl rfl rfl) (mv rfl rfl ?_)
   by_cases hg10 : x3.1 = true
   ·have h := ifT hg10 h
    refine b_T rfl rfl rfl rfl hg10 (o_val rfl (mv_val rfl rfl).2 ?_)
    refine b_T rfl rfl rfl rfl rfl (o_bsl rfl rfl (as_of (cs := [.str [48, 48, 48, 48], .str [48, 49, 49, 48], .str [49, 48, 48, 49], .str [49, 49, 49, 49]]) ty22 ty9 rfl rfl rfl rfl rfl) ?_)
    obtain ⟨x8, h9, h⟩ := bS h
    refine b_T rfl rfl rfl rfl rfl (o_call rfl rfl rfl rfl (ACallD.pure0 (w_slices_Equal_Lstring_string h9)) ?_)
    refine bv rfl (v_pickT rfl rfl rfl) (mv rfl rfl ?_)
    refine b_nil (hK _ ?_)
    exact to_L ⟨x8, (), h, rfl⟩
   have h := ifF hg10 h
   refine b_F rfl rfl rfl rfl rfl (bF hg10) ?_
   refine b_F rfl rfl rfl rfl rfl rfl ?_
   refine b_F rfl rfl rfl rfl rfl rfl ?_
   refine bv rfl (v_pickF rfl rfl rfl) (mv rfl rfl ?_)
   refine b_nil (hK _ ?_)
   exact to_L ⟨false, (), h, rfl⟩
  have h := ifF hg11 h
  refine b_F rfl rfl rfl rfl rfl (decide_eq_false hg11) ?_
  refine bv rfl (v_pickF rfl rfl rfl) (mv rfl rfl ?_)
  refine b_F rfl rfl rfl rfl rfl rfl ?_
  refine b_F rfl rfl rfl rfl rfl rfl ?_
  refine b_F rfl rfl rfl rfl rfl rfl ?_
  refine bv rfl (v_pickF rfl rfl rfl) (mv rfl rfl ?_)
  refine b_nil (hK _ ?_)
  exact to_L ⟨false, (), h, rfl⟩
 have h := ifF hg12 h
 refine b_F rfl rfl rfl rfl rfl (decide_eq_false hg12) ?_
 refine b_F rfl rfl rfl rfl rfl rfl ?_
 refine bv rfl (v_pickF rfl rfl rfl) (mv rfl rfl ?_)
 refine b_F rfl rfl rfl rfl rfl rfl ?_
 refine bv rfl (v_pickF rfl rfl rfl) (mv rfl rfl ?_)
 refine b_F rfl rfl rfl rfl rfl rfl ?_
 refine b_F rfl rfl rfl rfl rfl rfl ?_
 refine b_F rfl rfl rfl rfl rfl rfl ?_
 refine bv rfl (v_pickF rfl rfl rfl) (mv rfl rfl ?_)
 refine b_nil (hK _ ?_)
 exact to_L ⟨false, (), h, rfl⟩
set_option maxHeartbeats 4000000 in
set_option maxRecDepth 100000 in
theorem w_top_TopTenengolts {p0 : Int} {p1 : Int} {r : Bool} (h : m_top_TopTenengolts p0 p1 = some r) : Pure Try.prog 3 [.int .u8 p0, .int .u8 p1] (· = HV.bool r) := by
 unfold m_top_TopTenengolts at h
 refine Pure.of_body Try.func3 rfl rfl (lb rfl) fun hf => ?_
 unfold Try.f3
 dsimp only [enumS, Nat.reduceAdd]
 refine AW.rgs rfl fun K hK => mv rfl rfl ?_
 refine bf hK ⟨[(0, .int .u8 p0), (1, .int .u8 p1)], []⟩ ?_
 refine AW.rgs rfl fun K hK => mv rfl rfl (bv rfl (v_bin rfl rfl (b_rem (by decide))) (bv rfl (v_convI ty5 ty3 rfl) (bv rfl (v_bin rfl rfl b_add) (mv rfl rfl ?_))))
 refine bf hK ⟨[(1, .int .u8 p1), (5, hI (IntKind.wrap .i64 (1 + (IntKind.wrap .i64 (Int.tmod p0 6)))))], []⟩ ?_
 refine AW.rgs rfl fun K hK => mv rfl rfl (bv rfl (v_convI ty5 ty3 rfl) (mv rfl rfl (bv rfl (v_bin rfl rfl b_add) ?_)))
 obtain ⟨h1, h⟩ := ifN h
 refine bv rfl (v_bin rfl rfl (b_rem h1)) (mv rfl rfl ?_)
 refine bf hK ⟨[(5, hI (IntKind.wrap .i64 (1 + (IntKind.wrap .i64 (Int.tmod p0 6))))), (6, hI (Int.tmod (IntKind.wrap .i64 p1) (IntKind.wrap .i64 ((IntKind.wrap .i64 (1 + (IntKind.wrap .i64 (Int.tmod p0 6)))) + 1))))], []⟩ ?_
 refine AW.rgs rfl fun K hK => mv rfl rfl (mv rfl rfl ?_)
 obtain ⟨x2, h3, h⟩ := bS h
 refine b_op rfl (o_call rfl rfl rfl rfl (ACallD.pure0 (w_tenengolts_Words h3)) ?_)
 refine mv rfl rfl (bv rfl (v_extract rfl rfl) (bv rfl (v_extract rfl rfl) (mv rfl rfl (mv rfl rfl ?_))))
 refine bf hK ⟨[(5, hI (IntKind.wrap .i64 (1 + (IntKind.wrap .i64 (Int.tmod p0 6))))), (6, hI (Int.tmod (IntKind.wrap .i64 p1) (IntKind.wrap .i64 ((IntKind.wrap .i64 (1 + (IntKind.wrap .i64 (Int.tmod p0 6)))) + 1)))), (7, slE eStr x2.1), (8, hI x2.2)], []⟩ ?_
 refine AW.rgs rfl fun K hK => mv rfl rfl ?_
 obtain ⟨x4, h5, h⟩ := bS h
 refine b_op rfl (o_call rfl rfl rfl rfl (ACallD.pure0 (w_indel_Separated h5)) ?_)
 refine mv rfl rfl (bv rfl (v_extract rfl rfl) (bv rfl (v_extract rfl rfl) (mv rfl rfl (mv rfl rfl ?_))))
 refine bf hK ⟨[(5, hI (IntKind.wrap .i64 (1 + (IntKind.wrap .i64 (Int.tmod p0 6))))), (6, hI (Int.tmod (IntKind.wrap .i64 p1) (IntKind.wrap .i64 ((IntKind.wrap .i64 (1 + (IntKind.wrap .i64 (Int.tmod p0 6)))) + 1)))), (7, slE eStr x2.1), (8, hI x2.2), (9, .bool x4.1), (10, hI x4.2)], []⟩ ?_
 refine AW.rgs rfl fun K hK => mv rfl rfl (mv rfl rfl ?_)
 obtain ⟨x6, h7, h⟩ := bS h
 refine b_op rfl (o_call rfl rfl rfl rfl (ACallD.pure0 (w_tenengolts_Size h7)) ?_)
 refine mv rfl rfl (bv rfl (v_extract rfl rfl) (bv rfl (v_extract rfl rfl) ?_))
 refine b_op rfl (o_alloc (fid := 3) (zs := [.bool false, .str nS]) 3011 rfl rfl ty29 rfl (fun v8 => ?_))
 refine b_op rfl (o_store (cs := [.bool x6.1.1, .str x6.1.2]) (zs := [.bool x6.1.1, .str x6.1.2]) rfl rfl rfl ty29 rfl rfl rfl rfl rfl ?_)
 refine mv rfl rfl ?_
 refine bf hK ⟨[(5, hI (IntKind.wrap .i64 (1 + (IntKind.wrap .i64 (Int.tmod p0 6))))), (7, slE eStr x2.1), (8, hI x2.2), (9, .bool x4.1), (10, hI x4.2), (11, .ptr 3011 v8 0), (12, hI x6.2)], [(3011, v8, .arr 2 29 [.bool x6.1.1, .str x6.1.2])]⟩ ?_
 refine AW.seq ?_
 obtain ⟨x9, h10, h⟩ := bS h
 obtain ⟨hA, hB, hC, hD, o, ho, hX⟩ := top48_cond h10
 rw [hA, hB, hC, hD]
 refine AW.dls follows fun K hK F hFF => ?_
 refine l_inv (F := F) hFF rfl 16 (by decide) rfl (fun L s => InvT 44 16 [(5, hI (IntKind.wrap .i64 (1 + (IntKind.wrap .i64 (Int.tmod p0 6))))), (7, slE eStr x2.1), (8, hI 0), (9, .bool true), (10, hI 0), (11, .ptr 3011 v8 0), (12, hI 0)] (valC x6.1 o x2.1 x9) (fun _ => True) L s ∧ s.heap = [(3011, v8, .arr 2 29 [.bool x6.1.1, .str x6.1.2])]) ?stp16 ?fin16 16 [] _ ⟨⟨?bas16, (fun k hk => by cases hk), trivial⟩, rfl⟩ (fun k hk => by cases hk) List.nodup_nil rfl
 case bas16 =>
  intro p hp
  simp only [List.mem_cons, List.not_mem_nil, or_false] at hp
  rcases hp with rfl | rfl | rfl | rfl | rfl | rfl | rfl <;> rfl
 case stp16 =>
  rintro L ⟨sl, H⟩ q ⟨hIv, hH⟩ hq hqL hdeps
  have hb : ∀ p ∈ ([(5, hI (IntKind.wrap .i64 (1 + (IntKind.wrap .i64 (Int.tmod p0 6))))), (7, slE eStr x2.1), (8, hI 0), (9, .bool true), (10, hI 0), (11, .ptr 3011 v8 0), (12, hI 0)] : List (Nat × HV)), p.1 < 44 := by
   intro p hp
   simp only [List.mem_cons, List.not_mem_nil, or_false] at hp
   rcases hp with rfl | rfl | rfl | rfl | rfl | rfl | rfl <;> (dsimp only; omega)
  have h7 : sget sl 7 = some (slE eStr x2.1) := hIv.base (7, _) (.tail _ (.head _))
  have h8 : sget sl 8 = some (hI 0) := hIv.base (8, _) (.tail _ (.tail _ (.head _)))
  have h9 : sget sl 9 = some (HV.bool true) := hIv.base (9, _) (.tail _ (.tail _ (.tail _ (.head _))))
  have h10 : sget sl 10 = some (hI 0) := hIv.base (10, _) (.tail _ (.tail _ (.tail _ (.tail _ (.head _)))))
  have h11 : sget sl 11 = some (HV.ptr 3011 v8 0) := hIv.base (11, _) (.tail _ (.tail _ (.tail _ (.tail _ (.tail _ (.head _))))))
  have h12 : sget sl 12 = some (hI 0) := hIv.base (12, _) (.tail _ (.tail _ (.tail _ (.tail _ (.tail _ (.tail _ (.head _)))))))
  have val := hIv.val
  have hH : H = [(3011, v8, .arr 2 29 [.bool x6.1.1, .str x6.1.2])] := hH
  have hgt : hget H 3011 = some (v8, .arr 2 29 [.bool x6.1.1, .str x6.1.2]) := by rw [hH]; rfl
  match q, hq with
  | 0, _ =>
   exact l_op rfl rfl rfl (o_val rfl (mv_val rfl (show (⟨sl, _⟩ : AS).ev (.tmp 8) = _ from h8)).2 (b_nil ⟨hIv.put hb rfl trivial, hH⟩))
  | 1, _ =>
   exact l_op rfl rfl rfl (o_val rfl (mv_val rfl (show (⟨sl, _⟩ : AS).ev (.tmp 10) = _ from h10)).2 (b_nil ⟨hIv.put hb rfl trivial, hH⟩))
  | 2, _ =>
   exact l_op rfl rfl rfl (o_val rfl (mv_val rfl (show (⟨sl, _⟩ : AS).ev (.tmp 12) = _ from h12)).2 (b_nil ⟨hIv.put hb rfl trivial, hH⟩))
  | 3, _ =>
   exact l_op rfl rfl rfl (o_val rfl (v_max3 rfl (val 0 (hdeps 0 (by decide)) (by decide)) (val 1 (hdeps 1 (by decide)) (by decide)) (val 2 (hdeps 2 (by decide)) (by decide))) (b_nil ⟨hIv.put hb rfl trivial, hH⟩))
  | 4, _ =>
   exact l_op rfl rfl rfl (o_val rfl (v_bin (val 3 (hdeps 3 (by decide)) (by decide)) rfl b_neq) (b_nil ⟨hIv.put hb rfl trivial, hH⟩))
  | 5, _ =>
   exact l_op rfl rfl rfl (o_val rfl (mv_val rfl (show (⟨sl, _⟩ : AS).ev (.tmp 48) = _ from (val 4 (hdeps 4 (by decide)) (by decide)))).2 (b_nil ⟨hIv.put hb rfl trivial, hH⟩))
  | 6, _ =>
   exact l_opT rfl rfl rfl rfl rfl (val 5 (hdeps 5 (by decide)) (by decide)) rfl (o_val rfl (mv_val rfl (show (⟨sl, _⟩ : AS).ev (.tmp 9) = _ from h9)).2 (b_nil ⟨hIv.put hb rfl trivial, hH⟩))
  | 7, _ =>
   exact l_opT rfl rfl rfl rfl rfl (val 5 (hdeps 5 (by decide)) (by decide)) rfl (o_val rfl (v_not (val 6 (hdeps 6 (by decide)) (by decide))) (b_nil ⟨hIv.put hb rfl trivial, hH⟩))
  | 8, _ =>
   exact l_op rfl rfl rfl (o_val rfl (v_pickF (val 5 (hdeps 5 (by decide)) (by decide)) rfl (val 7 (hdeps 7 (by decide)) (by decide))) (b_nil ⟨hIv.put hb rfl trivial, hH⟩))
  | 9, _ =>
   exact l_op rfl rfl rfl (o_val rfl (mv_val rfl (show (⟨sl, _⟩ : AS).ev (.tmp 52) = _ from (val 8 (hdeps 8 (by decide)) (by decide)))).2 (b_nil ⟨hIv.put hb rfl trivial, hH⟩))
  | 10, _ =>
   exact l_opT rfl rfl rfl rfl rfl (val 9 (hdeps 9 (by decide)) (by decide)) rfl (o_val rfl (v_loadP ty29 h11 hgt (l_litA rfl (lb rfl) rfl)) (b_nil ⟨hIv.put hb rfl trivial, hH⟩))
  | 11, _ =>
   exact l_opT rfl rfl rfl rfl rfl (val 9 (hdeps 9 (by decide)) (by decide)) rfl (o_val rfl (mv_val rfl (show (⟨sl, _⟩ : AS).ev (.tmp 7) = _ from h7)).2 (b_nil ⟨hIv.put hb rfl trivial, hH⟩))
  | 12, _ =>
   exact l_opT rfl rfl rfl rfl rfl (val 9 (hdeps 9 (by decide)) (by decide)) rfl (o_val rfl (v_lenF rfl rfl ty22 (val 11 (hdeps 11 (by decide)) (by decide))) (b_nil ⟨hIv.put hb rfl trivial, hH⟩))
  | 13, _ =>
   have q12 : (⟨sl, H⟩ : AS).ev (.tmp 56) = some (hI ((x2.1).length : Int)) := val 12 (hdeps 12 (by decide)) (by decide)
   exact l_opT rfl rfl rfl rfl rfl (val 9 (hdeps 9 (by decide)) (by decide)) rfl (o_call (hs := [hI ((x2.1).length : Int)]) rfl rfl (by simp only [List.mapM_cons, List.mapM_nil, q12]; rfl) rfl (ACallD.pure0 (w_integer_OfS ho)) (b_nil ⟨hIv.put hb rfl trivial, hH⟩))
  | 14, _ =>
   exact l_opT rfl rfl rfl rfl rfl (val 9 (hdeps 9 (by decide)) (by decide)) rfl (o_val rfl (v_bin (val 10 (hdeps 10 (by decide)) (by decide)) (val 13 (hdeps 13 (by decide)) (by decide)) (b_aneq (hk29 _ _) (hk29 _ _) hc29 (hq29 x6.1 o))) (b_nil ⟨hIv.put hb (congrArg HV.bool hX.symm) trivial, hH⟩))
  | 15, _ =>
   exact l_op rfl rfl rfl (o_val rfl (v_pickF (val 9 (hdeps 9 (by decide)) (by decide)) rfl (val 14 (hdeps 14 (by decide)) (by decide))) (b_nil ⟨hIv.put hb rfl trivial, hH⟩))
  | n + 16, h => exact absurd h (by omega)
 rintro L ⟨sl, H⟩ ⟨hIv, hH⟩ hall
 have hin : ∀ q, q < 16 → q ∈ L := fun q hq => (hall q).1 hq
 refine l_go (L' := List.range 16) (s' := ⟨[(5, hI (IntKind.wrap .i64 (1 + (IntKind.wrap .i64 (Int.tmod p0 6))))), (7, slE eStr x2.1), (59, .bool x9)], []⟩) hFF (all_range hall) ?_ ⟨leS_get ⟨hIv.base (5, _) (.head _), hIv.base (7, _) (.tail _ (.head _)), hIv.val 15 (hin 15 (by decide)) (by decide), trivial⟩, fun id x h => by cases h⟩
 refine l_done hFF rfl rfl (hK _ ?_)
 clear hall hin hIv hH hFF F
 refine AW.cond rfl (fun hc => ?_) (fun hc => ?_)
 ·have h := ifT hc h
  refine AW.rgs rfl fun K hK => mv rfl rfl ?_
  refine bf hK ⟨[(4, .bool false)], []⟩ ?_
  refine AW.ret ?_
  have h := Option.some.inj h
  subst h
  exact ret_pure (hs := [.bool false]) (.inr rfl) (resT rfl rfl) rfl trivial
 have h := ifF (bF' hc) h
 refine AW.skip ?_
 refine AW.rgs rfl fun K hK => mv rfl rfl ?_
 refine bf hK ⟨[(5, hI (IntKind.wrap .i64 (1 + (IntKind.wrap .i64 (Int.tmod p0 6))))), (7, slE eStr x2.1), (13, .v (.slice none 0 0))], []⟩ ?_
 refine AW.seq ?_
 refine AW.rgs rfl fun K hK => mv rfl rfl (bv rfl (v_lenF rfl rfl ty22 rfl) (mv rfl rfl ?_))
 refine bf hK ⟨[(5, hI (IntKind.wrap .i64 (1 + (IntKind.wrap .i64 (Int.tmod p0 6))))), (13, .v (.slice none 0 0)), (60, slE eStr x2.1), (61, hI ((x2.1).length : Int)), (62, hI 0)], []⟩ ?_
 refine AW.lpR h (by first | exact up_then | exact up_to) (S := Int × (List (List UInt8))) (V := Nat) (fun a v => ⟨[(5, hI (IntKind.wrap .i64 (1 + (IntKind.wrap .i64 (Int.tmod p0 6))))), (13, .ar 3075 v eStr.k 0 ((a.2).length)), (60, slE eStr x2.1), (61, hI ((x2.1).length : Int)), (62, hI a.1)], [(3075, v, .arr eStr.k 9 (eStr.E a.2))]⟩) ?_ (X := (List (List UInt8))) (W := Nat) (fun a v => ⟨[(5, hI (IntKind.wrap .i64 (1 + (IntKind.wrap .i64 (Int.tmod p0 6))))), (13, .ar 3075 v eStr.k 0 ((a).length))], [(3075, v, .arr eStr.k 9 (eStr.E a))]⟩) (fun a22 w23 h => ?_) (fun a11 w12 st13 h hr14=> ?_)
 ·refine to_bind (to_own 3075 13 eStr.k 9 rfl fun v21 => ?_)
  exact to_le (s' := ⟨[(5, hI (IntKind.wrap .i64 (1 + (IntKind.wrap .i64 (Int.tmod p0 6))))), (13, .ar 3075 v21 eStr.k 0 ((([] : List (List UInt8))).length)), (60, slE eStr x2.1), (61, hI ((x2.1).length : Int)), (62, hI 0)], [(3075, v21, .arr eStr.k 9 (eStr.E ([] : List (List UInt8))))]⟩) (AS.le_of ⟨rfl, arl (by first | rfl | simp only [List.length_set, sortI_len, sortS_len]), rfl, rfl, rfl, trivial⟩ ⟨rfl, trivial⟩) ⟨v21, rfl⟩
 ·refine AW.seq ?_
  refine AW.rgs rfl fun K hK => mv rfl rfl (bv rfl (v_lenA rfl rfl ty22 rfl rfl) (mv rfl rfl (bv rfl (v_bin rfl rfl b_sub) ?_)))
  obtain ⟨h24, h⟩ := ifN h
  refine bv rfl (v_bin rfl rfl (b_shl h24)) (bv rfl (v_bin rfl rfl b_neq) ?_)
  refine bf hK ⟨[(5, hI (IntKind.wrap .i64 (1 + (IntKind.wrap .i64 (Int.tmod p0 6))))), (13, .ar 3075 w23 eStr.k 0 ((a22).length)), (82, .bool (decide ((((a22).length : Nat) : Int) ≠ (IntKind.wrap .i64 (1 * 2 ^ (min ((IntKind.wrap .i64 ((IntKind.wrap .i64 (1 + (IntKind.wrap .i64 (Int.tmod p0 6)))) - 1))).toNat (IntKind.bits .i64)))))))], [(3075, w23, .arr eStr.k 9 (eStr.E a22))]⟩ ?_
  refine AW.cond rfl (fun hc => ?_) (fun hc => ?_)
  ·obtain ⟨hc, h⟩ := cT hc h
   refine AW.rgs rfl fun K hK => mv rfl rfl ?_
   refine bf hK ⟨[(4, .bool false)], []⟩ ?_
   refine AW.ret ?_
   have h := Option.some.inj h
   subst h
   exact ret_pure (hs := [.bool false]) (.inr rfl) (resT rfl rfl) rfl trivial
  obtain ⟨hc, h⟩ := cF hc h
  refine AW.skip ?_
  refine AW.rgs rfl fun K hK => mv rfl rfl ?_
  obtain ⟨h25, h⟩ := ifN h
  refine b_op rfl (o_sortS c_sortS (l := a22) rfl rfl rfl rfl h25 ?_)
  refine b_fin hK (s' := ⟨[(5, hI (IntKind.wrap .i64 (1 + (IntKind.wrap .i64 (Int.tmod p0 6))))), (13, .ar 3075 w23 eStr.k 0 ((sortS a22).length))], [(3075, w23, .arr eStr.k 9 (eStr.E (sortS a22)))]⟩) (AS.le_of ⟨rfl, arl (by first | rfl | simp only [List.length_set, sortI_len, sortS_len]), trivial⟩ ⟨rfl, trivial⟩) ?_
  obtain ⟨h26, h⟩ := ifN h
  obtain ⟨x27, h28, h⟩ := bS h
  obtain ⟨hX, hW⟩ := top48_fin h28
  refine AW.dls follows fun K hK F hFF => ?_
  refine l_inv (F := F) hFF rfl 10 (by decide) rfl (fun L s => InvT 85 10 [(5, hI (IntKind.wrap .i64 (1 + (IntKind.wrap .i64 (Int.tmod p0 6))))), (13, .ar 3075 w23 eStr.k 0 ((sortS a22).length))] (valE w23 (sortS a22) ((IntKind.wrap .i64 (1 + (IntKind.wrap .i64 (Int.tmod p0 6))))) x27) (fun _ => True) L s ∧ (1 ∉ L → s.heap = [(3075, w23, .arr eStr.k 9 (eStr.E (sortS a22)))])) ?stp10 ?fin10 10 [] _ ⟨⟨?bas10, (fun k hk => by cases hk), trivial⟩, fun _ => rfl⟩ (fun k hk => by cases hk) List.nodup_nil rfl
  case bas10 =>
   intro p hp
   simp only [List.mem_cons, List.not_mem_nil, or_false] at hp
   rcases hp with rfl | rfl <;> rfl
  case stp10 =>
   rintro L ⟨sl, H⟩ q ⟨hIv, hH⟩ hq hqL hdeps
   have hb : ∀ p ∈ ([(5, hI (IntKind.wrap .i64 (1 + (IntKind.wrap .i64 (Int.tmod p0 6))))), (13, .ar 3075 w23 eStr.k 0 ((sortS a22).length))] : List (Nat × HV)), p.1 < 85 := by
    intro p hp
    simp only [List.mem_cons, List.not_mem_nil, or_false] at hp
    rcases hp with rfl | rfl <;> (dsimp only; omega)
   have h5 : sget sl 5 = some (hI (IntKind.wrap .i64 (1 + (IntKind.wrap .i64 (Int.tmod p0 6))))) := hIv.base (5, _) (.head _)
   have h13 : sget sl 13 = some (HV.ar 3075 w23 eStr.k 0 ((sortS a22).length)) := hIv.base (13, _) (.tail _ (.head _))
   have val := hIv.val
   match q, hq with
   | 0, _ =>
    exact l_op rfl rfl rfl (o_val rfl (mv_val rfl (show (⟨sl, _⟩ : AS).ev (.tmp 13) = _ from h13)).2 (b_nil ⟨hIv.put hb rfl trivial, fun h => hH (fun h2 => h (List.mem_cons_of_mem _ h2))⟩))
   | 1, _ =>
    have q0 : (⟨sl, H⟩ : AS).ev (.tmp 85) = some (HV.ar 3075 w23 eStr.k 0 ((sortS a22).length)) := val 0 (hdeps 0 (by decide)) (by decide)
    have hH1 : H = [(3075, w23, .arr eStr.k 9 (eStr.E (sortS a22)))] := hH hqL
    subst hH1
    exact l_op rfl rfl rfl (o_callK (q := slE eStr (compactS_ (sortS a22))) (hs := [.ar 3075 w23 eStr.k 0 ((sortS a22).length)]) [] rfl rfl (by simp only [List.mapM_cons, List.mapM_nil, q0]; rfl) rfl (fun K hK => c_compactS (H' := []) (l := sortS a22) rfl rfl (leH_get trivial) rfl hK) (b_nil ⟨hIv.put hb rfl trivial, fun h => absurd (List.mem_cons_self ..) h⟩))
   | 2, _ =>
    exact l_op rfl rfl rfl (o_val rfl (v_lenF rfl rfl ty22 (val 1 (hdeps 1 (by decide)) (by decide))) (b_nil ⟨hIv.put hb rfl trivial, fun h => hH (fun h2 => h (List.mem_cons_of_mem _ h2))⟩))
   | 3, _ =>
    exact l_op rfl rfl rfl (o_val rfl (mv_val rfl (show (⟨sl, _⟩ : AS).ev (.tmp 5) = _ from h5)).2 (b_nil ⟨hIv.put hb rfl trivial, fun h => hH (fun h2 => h (List.mem_cons_of_mem _ h2))⟩))
   | 4, _ =>
    exact l_op rfl rfl rfl (o_val rfl (v_bin (val 3 (hdeps 3 (by decide)) (by decide)) rfl b_sub) (b_nil ⟨hIv.put hb rfl trivial, fun h => hH (fun h2 => h (List.mem_cons_of_mem _ h2))⟩))
   | 5, _ =>
    exact l_op rfl rfl rfl (o_val rfl (v_bin rfl (val 4 (hdeps 4 (by decide)) (by decide)) (b_shl h26)) (b_nil ⟨hIv.put hb rfl trivial, fun h => hH (fun h2 => h (List.mem_cons_of_mem _ h2))⟩))
   | 6, _ =>
    exact l_op rfl rfl rfl (o_val rfl (v_bin (val 2 (hdeps 2 (by decide)) (by decide)) (val 5 (hdeps 5 (by decide)) (by decide)) b_eql) (b_nil ⟨hIv.put hb (congrArg HV.bool hX.symm) trivial, fun h => hH (fun h2 => h (List.mem_cons_of_mem _ h2))⟩))
   | 7, _ =>
    exact l_op rfl rfl rfl (o_val rfl (mv_val rfl (show (⟨sl, _⟩ : AS).ev (.tmp 91) = _ from (val 6 (hdeps 6 (by decide)) (by decide)))).2 (b_nil ⟨hIv.put hb rfl trivial, fun h => hH (fun h2 => h (List.mem_cons_of_mem _ h2))⟩))
   | 8, _ =>
    exact l_opT rfl rfl rfl rfl rfl (val 7 (hdeps 7 (by decide)) (by decide)) rfl (o_call (hs := []) rfl rfl rfl rfl (ACallD.pure0 (w_top_top48Awake hW)) (b_nil ⟨hIv.put hb rfl trivial, fun h => hH (fun h2 => h (List.mem_cons_of_mem _ h2))⟩))
   | 9, _ =>
    exact l_op rfl rfl rfl (o_val rfl (v_pickT (val 7 (hdeps 7 (by decide)) (by decide)) (val 8 (hdeps 8 (by decide)) (by decide)) rfl) (b_nil ⟨hIv.put hb rfl trivial, fun h => hH (fun h2 => h (List.mem_cons_of_mem _ h2))⟩))
   | n + 10, h => exact absurd h (by omega)
  rintro L ⟨sl, H⟩ ⟨hIv, hH⟩ hall
  have hin : ∀ q, q < 10 → q ∈ L := fun q hq => (hall q).1 hq
  refine l_go (L' := List.range 10) (s' := ⟨[(94, .bool x27)], []⟩) hFF (all_range hall) ?_ ⟨leS_get ⟨hIv.val 9 (hin 9 (by decide)) (by decide), trivial⟩, fun id x h => by cases h⟩
  refine l_step hFF rfl [10] rfl rfl ⟨?_, trivial⟩
  refine l_op rfl rfl rfl (o_val rfl (mv_val rfl rfl).2 (b_nil ?_))
  refine l_go (L' := List.range 11) (s' := ⟨[(4, .bool x27)], []⟩) hFF rfl ?_ ⟨leS_get ⟨rfl, trivial⟩, fun id x h => by cases h⟩
  refine l_done hFF rfl rfl (hK _ ?_)
  clear hall hin hIv hH hFF F
  refine AW.ret ?_
  have h := Option.some.inj h
  subst h
  exact ret_pure (hs := [.bool x27]) (.inr rfl) (resT rfl rfl) rfl trivial
 refine AW.rgs rfl fun K hK => bv rfl (v_bin rfl rfl b_lss) ?_
 refine bf hK ⟨[(5, hI (IntKind.wrap .i64 (1 + (IntKind.wrap .i64 (Int.tmod p0 6))))), (13, .ar 3075 w12 eStr.k 0 ((a11.2).length)), (60, slE eStr x2.1), (61, hI ((x2.1).length : Int)), (62, hI a11.1), (63, .bool (decide (a11.1 < ((x2.1).length : Int))))], [(3075, w12, .arr eStr.k 9 (eStr.E a11.2))]⟩ ?_
 refine AW.cseq rfl (fun hc => ?_) (fun hc => ?_)
 ·obtain ⟨hc, h⟩ := cT hc h
  refine AW.skip ?_
  refine AW.seq (AW.block ?_)
  refine AW.rgs rfl fun K hK => ?_
  obtain ⟨x15, h16, h⟩ := bS h
  refine bv rfl (v_idxF ty22 es22 rfl rfl (idx_lt h16)) (bv rfl (v_loadF ty9 rfl (l_cell eStr h16 (o := 0) rfl rfl)) (mv rfl rfl ?_))
  refine bf hK ⟨[(5, hI (IntKind.wrap .i64 (1 + (IntKind.wrap .i64 (Int.tmod p0 6))))), (13, .ar 3075 w12 eStr.k 0 ((a11.2).length)), (15, .str x15), (60, slE eStr x2.1), (61, hI ((x2.1).length : Int)), (62, hI a11.1)], [(3075, w12, .arr eStr.k 9 (eStr.E a11.2))]⟩ ?_
  refine AW.rgs rfl fun K hK => mv rfl rfl ?_
  obtain ⟨x17, h18, h⟩ := bS h
  refine b_op rfl (o_call rfl rfl rfl rfl (ACallD.pure0 (w_indel_Deletions h18)) ?_)
  refine mv rfl rfl (bv rfl (v_extract rfl rfl) (bv rfl (v_extract rfl rfl) (mv rfl rfl (mv rfl rfl ?_))))
  refine bf hK ⟨[(5, hI (IntKind.wrap .i64 (1 + (IntKind.wrap .i64 (Int.tmod p0 6))))), (13, .ar 3075 w12 eStr.k 0 ((a11.2).length)), (16, slE eStr x17.1), (17, hI x17.2), (60, slE eStr x2.1), (61, hI ((x2.1).length : Int)), (62, hI a11.1)], [(3075, w12, .arr eStr.k 9 (eStr.E a11.2))]⟩ ?_
  refine AW.seq ?_
  refine AW.rgs rfl fun K hK => mv rfl rfl (bv rfl (v_bin rfl rfl b_neq) ?_)
  refine bf hK ⟨[(5, hI (IntKind.wrap .i64 (1 + (IntKind.wrap .i64 (Int.tmod p0 6))))), (13, .ar 3075 w12 eStr.k 0 ((a11.2).length)), (16, slE eStr x17.1), (60, slE eStr x2.1), (61, hI ((x2.1).length : Int)), (62, hI a11.1), (72, .bool (decide (x17.2 ≠ 0)))], [(3075, w12, .arr eStr.k 9 (eStr.E a11.2))]⟩ ?_
  refine AW.cond rfl (fun hc => ?_) (fun hc => ?_)
  ·obtain ⟨hc, h⟩ := cT hc h
   refine AW.rgs rfl fun K hK => mv rfl rfl ?_
   refine bf hK ⟨[(4, .bool false)], []⟩ ?_
   have h := hr14 _ h
   refine AW.ret ?_
   have h := Option.some.inj h
   subst h
   exact ret_pure (hs := [.bool false]) (.inr rfl) (resT rfl rfl) rfl trivial
  obtain ⟨hc, h⟩ := cF hc h
  refine AW.skip ?_
  refine AW.rg rfl fun K hK => mv rfl rfl (mv rfl rfl ?_)
  obtain ⟨h20, h⟩ := ifN h
  refine b_op rfl (o_appE eStr (l := a11.2) (m := x17.1) rfl rfl ty22 ty22 ty9 rfl rfl rfl rfl rfl h20 (fun v19 => ?_))
  refine mv rfl rfl ?_
  refine bf hK ⟨[(5, hI (IntKind.wrap .i64 (1 + (IntKind.wrap .i64 (Int.tmod p0 6))))), (13, .ar 3075 v19 eStr.k 0 ((a11.2 ++ x17.1).length)), (60, slE eStr x2.1), (61, hI ((x2.1).length : Int)), (62, hI a11.1)], [(3075, v19, .arr eStr.k 9 (eStr.E (a11.2 ++ x17.1)))]⟩ ?_
  refine AW.rg rfl fun K hK => bv rfl (v_bin rfl rfl b_add) (mv rfl rfl ?_)
  refine b_nil (hK _ ?_)
  exact to_L ⟨(IntKind.wrap .i64 (a11.1 + 1), a11.2 ++ x17.1), v19, h, rfl⟩
 obtain ⟨hc, h⟩ := cF hc h
 refine AW.exit ?_
 exact to_L ⟨a11.2, w12, h, rfl⟩
end Go.AW
namespace Go.AW
open Go
def sortSe (l : List (List UInt8)) : List (List UInt8) := isort (fun a b => decide (a ≤ b)) l
theorem sortS_e : sortS = sortSe := funext sortS_isort
set_option linter.unusedVariables false
def c_tenengolts_check (p0 : Int) (p1 : Int) : Option (Int) :=
 jp (fun (a1 : Bool) =>
   if a1 = true then
    some 2
   else
    some 0)
   fun k3 =>
  if p0 < 0 then
   k3 true
  else
   if 64 < p0 then
    k3 true
   else
    if p1 < 0 then
     k3 true
    else
     k3 (decide (p0 < p1))
set_option maxHeartbeats 1600000 in
theorem le_tenengolts_check {p0 : Int} {p1 : Int} : Lq (c_tenengolts_check p0 p1) (m_tenengolts_check p0 p1) := by
 unfold c_tenengolts_check m_tenengolts_check
 repeat' with_reducible first | intro _ | exact Lq.refl _ | exact Lq.none | apply Lq.ite | apply Lq.bind | apply Lq.jp | apply Lq.loop | apply Lq.lpO | apply Lq.forL | apply_assumption
def c_word_known (p0 : Int) : Option (Bool) :=
 jp (fun (a1 : Bool) =>
  some a1)
  fun k3 =>
  if 1 ≤ p0 then
   k3 (decide (p0 ≤ 16))
  else
   k3 false
set_option maxHeartbeats 1600000 in
theorem le_word_known {p0 : Int} : Lq (c_word_known p0) (m_word_known p0) := by
 unfold c_word_known m_word_known
 repeat' with_reducible first | intro _ | exact Lq.refl _ | exact Lq.none | apply Lq.ite | apply Lq.bind | apply Lq.jp | apply Lq.loop | apply Lq.lpO | apply Lq.forL | apply_assumption
def c_word_All (p0 : Int) (p1 : Int) : Option ((List (List UInt8)) × Int) :=
 (c_word_known p0).bind fun x1 =>
 if (!x1) = true then
  some ([], 12)
 else
  if p1 < 0 then
   some ([], 2)
  else
   if 65536 < p1 then
    some ([], 4)
   else
    if p0 = 1 then
     (m_strings_Repeat [48] p1).bind fun x3 =>
     some ([x3], 0)
    else
     lpO (loopE (S := (List (List UInt8)) × Int) (X := Ou ((List (List UInt8))) ((List (List UInt8)) × Int)) (fun a5 =>
       if a5.2 < p1 then
        if 4096 < (IntKind.wrap .i64 (((a5.1).length : Int) * p0)) then
         some (Stp.exit (Ou.ret ([], 4)))
        else
         if 0 ≤ (0 : Int) ∧ (0 : Int) ≤ IntKind.wrap .i64 (((a5.1).length : Int) * p0) ∧ (IntKind.wrap .i64 (((a5.1).length : Int) * p0) : Int) * 16 ≤ 281474976710656 then
          (loopE (S := Int × (List (List UInt8))) (X := (List (List UInt8))) (fun a11 =>
            if a11.1 < ((a5.1).length : Int) then
             (idx a5.1 a11.1).bind fun x15 =>
             (loopE (S := Int × (List (List UInt8))) (X := (List (List UInt8))) (fun a17 =>
               if a17.1 < p0 then
                if 0 ≤ (a17.1 : Int) ∧ (a17.1 : Int) ≤ IntKind.wrap .i64 (a17.1 + 1) ∧ IntKind.wrap .i64 (a17.1 + 1) ≤ (([48, 49, 50, 51, 52, 53, 54, 55, 56, 57, 97, 98, 99, 100, 101, 102] : List UInt8).length : Int) then
                 if x15.length + ((([48, 49, 50, 51, 52, 53, 54, 55, 56, 57, 97, 98, 99, 100, 101, 102] : List UInt8).take (IntKind.wrap .i64 (a17.1 + 1)).toNat).drop (a17.1).toNat).length ≤ maxLen then
                  if fits 16 ((a17.2 : List (List UInt8)).length + ([x15 ++ ((([48, 49, 50, 51, 52, 53, 54, 55, 56, 57, 97, 98, 99, 100, 101, 102] : List UInt8).take (IntKind.wrap .i64 (a17.1 + 1)).toNat).drop (a17.1).toNat)]).length) then
                   some (Stp.next (IntKind.wrap .i64 (a17.1 + 1), a17.2 ++ [x15 ++ ((([48, 49, 50, 51, 52, 53, 54, 55, 56, 57, 97, 98, 99, 100, 101, 102] : List UInt8).take (IntKind.wrap .i64 (a17.1 + 1)).toNat).drop (a17.1).toNat)]))
                  else none
                 else none
                else none
               else
                some (Stp.exit a17.2)) (0, a11.2)).bind fun a25 =>
             some (Stp.next (IntKind.wrap .i64 (a11.1 + 1), a25))
            else
             some (Stp.exit a11.2)) (0, List.replicate (0 : Int).toNat (([] : List UInt8) : List UInt8))).bind fun a27 =>
          some (Stp.next (a27, IntKind.wrap .i64 (a5.2 + 1)))
         else none
       else
        some (Stp.exit (Ou.go a5.1))) ([([] : List UInt8)], 0)) (fun a29 =>
       some (a29, 0)) some
set_option maxHeartbeats 1600000 in
theorem le_word_All {p0 : Int} {p1 : Int} : Lq (c_word_All p0 p1) (m_word_All p0 p1) := by
 unfold c_word_All m_word_All
 repeat' with_reducible first | intro _ | exact Lq.refl _ | exact Lq.none | apply Lq.ite | apply Lq.bind | apply Lq.jp | apply Lq.loop | apply Lq.lpO | apply Lq.forL | apply_assumption | apply le_word_known
def c_tenengolts_syndrome (p0 : List UInt8) : Option (Int) :=
 (loopE (S := Int × Int) (X := Int) (fun a1 =>
     if a1.2 < ((p0).length : Int) then
      jp (fun (a5 : Int) =>
        some (Stp.next (a5, IntKind.wrap .i64 (a1.2 + 1))))
        fun k7 =>
       (idx p0 a1.2).bind fun x8 =>
       if (x8.toNat : Int) = 49 then
        k7 (IntKind.wrap .i64 (a1.1 + (IntKind.wrap .i64 (a1.2 + 1))))
       else
        k7 a1.1
     else
      some (Stp.exit a1.1)) (0, 0)).bind fun a10 =>
 if (IntKind.wrap .i64 (((p0).length : Int) + 1)) ≠ 0 then
  some (Int.tmod a10 (IntKind.wrap .i64 (((p0).length : Int) + 1)))
 else none
set_option maxHeartbeats 1600000 in
theorem le_tenengolts_syndrome {p0 : List UInt8} : Lq (c_tenengolts_syndrome p0) (m_tenengolts_syndrome p0) := by
 unfold c_tenengolts_syndrome m_tenengolts_syndrome
 repeat' with_reducible first | intro _ | exact Lq.refl _ | exact Lq.none | apply Lq.ite | apply Lq.bind | apply Lq.jp | apply Lq.loop | apply Lq.lpO | apply Lq.forL | apply_assumption
def c_tenengolts_Words (p0 : Int) (p1 : Int) : Option ((List (List UInt8)) × Int) :=
 (c_tenengolts_check p0 p1).bind fun x1 =>
 if x1 ≠ 0 then
  some ([], x1)
 else
  if 12 < p0 then
   some ([], 4)
  else
   (c_word_All 2 p0).bind fun x3 =>
   if x3.2 ≠ 0 then
    some ([], x3.2)
   else
    (loopE (S := Int × (List (List UInt8))) (X := (List (List UInt8))) (fun a5 =>
        if a5.1 < ((x3.1).length : Int) then
         jp (fun (a9 : (List (List UInt8))) =>
           some (Stp.next (IntKind.wrap .i64 (a5.1 + 1), a9)))
           fun k11 =>
          (idx x3.1 a5.1).bind fun x12 =>
          (c_tenengolts_syndrome x12).bind fun x14 =>
          if x14 = p1 then
           if fits 16 ((a5.2 : List (List UInt8)).length + ([x12]).length) then
            k11 (a5.2 ++ [x12])
           else none
          else
           k11 a5.2
        else
         some (Stp.exit a5.2)) (0, ([] : List (List UInt8)))).bind fun a19 =>
    some (a19, 0)
set_option maxHeartbeats 1600000 in
theorem le_tenengolts_Words {p0 : Int} {p1 : Int} : Lq (c_tenengolts_Words p0 p1) (m_tenengolts_Words p0 p1) := by
 unfold c_tenengolts_Words m_tenengolts_Words
 repeat' with_reducible first | intro _ | exact Lq.refl _ | exact Lq.none | apply Lq.ite | apply Lq.bind | apply Lq.jp | apply Lq.loop | apply Lq.lpO | apply Lq.forL | apply_assumption | apply le_tenengolts_check | apply le_tenengolts_syndrome | apply le_word_All
def c_slices_Equal_Lstring_string (p0 : List (List UInt8)) (p1 : List (List UInt8)) : Option (Bool) :=
 if ((p0).length : Int) ≠ ((p1).length : Int) then
  some false
 else
  lpO (loopE (S := Int) (X := Ou (Unit) (Bool)) (fun a1 =>
    if a1 < ((p0).length : Int) then
     (idx p0 a1).bind fun x5 =>
     (idx p1 a1).bind fun x7 =>
     if x5 ≠ x7 then
      some (Stp.exit (Ou.ret false))
     else
      some (Stp.next (IntKind.wrap .i64 (a1 + 1)))
    else
     some (Stp.exit (Ou.go ()))) 0) (fun a9 =>
    some true) some
set_option maxHeartbeats 1600000 in
theorem le_slices_Equal_Lstring_string {p0 : List (List UInt8)} {p1 : List (List UInt8)} : Lq (c_slices_Equal_Lstring_string p0 p1) (m_slices_Equal_Lstring_string p0 p1) := by
 unfold c_slices_Equal_Lstring_string m_slices_Equal_Lstring_string
 repeat' with_reducible first | intro _ | exact Lq.refl _ | exact Lq.none | apply Lq.ite | apply Lq.bind | apply Lq.jp | apply Lq.loop | apply Lq.lpO | apply Lq.forL | apply_assumption
def c_strings_IndexByte (l : List UInt8) (c : Int) : Option Int := some (Lib.indexByte l c.toNat.toUInt8)
set_option maxHeartbeats 1600000 in
theorem le_strings_IndexByte {l : List UInt8} {c : Int} : Lq (c_strings_IndexByte l c) (m_strings_IndexByte l c) := by
 unfold c_strings_IndexByte m_strings_IndexByte
 repeat' with_reducible first | intro _ | exact Lq.refl _ | exact Lq.none | apply Lq.ite | apply Lq.bind | apply Lq.jp | apply Lq.loop | apply Lq.lpO | apply Lq.forL | apply_assumption
def c_word_Check (p0 : Int) (p1 : List UInt8) : Option (Int) :=
 (c_word_known p0).bind fun x1 =>
 if (!x1) = true then
  some 12
 else
  if 65536 < ((p1).length : Int) then
   some 4
  else
   lpO (loopE (S := Int) (X := Ou (Unit) (Int)) (fun a3 =>
     if a3 < ((p1).length : Int) then
      if 0 ≤ (0 : Int) ∧ (0 : Int) ≤ p0 ∧ p0 ≤ (([48, 49, 50, 51, 52, 53, 54, 55, 56, 57, 97, 98, 99, 100, 101, 102] : List UInt8).length : Int) then
       (idx p1 a3).bind fun x8 =>
       (c_strings_IndexByte ((([48, 49, 50, 51, 52, 53, 54, 55, 56, 57, 97, 98, 99, 100, 101, 102] : List UInt8).take (p0).toNat).drop (0 : Int).toNat) (x8.toNat : Int)).bind fun x10 =>
       if x10 < 0 then
        some (Stp.exit (Ou.ret 13))
       else
        some (Stp.next (IntKind.wrap .i64 (a3 + 1)))
      else none
     else
      some (Stp.exit (Ou.go ()))) 0) (fun a12 =>
     some 0) some
set_option maxHeartbeats 1600000 in
theorem le_word_Check {p0 : Int} {p1 : List UInt8} : Lq (c_word_Check p0 p1) (m_word_Check p0 p1) := by
 unfold c_word_Check m_word_Check
 repeat' with_reducible first | intro _ | exact Lq.refl _ | exact Lq.none | apply Lq.ite | apply Lq.bind | apply Lq.jp | apply Lq.loop | apply Lq.lpO | apply Lq.forL | apply_assumption | apply le_strings_IndexByte | apply le_word_known
def c_indel_check (p0 : List (List UInt8)) : Option (Int) :=
 lpO (loopE (S := Int) (X := Ou (Unit) (Int)) (fun a1 =>
     if a1 < ((p0).length : Int) then
      (idx p0 a1).bind fun x5 =>
      if 256 < ((x5).length : Int) then
       some (Stp.exit (Ou.ret 4))
      else
       some (Stp.next (IntKind.wrap .i64 (a1 + 1)))
     else
      some (Stp.exit (Ou.go ()))) 0) (fun a7 =>
     lpO (loopE (S := Int) (X := Ou (Unit) (Int)) (fun a9 =>
         if a9 < ((p0).length : Int) then
          (idx p0 a9).bind fun x13 =>
          (c_word_Check 16 x13).bind fun x15 =>
          if x15 ≠ 0 then
           some (Stp.exit (Ou.ret x15))
          else
           some (Stp.next (IntKind.wrap .i64 (a9 + 1)))
         else
          some (Stp.exit (Ou.go ()))) 0) (fun a17 =>
         some 0) some) some
set_option maxHeartbeats 1600000 in
theorem le_indel_check {p0 : List (List UInt8)} : Lq (c_indel_check p0) (m_indel_check p0) := by
 unfold c_indel_check m_indel_check
 repeat' with_reducible first | intro _ | exact Lq.refl _ | exact Lq.none | apply Lq.ite | apply Lq.bind | apply Lq.jp | apply Lq.loop | apply Lq.lpO | apply Lq.forL | apply_assumption | apply le_word_Check
def c_indel_Separated (p0 : List (List UInt8)) (p1 : Int) : Option (Bool × Int) :=
 if 256 < ((p0).length : Int) then
  some (false, 4)
 else
  lpO (loopE (S := Int) (X := Ou (Unit) (Bool × Int)) (fun a1 =>
      if a1 < ((p0).length : Int) then
       (idx p0 a1).bind fun x5 =>
       (c_indel_check [x5]).bind fun x7 =>
       if x7 ≠ 0 then
        some (Stp.exit (Ou.ret (false, x7)))
       else
        some (Stp.next (IntKind.wrap .i64 (a1 + 1)))
      else
       some (Stp.exit (Ou.go ()))) 0) (fun a9 =>
      lpO (loopE (S := Int × Int) (X := Ou (Int) (Bool × Int)) (fun a11 =>
          if a11.2 < ((p0).length : Int) then
           (idx p0 a11.2).bind fun x15 =>
           jp (fun (a17 : Bool) =>
             if a17 = true then
              some (Stp.exit (Ou.ret (false, 11)))
             else
              some (Stp.next (((x15).length : Int), IntKind.wrap .i64 (a11.2 + 1))))
             fun k19 =>
            if 0 < a11.2 then
             k19 (decide (((x15).length : Int) ≠ a11.1))
            else
             k19 false
          else
           some (Stp.exit (Ou.go a11.1))) (0, 0)) (fun a21 =>
          jp (fun (a23 : Bool) =>
            if a23 = true then
             some (false, 2)
            else
             lpO (loopE (S := Int) (X := Ou (Unit) (Bool × Int)) (fun a26 =>
                 if a26 < ((p0).length : Int) then
                  (idx p0 a26).bind fun x30 =>
                  if 0 ≤ (0 : Int) ∧ (0 : Int) ≤ a26 ∧ a26 ≤ (p0.length : Int) then
                   lpO (loopE (S := Int) (X := Ou (Unit) (Bool × Int)) (fun a33 =>
                       if a33 < (((p0.take (a26).toNat).drop (0 : Int).toNat).length : Int) then
                        (idx ((p0.take (a26).toNat).drop (0 : Int).toNat) a33).bind fun x37 =>
                        jp (fun (a39 : Bool) =>
                          if a39 = true then
                           some (Stp.exit (Ou.ret (false, 0)))
                          else
                           some (Stp.next (IntKind.wrap .i64 (a33 + 1))))
                          fun k41 =>
                         if x30 ≠ x37 then
                          (m_indel_tab x30 x37).bind fun x42 =>
                          k41 (decide ((IntKind.wrap .i64 (a21 - x42)) ≤ p1))
                         else
                          k41 false
                       else
                        some (Stp.exit (Ou.go ()))) 0) (fun a45 =>
                       some (Stp.next (IntKind.wrap .i64 (a26 + 1)))) (fun r => some (Stp.exit (Ou.ret r)))
                  else none
                 else
                  some (Stp.exit (Ou.go ()))) 0) (fun a47 =>
                 some (true, 0)) some)
            fun k25 =>
           if p1 < 0 then
            k25 true
           else
            k25 (decide (a21 < p1))) some) some
set_option maxHeartbeats 1600000 in
theorem le_indel_Separated {p0 : List (List UInt8)} {p1 : Int} : Lq (c_indel_Separated p0 p1) (m_indel_Separated p0 p1) := by
 unfold c_indel_Separated m_indel_Separated
 repeat' with_reducible first | intro _ | exact Lq.refl _ | exact Lq.none | apply Lq.ite | apply Lq.bind | apply Lq.jp | apply Lq.loop | apply Lq.lpO | apply Lq.forL | apply_assumption | apply le_indel_check
def c_top_top48Awake  : Option (Bool) :=
 (c_tenengolts_Words 4 0).bind fun x1 =>
 (c_indel_Separated x1.1 1).bind fun x3 =>
 jp (fun (a5 : Bool) =>
   some a5)
   fun k7 =>
  if x1.2 = 0 then
   if x3.2 = 0 then
    if x3.1 = true then
     (c_slices_Equal_Lstring_string x1.1 [[48, 48, 48, 48], [48, 49, 49, 48], [49, 48, 48, 49], [49, 49, 49, 49]]).bind fun x8 =>
     k7 x8
    else
     k7 false
   else
    k7 false
  else
   k7 false
set_option maxHeartbeats 1600000 in
theorem le_top_top48Awake  : Lq (c_top_top48Awake ) (m_top_top48Awake ) := by
 unfold c_top_top48Awake m_top_top48Awake
 repeat' with_reducible first | intro _ | exact Lq.refl _ | exact Lq.none | apply Lq.ite | apply Lq.bind | apply Lq.jp | apply Lq.loop | apply Lq.lpO | apply Lq.forL | apply_assumption | apply le_indel_Separated | apply le_slices_Equal_Lstring_string | apply le_tenengolts_Words
def c_indel_del (w : List UInt8) : Option (List (List UInt8)) := if w.length ≤ 1000 then some (sortSe ((delM w w.length).map (·.1))) else none
set_option maxHeartbeats 1600000 in
theorem le_indel_del {w : List UInt8} : Lq (c_indel_del w) (m_indel_del w) := by
 unfold c_indel_del m_indel_del
 rw [sortS_e]
 repeat' with_reducible first | intro _ | exact Lq.refl _ | exact Lq.none | apply Lq.ite | apply Lq.bind | apply Lq.jp | apply Lq.loop | apply Lq.lpO | apply Lq.forL | apply_assumption
def c_indel_Deletions (p0 : List UInt8) : Option ((List (List UInt8)) × Int) :=
 (c_indel_check [p0]).bind fun x1 =>
 if x1 ≠ 0 then
  some ([], x1)
 else
  (c_indel_del p0).bind fun x3 =>
  some (x3, 0)
set_option maxHeartbeats 1600000 in
theorem le_indel_Deletions {p0 : List UInt8} : Lq (c_indel_Deletions p0) (m_indel_Deletions p0) := by
 unfold c_indel_Deletions m_indel_Deletions
 repeat' with_reducible first | intro _ | exact Lq.refl _ | exact Lq.none | apply Lq.ite | apply Lq.bind | apply Lq.jp | apply Lq.loop | apply Lq.lpO | apply Lq.forL | apply_assumption | apply le_indel_check | apply le_indel_del
def c_top48_fin (b : Bool) : Option Bool := if b = true then c_top_top48Awake else none
set_option maxHeartbeats 1600000 in
theorem le_top48_fin {b : Bool} : Lq (c_top48_fin b) (m_top48_fin b) := by
 unfold c_top48_fin m_top48_fin
 repeat' with_reducible first | intro _ | exact Lq.refl _ | exact Lq.none | apply Lq.ite | apply Lq.bind | apply Lq.jp | apply Lq.loop | apply Lq.lpO | apply Lq.forL | apply_assumption | apply le_top_top48Awake
def c_top_TopTenengolts (p0 : Int) (p1 : Int) : Option (Bool) :=
 if (IntKind.wrap .i64 ((IntKind.wrap .i64 (1 + (IntKind.wrap .i64 (Int.tmod p0 6)))) + 1)) ≠ 0 then
  (c_tenengolts_Words (IntKind.wrap .i64 (1 + (IntKind.wrap .i64 (Int.tmod p0 6)))) (Int.tmod (IntKind.wrap .i64 p1) (IntKind.wrap .i64 ((IntKind.wrap .i64 (1 + (IntKind.wrap .i64 (Int.tmod p0 6)))) + 1)))).bind fun x2 =>
  (c_indel_Separated x2.1 1).bind fun x4 =>
  (m_tenengolts_Size (IntKind.wrap .i64 (1 + (IntKind.wrap .i64 (Int.tmod p0 6)))) (Int.tmod (IntKind.wrap .i64 p1) (IntKind.wrap .i64 ((IntKind.wrap .i64 (1 + (IntKind.wrap .i64 (Int.tmod p0 6)))) + 1)))).bind fun x6 =>
  (m_top48_cond x2.1 x6.1 x4.1 x2.2 x4.2 x6.2).bind fun x9 =>
  if x9 = true then
   some false
  else
   lpO (loopE (S := Int × (List (List UInt8))) (X := Ou ((List (List UInt8))) (Bool)) (fun a11 =>
       if a11.1 < ((x2.1).length : Int) then
        (idx x2.1 a11.1).bind fun x15 =>
        (c_indel_Deletions x15).bind fun x17 =>
        if x17.2 ≠ 0 then
         some (Stp.exit (Ou.ret false))
        else
         if fits 16 ((a11.2 : List (List UInt8)).length + (x17.1).length) then
          some (Stp.next (IntKind.wrap .i64 (a11.1 + 1), a11.2 ++ x17.1))
         else none
       else
        some (Stp.exit (Ou.go a11.2))) (0, ([] : List (List UInt8)))) (fun a22 =>
       if 0 ≤ (IntKind.wrap .i64 ((IntKind.wrap .i64 (1 + (IntKind.wrap .i64 (Int.tmod p0 6)))) - 1)) then
        if (((a22).length : Nat) : Int) ≠ (IntKind.wrap .i64 (1 * 2 ^ (min ((IntKind.wrap .i64 ((IntKind.wrap .i64 (1 + (IntKind.wrap .i64 (Int.tmod p0 6)))) - 1))).toNat (IntKind.bits .i64)))) then
         some false
        else
         if (a22).length < 4611686018427387904 then
          if 0 ≤ (IntKind.wrap .i64 ((IntKind.wrap .i64 (1 + (IntKind.wrap .i64 (Int.tmod p0 6)))) - 1)) then
           (c_top48_fin (decide (((compactS_ (sortSe a22)).length : Int) = (IntKind.wrap .i64 (1 * 2 ^ (min ((IntKind.wrap .i64 ((IntKind.wrap .i64 (1 + (IntKind.wrap .i64 (Int.tmod p0 6)))) - 1))).toNat (IntKind.bits .i64))))))).bind fun x27 =>
           some x27
          else none
         else none
       else none) some
 else none
set_option maxHeartbeats 1600000 in
theorem le_top_TopTenengolts {p0 : Int} {p1 : Int} : Lq (c_top_TopTenengolts p0 p1) (m_top_TopTenengolts p0 p1) := by
 unfold c_top_TopTenengolts m_top_TopTenengolts
 rw [sortS_e]
 repeat' with_reducible first | intro _ | exact Lq.refl _ | exact Lq.none | apply Lq.ite | apply Lq.bind | apply Lq.jp | apply Lq.loop | apply Lq.lpO | apply Lq.forL | apply_assumption | apply le_indel_Deletions | apply le_indel_Separated | apply le_tenengolts_Words | apply le_top48_fin
theorem top48_c : ∀ q0 ∈ [0, 1, 2, 3, 4, 5], ∀ q1 ∈ List.range (q0 + 2), c_top_TopTenengolts ((q0 : Nat) : Int) ((q1 : Nat) : Int) = some true := by decide +kernel
theorem top_congr {p0 p1 q0 q1 : Int} (h0 : Int.tmod p0 6 = Int.tmod q0 6) (h1 : Int.tmod (IntKind.wrap .i64 p1) (IntKind.wrap .i64 ((IntKind.wrap .i64 (1 + (IntKind.wrap .i64 (Int.tmod p0 6)))) + 1)) = Int.tmod (IntKind.wrap .i64 q1) (IntKind.wrap .i64 ((IntKind.wrap .i64 (1 + (IntKind.wrap .i64 (Int.tmod p0 6)))) + 1))) : m_top_TopTenengolts p0 p1 = m_top_TopTenengolts q0 q1 := by
 unfold m_top_TopTenengolts
 rw [h1, h0]
theorem law_tenengolts (a b : UInt8) : m_top_TopTenengolts (a.toNat : Int) (b.toNat : Int) = some true := by
 have ha := a.toNat_lt
 have hb := b.toNat_lt
 generalize a.toNat = n at ha
 generalize b.toNat = k at hb
 have e6 : ∀ x : Nat, Int.tmod (x : Int) 6 = ((x % 6 : Nat) : Int) := fun x => (Int.ofNat_tmod x 6).symm
 have hm6 : n % 6 < 6 := Nat.mod_lt _ (by decide)
 have hw : IntKind.wrap .i64 ((IntKind.wrap .i64 (1 + (IntKind.wrap .i64 (Int.tmod (n : Int) 6)))) + 1) = ((n % 6 + 2 : Nat) : Int) := by
  rw [e6, w64 (n := ((n % 6 : Nat) : Int)) (by omega) (by omega), w64 (n := 1 + ((n % 6 : Nat) : Int)) (by omega) (by omega), w64 (by omega) (by omega)]
  omega
 have hk2 : k % (n % 6 + 2) < n % 6 + 2 := Nat.mod_lt _ (by omega)
 rw [top_congr (q0 := ((n % 6 : Nat) : Int)) (q1 := ((k % (n % 6 + 2) : Nat) : Int)) (by rw [e6, e6, Nat.mod_mod]) (by
  rw [hw, w64 (n := (k : Int)) (by omega) (by omega), w64 (n := ((k % (n % 6 + 2) : Nat) : Int)) (by omega) (by omega), ← Int.ofNat_tmod, ← Int.ofNat_tmod, Nat.mod_mod])]
 exact le_top_TopTenengolts.ap _ (top48_c (n % 6) (by simp only [List.mem_cons, List.not_mem_nil, or_false]; omega) _ (List.mem_range.2 hk2))
end Go.AW
namespace Go.AW
open Go Go.ChangeShapes Go.WideShapes Go.ChangeAt Go.RowKit
def Kept (W W' : World) : Prop := W'.os = W.os ∧ W'.output = W.output ∧ W.heap.size ≤ W'.heap.size ∧ ∀ b : Nat, b < W.heap.size → W'.heap[b]? = W.heap[b]?
theorem Kept.frame {W W' : World} (h : Kept W W') (may : MemPlace → Prop) : W.keptBut W' may := by
 refine ⟨h.1, h.2.1, fun i hi => ?_⟩
 rw [h.2.2.2 i hi]
 cases W.heap[i]? with
 | none => rfl
 | some o => cases o with
  | cells c t fr => exact ⟨rfl, rfl, rfl, fun _ _ => rfl⟩
  | map es clock => exact .inr ⟨rfl, rfl⟩
  | _ => rfl
theorem Kept.frozen {W W' : World} (h : Kept W W') (a : Addr) (ha : a.block < W.heap.size) : W'.frozen? a = W.frozen? a := by
 simp only [World.frozen?, h.2.2.2 _ ha]
def Mu.zero : Mu := { nx := 0, loc := fun _ => none, held := fun _ => False }
theorem SR.zero (W : World) : SR W Mu.zero [] :=
 ⟨(fun _ _ _ h => by cases h), (fun _ _ _ h => by cases h), (fun _ _ h => by cases h), (fun _ _ _ _ _ h => by cases h), (fun _ h => h.elim)⟩
theorem calls_of_pure {P : Program} {f : FuncId} {args : List HV} {vs : List Value} {W : World} (hp : Pure P f args (· = .bool true)) (hr : RepL W Mu.zero args vs) (hgl : GlOk W Mu.zero := by exact fun _ h => by cases h) :
  Calls P f vs.toArray W fun e W' => e = .returned (.bool true) ∧ Kept W W' := by
 refine (hp.2 Mu.zero W vs (SR.zero W) hr hgl).mono ?_
 rintro e W' ⟨v, r, H', μ', rfl, ⟨rfl, _, _⟩, hs, hv, E⟩
 have hv' : v = .bool true := hv
 subst hv'
 exact ⟨rfl, E.os, E.output, E.size, fun b hb => E.keep b hb fun ⟨_, _, hl⟩ => by cases hl⟩
theorem post_of_kept {H : Type} {enc : TypeId × Value → H} {P : Program} {f : Func} {s : ChangeSpec} {apart fresh handsOn again : Bool} {W W' : World} {args : Array Value} {v : Value} {ds gs : List (DataW H)} {before pa pv : List MemPlace}
  (hW : DataW.Whole enc P f.params.toList s.vars apart W args.toList ds gs before)
  (hres : ∀ (b : Nat) (sp : Nat → Bool) (hd : Bool), DataW.TrodAll enc P W' b sp hd f.resultTypes.toList (v.resultList f.resultTypes.size) (s.fn H (ds ++ gs)).results [])
  (hargs : ∀ sp : Nat → Bool, (∀ p ∈ before, sp p.block = true) → DataW.TrodAll enc P W' 0 sp true f.params.toList args.toList (s.fn H (ds ++ gs)).args pa)
  (hvars : ∀ sp : Nat → Bool, (∀ p ∈ before, sp p.block = true) → DataW.TrodVars enc P W' sp s.vars (s.fn H (ds ++ gs)).vars pv)
  (hps : before = pa ++ pv) (hk : Kept W W')
  (hok : ∀ (j : Nat) (t : TypeId) (r : Value), f.resultTypes[j]? = some t → (v.resultList f.resultTypes.size)[j]? = some r → Value.okWide P W' .any 0 t r) :
  s.post enc P f apart fresh handsOn again W args v W' := by
 have hold : ∀ p ∈ before, (fun b => decide (b < W.heap.size)) p.block = true := fun p hp => by simpa using hW.lt p hp
 refine ⟨ds, gs, before, [], pa, pv, hW, hres _ _ _, hargs _ hold, hvars _ hold, World.keptBut_mono (fun p hp => ⟨hp, ?_⟩) (hk.frame (· ∈ before)), fun _ => ?_⟩
 ·rw [hps, List.mem_append] at hp
  exact Or.inr hp
 ·have hlt := hW.lt
  obtain ⟨_, _, _, _, _, hz, hn⟩ := hW
  refine ⟨hok, _, _, ([] ++ pa) ++ pv, ⟨[] ++ pa, pv, trodAll_append (hargs _ (fun _ _ => rfl)) (hres _ _ _), hvars _ (fun _ _ => rfl), rfl, ?_, ?_⟩, ?_⟩
  ·intro b off hp
   have hp' : MemPlace.cell b off ∈ before := by rw [hps]; simpa using hp
   rw [hk.frozen _ (hlt _ hp')]
   exact hz b off hp'
  ·intro ha
   have := hn ha
   rw [hps] at this
   simpa using this
  ·intro p hp _
   rw [hps]
   simpa using hp
theorem open_num {H : Type} {enc : TypeId × Value → H} {P : Program} {W : World} {base : Nat} {t : TypeId} {k : IntKind} {v : Value} {d : DataW H} {ps : List MemPlace} (ht : P.underlying t = some (.int k))
  (hval : Value.okWide P W .any base t v) (h : DataW.Trod enc P W 0 (fun _ => true) true t v d ps) : ∃ n : Int, (Lit.int k n).wf = true ∧ Rep W Mu.zero (.int k n) v := by
 obtain ⟨n, rfl, _, _, hw⟩ := open_int ht hval h
 exact ⟨n, hw, rfl, hw⟩
theorem open_u8 {H : Type} {enc : TypeId × Value → H} {P : Program} {W : World} {base : Nat} {t : TypeId} {v : Value} {d : DataW H} {ps : List MemPlace} (ht : P.underlying t = some (.int .u8))
  (hval : Value.okWide P W .any base t v) (h : DataW.Trod enc P W 0 (fun _ => true) true t v d ps) : ∃ b : UInt8, Rep W Mu.zero (.int .u8 (b.toNat : Int)) v := by
 obtain ⟨n, hw, hr⟩ := open_num ht hval h
 have hw' : (0 : Int) ≤ n ∧ n ≤ 255 := by
  simp only [Lit.wf, Bool.and_eq_true, decide_eq_true_eq] at hw
  exact hw
 refine ⟨UInt8.ofNat n.toNat, ?_⟩
 have : ((UInt8.ofNat n.toNat).toNat : Int) = n := by
  rw [UInt8.toNat_ofNat']
  omega
 rw [this]
 exact hr
theorem trodAll_stays {H : Type} {enc : TypeId × Value → H} {P : Program} (hl : laidOutB P = true) {W W' : World} {sp : Nat → Bool} : ∀ {ts : List TypeId} {vs : List Value} {ds : List (DataW H)} {ps : List MemPlace},
  (ts.all fun t => P.readableRec t && decide (t < P.types.size)) = true → DataW.TrodAll enc P W 0 (fun _ => true) true ts vs ds ps → (∀ p ∈ ps, W.sameAt W' p) → (∀ p ∈ ps, sp p.block = true) → DataW.TrodAll enc P W' 0 sp true ts vs ds ps
 | [], vs, ds, ps, _, h, _, _ => by
  obtain ⟨rfl, rfl, rfl⟩ := trodAll_nil h
  exact trodAll_mk0
 | t :: ts, vs, ds, ps, ht, h, h1, h2 => by
  obtain ⟨v, vs', d, ds', p, q, rfl, rfl, rfl, h3, h4⟩ := trodAll_cons h
  simp only [List.all_cons, Bool.and_eq_true, decide_eq_true_eq] at ht
  exact trodAll_cons_mk (WideElems.Trod_stays hl ht.1.1 ht.1.2 h3 (fun x hx => h1 x (List.mem_append_left _ hx)) (fun x hx => h2 x (List.mem_append_left _ hx)))
   (trodAll_stays hl ht.2 h4 (fun x hx => h1 x (List.mem_append_right _ hx)) (fun x hx => h2 x (List.mem_append_right _ hx)))
theorem Kept.same {W W' : World} (h : Kept W W') (p : MemPlace) (hp : p.block < W.heap.size) : W.sameAt W' p := by
 cases p with
 | cell b off =>
  show W'.cell? ⟨b, off, none⟩ = W.cell? ⟨b, off, none⟩
  unfold World.cell?
  rw [h.2.2.2 b hp]
 | map b => exact h.2.2.2 b hp
theorem post_of_true {H : Type} {enc : TypeId × Value → H} {P : Program} {f : Func} {s : ChangeSpec} {apart fresh handsOn again : Bool} {W W' : World} {args : Array Value} {ds gs : List (DataW H)} {before : List MemPlace} {t : TypeId}
  (hl : laidOutB P = true) (hps : (f.params.toList.all fun t => P.readableRec t && decide (t < P.types.size)) = true) (hres : f.resultTypes = #[t]) (ht : P.underlying t = some .bool) (hv : s.vars = [])
  (hW : DataW.Whole enc P f.params.toList s.vars apart W args.toList ds gs before) (hk : Kept W W')
  (h1 : (s.fn H (ds ++ gs)).results = [.lit (.bool true)]) (h2 : (s.fn H (ds ++ gs)).args = ds) (h3 : (s.fn H (ds ++ gs)).vars = []) :
  s.post enc P f apart fresh handsOn again W args (.bool true) W' := by
 have hlt := hW.lt
 have hW' := hW
 obtain ⟨p, q, hA, hV, rfl, _, _⟩ := hW
 rw [hv] at hV
 obtain ⟨rfl, rfl⟩ := trodVars_none hV
 refine post_of_kept (pa := p) (pv := []) hW' (fun _ _ _ => ?_) (fun sp hsp => ?_) (fun _ _ => ?_) (by simp) hk (ok_one hres rfl (okWide_bool_mk ht _))
 ·rw [hres, h1]
  exact trodAll_cons_mk (shut_bool ht _) trodAll_mk0
 ·rw [h2]
  exact trodAll_stays hl hps hA (fun x hx => hk.same x (hlt x (by simpa using hx))) (fun x hx => hsp x (by simpa using hx))
 ·rw [h3, hv]
  rfl
section
variable {H : Type} {enc : TypeId × Value → H} {P : Program} {W : World} {base : Nat}
end
end Go.AW
namespace Go.AW
open Go Go.ChangeShapes Go.WideShapes Go.ChangeAt Go.RowKit
section
variable {H : Type} {enc : TypeId × Value → H} {P : Program} {W : World} {base : Nat}
end
end Go.AW
namespace Go.AW
open Go Go.ChangeShapes Go.WideShapes Go.ChangeAt Go.RowKit
section
variable {H : Type} {enc : TypeId × Value → H} {P : Program} {W : World} {base : Nat}
end
end Go.AW
namespace Go.AW
open Go Go.ChangeShapes Go.WideShapes Go.ChangeAt Go.RowKit
section
variable {H : Type} {enc : TypeId × Value → H} {P : Program} {W : World} {base : Nat}
end
end Go.AW
namespace Go.Proofs.Ytbfbjlehdhedcaa
open Go Go.AW Go.ChangeShapes Go.WideShapes Go.ChangeAt Go.RowKit Go.ChangeMaps
set_option linter.unusedVariables false
theorem ownM : ownKnob Try.prog.godebug = none := by kernel_rfl
theorem laidB : laidOutB Try.prog = true := by kernel_rfl
theorem wLaw (a0 : UInt8) (a1 : UInt8) : Pure Try.prog 3 [.int .u8 a0.toNat, .int .u8 a1.toNat] (· = .bool true) := w_top_TopTenengolts (law_tenengolts a0 a1)
set_option maxRecDepth 100000 in
theorem liftedL (os : Os) (started : os.Started) (H : Type) (enc : TypeId × Value → H) :
  ReturnsInHanded {} Try.checked os 3 .any (Rows.topTenengoltsSpec.pre6 enc Try.prog Try.f3 Rows.topTenengoltsRow.domain false) (Rows.topTenengoltsSpec.post enc Try.prog Try.f3 false true false false) := by
 refine returnsInHanded_of_change (C := Try.checked) ownM started (by kernel_rfl) Try.func3
  (ChangeSpec.witness6 (enc := enc) (C := Try.checked) false ⟨#[], #[.int .u8 0, .int .u8 0], []⟩ 8 (by kernel_rfl) (by kernel_rfl) (by kernel_rfl) (by kernel_rfl)) ?_
 intro W base args ds gs before hval0 hW hcnd _
 have hval : ∀ (j : Nat) t v, Try.f3.params[j]? = some t → args[j]? = some v → Value.okWide Try.prog W .any base t v := hval0
 have hW' := hW
 obtain ⟨p, q, hA0, hV, rfl, hfz, hnd⟩ := hW
 have hA : DataW.TrodAll enc Try.prog W 0 (fun _ => true) true Try.f3.params.toList args.toList ds p := hA0
 rw [Try.params3] at hA hval
 obtain ⟨v0, vs0, d0, ds0, p0, q0, hargs, rfl, rfl, h0, r0⟩ := trodAll_cons hA
 obtain ⟨v1, vs1, d1, ds1, p1, q1, rfl, rfl, rfl, h1, r1⟩ := trodAll_cons r0
 obtain ⟨rfl, rfl, rfl⟩ := trodAll_nil r1
 obtain rfl : args = #[v0, v1] := by cases args; simp_all
 obtain ⟨rfl, rfl⟩ := trodVars_none hV
 obtain ⟨a0, hr0⟩ := open_u8 Try.underlying5 (hval 0 5 v0 rfl rfl) h0
 obtain ⟨a1, hr1⟩ := open_u8 Try.underlying5 (hval 1 5 v1 rfl rfl) h1
 refine (calls_of_pure (vs := [v0, v1]) (wLaw a0 a1) ⟨_, _, rfl, hr0, _, _, rfl, hr1, rfl⟩).mono fun e W' ⟨he, hk⟩ => ?_
 subst he
 exact ⟨_, rfl, post_of_true laidB (by kernel_rfl) rfl Try.underlying4 rfl hW' hk rfl rfl rfl⟩
theorem topTenengoltsProved : Rows.TopTenengoltsSaid :=
 OpenClaim.holds_of_wide 3 Try.f3 rfl rfl rfl rfl rfl rfl rfl ⟨rfl, rfl, rfl, rfl, rfl⟩ rfl rfl rfl rfl rfl (by kernel_rfl) Try.func3 (by kernel_rfl)
  (of_decide_eq_true (by kernel_rfl)) (by unfold Func.isWrapper; first | (rw [if_pos (by decide +kernel)]; kernel_rfl) | (rw [if_neg (by decide +kernel)]; exact ⟨rfl, rfl⟩))
  (fun os started H enc _ => liftedL os started H enc)
#print axioms topTenengoltsProved
end Go.Proofs.Ytbfbjlehdhedcaa
