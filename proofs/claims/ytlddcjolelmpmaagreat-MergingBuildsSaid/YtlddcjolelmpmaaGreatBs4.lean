import Derived.Test.YtlddcjolelmpmaaGreatBs3
set_option linter.unusedSimpArgs false
set_option linter.unusedVariables false
noncomputable section
namespace Go.AW
open Go
def sops (r : Task → Option Out) (T : Tabs) (all : List Oper) : List Oper → AS → Nat → Option (AS × Nat)
 | [], s, n => some (s, n)
 | o :: rest, s, n => match o.guard with
  | none => match sop r T o s n with
   | some (s1, n1) => sops r T all rest s1 n1
   | none => none
  | some (j, want) => match all[j]? with
   | some oj => match oj.dst with
    | some d => match qiz s.slots d with
     | some (.bool b) => match (b == want) with
      | true => match sop r T o (s.putR (some d) (.bool want)) n with
       | some (s1, n1) => sops r T all rest s1 n1
       | none => none
      | false => sops r T all rest ((s.putR (some d) (.bool !want)).putR o.dst (.v undef)) n
     | _ => none
    | none => none
   | none => none
def sfrz : Nat → Heap → HV → Option HV
 | 0, _, h => some h
 | n + 1, D, h => match h with
  | .agg cs => match cs.mapM (sfrz n D) with
   | some cs => some (.agg cs)
   | none => none
  | .tup cs => match cs.mapM (sfrz n D) with
   | some cs => some (.tup cs)
   | none => none
  | .fn f fs cs => match fs.mapM (sfrz n D), cs.mapM (sfrz n D) with
   | some fs, some cs => some (.fn f fs cs)
   | _, _ => none
  | .ar id ver k off m => match qdY D id with
   | some (ver', .arr _ _ cs) => qaF (Nat.beq ver ver' && Nat.ble (off + m * k) cs.length) (match ((cs.drop off).take (m * k)).mapM (sfrz n D) with
    | some cs => some (.sl k m cs)
    | none => none)
   | _ => none
  | .ptr id ver off => match qdY D id with
   | some (ver', .arr _ _ cs) => qaF (Nat.beq ver ver') (match cs.mapM (sfrz n D) with
    | some cs => some (.fptr cs off)
    | none => none)
   | _ => none
  | h => some h
theorem qeO (n : Nat) (D : Heap) (ρ : Nat → Nat) : ∀ h h', sfrz n D h = some h' → frz n (renH ρ D) (h.ren ρ) = h'.ren ρ := by
 induction n with
 | zero => intro h h' e; cases e; rfl
 | succ n ih =>
  have ihL : ∀ (cs ds : List HV), cs.mapM (sfrz n D) = some ds → (renL ρ cs).map (frz n (renH ρ D)) = renL ρ ds := by
   intro cs
   induction cs with
   | nil => intro ds e; simp at e; subst e; rfl
   | cons c cs ihc =>
    intro ds e
    simp only [List.mapM_cons, Option.pure_def, Option.bind_eq_bind, Option.bind_eq_some_iff] at e
    obtain ⟨d, hd, es, he, e⟩ := e
    cases e
    simp only [renL, List.map_cons, ih _ _ hd, ihc _ he]
  intro h h' e
  unfold sfrz at e
  simp only [qay] at e
  split at e
  ·split at e
   ·rename_i hc; cases e; simp only [HV.ren, frz, ihL _ _ hc]
   cases e
  ·split at e
   ·rename_i hc; cases e; simp only [HV.ren, frz, ihL _ _ hc]
   cases e
  ·split at e
   ·rename_i hf hc; cases e; simp only [HV.ren, frz, ihL _ _ hf, ihL _ _ hc]
   cases e
  ·split at e
   ·rename_i id ver k off m _ ver' k' e' cs hg
    replace e := qag e
    obtain ⟨h1, e⟩ := e
    simp only [Bool.and_eq_true] at h1
    have hv := Nat.eq_of_beq_eq_true h1.1
    subst hv
    split at e
    ·rename_i ds hc
     cases e
     simp only [HV.ren, frz, qdJ, hg, Option.map_some, AObj.ren]
     rw [if_pos ⟨trivial, by rw [qco]; exact Nat.le_of_ble_eq_true h1.2⟩, ← qdO, ← qdg, ihL _ _ hc]
    cases e
   cases e
  ·split at e
   ·rename_i id ver off _ ver' k' e' cs hg
    replace e := qag e
    obtain ⟨h1, e⟩ := e
    have hv := Nat.eq_of_beq_eq_true h1
    subst hv
    split at e
    ·rename_i ds hc
     cases e
     simp only [HV.ren, frz, qdJ, hg, Option.map_some, AObj.ren, if_true]
     rw [ihL _ _ hc]
    cases e
   cases e
  cases e
  cases h <;> first | rfl | (exfalso; rename_i h1 h2 h3 h4 h5; first | exact h1 _ rfl | exact h2 _ rfl | exact h3 _ _ _ rfl | exact h4 _ _ _ _ _ rfl | exact h5 _ _ _ rfl)
theorem ACall.conv {P : Program} {f : FuncId} {args : List HV} {H : Heap} {K K' : HV → Heap → Prop} (h : ACall P f args H K) (hc : ∀ r H', K r H' → ∃ r2 H2, Conv H' r r2 H2 ∧ K' r2 H2) : ACall P f args H K' :=
 ⟨h.1, fun μ w vs hs hr hgl => (h.2 μ w vs hs hr hgl).mono fun _ w' ⟨v, r, H', μ', e, k, hs', hr', E⟩ => by
  obtain ⟨r2, H2, hconv, hk⟩ := hc r H' k
  obtain ⟨μ2, hs2, hr2, E2⟩ := hconv w' μ' v hs' hr'
  exact ⟨v, r2, H2, μ2, e, hk, hs2, hr2, E.trans E2⟩⟩
def qsl (s : AS) (x : Operand) : Option HV := match s.evR x with
  | some hv => match hv.cells? with
   | some cs => some (.fptr cs 0)
   | none => none
  | none => none
def qor (T : Tabs) (s : AS) (t : TypeId) (m : Nat) (ps : Array (Nat × Operand)) : Option HV := qaF (Nat.ble m 16777216) (match qmJ T.ty s t m ps.toList with
  | some (k, _, cs) => some (.sl k m cs)
  | none => none)
def qqW (r : Task → Option Out) (s : AS) (f : Operand) (aa : Array Operand) : Option HV := match s.evR f, aa.toList.mapM s.evR with
  | some (.fn (.func g) fs cs), some hs => (match (fs ++ hs ++ cs).mapM (sfrz 8 s.heap) with
   | some as' => qaF (scL 0 as') (match r (.call g as' [] 0) with
    | some (.call rv H _) => qaF (scL 0 (fs ++ hs ++ cs) || (nf rv && nfH H)) (match sfrz 8 H rv with
     | some q => qaF (q.sc 0) (some q)
     | none => none)
    | _ => none)
   | none => none)
  | _, _ => none
def sopS (r : Task → Option Out) (T : Tabs) (o : Oper) (s : AS) : Option HV :=
 match o.op with
 | .box _ x => qsl s x
 | .buildSlice t m ps => qor T s t m ps
 | .call ⟨.value f, aa, _⟩ => qqW r s f aa
 | op => sval T.ty op s
def qiy (r : Task → Option Out) (T : Tabs) (all : List Oper) : List Oper → AS → Nat → Option AS
 | [], s, _ => some s
 | o :: rest, s, n => match o.guard with
  | none => match sopS r T o s with
   | some h => qaF (h.sc n) (qiy r T all rest (s.putR o.dst h) n)
   | none => none
  | some (j, want) => match all[j]? with
   | some oj => match oj.dst with
    | some d => match qiz s.slots d with
     | some (.bool b) => match (b == want) with
      | true => match sopS r T o (s.putR (some d) (.bool want)) with
       | some h => qaF (h.sc n) (qiy r T all rest ((s.putR (some d) (.bool want)).putR o.dst h) n)
       | none => none
      | false => qiy r T all rest ((s.putR (some d) (.bool !want)).putR o.dst (.v undef)) n
     | _ => none
    | none => none
   | none => none
def qjq (o : Oper) : Bool := match o.op with
 | .alloc _ | .store _ _ _ | .makeSlice _ _ _ | .makeMap _ _ | .mapUpdate _ _ _ _ | .insert _ _ _ _ | .lookup _ _ _ _ | .range _ _ | .next _ _ | .entry _ | .build _ _ => false
 | .call ⟨.builtin .append, _, _⟩ => false
 | _ => true
def qno (o : Oper) : Bool := match o.op with
 | .call ⟨.value _, _, _⟩ | .box _ _ | .buildSlice _ _ _ => true
 | _ => false
def fnB : HV → Bool
 | .fn _ _ (_ :: _) => true
 | _ => false
def qnd (r : Task → Option Out) (T : Tabs) (all : List Oper) : List Oper → AS → Nat → Nat
 | [], _, p => p
 | o :: rest, s, p => bif qjq o then (match o.guard with
  | none => match sopS r T o s with
   | some h => bif fnB h && qno o then p else qnd r T all rest (s.putR o.dst h) (p + 1)
   | none => p
  | some (j, want) => match all[j]? with
   | some oj => match oj.dst with
    | some d => match qiz s.slots d with
     | some (.bool b) => match (b == want) with
      | true => match sopS r T o s with
       | some h => qnd r T all rest (s.putR o.dst h) (p + 1)
       | none => p
      | false => qnd r T all rest (s.putR o.dst (.v undef)) (p + 1)
     | _ => p
    | none => p
   | none => p) else p
def plain : List Oper → Nat → Nat
 | [], p => p
 | o :: rest, p => bif (qjq o && !qno o) then plain rest (p + 1) else p
def qmK (r : Task → Option Out) (T : Tabs) (ops : Array Oper) (s : AS) (n p : Nat) : Option (AS × Nat) :=
 qaF (qjL ops p) (match qiy r T ops.toList (ops.toList.take p) s n with
  | some s1 => sops r T ops.toList (ops.toList.drop p) s1 n
  | none => none)
def qrr (r : Task → Option Out) (T : Tabs) (ops : Array Oper) (s : AS) (n : Nat) : Option (AS × Nat) :=
 match qmK r T ops s n (qnd r T ops.toList ops.toList s 0) with
 | some x => some x
 | none => qmK r T ops s n (plain ops.toList 0)
def qrn (T : TypeId → Option TyI) (s : AS) (rv : ResultVar) : Option HV :=
 match rv with
 | .tmp t => qiz s.slots t
 | .cell t ty' => match T ty', qiz s.slots t with
  | some U, some (.fptr cs off) => qk1 U cs off
  | some U, some (.ptr id ver off) => match qdY s.heap id with
   | some (ver', .arr _ _ cs) => qaF (Nat.beq ver ver') (qk1 U cs off)
   | _ => none
  | _, _ => none
def sres (T : TypeId → Option TyI) (s : AS) : List ResultVar → Option (List HV)
 | [] => some []
 | rv :: rvs => match qrn T s rv, sres T s rvs with
  | some h, some hs => some (h :: hs)
  | _, _ => none
mutual
def HV.refs (n : Nat) : HV → List Nat → List Nat
 | .agg cs, a | .tup cs, a | .sl _ _ cs, a | .fptr cs _, a => qoC n cs a
 | .ar id _ _ _ _, a | .ptr id _ _, a | .mp id _, a | .yl id _, a | .it id _, a => bif Nat.blt id n then a else id :: a
 | .fn _ fs cs, a => qoC n fs (qoC n cs a)
 | _, a => a
def qoC (n : Nat) : List HV → List Nat → List Nat
 | [], a => a
 | c :: cs, a => c.refs n (qoC n cs a)
end
def qsp (n : Nat) : List (Nat × HV) → List Nat → List Nat
 | [], a => a
 | (_, h) :: l, a => h.refs n (qsp n l a)
def qsq (n : Nat) : List (List UInt8 × HV) → List Nat → List Nat
 | [], a => a
 | (_, h) :: l, a => h.refs n (qsq n l a)
def AObj.refs (n : Nat) : AObj → List Nat → List Nat
 | .arr _ _ cs, a => qoC n cs a
 | .map es, a => qsq n es a
 | .iter mid _ _ _, a => bif Nat.blt mid n then a else mid :: a
 | .loop _ _ _ _ snap _ _ _, a => qsp n snap a
 | .kmap _, a => a
def ql7 (n : Nat) : Heap → List Nat → List Nat
 | [], a => a
 | (i, _, o) :: l, a => bif Nat.blt i n then o.refs n (ql7 n l a) else ql7 n l a
def memN (i : Nat) : List Nat → Bool
 | [] => false
 | j :: l => bif Nat.beq i j then true else memN i l
def mark (n : Nat) (H : Heap) : Nat → List Nat → List Nat → List Nat
 | 0, _, m => m
 | _ + 1, [], m => m
 | f + 1, i :: w, m => bif memN i m then mark n H f w m else match hget H i with
  | some (_, o) => mark n H f (o.refs n w) (i :: m)
  | none => mark n H f w m
def qkG (n : Nat) (m : List Nat) : Heap → Heap
 | [] => []
 | (i, x) :: l => bif (Nat.blt i n || memN i m) then (i, x) :: qkG n m l else qkG n m l
def qnt (n : Nat) : Heap → Bool
 | [] => false
 | (i, _) :: l => bif Nat.blt i n then qnt n l else true
def gc (n : Nat) (rv : HV) (H : Heap) : Heap := bif qnt n H then qkG n (mark n H 200 (rv.refs n (ql7 n H [])) []) H else H
theorem qiZ (n : Nat) (m : List Nat) : ∀ (H : Heap) (id : Nat) (x : Nat × AObj), hget (qkG n m H) id = some x → hget H id = some x
 | [], _, _, h => h
 | (i, v, o) :: l, id, x, h => by
  simp only [qkG] at h
  simp only [hget]
  cases hb : (Nat.blt i n || memN i m) with
  | true =>
   rw [hb] at h
   simp only [cond_true, hget] at h
   split
   ·rename_i e; rw [if_pos e] at h; exact h
   rename_i e; rw [if_neg e] at h; exact qiZ n m l id x h
  | false =>
   rw [hb] at h
   simp only [cond_false] at h
   split
   ·rename_i e
    subst e
    exfalso
    have : ∀ l : Heap, hget (qkG n m l) id = none := fun l => by
     induction l with
     | nil => rfl
     | cons y l ih =>
      obtain ⟨j, y⟩ := y
      simp only [qkG]
      cases hb2 : (Nat.blt j n || memN j m) with
      | true =>
       simp only [cond_true, hget]
       split
       ·rename_i e; subst e; rw [hb] at hb2; cases hb2
       exact ih
      | false => exact ih
    rw [this] at h
    cases h
   exact qiZ n m l id x h
theorem qq3 {n : Nat} {rv : HV} {H : Heap} {id : Nat} {x : Nat × AObj} (h : hget (gc n rv H) id = some x) : hget H id = some x := by
 unfold gc at h
 cases hb : qnt n H with
 | true => rw [hb] at h; exact qiZ _ _ _ _ _ h
 | false => rw [hb] at h; exact h
theorem qkF {k n : Nat} {m : List Nat} : ∀ {H : Heap}, scH k H = true → scH k (qkG n m H) = true
 | [], _ => rfl
 | (i, v, o) :: l, h => by
  simp only [scH, Bool.and_eq_true] at h
  simp only [qkG]
  cases (Nat.blt i n || memN i m) with
  | true => simp only [cond_true, scH, h.1.1.1, h.1.1.2, h.1.2, qkF h.2, Bool.and_self]
  | false => exact qkF h.2
theorem qtF {k n : Nat} {rv : HV} {H : Heap} (h : scH k H = true) : scH k (gc n rv H) = true := by
 unfold gc
 cases qnt n H with
 | true => exact qkF h
 | false => exact h
theorem Step.drop {n n' : Nat} {H H1 H2 : Heap} (h : Step n n' H H1) (hd : ∀ id x, hget H2 id = some x → hget H1 id = some x) : Step n n' H H2 :=
 ⟨h.le, fun id v st pend f m snap ps a b hg x hx => h.loop id v st pend f m snap ps a b hg x (hd id x hx), fun id hid y hy => h.back id hid y (hd id y hy)⟩
mutual
theorem HV.ren_id : ∀ h : HV, h.ren (fun v => v) = h
 | .int _ _ => rfl
 | .bool _ => rfl
 | .str _ => rfl
 | .v _ => rfl
 | .agg cs => congrArg HV.agg (qeE cs)
 | .tup cs => congrArg HV.tup (qeE cs)
 | .sl k m cs => congrArg (HV.sl k m) (qeE cs)
 | .ar _ _ _ _ _ => rfl
 | .ptr _ _ _ => rfl
 | .fptr cs off => congrArg (fun x => HV.fptr x off) (qeE cs)
 | .fn f fs cs => by simp only [HV.ren]; rw [qeE fs, qeE cs]
 | .mp _ _ => rfl
 | .yl _ _ => rfl
 | .it _ _ => rfl
theorem qeE : ∀ cs : List HV, renL (fun v => v) cs = cs
 | [] => rfl
 | c :: cs => by simp only [renL]; rw [HV.ren_id c, qeE cs]
end
theorem qgc (ρ : Nat → Nat) {h : HV} (hs : h.sc 0 = true) : h.ren ρ = h := (HV.ren_agree (ρ' := fun v => v) (fun v hv => by omega) h hs).trans h.ren_id
theorem qh2 (ρ : Nat → Nat) {h : List HV} (hs : scL 0 h = true) : renL ρ h = h := (qb0 (ρ' := fun v => v) (fun v hv => by omega) h hs).trans (qeE h)
mutual
theorem qfx : ∀ h : HV, h.sc 0 = true → clean h
 | .int _ _, _ => trivial
 | .bool _, _ => trivial
 | .str _, _ => trivial
 | .v _, _ => trivial
 | .agg cs, h => qdv cs h
 | .tup cs, h => qdv cs h
 | .sl _ _ cs, h => qdv cs h
 | .fptr cs _, h => qdv cs h
 | .fn _ fs cs, h => by
  simp only [HV.sc, Bool.and_eq_true] at h
  exact ⟨qdv fs h.1, qdv cs h.2⟩
 | .ar _ v _ _ _, h => absurd (qcq h) (Nat.not_lt_zero _)
 | .ptr _ v _, h => absurd (qcq h) (Nat.not_lt_zero _)
 | .mp _ v, h => absurd (qcq h) (Nat.not_lt_zero _)
 | .yl _ v, h => absurd (qcq h) (Nat.not_lt_zero _)
 | .it _ v, h => absurd (qcq h) (Nat.not_lt_zero _)
theorem qdv : ∀ cs : List HV, scL 0 cs = true → qeX cs
 | [], _ => trivial
 | c :: cs, h => by
  simp only [scL, Bool.and_eq_true] at h
  exact ⟨qfx c h.1, qdv cs h.2⟩
end
def qgx (r : Task → Option Out) (top : Bool) (N : Nat) (x : Code) : Nat → AS → Nat → Option Out
 | 0, _, _ => none
 | k + 1, s, n => match r (.code top N x s n) with
  | some (.code .normal s1 n1) => qgx r top N x k s1 n1
  | o => o
def qtE : Exit → Bool
 | .normal | .ret => true
 | _ => false
def qrA : LoopState → Bool
 | .busy => false
 | _ => true
def qmG : List HV → Option (List (List UInt8))
 | [] => some []
 | .str l :: cs => match qmG cs with
  | some ls => some (l :: ls)
  | none => none
 | _ => none
def qnb : List HV → Option (List Int)
 | [] => some []
 | .int .i64 n :: cs => match qnb cs with
  | some ls => some (n :: ls)
  | none => none
 | _ => none
theorem qkX : ∀ {cs : List HV} {ls : List (List UInt8)}, qmG cs = some ls → cs = ls.map .str
 | [], ls, h => by cases h; rfl
 | c :: cs, ls, h => by
  unfold qmG at h
  split at h
  ·cases h; simp_all
  ·rename_i l cs' heq
   cases heq
   split at h
   ·rename_i ls' hl
    cases h
    rw [qkX hl]
    rfl
   cases h
  cases h
theorem qlr : ∀ {cs : List HV} {ls : List Int}, qnb cs = some ls → cs = ls.map (.int .i64)
 | [], ls, h => by cases h; rfl
 | c :: cs, ls, h => by
  unfold qnb at h
  split at h
  ·cases h; simp_all
  ·rename_i l cs' heq
   cases heq
   split at h
   ·rename_i ls' hl
    cases h
    rw [qlr hl]
    rfl
   cases h
  cases h
def qrm (k : Bool) (args : List HV) (H : Heap) (n : Nat) : Option Out :=
 match args with
 | [.v (.slice none 0 0)] => some (.call (.tup []) H n)
 | [.ar id ver 1 0 m] => match qdY H id with
  | some (ver', .arr 1 e cs) => match k with
   | true => match qmG cs with
    | some ls => qaF (Nat.beq ver ver' && (Nat.beq m ls.length && Nat.blt ls.length 4611686018427387904)) (some (.call (.tup []) (qfm H id ver (.arr 1 e ((qlp (fun a b => decide (a ≤ b)) ls).map .str))) n))
    | none => none
   | false => match qnb cs with
    | some ls => qaF (Nat.beq ver ver' && (Nat.beq m ls.length && Nat.blt ls.length 4611686018427387904)) (some (.call (.tup []) (qfm H id ver (.arr 1 e ((qlp (fun a b => decide (a ≤ b)) ls).map (.int .i64)))) n))
    | none => none
  | _ => none
 | _ => none
def qmI (T : Tabs) (r : Task → Option Out) (ops : Array Oper) (dr : Bool) (N : Nat) (s : AS) (n : Nat) : Option Out := qaF (ops.toList.all fun o => okd N o.dst) (match (match dr with
        | true => qrr r T ops s n
        | false => sops r T ops.toList ops.toList s n) with
      | some (s1, n1) => some (.code .normal s1 n1)
      | none => none)
def qoo (r : Task → Option Out) (top : Bool) (N : Nat) (g : Operand) (ps : Array Tmp) (assign body : Code) (s : AS) (n : Nat) : Option Out := match top, s.evR g with
      | true, some (.fn (.func f) fs cs) => qaF (scL n fs && scL n cs) (match r (.call f (fs ++ [.yl n n] ++ cs) (qfm s.heap n n (.loop .ready none (n + 1) N s.slots ps assign body)) (n + 2)) with
        | some (.call _ H n1) => match qdY H n with
          | some (_, .loop st pend _ _ _ _ _ _) => qaF (qrA st) (match pend with
            | none => some (.code .normal { s with heap := qfm H n n (.loop .exhausted none (n + 1) N s.slots ps assign body) } n1)
            | some .ret => some (.code .ret { s with heap := qfm H n n (.loop .exhausted (some .ret) (n + 1) N s.slots ps assign body) } n1)
            | some (.exit i) => some (.code (.exit i) { s with heap := qfm H n n (.loop .exhausted (some (.exit i)) (n + 1) N s.slots ps assign body) } n1)
            | _ => none)
          | _ => none
        | _ => none)
      | _, _ => none
def qqV (T : Tabs) (r : Task → Option Out) (fn : Func) (c : Code) (args : List HV) (H : Heap) (n : Nat) : Option Out := qaF (Nat.ble args.length fn.ntmps) (match r (.code true fn.ntmps c ⟨qaH 0 args, H⟩ n) with
          | some (.code e s1 n1) => qaF (qtE e) (match sres T.ty s1 fn.results.toList with
            | some hs => qaF ((qgG hs).sc n1) (some (.call (qgG hs) (gc n (qgG hs) s1.heap) n1))
            | none => none)
          | _ => none)
def qqU (T : Tabs) (r : Task → Option Out) (f : FuncId) (args : List HV) (H : Heap) (n : Nat) : Option Out := match T.sort f with
   | some k => qrm k args H n
   | none => match qaF (scL 0 args) (T.extP f args) with
    | some rv => qaF (rv.sc 0) (some (.call rv H n))
    | none => match (match args.mapM (sfrz 8 H) with
      | some as' => qaF (scL 0 as') (T.ext f as')
      | none => none) with
     | some rv => qaF (rv.sc 0) (some (.call rv H n))
     | none => match T.fn f with
      | some fn => match fn.body with
        | some c => qqV T r fn c args H n
        | none => none
      | none => none
def qrl (T : Tabs) (r : Task → Option Out) (top : Bool) (N : Nat) (ks : Option (List Nat)) (y : Code) (s : AS) (n : Nat) : Option Out := match ks with
      | some ks => qqs s.slots ks fun l => r (.code top N y ⟨l, s.heap⟩ n)
      | none => r (.code top N y s n)
def qsk (T : Tabs) (r : Task → Option Out) (top : Bool) (N : Nat) (x y : Code) (s : AS) (n : Nat) : Option Out := match r (.code top N x s n) with
      | some (.code .normal s1 n1) => qrl T r top N (match x with
        | .region id _ _ => T.keep N id
        | _ => none) y s1 n1
      | o => o
def qop (r : Task → Option Out) (top : Bool) (N : Nat) (i : Nat) (x : Code) (s : AS) (n : Nat) : Option Out := match r (.code top N x s n) with
      | some (.code (.exit j) s1 n1) => some (.code (if j = i then .normal else .exit j) s1 n1)
      | o => o
def qqS (r : Task → Option Out) (top : Bool) (N : Nat) (c : Operand) (x y : Code) (s : AS) (n : Nat) : Option Out := match s.evR c with
      | some (.bool true) => r (.code top N x s n)
      | some (.bool false) => r (.code top N y s n)
      | _ => none
def qqT (T : Tabs) (r : Task → Option Out) (top : Bool) (N : Nat) (c : Code) (s : AS) (n : Nat) : Option Out := match c with
  | .skip => some (.code .normal s n)
  | .exit i => some (.code (.exit i) s n)
  | .ret => some (.code .ret s n)
  | .seq x y => qsk T r top N x y s n
  | .block i x => qop r top N i x s n
  | .cond c x y => qqS r top N c x y s n
  | .loop x => qgx r top N x 5000 s n
  | .region _ ops dr => qmI T r ops dr N s n
  | .rangeFunc g ps assign body => qoo r top N g ps assign body s n
  | _ => none
def step (T : Tabs) (r : Task → Option Out) : Task → Option Out
 | .code top N c s n => qqT T r top N c s n
 | .call f args H n => qqU T r f args H n
def run (T : Tabs) : Nat → Task → Option Out
 | 0, _ => none
 | k + 1, t => step T (run T k) t
section
variable {P : Program} {T : Tabs} {N n n' : Nat} {s s' : AS} {r : Task → Option Out}
theorem qka (hT : T.Ok P) (hr : Good P r) {ops : Array Oper} (hok : ops.toList.all (fun o => okd N o.dst) = true) : ∀ (l : List Oper) (i : Nat) (s : AS) (n : Nat), (∀ k, l[k]? = ops[i + k]?) → s.sc n = true → sops r T ops.toList l s n = some (s', n') →
  s'.sc n' = true ∧ Step n n' s.heap s'.heap ∧ ∀ (ρ : Nat → Nat) (ro : Option Nat) (K : AS → Prop), (∀ ρ', Agree n ρ ρ' → K (s'.ren ρ')) → AOps P ro N ops (List.range' i l.length) K (s.ren ρ)
 | [], i, s, n, _, hs, h => by
  cases h
  exact ⟨hs, Step.refl _ _, fun ρ ro K hK => AOps.nil (hK ρ (Agree.refl _ _))⟩
 | o :: l, i, s, n, hl, hs, h => by
  have ho : ops[i]? = some o := by have := hl 0; simpa using this.symm
  have hN : okd N o.dst = true := List.all_eq_true.1 hok o (by
   have := Array.getElem?_toList (xs := ops) (i := i)
   rw [ho] at this
   exact List.mem_of_getElem? this)
  have hl' : ∀ k, l[k]? = ops[i + 1 + k]? := fun k => by
   have := hl (k + 1)
   rw [List.getElem?_cons_succ] at this
   rw [this]; congr 1; omega
  -- an operation, then the rest
  have go : ∀ (s0 : AS), s0.sc n = true → s0.heap = s.heap → (match sop r T o s0 n with
    | some (s1, n1) => sops r T ops.toList l s1 n1
    | none => none) = some (s', n') → s'.sc n' = true ∧ Step n n' s.heap s'.heap ∧ ∀ (ρ : Nat → Nat) (ro : Option Nat) (K : AS → Prop), (∀ ρ', Agree n ρ ρ' → K (s'.ren ρ')) → AOp P ro N o (AOps P ro N ops (List.range' (i + 1) l.length) K) (s0.ren ρ) := by
   intro s0 hs0 hh h
   split at h
   ·rename_i s1 n1 hop
    obtain ⟨h1, h2, h3⟩ := qsm hT hr hN hs0 hop
    obtain ⟨h4, h5, h6⟩ := qka hT hr hok l (i + 1) s1 n1 hl' h1 h
    rw [hh] at h2
    refine ⟨h4, h2.trans (qbL hs) h5, fun ρ ro K hK => h3 ρ ro _ fun ρ1 ha1 => h6 ρ1 ro K fun ρ2 ha2 => hK ρ2 (ha1.trans h2.le ha2)⟩
   cases h
  simp only [sops, qax, qaN] at h
  split at h
  ·rename_i hg
   obtain ⟨h1, h2, h3⟩ := go s hs rfl h
   exact ⟨h1, h2, fun ρ ro K hK => AOps.cons ho hg (h3 ρ ro K hK)⟩
  rename_i j want hg
  split at h
  ·rename_i oj hoj
   split at h
   ·rename_i d hd
    split at h
    ·rename_i b hb
     have hbr : ∀ ρ : Nat → Nat, sget (s.ren ρ).slots d = some (.bool b) := fun ρ => by
      show sget (renS ρ s.slots) d = _
      rw [qes, hb]; rfl
     split at h
     ·rename_i hbw
      have hbw : b = want := by simpa using hbw
      obtain ⟨h1, h2, h3⟩ := go (s.put (some d) (.bool want)) (qfj hs rfl) rfl h
      refine ⟨h1, h2, fun ρ ro K hK => AOps.guard ho hN hg (by simpa using hoj) hd (hbr ρ) (fun _ => ?_) (fun e => by cases b <;> cases want <;> simp at e hbw)⟩
      have := h3 ρ ro K hK
      rw [qdW] at this
      exact this
     rename_i hbw
     have hbw : b ≠ want := by simpa using hbw
     obtain ⟨h1, h2, h3⟩ := qka hT hr hok l (i + 1) _ n hl' (qfj (qfj hs rfl) rfl) h
     rw [qcR, qcR] at h2
     refine ⟨h1, h2, fun ρ ro K hK => AOps.guard ho hN hg (by simpa using hoj) hd (hbr ρ) (fun e => absurd e hbw) fun _ => ?_⟩
     have := h3 ρ ro K hK
     rw [qdW, qdW] at this
     exact this
    cases h
   cases h
  cases h
theorem qkt {D : Heap} (ρ : Nat → Nat) : ∀ {cs ds : List HV}, cs.mapM (sfrz 8 D) = some ds → (renL ρ cs).map (frz 8 (renH ρ D)) = renL ρ ds
 | [], ds, e => by simp at e; subst e; rfl
 | c :: cs, ds, e => by
  simp only [List.mapM_cons, Option.pure_def, Option.bind_eq_bind, Option.bind_eq_some_iff] at e
  obtain ⟨d, hd, es, he, e⟩ := e
  cases e
  simp only [renL, List.map_cons, qeO 8 D ρ _ _ hd, qkt ρ he]
mutual
theorem qm3 (ρ : Nat → Nat) : ∀ h : HV, nf h = true → nf (h.ren ρ) = true
 | .int _ _, _ => rfl
 | .bool _, _ => rfl
 | .str _, _ => rfl
 | .v _, _ => rfl
 | .agg cs, h => qha ρ cs h
 | .tup cs, h => qha ρ cs h
 | .sl _ _ _, h => by cases h
 | .ar _ _ _ _ _, _ => rfl
 | .ptr _ _ _, _ => rfl
 | .fptr _ _, h => by cases h
 | .fn _ fs cs, h => by
  simp only [nf, Bool.and_eq_true] at h
  simp only [HV.ren, nf, qha ρ fs h.1, qha ρ cs h.2, Bool.and_self]
 | .mp _ _, _ => rfl
 | .yl _ _, _ => rfl
 | .it _ _, _ => rfl
theorem qha (ρ : Nat → Nat) : ∀ cs : List HV, nfL cs = true → nfL (renL ρ cs) = true
 | [], _ => rfl
 | c :: cs, h => by
  simp only [nfL, Bool.and_eq_true] at h
  simp only [renL, nfL, qm3 ρ c h.1, qha ρ cs h.2, Bool.and_self]
end
theorem qoZ (ρ : Nat → Nat) : ∀ es, nfE es = true → nfE (renE ρ es) = true
 | [], _ => rfl
 | (_, c) :: cs, h => by
  simp only [nfE, Bool.and_eq_true] at h
  simp only [renE, nfE, qm3 ρ c h.1, qoZ ρ cs h.2, Bool.and_self]
theorem ql9 (ρ : Nat → Nat) : ∀ H : Heap, nfH H = true → nfH (renH ρ H) = true
 | [], _ => rfl
 | (_, _, o) :: H, h => by
  simp only [nfH, Bool.and_eq_true] at h
  have ho : nfO (o.ren ρ) = true := by
   cases o with
   | arr k e cs => exact qha ρ cs h.1
   | map es => exact qoZ ρ es h.1
   | iter _ _ _ _ => rfl
   | loop _ _ _ _ _ _ _ _ => cases h.1
   | kmap _ => rfl
  simp only [renH, nfH, ho, ql9 ρ H h.2, Bool.and_self]
theorem qp4 {D : Heap} (m : Nat) : ∀ (h h' : HV), h.sc 0 = true → sfrz m D h = some h' → h' = h := by
 induction m with
 | zero => intro h h' _ e; cases e; rfl
 | succ m ih =>
  have ihL : ∀ (cs ds : List HV), scL 0 cs = true → cs.mapM (sfrz m D) = some ds → ds = cs := by
   intro cs
   induction cs with
   | nil => intro ds _ e; simp at e; exact e
   | cons c cs ihc =>
    intro ds hs e
    simp only [scL, Bool.and_eq_true] at hs
    simp only [List.mapM_cons, Option.pure_def, Option.bind_eq_bind, Option.bind_eq_some_iff] at e
    obtain ⟨d, hd, es, he, e⟩ := e
    cases e
    rw [ih _ _ hs.1 hd, ihc _ hs.2 he]
  intro h h' hs e
  unfold sfrz at e
  split at e
  ·split at e
   ·rename_i hc; cases e; rw [ihL _ _ hs hc]
   cases e
  ·split at e
   ·rename_i hc; cases e; rw [ihL _ _ hs hc]
   cases e
  ·simp only [HV.sc, Bool.and_eq_true] at hs
   split at e
   ·rename_i hf hc; cases e; rw [ihL _ _ hs.1 hf, ihL _ _ hs.2 hc]
   cases e
  ·exact absurd (qcq hs) (Nat.not_lt_zero _)
  ·exact absurd (qcq hs) (Nat.not_lt_zero _)
  cases e; rfl
theorem qk2 {D : Heap} (m : Nat) : ∀ (cs ds : List HV), scL 0 cs = true → cs.mapM (sfrz m D) = some ds → ds = cs
 | [], ds, _, e => by simp at e; exact e
 | c :: cs, ds, hs, e => by
  simp only [scL, Bool.and_eq_true] at hs
  simp only [List.mapM_cons, Option.pure_def, Option.bind_eq_bind, Option.bind_eq_some_iff] at e
  obtain ⟨d, hd, es, he, e⟩ := e
  cases e
  rw [qp4 m _ _ hs.1 hd, qk2 m _ _ hs.2 he]
theorem qqz (hr : Good P r) {g : FuncId} {aa as' : List HV} {H H1 : Heap} {n1 : Nat} {rv q : HV} (ha : aa.mapM (sfrz 8 H) = some as') (h0 : scL 0 as' = true) (hc : r (.call g as' [] 0) = some (.call rv H1 n1))
  (hn : (scL 0 aa || (nf rv && nfH H1)) = true) (hf : sfrz 8 H1 rv = some q) (hq : q.sc 0 = true) (ρ : Nat → Nat) : ACallD P g (renL ρ aa) (renH ρ H) q := by
 obtain ⟨h1, h2, st, hcall⟩ := hr _ _ hc h0 rfl
 have hargs : renL ρ as' = (renL ρ aa).map (frz 8 (renH ρ H)) := (qkt ρ ha).symm
 have hqr : ∀ ρ' : Nat → Nat, frz 8 (renH ρ' H1) (rv.ren ρ') = q := fun ρ' => by rw [qeO 8 H1 ρ' rv q hf, qgc ρ' hq]
 cases hs : scL 0 aa with
 | true =>
  have e : as' = aa := qk2 8 _ _ hs ha
  subst e
  refine zai ?_
  rw [qh2 ρ hs]
  have h5 := hcall ρ (fun r' H' => ∃ ρ', r' = rv.ren ρ' ∧ H' = renH ρ' H1) fun ρ' _ => ⟨ρ', rfl, rfl⟩
  rw [qh2 ρ hs] at h5
  refine h5.conv ?_
  rintro r' H' ⟨ρ', rfl, rfl⟩
  exact ⟨_, _, Conv.all 8, hqr ρ', hqr ρ' ▸ qfx q hq, rfl⟩
 | false =>
  rw [hs, Bool.false_or, Bool.and_eq_true] at hn
  refine zaL (K := fun r' H' => ∃ ρ', r' = rv.ren ρ' ∧ H' = renH ρ' H1) 8 8 ?_ ?_ (qfx q hq)
  ·rw [← hargs]
   exact hcall ρ _ fun ρ' _ => ⟨ρ', rfl, rfl⟩
  rintro r' H' ⟨ρ', rfl, rfl⟩
  exact ⟨qm3 ρ' rv hn.1, ql9 ρ' H1 hn.2, hqr ρ'⟩
theorem qro (hT : T.Ok P) (hr : Good P r) {o : Oper} {q : HV} (h : sopS r T o s = some q) (ρ : Nat → Nat) {R : HV → Prop} (hq : R (q.ren ρ)) : aopS P o R (s.ren ρ) := by
 unfold sopS at h
 unfold aopS
 split at h
 ·rename_i e x hop
  simp only [hop]
  unfold qsl at h
  try simp only [qa0, qay, qaE, qax, qaN, qaU, qau] at h
  split at h
  ·rename_i hv hx
   split at h
   ·rename_i cs hcs
    cases h
    simp only [qaK, hx, Option.map_some, qgO, hcs]
    exact hq
   cases h
  cases h
 ·rename_i t m ps hop
  simp only [hop]
  unfold qor at h
  try simp only [qa0, qay, qaE, qax, qaN, qaU, qau] at h
  replace h := qag h
  obtain ⟨h1, h⟩ := h
  split at h
  ·rename_i k e cs hsl
   cases h
   exact ⟨Nat.le_of_ble_eq_true h1, qhw hT.ty hsl hq⟩
  cases h
 ·rename_i f aa ts hop
  simp only [hop]
  unfold qqW at h
  try simp only [qa0, qay, qaE, qax, qaN, qaU, qau] at h
  split at h
  ·rename_i g fs cs hs hf ha
   split at h
   ·rename_i as' has'
    replace h := qag h
    obtain ⟨h1, h⟩ := h
    split at h
    ·rename_i rv H1 n1 hrc
     replace h := qag h
     obtain ⟨h2, h⟩ := h
     split at h
     ·rename_i q' hq'
      replace h := qag h
      obtain ⟨h3, h⟩ := h
      cases h
      have := qqz hr has' h1 hrc h2 hq' h3 ρ
      simp only [qaK, hf, Option.map_some, HV.ren, qpt ha ρ]
      rw [← qbr, ← qbr]
      rw [qgc ρ h3] at hq
      exact ⟨q, this, hq⟩
     cases h
    cases h
   cases h
  cases h
 have h' := qjp (P := P) hT.ty h hq
 split
 ·rename_i h1 h2 h3 _ _ _ e; exact absurd e (h1 _ _)
 ·rename_i h1 h2 h3 _ _ _ _ e; exact absurd e (h2 _ _ _)
 ·rename_i e; rw [e] at h'; exact h'.elim
 ·rename_i h1 h2 h3 _ _ _ _ e; exact absurd e (h3 _ _ _)
 exact h'
theorem qix (hT : T.Ok P) (hr : Good P r) {all : List Oper} (ρ : Nat → Nat) {K : AS → Prop} {s1 : AS} : ∀ (l : List Oper) (s : AS), s.sc n = true → qiy r T all l s n = some s1 → s1.sc n = true ∧ s1.heap = s.heap ∧ (K (s1.ren ρ) → qcr P all l K (s.ren ρ))
 | [], s, hs, h => by cases h; exact ⟨hs, rfl, id⟩
 | o :: l, s, hs, h => by
  have go : ∀ (s0 : AS), s0.sc n = true → s0.heap = s.heap → (match sopS r T o s0 with
    | some h => qaF (h.sc n) (qiy r T all l (s0.put o.dst h) n)
    | none => none) = some s1 → s1.sc n = true ∧ s1.heap = s.heap ∧ (K (s1.ren ρ) → aopS P o (fun h => qcr P all l K ((s0.ren ρ).put o.dst h)) (s0.ren ρ)) := by
   intro s0 hs0 hh h
   split at h
   ·rename_i q hq
    replace h := qag h
    obtain ⟨h1, h⟩ := h
    obtain ⟨h2, h3, h4⟩ := qix hT hr ρ l _ (qfj hs0 h1) h
    rw [qcR, hh] at h3
    refine ⟨h2, h3, fun hK => qro hT hr hq ρ ?_⟩
    have := h4 hK
    rw [qdW] at this
    exact this
   cases h
  simp only [qiy, qax, qaN] at h
  split at h
  ·rename_i hg
   obtain ⟨h1, h2, h3⟩ := go s hs rfl h
   refine ⟨h1, h2, fun hK => ?_⟩
   simp only [qcr, hg]
   exact h3 hK
  rename_i j want hg
  split at h
  ·rename_i oj hoj
   split at h
   ·rename_i d hd
    split at h
    ·rename_i b hb
     have hbr : sget (s.ren ρ).slots d = some (.bool b) := by
      show sget (renS ρ s.slots) d = _
      rw [qes, hb]; rfl
     split at h
     ·rename_i hbw
      have hbw : b = want := by simpa using hbw
      obtain ⟨h1, h2, h3⟩ := go (s.put (some d) (.bool want)) (qfj hs rfl) rfl h
      refine ⟨h1, h2, fun hK => ?_⟩
      simp only [qcr, hg, hoj, hd, hbr]
      have h4 := h3 hK
      rw [qdW] at h4
      rw [if_pos hbw]
      exact h4
     rename_i hbw
     have hbw : b ≠ want := by simpa using hbw
     obtain ⟨h1, h2, h3⟩ := qix hT hr ρ l _ (qfj (d := o.dst) (h := .v undef) (qfj (d := some d) (h := .bool !want) hs rfl) rfl) h
     rw [qcR, qcR] at h2
     refine ⟨h1, h2, fun hK => ?_⟩
     simp only [qcr, hg, hoj, hd, hbr]
     have h4 := h3 hK
     rw [qdW, qdW] at h4
     rw [if_neg hbw]
     exact h4
    cases h
   cases h
  cases h
theorem AW.ops {ro : Option Nat} {id : Nat} {ops : Array Oper} {Q : Exit → AS → Prop} (h : AOps P ro N ops (List.range' 0 ops.toList.length) (fun s' => Q .normal s') s) : AW P ro N (.region id ops false) Q s := by
 intro w0 μ0 μ a w hs hE
 refine wpIn_region ?_
 rw [List.range_eq_range', ← Array.length_toList]
 exact h w0 μ0 μ a w _ hs hE fun μ' s' a' w' hk hs' hE' => ⟨(fun _ h => by cases h), (fun h => by cases h), _, _, hk, hs', hE'⟩
theorem qk5 (hT : T.Ok P) (hr : Good P r) {id : Nat} {ops : Array Oper} (hok : ops.toList.all (fun o => okd N o.dst) = true) {p : Nat} (hs : s.sc n = true) (h : qmK r T ops s n p = some (s', n')) :
  s'.sc n' = true ∧ Step n n' s.heap s'.heap ∧ ∀ (ρ : Nat → Nat) (ro : Option Nat) (Q : Exit → AS → Prop), (∀ ρ', Agree n ρ ρ' → Q .normal (s'.ren ρ')) → AW P ro N (.region id ops true) Q (s.ren ρ) := by
 unfold qmK at h
 replace h := qag h
 obtain ⟨hd, h⟩ := h
 split at h
 ·rename_i s1 hst
  have h1 := fun (ρ : Nat → Nat) (K : AS → Prop) => qix (K := K) hT hr ρ _ _ hs hst
  have h2 := h1 (fun v => v) fun _ => True
  obtain ⟨h3, h4, h5⟩ := qka hT hr hok (ops.toList.drop p) p s1 n (fun k => by rw [List.getElem?_drop, Array.getElem?_toList]) h2.1 h
  rw [h2.2.1] at h4
  refine ⟨h3, h4, fun ρ ro Q hQ => AW.drawX p (fun x => x = s1.ren ρ) hT.draw hok hd ?_ ((h1 ρ _).2.2 rfl)⟩
  rintro x rfl
  have := h5 ρ ro (fun s' => Q .normal s') hQ
  have hl : (ops.toList.drop p).length = ops.size - p := by simp
  rw [hl] at this
  exact this
 cases h
theorem qp5 (hT : T.Ok P) (hr : Good P r) {id : Nat} {ops : Array Oper} (hok : ops.toList.all (fun o => okd N o.dst) = true) (hs : s.sc n = true) (h : qrr r T ops s n = some (s', n')) :
  s'.sc n' = true ∧ Step n n' s.heap s'.heap ∧ ∀ (ρ : Nat → Nat) (ro : Option Nat) (Q : Exit → AS → Prop), (∀ ρ', Agree n ρ ρ' → Q .normal (s'.ren ρ')) → AW P ro N (.region id ops true) Q (s.ren ρ) := by
 unfold qrr at h
 split at h
 ·rename_i x hx
  cases h
  exact qk5 hT hr hok hs hx
 exact qk5 hT hr hok hs h
theorem qoq (hT : T.Ok P) (ρ : Nat → Nat) : ∀ {rvs : List ResultVar} {hs : List HV} {R : List HV → Prop}, sres T.ty s rvs = some hs → R (renL ρ hs) → qc3 P (s.ren ρ) rvs R
 | [], hs, R, h, hR => by cases h; exact hR
 | rv :: rvs, hs, R, h, hR => by
  simp only [sres] at h
  split at h
  ·rename_i q qs hq hqs
   cases h
   have key : ∀ R' : HV → Prop, R' (q.ren ρ) → qd3 P (s.ren ρ) rv R' := by
    intro R' hR'
    cases rv with
    | tmp t =>
     have : sget (renS ρ s.slots) t = some (q.ren ρ) := by rw [qes]; simp only [qrn, qax, qay] at hq; rw [hq]; rfl
     simp only [qd3, AS.ren, this]
     exact hR'
    | cell t t' =>
     simp only [qrn, qax, qay] at hq
     split at hq
     ·rename_i U cs off hU hx
      have : sget (s.ren ρ).slots t = some (.fptr (renL ρ cs) off) := by show sget (renS ρ s.slots) t = _; rw [qes, hx]; rfl
      simp only [qd3, hT.ty _ _ hU, this]
      exact qdt hq hR'
     ·rename_i U id ver off hU hx
      split at hq
      ·rename_i ver' k e cs hg
       replace hq := qag hq
       obtain ⟨h1, hq⟩ := hq
       have hv := Nat.eq_of_beq_eq_true h1
       subst hv
       have : sget (s.ren ρ).slots t = some (.ptr id (ρ ver) off) := by show sget (renS ρ s.slots) t = _; rw [qes, hx]; rfl
       simp only [qd3, hT.ty _ _ hU, this, qcU ρ hg, AObj.ren]
       exact ⟨trivial, qdt hq hR'⟩
      cases hq
     cases hq
   exact key _ (qoq hT ρ hqs hR)
  cases h
theorem qmE {k : AS → Prop} {Q : Exit → AS → Prop} {e : Exit} (he : e ≠ .normal) {s : AS} (h : Q e s) : qeD k Q e s := by
 cases e with
 | normal => exact absurd rfl he
 | _ => exact h
theorem qiD (hr : Good P r) {top : Bool} {x : Code} {o : Out} : ∀ (k : Nat) (s : AS) (n : Nat), s.sc n = true → qgx r top N x k s n = some o → ∃ e s2 n2, o = .code e s2 n2 ∧ s2.sc n2 = true ∧ Step n n2 s.heap s2.heap
 | 0, _, _, _, h => by cases h
 | k + 1, s, n, hs, h => by
  simp only [qgx] at h
  split at h
  ·rename_i s1 n1 hr1
   obtain ⟨h1, h2, _⟩ := hr _ _ hr1 hs
   obtain ⟨e, s2, n2, h3, h4, h5⟩ := qiD hr k s1 n1 h1 h
   exact ⟨e, s2, n2, h3, h4, h2.trans (qbL hs) h5⟩
  have := hr _ _ h
  cases o with
  | code e s2 n2 => exact ⟨e, s2, n2, rfl, (this hs).1, (this hs).2.1⟩
  | call rv H n2 => exact this.elim
theorem qoB (hr : Good P r) {top : Bool} {x : Code} {o : Out} (k : Nat) (h : qgx r top N x k s n = some o) : Sem P (.code top N (.loop x) s n) o := by
 cases o with
 | call rv H n2 =>
  have : ∀ (k : Nat) (s : AS) (n : Nat), qgx r top N x k s n ≠ some (.call rv H n2) := by
   intro k
   induction k with
   | zero => intro s n h; cases h
   | succ k ih =>
    intro s n h
    simp only [qgx] at h
    split at h
    ·exact ih _ _ h
    exact (hr _ _ h).elim
  exact absurd h (this k s n)
 | code e s2 n2 =>
  intro hs
  obtain ⟨e', s2', n2', he, h1, h2⟩ := qiD hr k s n hs h
  cases he
  refine ⟨h1, h2, fun ρ ro Q htop hQ => ?_⟩
  refine AW.loop' (fun j s0 => ∃ s1 n1 ρ1, s0 = s1.ren ρ1 ∧ s1.sc n1 = true ∧ qgx r top N x j s1 n1 = some (.code e s2 n2) ∧ Agree n ρ ρ1 ∧ n ≤ n1) ⟨k, _, AS.le_refl _, s, n, ρ, rfl, hs, h, Agree.refl _ _, Nat.le_refl _⟩ ?_
  rintro j s0 ⟨s1, n1, ρ1, rfl, hs1, hj, hag, hn⟩
  cases j with
  | zero => cases hj
  | succ j =>
   simp only [qgx] at hj
   split at hj
   ·rename_i s3 n3 hr3
    obtain ⟨h3, h4, h5⟩ := hr _ _ hr3 hs1
    refine h5 ρ1 ro _ htop fun ρ' hag' => ?_
    exact ⟨j, Nat.lt_succ_self j, _, AS.le_refl _, s3, n3, ρ', rfl, h3, hj, hag.trans hn hag', Nat.le_trans hn h4.le⟩
   rename_i hno
   obtain ⟨h3, h4, h5⟩ := hr _ _ hj hs1
   refine h5 ρ1 ro _ htop fun ρ' hag' => qmE ?_ (hQ ρ' (hag.trans hn hag'))
   rintro rfl
   exact hno _ _ hj
theorem qmL : ∀ (i : Nat) (args : List HV), scL n args = true → scS n (qaH i args) = true
 | _, [], _ => rfl
 | i, a :: args, h => by
  simp only [scL, Bool.and_eq_true] at h
  simp only [qaH, scS, h.1, qmL (i + 1) args h.2, Bool.and_self]
theorem qjy (ρ : Nat → Nat) : ∀ (i : Nat) (args : List HV), renS ρ (qaH i args) = qaH i (renL ρ args)
 | _, [] => rfl
 | i, a :: args => by simp only [qaH, renS, renL, qjy ρ (i + 1) args]
theorem qjv {cs ds : List HV} (h : scL n cs = true) (h' : scL n ds = true) : scL n (cs ++ ds) = true := by
 induction cs with
 | nil => exact h'
 | cons c cs ih =>
  simp only [scL, Bool.and_eq_true] at h
  simp only [List.cons_append, scL, h.1, ih h.2, Bool.and_self]
theorem qpf (ρ : Nat → Nat) : ∀ hs : List HV, (qgG hs).ren ρ = qgG (renL ρ hs)
 | [] => rfl
 | [h] => rfl
 | _ :: _ :: _ => rfl
theorem qj7 (ρ : Nat → Nat) : ∀ ls : List (List UInt8), renL ρ (ls.map HV.str) = ls.map HV.str
 | [] => rfl
 | a :: ls => by simp only [List.map_cons, renL, HV.ren, qj7 ρ ls]
theorem qkD (ρ : Nat → Nat) : ∀ ls : List Int, renL ρ (ls.map (HV.int .i64)) = ls.map (HV.int .i64)
 | [] => rfl
 | a :: ls => by simp only [List.map_cons, renL, HV.ren, qkD ρ ls]
theorem qol (n : Nat) : ∀ ls : List (List UInt8), scL n (ls.map HV.str) = true
 | [] => rfl
 | a :: ls => by simp only [List.map_cons, scL, HV.sc, qol n ls, Bool.and_self]
theorem qph (n : Nat) : ∀ ls : List Int, scL n (ls.map (HV.int .i64)) = true
 | [] => rfl
 | a :: ls => by simp only [List.map_cons, scL, HV.sc, qph n ls, Bool.and_self]
theorem qpY (hT : T.Ok P) {f : FuncId} {k : Bool} (hk : T.sort f = some k) {args : List HV} {H : Heap} {o : Out} (h : qrm k args H n = some o) : Sem P (.call f args H n) o := by
 unfold qrm at h
 simp only [qay, qaE] at h
 split at h
 ·cases h
  refine fun _ hH => ⟨rfl, hH, Step.refl _ _, fun ρ K hK => ?_⟩
  cases k with
  | true => exact (hT.sortS f hk).nil _ _ (hK ρ (Agree.refl _ _))
  | false => exact (hT.sortI f hk).nil _ _ (hK ρ (Agree.refl _ _))
 ·rename_i id ver m
  split at h
  ·rename_i ver' e cs hg
   split at h
   ·split at h
    ·rename_i ls hls
     replace h := qag h
     obtain ⟨h1, h⟩ := h
     cases h
     simp only [Bool.and_eq_true] at h1
     have hv := Nat.eq_of_beq_eq_true h1.1
     subst hv
     have hm := Nat.eq_of_beq_eq_true h1.2.1
     subst hm
     have hcs := qkX hls
     subst hcs
     intro _ hH
     have hlt := qe1 hH hg
     refine ⟨rfl, qgb _ _ _ _ hH hlt.1.1 hlt.1.2 (qol _ _), ⟨Nat.le_refl _, LoopKeep.set (by rw [hg]; intros; simp), Back.set (.inr ⟨_, hg⟩)⟩, fun ρ K hK => ?_⟩
     refine (hT.sortS f hk).arr _ id (ρ ver) e ls K (by rw [qdJ, hg]; simp only [Option.map_some, AObj.ren, qj7]) (qcq h1.2.2) ?_
     have := hK ρ (Agree.refl _ _)
     rw [qd5] at this
     simp only [AObj.ren, qj7, HV.ren, renL] at this
     rw [qlV]
     exact this
    cases h
   split at h
   ·rename_i ls hls
    replace h := qag h
    obtain ⟨h1, h⟩ := h
    cases h
    simp only [Bool.and_eq_true] at h1
    have hv := Nat.eq_of_beq_eq_true h1.1
    subst hv
    have hm := Nat.eq_of_beq_eq_true h1.2.1
    subst hm
    have hcs := qlr hls
    subst hcs
    intro _ hH
    have hlt := qe1 hH hg
    refine ⟨rfl, qgb _ _ _ _ hH hlt.1.1 hlt.1.2 (qph _ _), ⟨Nat.le_refl _, LoopKeep.set (by rw [hg]; intros; simp), Back.set (.inr ⟨_, hg⟩)⟩, fun ρ K hK => ?_⟩
    refine (hT.sortI f hk).arr _ id (ρ ver) e ls K (by rw [qdJ, hg]; simp only [Option.map_some, AObj.ren, qkD]) (qcq h1.2.2) ?_
    have := hK ρ (Agree.refl _ _)
    rw [qd5] at this
    simp only [AObj.ren, qkD, HV.ren, renL] at this
    rw [qlW]
    exact this
   cases h
  cases h
 cases h
theorem qpX (hr : Good P r) {top : Bool} {ks : Option (List Nat)} {y : Code} {o : Out} (h : qrl T r top N ks y s n = some o) : Sem P (.code top N y s n) o := by
 unfold qrl at h
 split at h
 ·rename_i ks
  rw [qkC] at h
  have h2 := hr _ _ h
  cases o with
  | call rv H n2 => exact h2.elim
  | code e s2 n2 =>
   intro hs
   simp only [AS.sc, Bool.and_eq_true] at hs
   obtain ⟨h6, h7, h8⟩ := h2 (by simp only [AS.sc, Bool.and_eq_true]; exact ⟨qkB hs.1 ks, hs.2⟩)
   exact ⟨h6, h7, fun ρ ro Q htop hQ => AW.weaken (h8 ρ ro Q htop hQ) (qqr ρ s ks)⟩
 exact hr _ _ h
theorem qrk (hT : T.Ok P) (hr : Good P r) : Good P (step T r) := by
 intro t o h
 cases t with
 | call f args H n =>
  simp only [step, qqU, qqV] at h
  split at h
  ·rename_i k hk
   exact qpY hT hk h
  split at h
  ·-- a pure function that is known
   rename_i rv hx
   replace h := qag h
   obtain ⟨h1, h⟩ := h
   cases h
   replace hx := qag hx
   obtain ⟨h2, hx⟩ := hx
   intro hargs hH
   refine ⟨HV.sc_mono (Nat.zero_le _) rv h1, hH, Step.refl _ _, fun ρ K hK => ?_⟩
   have hf := hT.extP _ _ _ hx
   rw [qh2 ρ h2]
   refine ACall.pure0 hf fun r hr => ?_
   subst hr
   have := hK ρ (Agree.refl _ _)
   rw [qgc ρ h1] at this
   exact this
  split at h
  ·-- a function that is known
   rename_i rv hx
   replace h := qag h
   obtain ⟨h1, h⟩ := h
   cases h
   split at hx
   ·rename_i as' ha
    replace hx := qag hx
    obtain ⟨h2, hx⟩ := hx
    intro hargs hH
    refine ⟨HV.sc_mono (Nat.zero_le _) rv h1, hH, Step.refl _ _, fun ρ K hK => ?_⟩
    have hf := hT.ext _ _ _ hx
    have ha2 := qkt ρ ha
    rw [qh2 ρ h2] at ha2
    refine hf.call 8 ha2 ?_
    have := hK ρ (Agree.refl _ _)
    rw [qgc ρ h1] at this
    exact this
   cases hx
  split at h
  ·rename_i fn hfn
   split at h
   ·rename_i c hc
    replace h := qag h
    obtain ⟨h1, h⟩ := h
    split at h
    ·rename_i e s1 n1 hr1
     replace h := qag h
     obtain ⟨h2, h⟩ := h
     split at h
     ·rename_i hs hres
      replace h := qag h
      obtain ⟨h3, h⟩ := h
      cases h
      intro hargs hH
      obtain ⟨h4, h5, h6⟩ := hr _ _ hr1 (by simp only [AS.sc, qmL 0 args hargs, hH, Bool.and_self])
      refine ⟨h3, qtF (qbL h4), h5.drop fun id x hx => qq3 hx, fun ρ K hK => ?_⟩
      obtain ⟨hf, hname⟩ := hT.fn _ _ hfn
      refine ACall.of_body hf hname hc (by rw [qco]; exact Nat.le_of_ble_eq_true h1) ?_
      have e0 : ({ slots := qaH 0 (renL ρ args), heap := renH ρ H } : AS) = (⟨qaH 0 args, H⟩ : AS).ren ρ := by simp only [AS.ren, qjy]
      rw [e0]
      refine h6 ρ none _ (fun _ => rfl) fun ρ' hag => ⟨?_, qoq hT ρ' hres ?_⟩
      ·cases e with
       | normal => exact .inl rfl
       | ret => exact .inr rfl
       | _ => cases h2
      refine ⟨_, renH ρ' (gc n (qgG hs) s1.heap), Conv.drop fun id x hx => ?_, ?_⟩
      ·rw [qdJ] at hx
       cases hg : hget (gc n (qgG hs) s1.heap) id with
       | none => rw [hg] at hx; cases hx
       | some y =>
        rw [hg] at hx
        show hget (renH ρ' s1.heap) id = some x
        rw [qdJ, qq3 hg]
        exact hx
      rw [← qpf]
      exact hK ρ' hag
     cases h
    cases h
   cases h
  cases h
 | code top N c s n =>
  simp only [step, qqT] at h
  split at h
  ·cases h
   exact fun hs => ⟨hs, Step.refl _ _, fun ρ ro Q _ hQ => zac (hQ ρ (Agree.refl _ _))⟩
  ·cases h
   exact fun hs => ⟨hs, Step.refl _ _, fun ρ ro Q _ hQ => AW.exit (hQ ρ (Agree.refl _ _))⟩
  ·cases h
   exact fun hs => ⟨hs, Step.refl _ _, fun ρ ro Q _ hQ => AW.ret (hQ ρ (Agree.refl _ _))⟩
  ·-- seq
   unfold qsk at h
   try simp only [qa0, qay, qaE, qax, qaN, qaU, qau] at h
   rename_i x y
   split at h
   ·rename_i s1 n1 hr1
    have h2 := qpX hr h
    cases o with
    | call rv H n2 => exact h2.elim
    | code e s2 n2 =>
     intro hs
     obtain ⟨h3, h4, h5⟩ := hr _ _ hr1 hs
     obtain ⟨h6, h7, h8⟩ := h2 h3
     refine ⟨h6, h4.trans (qbL hs) h7, fun ρ ro Q htop hQ => zad (h5 ρ ro _ htop fun ρ1 ha1 => h8 ρ1 ro Q htop fun ρ2 ha2 => hQ ρ2 (ha1.trans h4.le ha2))⟩
   rename_i hno
   have h2 := hr _ _ h
   cases o with
   | call rv H n2 => exact h2.elim
   | code e s2 n2 =>
    intro hs
    obtain ⟨h3, h4, h5⟩ := h2 hs
    exact ⟨h3, h4, fun ρ ro Q htop hQ => zad (h5 ρ ro _ htop fun ρ' ha => qmE (fun e => by subst e; exact hno _ _ h) (hQ ρ' ha))⟩
  ·-- block
   unfold qop at h
   try simp only [qa0, qay, qaE, qax, qaN, qaU, qau] at h
   rename_i i x
   split at h
   ·rename_i j s1 n1 hr1
    cases h
    intro hs
    obtain ⟨h3, h4, h5⟩ := hr _ _ hr1 hs
    refine ⟨h3, h4, fun ρ ro Q htop hQ => zaf (h5 ρ ro _ htop fun ρ' ha => ?_)⟩
    have := hQ ρ' ha
    simp only [qhE]
    split
    ·rename_i e; rw [if_pos e] at this; exact this
    rename_i e; rw [if_neg e] at this; exact this
   rename_i hno
   have h2 := hr _ _ h
   cases o with
   | call rv H n2 => exact h2.elim
   | code e s2 n2 =>
    intro hs
    obtain ⟨h3, h4, h5⟩ := h2 hs
    refine ⟨h3, h4, fun ρ ro Q htop hQ => zaf (h5 ρ ro _ htop fun ρ' ha => ?_)⟩
    have := hQ ρ' ha
    cases e with
    | exit j => exact absurd h (hno _ _ _)
    | _ => exact this
  ·-- cond
   unfold qqS at h
   try simp only [qa0, qay, qaE, qax, qaN, qaU, qau] at h
   rename_i c x y
   split at h
   ·rename_i hc
    have h2 := hr _ _ h
    cases o with
    | call rv H n2 => exact h2.elim
    | code e s2 n2 =>
     intro hs
     obtain ⟨h3, h4, h5⟩ := h2 hs
     exact ⟨h3, h4, fun ρ ro Q htop hQ => zae (t := true) (by rw [qaK, hc]; rfl) (fun _ => h5 ρ ro Q htop hQ) (fun e => by cases e)⟩
   ·rename_i hc
    have h2 := hr _ _ h
    cases o with
    | call rv H n2 => exact h2.elim
    | code e s2 n2 =>
     intro hs
     obtain ⟨h3, h4, h5⟩ := h2 hs
     exact ⟨h3, h4, fun ρ ro Q htop hQ => zae (t := false) (by rw [qaK, hc]; rfl) (fun e => by cases e) (fun _ => h5 ρ ro Q htop hQ)⟩
   cases h
  ·exact qoB hr _ h
  ·-- region
   unfold qmI at h
   try simp only [qa0, qay, qaE, qax, qaN, qaU, qau] at h
   rename_i id ops dr
   replace h := qag h
   obtain ⟨hok, h⟩ := h
   split at h
   ·rename_i s1 n1 hop
    cases h
    intro hs
    cases dr with
    | true =>
     obtain ⟨h3, h4, h5⟩ := qp5 (id := id) hT hr hok hs hop
     exact ⟨h3, h4, fun ρ ro Q _ hQ => h5 ρ ro Q hQ⟩
    | false =>
     obtain ⟨h3, h4, h5⟩ := qka hT hr hok ops.toList 0 s n (fun k => by simp) hs hop
     exact ⟨h3, h4, fun ρ ro Q _ hQ => AW.ops (h5 ρ ro _ hQ)⟩
   cases h
  ·-- rangeFunc
   unfold qoo at h
   try simp only [qa0, qay, qaE, qax, qaN, qaU, qau] at h
   rename_i g ps assign body
   split at h
   ·rename_i f fs cs hg
    replace h := qag h
    obtain ⟨h1, h⟩ := h
    simp only [Bool.and_eq_true] at h1
    split at h
    ·rename_i rv H n1 hr1
     split at h
     ·rename_i v1 st' pend f1 m1 snap1 ps1 as1 bd1 hg1
      replace h := qag h
      obtain ⟨h4, h⟩ := h
      -- the loop behind the iterator's call
      have fin : ∀ (pe : Option Code), pe = pend → ∀ (e : Exit), (∀ (ρ : Nat → Nat) (Q : Exit → AS → Prop) (sx : AS), Q e sx → match (generalizing := false) pe with
        | none => Q .normal sx
        | some c => AW P none N c Q sx) →
        Sem P (.code true N (.rangeFunc g ps assign body) s n) (.code e { s with heap := hset H n n (.loop .exhausted pe (n + 1) N s.slots ps assign body) } n1) := by
       intro pe hpe e hq hs
       subst hpe
       have hsh := qbL hs
       have hlsc : (AObj.loop .ready none (n + 1) N s.slots ps assign body).sc (n + 2) = true := by
        simp only [AObj.sc, qet (Nat.le_add_right n 2) _ (qbT hs), Bool.and_true]
        simp [Nat.blt_eq]
       have hself : Nat.blt n (n + 2) = true := by simp [Nat.blt_eq]
       have h0 : scH (n + 2) (hset s.heap n n (.loop .ready none (n + 1) N s.slots ps assign body)) = true := qgb _ _ _ _ (qkb (Nat.le_add_right n 2) _ hsh) (by omega) (by omega) hlsc
       have hargs : scL (n + 2) (fs ++ [.yl n n] ++ cs) = true := qjv (qjv (qdG (Nat.le_add_right n 2) _ h1.1) (by simp only [scL, HV.sc, hself, Bool.and_self])) (qdG (Nat.le_add_right n 2) _ h1.2)
       obtain ⟨h2, h3, st, hc⟩ := hr _ _ hr1 hargs h0
       have st0 : Step n (n + 2) s.heap (hset s.heap n n (.loop .ready none (n + 1) N s.slots ps assign body)) :=
        ⟨by omega, LoopKeep.set (by rw [qk6 hsh]; intros; simp), Back.set (.inl (Nat.le_refl _))⟩
       have st1 := st0.trans hsh st
       have hgl : hget (hset s.heap n n (.loop .ready none (n + 1) N s.slots ps assign body)) n = some (n, .loop .ready none (n + 1) N s.slots ps assign body) := by rw [qal, if_pos rfl]
       obtain ⟨_, _, he1⟩ := st.loop _ _ _ _ _ _ _ _ _ _ hgl _ hg1
       cases he1
       have hls1 : (AObj.loop .exhausted pe (n + 1) N s.slots ps assign body).sc n1 = true := by
        simp only [AObj.sc, qet st1.le _ (qbT hs), Bool.and_true]
        have := st.le
        simp [Nat.blt_eq]; omega
       have hn1 : n < n1 := by have := st.le; omega
       refine ⟨by simp only [AS.sc, qet st1.le _ (qbT hs), qgb _ n n _ h3 hn1 hn1 hls1, Bool.and_self], st1.trans hsh ⟨Nat.le_refl _, zar hg1, Back.set (.inr ⟨_, hg1⟩)⟩, fun ρ ro Q htop hQ => ?_⟩
       have hro : ro = none := htop rfl
       subst hro
       have hg' : (s.ren ρ).ev g = some (.fn (.func f) (renL ρ fs) (renL ρ cs)) := by rw [qaK, hg]; rfl
       refine AW.rangeFunc n hg' fun fn ver => ?_
       have hu := Agree.upd n ver ρ
       have ha1 : Agree n ρ (upd (upd ρ n ver) (n + 1) fn) := hu.trans (Nat.le_succ n) (Agree.upd (n + 1) fn _)
       have e0 : hset (s.ren ρ).heap n ver (.loop .ready none fn N (s.ren ρ).slots ps assign body) = renH (upd (upd ρ n ver) (n + 1) fn) (hset s.heap n n (.loop .ready none (n + 1) N s.slots ps assign body)) := by
        rw [qd5]
        simp only [AObj.ren, AS.ren]
        rw [qfR ha1 _ hsh, qbM ha1 _ (qbT hs), qgq]
        simp [upd]
       have e1 : renL ρ fs ++ [.yl n ver] ++ renL ρ cs = renL (upd (upd ρ n ver) (n + 1) fn) (fs ++ [.yl n n] ++ cs) := by
        rw [qbr, qbr, qb0 ha1 _ h1.1, qb0 ha1 _ h1.2]
        simp only [renL, HV.ren]
        have : upd (upd ρ n ver) (n + 1) fn n = ver := by simp [upd]
        rw [this]
       rw [e0, e1]
       refine hc _ _ fun ρ' hag => ?_
       have hv : ρ' n = ver := by rw [← hag n (by omega)]; simp [upd]
       have hfn : ρ' (n + 1) = fn := by rw [← hag (n + 1) (by omega)]; simp [upd]
       have ha2 : Agree n ρ ρ' := ha1.trans (Nat.le_add_right n 2) hag
       have hsl : renS ρ' s.slots = (s.ren ρ).slots := (qbM ha2 _ (qbT hs)).symm
       have hQ' := hQ ρ' ha2
       have e2 : (({ s with heap := hset H n n (.loop .exhausted pe (n + 1) N s.slots ps assign body) } : AS)).ren ρ' = { s.ren ρ with heap := hset (renH ρ' H) n ver (.loop .exhausted pe fn N (s.ren ρ).slots ps assign body) } := by
        simp only [AS.ren, qd5, AObj.ren, hv, hfn]
        rw [qbM ha2 _ (qbT hs)]
       rw [e2] at hQ'
       refine ⟨st', pe, ?_, ?_, ?_⟩
       ·rw [qdJ, hg1]
        simp only [Option.map_some, AObj.ren, hv, hfn, hsl]
       ·rintro rfl; cases h4
       have := hq ρ Q _ hQ'
       cases pe with
       | none => exact this
       | some c => exact this
      split at h
      ·cases h
       exact fin none rfl .normal (fun ρ Q sx hx => hx)
      ·cases h
       exact fin (some .ret) rfl .ret (fun ρ Q sx hx => AW.ret hx)
      ·cases h
       exact fin (some (.exit _)) rfl (.exit _) (fun ρ Q sx hx => AW.exit hx)
      cases h
     cases h
    cases h
   cases h
  cases h
theorem qox (hT : T.Ok P) : ∀ k, Good P (run T k)
 | 0 => fun _ _ h => by cases h
 | k + 1 => qrk hT (qox hT k)
theorem Fresh.of_run (hT : T.Ok P) {f : FuncId} {args : List HV} {k n1 : Nat} {rv q : HV} {H : Heap} (h : run T k (.call f args [] 0) = some (.call rv H n1)) (ha : scL 0 args = true) (hn : (nf rv && nfH H) = true)
  (hf : sfrz 8 H rv = some q) (hq : q.sc 0 = true) : Fresh P f args q := by
 obtain ⟨_, _, _, hcall⟩ := qox hT k _ _ h ha rfl
 have h5 := hcall (fun v => v) (fun r' H' => ∃ ρ', r' = rv.ren ρ' ∧ H' = renH ρ' H) fun ρ' _ => ⟨ρ', rfl, rfl⟩
 rw [qeE] at h5
 simp only [Bool.and_eq_true] at hn
 refine ⟨qfx q hq, _, 8, h5, ?_⟩
 rintro r' H' ⟨ρ', rfl, rfl⟩
 exact ⟨qm3 ρ' rv hn.1, ql9 ρ' H hn.2, by rw [qeO 8 H ρ' rv q hf, qgc ρ' hq]⟩
end
mutual
def HV.same : HV → HV → Bool
 | .int .i64 n, .int .i64 m => decide (n = m)
 | .int .u8 n, .int .u8 m => decide (n = m)
 | .int .u64 n, .int .u64 m => decide (n = m)
 | .int .u32 n, .int .u32 m => decide (n = m)
 | .bool b, .bool c => b == c
 | .str l, .str k => decide (l = k)
 | .agg cs, .agg ds => qiC cs ds
 | .tup cs, .tup ds => qiC cs ds
 | .sl k n cs, .sl k' n' ds => Nat.beq k k' && Nat.beq n n' && qiC cs ds
 | .v (.slice none 0 0), .v (.slice none 0 0) => true
 | _, _ => false
def qiC : List HV → List HV → Bool
 | [], [] => true
 | c :: cs, d :: ds => c.same d && qiC cs ds
 | _, _ => false
end
mutual
theorem zaB : ∀ a b : HV, a.same b = true → a = b
 | .int k n, b, h => by
  cases b with
  | int k' m => cases k <;> cases k' <;> simp [HV.same] at h <;> rw [h]
  | _ => cases k <;> simp [HV.same] at h
 | .bool x, b, h => by
  cases b <;> simp [HV.same] at h
  rw [h]
 | .str x, b, h => by
  cases b <;> simp [HV.same] at h
  rw [h]
 | .v x, b, h => by
  unfold HV.same at h
  split at h <;> simp_all
 | .agg cs, b, h => by
  cases b with
  | agg ds => simp only [HV.same] at h; rw [qfQ cs ds h]
  | _ => simp [HV.same] at h
 | .tup cs, b, h => by
  cases b with
  | tup ds => simp only [HV.same] at h; rw [qfQ cs ds h]
  | _ => simp [HV.same] at h
 | .sl k n cs, b, h => by
  cases b with
  | sl k' n' ds =>
   simp only [HV.same, Bool.and_eq_true] at h
   rw [Nat.eq_of_beq_eq_true h.1.1, Nat.eq_of_beq_eq_true h.1.2, qfQ cs ds h.2]
  | _ => simp [HV.same] at h
 | .ar _ _ _ _ _, b, h => by cases b <;> simp [HV.same] at h
 | .ptr _ _ _, b, h => by cases b <;> simp [HV.same] at h
 | .fptr _ _, b, h => by cases b <;> simp [HV.same] at h
 | .fn _ _ _, b, h => by cases b <;> simp [HV.same] at h
 | .mp _ _, b, h => by cases b <;> simp [HV.same] at h
 | .yl _ _, b, h => by cases b <;> simp [HV.same] at h
 | .it _ _, b, h => by cases b <;> simp [HV.same] at h
theorem qfQ : ∀ a b : List HV, qiC a b = true → a = b
 | [], [], _ => rfl
 | [], _ :: _, h => by simp [qiC] at h
 | _ :: _, [], h => by simp [qiC] at h
 | c :: cs, d :: ds, h => by
  simp only [qiC, Bool.and_eq_true] at h
  rw [zaB c d h.1, qfQ cs ds h.2]
end
def qmr : List (FuncId × List HV × HV) → FuncId → List HV → Option HV
 | [], _, _ => none
 | (g, aa, q) :: l, f, args => bif (Nat.beq g f && qiC aa args) then some q else qmr l f args
theorem qnm {P : Program} : ∀ {l : List (FuncId × List HV × HV)}, (∀ e ∈ l, Fresh P e.1 e.2.1 e.2.2) → ∀ f args r, qmr l f args = some r → Fresh P f args r
 | [], _, _, _, _, h => by cases h
 | (g, aa, q) :: l, hl, f, args, r, h => by
  simp only [qmr] at h
  cases hb : (Nat.beq g f && qiC aa args) with
  | true =>
   rw [hb] at h
   cases h
   simp only [Bool.and_eq_true] at hb
   have h1 := Nat.eq_of_beq_eq_true hb.1
   have h2 := qfQ _ _ hb.2
   subst h1 h2
   exact hl _ (List.mem_cons_self ..)
  | false =>
   rw [hb] at h
   exact qnm (fun e he => hl e (List.mem_cons_of_mem _ he)) f args r h
def qqy (T : Tabs) (k : Nat) (f : FuncId) (args : List HV) (q : HV) : Bool :=
 match run T k (.call f args [] 0) with
 | some (.call rv H _) => scL 0 args && (nf rv && nfH H) && (match sfrz 8 H rv with
  | some r => r.sc 0 && r.same q
  | none => false)
 | _ => false
theorem Fresh.of_comes {P : Program} {T : Tabs} (hT : T.Ok P) {k : Nat} {f : FuncId} {args : List HV} {q : HV} (h : qqy T k f args q = true) : Fresh P f args q := by
 unfold qqy at h
 split at h
 ·rename_i rv H n1 hr
  simp only [Bool.and_eq_true] at h
  obtain ⟨⟨h1, h2⟩, h3⟩ := h
  split at h3
  ·rename_i r hr'
   simp only [Bool.and_eq_true] at h3
   have := zaB _ _ h3.2
   subst this
   exact Fresh.of_run hT hr h1 (by simp only [h2.1, h2.2, Bool.and_self]) hr' h3.1
  cases h3
 cases h
def qeW (T : Tabs) (k : Nat) (f : FuncId) (args : List HV) (q : HV) : Bool :=
 match run T k (.call f args [] 0) with
 | some (.call rv H _) => scL 0 args && (match sfrz 8 H rv with
  | some r => r.sc 0 && r.same q
  | none => false)
 | _ => false
theorem Pure.of_comes {P : Program} {T : Tabs} (hT : T.Ok P) {k : Nat} {f : FuncId} {args : List HV} {q : HV} (h : qeW T k f args q = true) : Pure P f args (· = q) := by
 unfold qeW at h
 split at h
 ·rename_i rv H n1 hr
  simp only [Bool.and_eq_true] at h
  obtain ⟨h1, h3⟩ := h
  split at h3
  ·rename_i r hf
   simp only [Bool.and_eq_true] at h3
   have := zaB _ _ h3.2
   subst this
   obtain ⟨_, _, _, hcall⟩ := qox hT k _ _ hr h1 rfl
   have h5 := hcall (fun v => v) (fun r' H' => ∃ ρ', r' = rv.ren ρ' ∧ H' = renH ρ' H) fun ρ' _ => ⟨ρ', rfl, rfl⟩
   rw [qeE] at h5
   refine h5.conv ?_
   rintro r' H' ⟨ρ', rfl, rfl⟩
   exact ⟨_, _, Conv.all 8, by rw [qeO 8 H ρ' rv _ hf, qgc ρ' h3.1], by rw [qeO 8 H ρ' rv _ hf, qgc ρ' h3.1]; exact qfx _ h3.1, rfl⟩
  cases h3
 cases h
open Go.Proofs
theorem qo2 : Tryz.prog.funcs.toList.all (fun x => !(x.name == "runtime.NumGoroutine")) = true := by kernel_rfl
theorem qsQ (f : FuncId) (x : Func) (h : Tryz.prog.funcs[f]? = some x) : (x.name == "runtime.NumGoroutine") = false := by
 have := List.all_eq_true.1 qo2 x (by
  rw [← Array.getElem?_toList] at h
  exact List.mem_of_getElem? h)
 simpa using this
def qga (P : Program) (l l' : List (FuncId × List HV × HV)) : Tabs where
 extP := qmr l'
 ty := ty P
 fn := fun f => P.funcs[f]?
 ext := qmr l
 sort := fun _ => none
 keep := fun _ _ => none
theorem qlD {P : Program} : ∀ {l : List (FuncId × List HV × HV)}, (∀ e ∈ l, Pure P e.1 e.2.1 (· = e.2.2)) → ∀ f args r, qmr l f args = some r → Pure P f args (· = r)
 | [], _, _, _, _, h => by cases h
 | (g, aa, q) :: l, hl, f, args, r, h => by
  simp only [qmr] at h
  cases hb : (Nat.beq g f && qiC aa args) with
  | true =>
   rw [hb] at h
   cases h
   simp only [Bool.and_eq_true] at hb
   have h1 := Nat.eq_of_beq_eq_true hb.1
   have h2 := qfQ _ _ hb.2
   subst h1 h2
   exact hl _ (List.mem_cons_self ..)
  | false =>
   rw [hb] at h
   exact qlD (fun e he => hl e (List.mem_cons_of_mem _ he)) f args r h
theorem qpV {P : Program} {l l' : List (FuncId × List HV × HV)} (hn : ∀ (f : FuncId) (x : Func), P.funcs[f]? = some x → (x.name == "runtime.NumGoroutine") = false) (hd : P.follows .mixedOrders = true) (hl : ∀ e ∈ l, Fresh P e.1 e.2.1 e.2.2) (hl' : ∀ e ∈ l', Pure P e.1 e.2.1 (· = e.2.2)) : (qga P l l').Ok P where
 extP := fun f args r h => qlD hl' f args r h
 ty := fun _ _ h => h
 fn := fun f x h => ⟨h, hn f x h⟩
 ext := fun f args r h => qnm hl f args r h
 sortS := fun f h => by cases h
 sortI := fun f h => by cases h
 draw := hd
theorem qmF {l l' : List (FuncId × List HV × HV)} (hl : ∀ e ∈ l, Fresh Tryz.prog e.1 e.2.1 e.2.2) (hl' : ∀ e ∈ l', Pure Tryz.prog e.1 e.2.1 (· = e.2.2)) : (qga Tryz.prog l l').Ok Tryz.prog := qpV qsQ follows hl hl'
def qcY (s : List UInt8) (n : Int) : Option (List UInt8) := if 0 ≤ n ∧ n ≤ 9223372036854775807 ∧ s.length * n.toNat ≤ 140737488355328 then some (List.replicate n.toNat s).flatten else none
def stpM (g : qaa) (a : List Int) (c : UInt8) : List Int := (qbb g a (c.toNat : Int)).getD []
def qmz (g : qaa) (set : List Int) : Prop := ∃ A : List Int → Prop, A set ∧ ∀ a c, A a → c ∈ letters.take g.1.toNat → ∃ b, qbb g a (c.toNat : Int) = some b ∧ A b
open Classical in
def qbH (g : qaa) (set : List Int) (n : Int) : Option (List WS × Bool) :=
 if 0 ≤ g.1 ∧ g.1 ≤ 16 ∧ 0 ≤ n ∧ qmz g set then
  some (if qnM (stpM g) (letters.take g.1.toNat) set n.toNat = true then (lvl (stpM g) (letters.take g.1.toNat) set n.toNat, true) else ([], false))
 else none
def qbe (p0 : qaa) (p1 : Int) : Option ((List (List UInt8)) × Int) :=
 (qbS p0 p1).bind fun x1 =>
 if x1 ≠ 0 then
  some ([], x1)
 else
  (qbA p0).bind fun x3 =>
  (qbH p0 x3 p1).bind fun x5 =>
  if x5.2 = true then
   some (sortS ((x5.1).map Prod.fst), 0)
  else
   some ([], 4)
def qaZ (p0 : List (Int)) (p1 : List (Int)) : Option (Bool) :=
 if ((p0).length : Int) ≠ ((p1).length : Int) then
  some false
 else
  lpO (loopW (S := Int) (X := Ou (Unit) (Bool)) (fun a1 =>
    if a1 < ((p0).length : Int) then
     (idx p0 a1).bind fun x5 =>
     (idx p1 a1).bind fun x7 =>
     if x5 ≠ x7 then
      some (Stp.exit (Ou.ret false))
     else
      some (Stp.next (IntKind.wrap .i64 (a1 + 1)))
    else
     some (Stp.exit (Ou.go ()))) 0) (fun a9 =>
    some true) some
def qdl (p0 : qaa) : Option (Bool) :=
 jp (fun (a1 : Bool) =>
  some a1)
  fun k3 =>
  if 8 < p0.2.1 then
   if p0.2.1 ≤ 64 then
    k3 true
   else
    if 30 < ((p0.2.2).length : Int) then
     if ((p0.2.2).length : Int) ≤ 1024 then
      k3 true
     else
      k3 (decide (1027 < ((p0.2.2).length : Int)))
    else
     k3 (decide (1027 < ((p0.2.2).length : Int)))
  else
   if 30 < ((p0.2.2).length : Int) then
    if ((p0.2.2).length : Int) ≤ 1024 then
     k3 true
    else
     k3 (decide (1027 < ((p0.2.2).length : Int)))
   else
    k3 (decide (1027 < ((p0.2.2).length : Int)))
def qcy (p0 : qaa) (p1 : List (Int)) (p2 : List UInt8) : Option ((List (Int))) :=
 (loopW (S := (List Int) × Int) (X := (List Int)) (fun a1 =>
   jp (fun (a5 : Bool) =>
    if a5 = true then
     (idx p2 a1.2).bind fun x8 =>
     (qbb p0 a1.1 (x8.toNat : Int)).bind fun x10 =>
     some (Stp.next (x10, IntKind.wrap .i64 (a1.2 + 1)))
    else
     some (Stp.exit a1.1))
    fun k7 =>
    if a1.2 < ((p2).length : Int) then
     k7 (decide (0 < ((a1.1).length : Int)))
    else
     k7 false) (p1, 0)).bind fun a13 =>
 some a13
def qbc (p0 : qaa) (p1 : List UInt8) : Option (Bool × Int) :=
 (qbg p0 p1).bind fun x1 =>
 if x1 ≠ 0 then
  some (false, x1)
 else
  (qbA p0).bind fun x3 =>
  (qcy p0 x3 p1).bind fun x5 =>
  some (decide (0 < ((x5).length : Int)), 0)
theorem SR.frzH {w : World} {μ : Mu} {H D H' : Heap} (n : Nat) (h : SR w μ H) (hD : ∀ id x, hget D id = some x → hget H id = some x ∧ hget H' id = none)
  (hs : ∀ id ver o, hget H' id = some (ver, o) → hget H id = some (ver, o) ∨ ∃ k e cs, hget H id = some (ver, .arr k e cs) ∧ o = .arr k e (cs.map (frz n D))) : SR w (μ.cut H') H' where
 ok := fun id ver b hb => h.ok id ver b (zal hb)
 has := fun id ver o ho => by
  rcases hs id ver o ho with h1 | ⟨k, e, cs, h1, rfl⟩
  ·obtain ⟨l, hl, hor⟩ := h.has id ver o h1
   exact ⟨l, by simp [Mu.cut, ho, hl], hor.evo (Evo.cut w μ H') h.ok (fun _ _ => rfl) (fun _ _ _ _ _ _ _ _ => rfl)⟩
  obtain ⟨l, hl, hor⟩ := h.has id ver _ h1
  refine ⟨l, by simp [Mu.cut, ho, hl], ?_⟩
  cases l with
  | none =>
   have : cs = [] := hor
   subst this
   exact (rfl : ([] : List HV).map (frz n D) = [])
  | some b =>
   obtain ⟨h0, cur, vs, rest, hrow, hcl, hrl⟩ := hor
   exact ⟨qh5 h0, cur, vs, rest, hrow, hcl, zau (fun c x _ => qe9 h hD n c x) hrl⟩
 only := fun id x hx => by
  simp only [Mu.cut] at hx
  split at hx
  ·rename_i hi; exact Option.isSome_iff_exists.1 hi
  cases hx
 inj := fun i j v u b hi hj => h.inj i j v u b (zal hi) (zal hj)
 held := fun b hb => ⟨(h.held b hb).1, fun ⟨id, ver, hl⟩ => (h.held b hb).2 ⟨id, ver, zal hl⟩⟩
def leO (n : Nat) (D : Heap) (l : Heap) : Heap → Prop
 | [] => True
 | (i, v, o) :: l' => (hget l i = some (v, o) ∨ ∃ k e cs, hget l i = some (v, .arr k e cs) ∧ o = .arr k e (cs.map (frz n D))) ∧ leO n D l l'
theorem qpb {n : Nat} {D l : Heap} : ∀ {l' : Heap}, leO n D l l' → ∀ t v o, hget l' t = some (v, o) → hget l t = some (v, o) ∨ ∃ k e cs, hget l t = some (v, .arr k e cs) ∧ o = .arr k e (cs.map (frz n D))
 | [], _, _, _, _, h => by cases h
 | (i, g, u) :: l', h, t, v, o, ht => by
  simp only [hget] at ht
  split at ht
  ·rename_i e; subst e; cases ht; exact h.1
  exact qpb h.2 t v o ht
theorem qlT {s : AS} {G : AS → Prop} (n : Nat) (D : Heap) (s' : AS) (h1 : leF n D s.slots s'.slots) (h2 : leO n D s.heap s'.heap) (h3 : leH s.heap D) (h4 : qql s'.heap D) (h : G s') : s.to G := by
 intro ro N B μ a w hs
 have hD : ∀ id x, hget D id = some x → hget s.heap id = some x ∧ hget s'.heap id = none := fun id x hx => ⟨qci h3 id x hx, qiO h4 id x hx⟩
 refine ⟨μ.cut s'.heap, s', h, ⟨hs.size, hs.sr.frzH n hD (qpb h2), fun t hv ht => ?_, hs.marks.evo (Evo.cut w μ s'.heap), hs.ro.evo (Evo.cut w μ s'.heap)⟩, Evo.cut w μ s'.heap⟩
 obtain ⟨g, hg, rfl⟩ := qkA h1 t hv ht
 exact ⟨(hs.slot t g hg).1, qe9 hs.sr hD n g _ (hs.slot t g hg).2⟩
theorem LeL.ones : ∀ {aa bs : List HV} (_ : LeL aa bs), ones aa → ones bs
 | _, _, .nil, h => h
 | _, _, .cons h h', h0 => fun c hc => by
  rcases List.mem_cons.1 hc with rfl | hc
  ·have := h0 _ (List.mem_cons_self ..)
   cases h with
   | refl => exact this
   | nil => rfl
   | empty => rfl
  exact LeL.ones h' (fun d hd => h0 d (List.mem_cons_of_mem _ hd)) c hc
theorem qcE {s : AS} {G : AS → Prop} (id ver : Nat) {k : Nat} {e : TypeId} {cs ds : List HV} (hg : hget s.heap id = some (ver, .arr k e cs)) (hl : LeL cs ds) (h : G ⟨s.slots, (id, ver, .arr k e ds) :: s.heap⟩) : s.to G := by
 intro ro N B μ a w hs
 have h1 := hs.sr.reobj (o' := .arr k e ds) hg fun l _ hor => by
  cases l with
  | none =>
   have : cs = [] := hor
   subst this
   cases hl
   exact hor
  | some b =>
   obtain ⟨h0, cur, vs, rest, hrow, hcl, hrl⟩ := hor
   exact ⟨hl.ones h0, cur, vs, rest, hrow, hcl, hl.rep hrl⟩
 refine ⟨μ, _, h, ⟨hs.size, h1.le fun j x => ?_, hs.slot, hs.marks, hs.ro⟩, Evo.refl w μ⟩
 simp only [hget, qal]
section
variable {P : Program} {ro : Option Nat} {N : Nat} {all : Array Oper} {s : AS} {rest : List Oper} {o : Oper} {K : AS → Prop} {fid : Nat} {sl : List (Nat × HV)} {H : Heap}
theorem AOps.to {is : List Nat} (h : s.to (AOps P ro N all is K)) : AOps P ro N all is K s := fun w0 μ0 μ a w Q hs hE hK => by
 obtain ⟨μ1, t, ht, hs1, E1⟩ := h ro N w0.heap.size μ a w hs
 exact ht w0 μ0 μ1 a w Q hs1 (hE.trans E1) hK
theorem b_to {l : List Oper} (h : s.to (bops P ro N all l K)) : bops P ro N all l K s := fun hok i hi => AOps.to (qdV h fun t ht => ht hok i hi)
end
set_option maxHeartbeats 1600000
set_option maxRecDepth 100000
theorem qhu {p0 : qam} {r : (List (Int))} (h : qdQ p0 = some r) : Pure Tryz.prog 134 [.agg [hI p0.1, hI p0.2.1, hI p0.2.2]] (· = slE eInt r) := by
 unfold qdQ at h
 refine zaj Tryz.func134 rfl rfl (lb rfl) fun hf => ?_
 unfold Tryz.f134
 dsimp only [qaH, Nat.reduceAdd]
 refine zaa rfl fun K hK => b_op rfl (qa5 rfl rfl rfl ?_)
 refine mv rfl rfl ?_
 refine bf hK ⟨[(1, .fptr [hI p0.1, hI p0.2.1, hI p0.2.2] 0)], []⟩ ?_
 refine zaa rfl fun K hK => bv rfl (qac qcC rfl) (bv rfl (qab ty3 rfl (qan rfl rfl)) (bv rfl (qac qdC rfl) (bv rfl (qab ty3 rfl (qan rfl rfl)) (bv rfl (qac qdZ rfl) (bv rfl (qab ty3 rfl (qan rfl rfl)) ?_)))))
 refine b_op rfl (qdX rfl rfl (qbV (cs := [hI p0.1, hI p0.2.1, hI p0.2.2]) ty31 ty3 rfl rfl rfl rfl rfl) ?_)
 refine mv rfl rfl ?_
 refine bf hK ⟨[(2, slE eInt [p0.1, p0.2.1, p0.2.2])], []⟩ ?_
 obtain rfl := oi h
 exact AW.ret (qad (.inr rfl) (resT rfl rfl) rfl (qai fun _ _ => ⟨trivial, trivial⟩))
theorem qfs {p0 : Int} {r : Bool} (h : qcz p0 = some r) : Pure Tryz.prog 125 [hI p0] (· = HV.bool r) := by
 unfold qcz at h
 refine zaj Tryz.func125 rfl rfl (lb rfl) fun hf => ?_
 unfold Tryz.f125
 dsimp only [qaH, Nat.reduceAdd]
 refine zaa rfl fun K hK => mv rfl rfl ?_
 refine bf hK ⟨[(0, hI p0)], []⟩ ?_
 refine zaa rfl fun K hK => mv rfl rfl (mv rfl rfl (bv rfl (qae rfl rfl qcL) (mv rfl rfl ?_)))
 refine bf hK ⟨[(2, .bool (decide (p0 ≠ p0)))], []⟩ ?_
 obtain rfl := oi h
 exact AW.ret (qad (.inr rfl) (resT rfl rfl) rfl trivial)
theorem qg4 {p0 : Int} {p1 : Int} {r : Int} (h : qb9 p0 p1 = some r) : Pure Tryz.prog 211 [hI p0, hI p1] (· = hI r) := by
 unfold qb9 at h
 refine zaj Tryz.func211 rfl rfl (lb rfl) fun hf => ?_
 unfold Tryz.f211
 dsimp only [qaH, Nat.reduceAdd]
 refine zaa rfl fun K hK => mv rfl rfl ?_
 let P1 : ASf := fun t H => ⟨(0, hI p0) :: (1, hI p1) :: t, H⟩
 refine bf hK (P1 [] []) ?_
 refine zaa rfl fun K hK => mv rfl rfl ?_
 obtain ⟨x1, h2, h⟩ := bS h
 refine b_op rfl (qaB rfl rfl rfl rfl (zai (qfs h2)) ?_)
 refine mv rfl rfl ?_
 refine bf hK (P1 [(5, .bool x1)] []) ?_
 refine zaa rfl fun K hK => mv rfl rfl ?_
 obtain ⟨x3, h4, h⟩ := bS h
 refine b_op rfl (qaB rfl rfl rfl rfl (zai (qfs h4)) ?_)
 refine mv rfl rfl ?_
 refine bf hK (P1 [(5, .bool x1), (6, .bool x3)] []) ?_
 refine zad ?_
 refine zaa rfl fun K hK => mv rfl rfl ?_
 refine bf hK (P1 [(6, .bool x3), (11, .bool x1)] []) ?_
 refine zae rfl (fun hc => ?_) (fun hc => ?_)
 ·have h := ifT hc h
  refine zad ?_
  refine zaa rfl fun K hK => mv rfl rfl ?_
  refine bf hK ⟨[(12, .bool x3)], []⟩ ?_
  refine zae rfl (fun hc => ?_) (fun hc => ?_)
  ·have h := ifT hc h
   refine zaa rfl fun K hK => mv rfl rfl ?_
   refine bf hK ⟨[(4, hI 0)], []⟩ ?_
   obtain rfl := oi h
   exact AW.ret (qad (.inr rfl) (resT rfl rfl) rfl trivial)
  have h := ifF (bF' hc) h
  refine zac ?_
  refine zaa rfl fun K hK => mv rfl rfl ?_
  refine bf hK ⟨[(4, hI (-1))], []⟩ ?_
  obtain rfl := oi h
  exact AW.ret (qad (.inr rfl) (resT rfl rfl) rfl trivial)
 have h := ifF (bF' hc) h
 refine zac ?_
 refine zad ?_
 refine zaa rfl fun K hK => mv rfl rfl ?_
 refine bf hK (P1 [(13, .bool x3)] []) ?_
 refine zae rfl (fun hc => ?_) (fun hc => ?_)
 ·have h := ifT hc h
  refine zaa rfl fun K hK => mv rfl rfl ?_
  refine bf hK ⟨[(4, hI 1)], []⟩ ?_
  obtain rfl := oi h
  exact AW.ret (qad (.inr rfl) (resT rfl rfl) rfl trivial)
 have h := ifF (bF' hc) h
 refine zac ?_
 refine zad ?_
 refine zaa rfl fun K hK => mv rfl rfl (mv rfl rfl (bv rfl (qae rfl rfl qaV) ?_))
 refine bf hK (P1 [(16, .bool (decide (p0 < p1)))] []) ?_
 refine zae rfl (fun hc => ?_) (fun hc => ?_)
 ·obtain ⟨hc, h⟩ := cT hc h
  refine zaa rfl fun K hK => mv rfl rfl ?_
  refine bf hK ⟨[(4, hI (-1))], []⟩ ?_
  obtain rfl := oi h
  exact AW.ret (qad (.inr rfl) (resT rfl rfl) rfl trivial)
 obtain ⟨hc, h⟩ := cF hc h
 refine zac ?_
 refine zad ?_
 refine zaa rfl fun K hK => mv rfl rfl (mv rfl rfl (bv rfl (qae rfl rfl qbh) ?_))
 refine bf hK ⟨[(19, .bool (decide (p1 < p0)))], []⟩ ?_
 refine zae rfl (fun hc => ?_) (fun hc => ?_)
 ·obtain ⟨hc, h⟩ := cT hc h
  refine zaa rfl fun K hK => mv rfl rfl ?_
  refine bf hK ⟨[(4, hI 1)], []⟩ ?_
  obtain rfl := oi h
  exact AW.ret (qad (.inr rfl) (resT rfl rfl) rfl trivial)
 obtain ⟨hc, h⟩ := cF hc h
 refine zac ?_
 refine zaa rfl fun K hK => mv rfl rfl ?_
 refine bf hK ⟨[(4, hI 0)], []⟩ ?_
 obtain rfl := oi h
 exact AW.ret (qad (.inr rfl) (resT rfl rfl) rfl trivial)
theorem qeA {p0 : List (Int)} {p1 : List (Int)} {r : Int} (h : qbj p0 p1 = some r) : Pure Tryz.prog 180 [slE eInt p0, slE eInt p1] (· = hI r) := by
 unfold qbj at h
 refine zaj Tryz.func180 rfl rfl (lb rfl) fun hf => ?_
 unfold Tryz.f180
 dsimp only [qaH, Nat.reduceAdd]
 refine zaa rfl fun K hK => mv rfl rfl ?_
 let P2 : ASf := fun t H => ⟨(0, slE eInt p0) :: (1, slE eInt p1) :: t, H⟩
 refine bf hK (P2 [] []) ?_
 refine zad ?_
 refine zaa rfl fun K hK => mv rfl rfl (bv rfl (qaI rfl rfl ty31 rfl) (mv rfl rfl ?_))
 let E1 : Nat × HV := (10, hI ((p0).length : Int))
 refine bf hK (P2 [(9, slE eInt p0), E1, (11, hI 0)] []) ?_
 refine AW.lpR h (by first | exact qaG | exact qbp) (S := Int) (V := Unit) (fun a v => (P2 [(9, slE eInt p0), E1, (11, hI a)] [])) ?_ (X := Unit) (W := Unit) (fun a v => (P2 [] [])) (fun a11 w12 h => ?_) (fun a1 w2 st3 h hr4=> ?_)
 ·exact to_L ⟨(), rfl⟩
 ·refine zad ?_
  refine zaa rfl fun K hK => mv rfl rfl (bv rfl (qaI rfl rfl ty31 rfl) (mv rfl rfl (bv rfl (qaI rfl rfl ty31 rfl) (bv rfl (qae rfl rfl qaV) ?_))))
  refine bf hK ⟨[(35, .bool (decide (((p0).length : Int) < ((p1).length : Int))))], []⟩ ?_
  refine zae rfl (fun hc => ?_) (fun hc => ?_)
  ·obtain ⟨hc, h⟩ := cT hc h
   refine zaa rfl fun K hK => mv rfl rfl ?_
   refine bf hK ⟨[(4, hI (-1))], []⟩ ?_
   obtain rfl := oi h
   exact AW.ret (qad (.inr rfl) (resT rfl rfl) rfl trivial)
  obtain ⟨hc, h⟩ := cF hc h
  refine zac ?_
  refine zaa rfl fun K hK => mv rfl rfl ?_
  refine bf hK ⟨[(4, hI 0)], []⟩ ?_
  obtain rfl := oi h
  exact AW.ret (qad (.inr rfl) (resT rfl rfl) rfl trivial)
 refine zaa rfl fun K hK => bv rfl (qae rfl rfl qaV) ?_
 refine bf hK (P2 [(9, slE eInt p0), E1, (11, hI a1), (12, .bool (decide (a1 < ((p0).length : Int))))] []) ?_
 refine zam rfl (fun hc => ?_) (fun hc => ?_)
 ·obtain ⟨hc, h⟩ := cT hc h
  refine zac ?_
  refine zad (zaf ?_)
  refine zaa rfl fun K hK => mv rfl rfl ?_
  obtain ⟨x5, h6, h⟩ := bS h
  refine bv rfl (qaJ ty31 es31 rfl rfl (qaw h6)) (bv rfl (qab ty3 rfl (qaL eInt h6 (o := 0) rfl rfl)) (mv rfl rfl (mv rfl rfl ?_)))
  refine bf hK (P2 [(5, hI a1), (6, hI x5), (9, slE eInt p0), E1, (11, hI a1)] []) ?_
  refine zad ?_
  refine zaa rfl fun K hK => mv rfl rfl (mv rfl rfl (bv rfl (qaI rfl rfl ty31 rfl) (bv rfl (qae rfl rfl qfO) ?_)))
  refine bf hK (P2 [(5, hI a1), (6, hI x5), (9, slE eInt p0), E1, (11, hI a1), (19, .bool (decide (((p1).length : Int) ≤ a1)))] []) ?_
  refine zae rfl (fun hc => ?_) (fun hc => ?_)
  ·obtain ⟨hc, h⟩ := cT hc h
   refine zaa rfl fun K hK => mv rfl rfl ?_
   refine bf hK ⟨[(4, hI 1)], []⟩ ?_
   have h := hr4 _ h
   obtain rfl := oi h
   exact AW.ret (qad (.inr rfl) (resT rfl rfl) rfl trivial)
  obtain ⟨hc, h⟩ := cF hc h
  refine zac ?_
  refine zaa rfl fun K hK => mv rfl rfl (mv rfl rfl ?_)
  obtain ⟨x7, h8, h⟩ := bS h
  refine bv rfl (qaJ ty31 es31 rfl rfl (qaw h8)) (bv rfl (qab ty3 rfl (qaL eInt h8 (o := 0) rfl rfl)) (mv rfl rfl ?_))
  refine bf hK (P2 [(6, hI x5), (7, hI x7), (9, slE eInt p0), E1, (11, hI a1)] []) ?_
  refine zaa rfl fun K hK => mv rfl rfl (mv rfl rfl ?_)
  obtain ⟨x9, h10, h⟩ := bS h
  refine b_op rfl (qaB rfl rfl rfl rfl (zai (qg4 h10)) ?_)
  refine mv rfl rfl ?_
  refine bf hK (P2 [(8, hI x9), (9, slE eInt p0), E1, (11, hI a1)] []) ?_
  refine zaa rfl fun K hK => mv rfl rfl (bv rfl (qae rfl rfl qcL) ?_)
  refine bf hK (P2 [(8, hI x9), (9, slE eInt p0), E1, (11, hI a1), (28, .bool (decide (x9 ≠ 0)))] []) ?_
  refine zae rfl (fun hc => ?_) (fun hc => ?_)
  ·obtain ⟨hc, h⟩ := cT hc h
   refine zaa rfl fun K hK => mv rfl rfl (mv rfl rfl ?_)
   refine bf hK ⟨[(4, hI x9)], []⟩ ?_
   have h := hr4 _ h
   obtain rfl := oi h
   exact AW.ret (qad (.inr rfl) (resT rfl rfl) rfl trivial)
  obtain ⟨hc, h⟩ := cF hc h
  refine zac ?_
  refine zab rfl fun K hK => bv rfl (qae rfl rfl qa6) (mv rfl rfl ?_)
  refine qah (hK _ ?_)
  exact to_L ⟨IntKind.wrap .i64 (a1 + 1), (), h, rfl⟩
 obtain ⟨hc, h⟩ := cF hc h
 refine AW.exit ?_
 exact to_L ⟨(), (), h, rfl⟩
theorem qfq {p0 : qam} {p1 : qam} {r : Int} (h : qbn p0 p1 = some r) : Pure Tryz.prog 179 [.agg [hI p0.1, hI p0.2.1, hI p0.2.2], .agg [hI p1.1, hI p1.2.1, hI p1.2.2], .fptr [.fn (.func 134) [] []] 0] (· = hI r) := by
 unfold qbn at h
 refine zaj Tryz.func179 rfl rfl (lb rfl) fun hf => ?_
 unfold Tryz.f179
 dsimp only [qaH, Nat.reduceAdd]
 refine zaa rfl fun K hK => b_op rfl (qa5 rfl rfl rfl ?_)
 refine b_op rfl (qa5 rfl rfl rfl ?_)
 refine mv rfl rfl ?_
 refine bf hK ⟨[(2, .fptr [.fn (.func 134) [] []] 0), (3, .fptr [hI p0.1, hI p0.2.1, hI p0.2.2] 0), (4, .fptr [hI p1.1, hI p1.2.1, hI p1.2.2] 0)], []⟩ ?_
 refine AW.dgs 8 follows rfl rfl fun K hK => ?_
 refine sv rfl (qab qrh rfl (qan rfl rfl)) ?_
 refine sv rfl (qab qcN rfl (qav rfl (lb rfl) rfl)) ?_
 obtain ⟨x1, h2, h⟩ := bS h
 refine s_op rfl rfl (qaR rfl rfl rfl rfl (zai (qhu h2)) ?_)
 refine sv rfl (qab qrh rfl (qan rfl rfl)) ?_
 refine sv rfl (qab qcN rfl (qav rfl (lb rfl) rfl)) ?_
 obtain ⟨x3, h4, h⟩ := bS h
 refine s_op rfl rfl (qaR rfl rfl rfl rfl (zai (qhu h4)) ?_)
 obtain ⟨x5, h6, h⟩ := bS h
 refine s_op rfl rfl (qaR rfl rfl rfl rfl (zai (qeA h6)) ?_)
 refine sm rfl rfl ?_
 refine qbU ?_
 refine bf hK ⟨[(5, hI x5)], []⟩ ?_
 obtain rfl := oi h
 exact AW.ret (qad (.inr rfl) (resT rfl rfl) rfl trivial)
theorem qf7  : Pure Tryz.prog 133 [.fn (.func 134) [] []] (· = HV.fn (.func 179) [] [.fptr [.fn (.func 134) [] []] 0]) := by
 refine zaj Tryz.func133 rfl rfl (lb rfl) fun hf => ?_
 unfold Tryz.f133
 dsimp only [qaH, Nat.reduceAdd]
 refine zaa rfl fun K hK => b_op rfl (qa5 rfl rfl rfl ?_)
 refine mv rfl rfl ?_
 refine bf hK ⟨[(1, .fptr [.fn (.func 134) [] []] 0)], []⟩ ?_
 refine zaa rfl fun K hK => bv rfl (qgp rfl rfl) (mv rfl rfl ?_)
 refine bf hK ⟨[(2, .fn (.func 179) [] [.fptr [.fn (.func 134) [] []] 0])], []⟩ ?_
 refine AW.ret ?_
 exact qad (.inr rfl) (resT rfl rfl) rfl ⟨trivial, ⟨⟨⟨trivial, trivial⟩, trivial⟩, trivial⟩⟩
theorem qdd {p0 : qaa} {r : Int} (h : qbv p0 = some r) : Pure Tryz.prog 83 [gA p0] (· = hI r) := by
 unfold qbv at h
 refine zaj Tryz.func83 rfl rfl (lb rfl) fun hf => ?_
 unfold Tryz.f83
 dsimp only [qaH, Nat.reduceAdd]
 refine zaa rfl fun K hK => b_op rfl (qa5 rfl rfl rfl ?_)
 refine mv rfl rfl ?_
 let P3 : ASf := fun t H => ⟨(1, gF p0) :: t, H⟩
 refine bf hK (P3 [] []) ?_
 refine zad (zaf ?_)
 refine zag h (S := Bool) (V := Unit) (fun a v => (P3 [(6, .bool a)] [])) (fun a1 w2 h => ?_) (fun k3 h => ?_)
 ·refine zae rfl (fun hc => ?_) (fun hc => ?_)
  ·have h := ifT hc h
   refine zaa rfl fun K hK => mv rfl rfl ?_
   refine bf hK ⟨[(2, hI 12)], []⟩ ?_
   obtain rfl := oi h
   exact AW.ret (qad (.inr rfl) (resT rfl rfl) rfl trivial)
  have h := ifF (bF' hc) h
  refine zaa rfl fun K hK => bv rfl (qac qcp rfl) (bv rfl (qab ty3 rfl (qan rfl rfl)) (bv rfl (qae rfl rfl qaV) (mv rfl rfl ?_)))
  refine bf hK (P3 [(15, .bool (decide (p0.2.1 < 0)))] []) ?_
  refine zae rfl (fun hc => ?_) (fun hc => ?_)
  ·obtain ⟨hc, h⟩ := cT hc h
   refine zaa rfl fun K hK => mv rfl rfl ?_
   refine bf hK ⟨[(2, hI 2)], []⟩ ?_
   obtain rfl := oi h
   exact AW.ret (qad (.inr rfl) (resT rfl rfl) rfl trivial)
  obtain ⟨hc, h⟩ := cF hc h
  refine zag h (S := Bool) (V := Unit) (fun a v => (P3 [(19, .bool a)] [])) (fun a4 w5 h => ?_) (fun k6 h => ?_)
  ·refine zae rfl (fun hc => ?_) (fun hc => ?_)
   ·have h := ifT hc h
    refine zaa rfl fun K hK => mv rfl rfl ?_
    refine bf hK ⟨[(2, hI 4)], []⟩ ?_
    obtain rfl := oi h
    exact AW.ret (qad (.inr rfl) (resT rfl rfl) rfl trivial)
   have h := ifF (bF' hc) h
   refine zac ?_
   refine zaa rfl fun K hK => b_op rfl (qaB rfl rfl rfl rfl (zai (qf7 )) ?_)
   refine mv rfl rfl ?_
   let E2 : Nat × HV := (3, .fn (.func 179) [] [.fptr [.fn (.func 134) [] []] 0])
   refine bf hK (P3 [E2] []) ?_
   refine zad ?_
   refine zaa rfl fun K hK => bv rfl (qac qbi rfl) (bv rfl (qab ty25 rfl (qan rfl rfl)) (bv rfl (qaI rfl rfl ty25 rfl) (mv rfl rfl ?_)))
   let E3 : Nat × HV := (31, slE eFromLabelTo p0.2.2)
   let E4 : Nat × HV := (32, hI ((p0.2.2).length : Int))
   refine bf hK (P3 [E2, E3, E4, (33, hI 0)] []) ?_
   refine AW.lpR h (by first | exact qaG | exact qbp) (S := Int) (V := Unit) (fun a v => (P3 [E2, E3, E4, (33, hI a)] [])) ?_ (X := Unit) (W := Unit) (fun a v => ⟨[], []⟩) (fun a27 w28 h => ?_) (fun a7 w8 st9 h hr10=> ?_)
   ·exact to_L ⟨(), rfl⟩
   ·refine zaa rfl fun K hK => mv rfl rfl ?_
    refine bf hK ⟨[(2, hI 0)], []⟩ ?_
    obtain rfl := oi h
    exact AW.ret (qad (.inr rfl) (resT rfl rfl) rfl trivial)
   refine zaa rfl fun K hK => bv rfl (qae rfl rfl qaV) ?_
   refine bf hK (P3 [E2, E3, E4, (33, hI a7), (34, .bool (decide (a7 < ((p0.2.2).length : Int))))] []) ?_
   refine zam rfl (fun hc => ?_) (fun hc => ?_)
   ·obtain ⟨hc, h⟩ := cT hc h
    refine zac ?_
    refine zad (zaf ?_)
    refine zaa rfl fun K hK => mv rfl rfl ?_
    obtain ⟨x11, h12, h⟩ := bS h
    refine bv rfl (qaJ ty25 es25 rfl rfl (qaw h12)) (bv rfl (qab qcN rfl (qlm eFromLabelTo h12 rfl rfl)) ?_)
    refine b_op rfl (qba (fid := 83) (zs := [hI 0, hI 0, hI 0]) 83005 rfl rfl qcN rfl (fun v13 => ?_))
    refine mv rfl rfl ?_
    refine b_op rfl (qaD (cs := [hI x11.1, hI x11.2.1, hI x11.2.2]) (zs := [hI x11.1, hI x11.2.1, hI x11.2.2]) rfl rfl rfl qcN rfl rfl rfl rfl rfl ?_)
    refine bf hK (P3 [E2, (4, hI a7), (5, .ptr 83005 v13 0), E3, E4, (33, hI a7)] [(83005, v13, .arr 3 128 [hI x11.1, hI x11.2.1, hI x11.2.2])]) ?_
    refine zad ?_
    refine zag h (S := Bool) (V := Unit) (fun a v => (P3 [E2, (4, hI a7), (5, .ptr 83005 v13 0), E3, E4, (33, hI a7), (62, .bool a)] [(83005, v13, .arr 3 128 [hI x11.1, hI x11.2.1, hI x11.2.2])])) (fun a14 w15 h => ?_) (fun k16 h => ?_)
    ·refine zae rfl (fun hc => ?_) (fun hc => ?_)
     ·have h := ifT hc h
      refine zaa rfl fun K hK => mv rfl rfl ?_
      refine bf hK ⟨[(2, hI 2)], []⟩ ?_
      have h := hr10 _ h
      obtain rfl := oi h
      exact AW.ret (qad (.inr rfl) (resT rfl rfl) rfl trivial)
     have h := ifF (bF' hc) h
     refine zac ?_
     refine zag h (S := Bool) (V := Unit) (fun a v => (P3 [E2, E3, E4, (33, hI a7), (76, .bool a)] [])) (fun a17 w18 h => ?_) (fun k19 h => ?_)
     ·refine zae rfl (fun hc => ?_) (fun hc => ?_)
      ·have h := ifT hc h
       refine zaa rfl fun K hK => mv rfl rfl ?_
       refine bf hK ⟨[(2, hI 10)], []⟩ ?_
       have h := hr10 _ h
       obtain rfl := oi h
       exact AW.ret (qad (.inr rfl) (resT rfl rfl) rfl trivial)
      have h := ifF (bF' hc) h
      refine zac ?_
      refine zab rfl fun K hK => bv rfl (qae rfl rfl qa6) (mv rfl rfl ?_)
      refine qah (hK _ ?_)
      exact to_L ⟨IntKind.wrap .i64 (a7 + 1), (), h, rfl⟩
     refine AW.dg 14 follows rfl rfl fun K hK => ?_
     refine sm rfl rfl ?_
     refine sv rfl (qae rfl rfl qbh) ?_
     refine sm rfl rfl ?_
     by_cases hg24 : 0 < a7
     ·have h := ifT hg24 h
      refine s_T rfl rfl rfl rfl rfl (decide_eq_true hg24) (qat rfl (qas rfl rfl).2 ?_)
      refine s_T rfl rfl rfl rfl rfl rfl (qat rfl (qac qbi rfl) ?_)
      refine s_T rfl rfl rfl rfl rfl rfl (qat rfl (qab ty25 rfl (qan rfl rfl)) ?_)
      refine s_T rfl rfl rfl rfl rfl rfl (qat rfl (qas rfl rfl).2 ?_)
      refine s_T rfl rfl rfl rfl rfl rfl (qat rfl (qae rfl rfl qhk) ?_)
      obtain ⟨x20, h21, h⟩ := bS h
      refine s_T rfl rfl rfl rfl rfl rfl (qat rfl (qaJ ty25 es25 rfl rfl (qaw h21)) ?_)
      refine s_T rfl rfl rfl rfl rfl rfl (qat rfl (qab qcN rfl (qlm eFromLabelTo h21 rfl rfl)) ?_)
      refine s_T rfl rfl rfl rfl rfl rfl (qat rfl (qar qcN rfl rfl (qav rfl (lb rfl) rfl)) ?_)
      obtain ⟨x22, h23, h⟩ := bS h
      refine s_T rfl rfl rfl rfl rfl rfl (qaR rfl rfl rfl rfl (zai (qfq h23)) ?_)
      refine s_T rfl rfl rfl rfl rfl rfl (qat rfl (qae rfl rfl qfO) ?_)
      refine sv rfl (qaj rfl rfl rfl) ?_
      refine qbU ?_
      refine qah (hK _ ?_)
      exact to_L ⟨decide (0 ≤ x22), (), h, rfl⟩
     have h := ifF hg24 h
     refine s_F rfl rfl rfl rfl rfl (decide_eq_false hg24) ?_
     iterate 9 refine s_F rfl rfl rfl rfl rfl rfl ?_
     refine sv rfl (qak rfl rfl rfl) ?_
     refine qbU ?_
     refine qah (hK _ ?_)
     exact to_L ⟨false, (), h, rfl⟩
    refine zab rfl fun K hK => bv rfl (qao qcC rfl rfl) (bv rfl (qar ty3 rfl rfl (qan rfl rfl)) (bv rfl (qao qdC rfl rfl) (bv rfl (qar ty3 rfl rfl (qan rfl rfl)) (bv rfl (qao qdZ rfl rfl) (bv rfl (qar ty3 rfl rfl (qan rfl rfl)) ?_)))))
    refine bv rfl (qse rfl rfl rfl rfl) (bv rfl (qae rfl rfl qaV) (mv rfl rfl ?_))
    by_cases hg26 : (min (min x11.1 x11.2.1) x11.2.2) < 0
    ·have h := ifT hg26 h
     refine b_F rfl rfl rfl rfl rfl (decide_eq_true hg26) ?_
     iterate 7 refine b_F rfl rfl rfl rfl rfl rfl ?_
     refine bv rfl (qaj rfl rfl rfl) (mv rfl rfl ?_)
     iterate 5 refine b_F rfl rfl rfl rfl rfl rfl ?_
     refine bv rfl (qaj rfl rfl rfl) ?_
     refine qah (hK _ ?_)
     exact to_L ⟨true, (), h, rfl⟩
    have h := ifF hg26 h
    refine b_T rfl rfl rfl rfl (decide_eq_false hg26) (qaf rfl (qao qcC rfl rfl) ?_)
    refine b_T rfl rfl rfl rfl rfl (qaf rfl (qar ty3 rfl rfl (qan rfl rfl)) ?_)
    refine b_T rfl rfl rfl rfl rfl (qaf rfl (qao qdZ rfl rfl) ?_)
    refine b_T rfl rfl rfl rfl rfl (qaf rfl (qar ty3 rfl rfl (qan rfl rfl)) ?_)
    refine b_T rfl rfl rfl rfl rfl (qaf rfl (qsg rfl rfl rfl) ?_)
    refine b_T rfl rfl rfl rfl rfl (qaf rfl (qac qcp rfl) ?_)
    refine b_T rfl rfl rfl rfl rfl (qaf rfl (qab ty3 rfl (qan rfl rfl)) ?_)
    refine b_T rfl rfl rfl rfl rfl (qaf rfl (qae rfl rfl qfO) ?_)
    refine bv rfl (qak rfl rfl rfl) (mv rfl rfl ?_)
    by_cases hg25 : p0.2.1 ≤ (max x11.1 x11.2.2)
    ·have h := ifT hg25 h
     refine b_F rfl rfl rfl rfl rfl (decide_eq_true hg25) ?_
     iterate 4 refine b_F rfl rfl rfl rfl rfl rfl ?_
     refine bv rfl (qaj rfl rfl rfl) ?_
     refine qah (hK _ ?_)
     exact to_L ⟨true, (), h, rfl⟩
    have h := ifF hg25 h
    refine b_T rfl rfl rfl rfl (decide_eq_false hg25) (qaf rfl (qao qdC rfl rfl) ?_)
    refine b_T rfl rfl rfl rfl rfl (qaf rfl (qar ty3 rfl rfl (qan rfl rfl)) ?_)
    refine b_T rfl rfl rfl rfl rfl (qaf rfl (qac qez rfl) ?_)
    refine b_T rfl rfl rfl rfl rfl (qaf rfl (qab ty3 rfl (qan rfl rfl)) ?_)
    refine b_T rfl rfl rfl rfl rfl (qaf rfl (qae rfl rfl qfO) ?_)
    refine bv rfl (qak rfl rfl rfl) ?_
    refine qah (hK _ ?_)
    exact to_L ⟨decide (p0.1 ≤ x11.2.1), (), h, rfl⟩
   obtain ⟨hc, h⟩ := cF hc h
   refine AW.exit ?_
   exact to_L ⟨(), (), h, rfl⟩
  refine zab rfl fun K hK => bv rfl (qac qcp rfl) (bv rfl (qab ty3 rfl (qan rfl rfl)) (bv rfl (qae rfl rfl qbh) (mv rfl rfl ?_)))
  by_cases hg29 : 64 < p0.2.1
  ·have h := ifT hg29 h
   refine b_F rfl rfl rfl rfl rfl (decide_eq_true hg29) ?_
   iterate 3 refine b_F rfl rfl rfl rfl rfl rfl ?_
   refine bv rfl (qaj rfl rfl rfl) (mv rfl rfl ?_)
   refine qah (hK _ ?_)
   exact to_L ⟨true, (), h, rfl⟩
  have h := ifF hg29 h
  refine b_T rfl rfl rfl rfl (decide_eq_false hg29) (qaf rfl (qac qbi rfl) ?_)
  refine b_T rfl rfl rfl rfl rfl (qaf rfl (qab ty25 rfl (qan rfl rfl)) ?_)
  refine b_T rfl rfl rfl rfl rfl (qaf rfl (qaI rfl rfl ty25 rfl) ?_)
  refine b_T rfl rfl rfl rfl rfl (qaf rfl (qae rfl rfl qbh) ?_)
  refine bv rfl (qak rfl rfl rfl) (mv rfl rfl ?_)
  refine qah (hK _ ?_)
  exact to_L ⟨decide (1024 < ((p0.2.2).length : Int)), (), h, rfl⟩
 refine zab rfl fun K hK => bv rfl (qac qez rfl) (bv rfl (qab ty3 rfl (qan rfl rfl)) (bv rfl (qae rfl rfl qaV) (mv rfl rfl ?_)))
 by_cases hg30 : p0.1 < 1
 ·have h := ifT hg30 h
  refine b_F rfl rfl rfl rfl rfl (decide_eq_true hg30) ?_
  iterate 2 refine b_F rfl rfl rfl rfl rfl rfl ?_
  refine bv rfl (qaj rfl rfl rfl) (mv rfl rfl ?_)
  refine qah (hK _ ?_)
  exact to_L ⟨true, (), h, rfl⟩
 have h := ifF hg30 h
 refine b_T rfl rfl rfl rfl (decide_eq_false hg30) (qaf rfl (qac qez rfl) ?_)
 refine b_T rfl rfl rfl rfl rfl (qaf rfl (qab ty3 rfl (qan rfl rfl)) ?_)
 refine b_T rfl rfl rfl rfl rfl (qaf rfl (qae rfl rfl qbh) ?_)
 refine bv rfl (qak rfl rfl rfl) (mv rfl rfl ?_)
 refine qah (hK _ ?_)
 exact to_L ⟨decide (256 < p0.1), (), h, rfl⟩
theorem qhL {p0 : qaa} {p1 : List (Int)} {r : Int} (h : qck p0 p1 = some r) : Pure Tryz.prog 158 [gA p0, slE eInt p1] (· = hI r) := by
 unfold qck at h
 refine zaj Tryz.func158 rfl rfl (lb rfl) fun hf => ?_
 unfold Tryz.f158
 dsimp only [qaH, Nat.reduceAdd]
 refine zaa rfl fun K hK => b_op rfl (qa5 rfl rfl rfl ?_)
 refine mv rfl rfl ?_
 let P4 : ASf := fun t H => ⟨(1, slE eInt p1) :: (2, gF p0) :: t, H⟩
 refine bf hK (P4 [] []) ?_
 refine zad ?_
 refine zaa rfl fun K hK => mv rfl rfl (bv rfl (qaI rfl rfl ty31 rfl) (mv rfl rfl ?_))
 let E5 : Nat × HV := (8, hI ((p1).length : Int))
 refine bf hK (P4 [(7, slE eInt p1), E5, (9, hI 0)] []) ?_
 refine AW.lpR h (by first | exact qaG | exact qbp) (S := Int) (V := Unit) (fun a v => (P4 [(7, slE eInt p1), E5, (9, hI a)] [])) ?_ (X := Unit) (W := Unit) (fun a v => ⟨[], []⟩) (fun a17 w18 h => ?_) (fun a1 w2 st3 h hr4=> ?_)
 ·exact to_L ⟨(), rfl⟩
 ·refine zaa rfl fun K hK => mv rfl rfl ?_
  refine bf hK ⟨[(4, hI 0)], []⟩ ?_
  obtain rfl := oi h
  exact AW.ret (qad (.inr rfl) (resT rfl rfl) rfl trivial)
 refine zaa rfl fun K hK => bv rfl (qae rfl rfl qaV) ?_
 refine bf hK (P4 [(7, slE eInt p1), E5, (9, hI a1), (10, .bool (decide (a1 < ((p1).length : Int))))] []) ?_
 refine zam rfl (fun hc => ?_) (fun hc => ?_)
 ·obtain ⟨hc, h⟩ := cT hc h
  refine zac ?_
  refine zad (zaf ?_)
  refine zaa rfl fun K hK => mv rfl rfl ?_
  obtain ⟨x5, h6, h⟩ := bS h
  refine bv rfl (qaJ ty31 es31 rfl rfl (qaw h6)) (bv rfl (qab ty3 rfl (qaL eInt h6 (o := 0) rfl rfl)) (mv rfl rfl (mv rfl rfl ?_)))
  refine bf hK (P4 [(5, hI a1), (6, hI x5), (7, slE eInt p1), E5, (9, hI a1)] []) ?_
  refine zad ?_
  refine zag h (S := Bool) (V := Unit) (fun a v => (P4 [(5, hI a1), (6, hI x5), (7, slE eInt p1), E5, (9, hI a1), (21, .bool a)] [])) (fun a7 w8 h => ?_) (fun k9 h => ?_)
  ·refine zae rfl (fun hc => ?_) (fun hc => ?_)
   ·have h := ifT hc h
    refine zaa rfl fun K hK => mv rfl rfl ?_
    refine bf hK ⟨[(4, hI 25)], []⟩ ?_
    have h := hr4 _ h
    obtain rfl := oi h
    exact AW.ret (qad (.inr rfl) (resT rfl rfl) rfl trivial)
   have h := ifF (bF' hc) h
   refine zac ?_
   refine zag h (S := Bool) (V := Unit) (fun a v => (P4 [(7, slE eInt p1), E5, (9, hI a1), (32, .bool a)] [])) (fun a10 w11 h => ?_) (fun k12 h => ?_)
   ·refine zae rfl (fun hc => ?_) (fun hc => ?_)
    ·have h := ifT hc h
     refine zaa rfl fun K hK => mv rfl rfl ?_
     refine bf hK ⟨[(4, hI 10)], []⟩ ?_
     have h := hr4 _ h
     obtain rfl := oi h
     exact AW.ret (qad (.inr rfl) (resT rfl rfl) rfl trivial)
    have h := ifF (bF' hc) h
    refine zac ?_
    refine zab rfl fun K hK => bv rfl (qae rfl rfl qa6) (mv rfl rfl ?_)
    refine qah (hK _ ?_)
    exact to_L ⟨IntKind.wrap .i64 (a1 + 1), (), h, rfl⟩
   refine zab rfl fun K hK => mv rfl rfl (bv rfl (qae rfl rfl qbh) (mv rfl rfl ?_))
   by_cases hg15 : 0 < a1
   ·have h := ifT hg15 h
    refine b_T rfl rfl rfl rfl (decide_eq_true hg15) (qaf rfl (qas rfl rfl).2 ?_)
    iterate 2 refine b_T rfl rfl rfl rfl rfl (qaf rfl (qas rfl rfl).2 ?_)
    refine b_T rfl rfl rfl rfl rfl (qaf rfl (qae rfl rfl qhk) ?_)
    obtain ⟨x13, h14, h⟩ := bS h
    refine b_T rfl rfl rfl rfl rfl (qaf rfl (qaJ ty31 es31 rfl rfl (qaw h14)) ?_)
    refine b_T rfl rfl rfl rfl rfl (qaf rfl (qab ty3 rfl (qaL eInt h14 (o := 0) rfl rfl)) ?_)
    refine b_T rfl rfl rfl rfl rfl (qaf rfl (qae rfl rfl qhW) ?_)
    refine bv rfl (qaj rfl rfl rfl) ?_
    refine qah (hK _ ?_)
    exact to_L ⟨decide (x5 ≤ x13), (), h, rfl⟩
   have h := ifF hg15 h
   refine b_F rfl rfl rfl rfl rfl (decide_eq_false hg15) ?_
   iterate 6 refine b_F rfl rfl rfl rfl rfl rfl ?_
   refine bv rfl (qak rfl rfl rfl) ?_
   refine qah (hK _ ?_)
   exact to_L ⟨false, (), h, rfl⟩
  refine zab rfl fun K hK => mv rfl rfl (bv rfl (qae rfl rfl qaV) (mv rfl rfl ?_))
  by_cases hg16 : x5 < 0
  ·have h := ifT hg16 h
   refine b_F rfl rfl rfl rfl rfl (decide_eq_true hg16) ?_
   iterate 3 refine b_F rfl rfl rfl rfl rfl rfl ?_
   refine bv rfl (qaj rfl rfl rfl) ?_
   refine qah (hK _ ?_)
   exact to_L ⟨true, (), h, rfl⟩
  have h := ifF hg16 h
  refine b_T rfl rfl rfl rfl (decide_eq_false hg16) (qaf rfl (qas rfl rfl).2 ?_)
  refine b_T rfl rfl rfl rfl rfl (qaf rfl (qac qcp rfl) ?_)
  refine b_T rfl rfl rfl rfl rfl (qaf rfl (qab ty3 rfl (qan rfl rfl)) ?_)
  refine b_T rfl rfl rfl rfl rfl (qaf rfl (qae rfl rfl qfO) ?_)
  refine bv rfl (qak rfl rfl rfl) ?_
  refine qah (hK _ ?_)
  exact to_L ⟨decide (p0.2.1 ≤ x5), (), h, rfl⟩
 obtain ⟨hc, h⟩ := cF hc h
 refine AW.exit ?_
 exact to_L ⟨(), (), h, rfl⟩
theorem qip (p0 : qaa) (p1 : Int) : Pure Tryz.prog 159 [gA p0, hI p1] (· = HV.fn (.func 194) [] [gF p0, .fptr [hI p1] 0]) := by
 refine zaj Tryz.func159 rfl rfl (lb rfl) fun hf => ?_
 unfold Tryz.f159
 dsimp only [qaH, Nat.reduceAdd]
 refine zaa rfl fun K hK => b_op rfl (qa5 rfl rfl rfl ?_)
 refine b_op rfl (qa5 rfl rfl rfl ?_)
 refine mv rfl rfl ?_
 refine bf hK ⟨[(2, gF p0), (3, .fptr [hI p1] 0)], []⟩ ?_
 refine zaa rfl fun K hK => bv rfl (qgp rfl rfl) (mv rfl rfl ?_)
 refine bf hK ⟨[(4, .fn (.func 194) [] [gF p0, .fptr [hI p1] 0])], []⟩ ?_
 refine AW.ret ?_
 exact qad (.inr rfl) (resT rfl rfl) rfl ⟨trivial, ⟨⟨trivial, trivial, (qai fun _ _ => ⟨trivial, trivial, trivial, trivial⟩), trivial⟩, ⟨trivial, trivial⟩, trivial⟩⟩
theorem qkT {p0 : qaa} {p1 : List (Int)} {p2 : Int} {r : (List (Int)) × Int} (h : qdR p0 p1 p2 = some r) : Pure Tryz.prog 108 [gA p0, slE eInt p1, hI p2] (· = HV.tup [slE eInt r.1, hI r.2]) := by
 unfold qdR at h
 refine zaj Tryz.func108 rfl rfl (lb rfl) fun hf => ?_
 unfold Tryz.f108
 dsimp only [qaH, Nat.reduceAdd]
 refine zaa rfl fun K hK => b_op rfl (qa5 rfl rfl rfl ?_)
 refine b_op rfl (qa5 rfl rfl rfl ?_)
 refine mv rfl rfl (mv rfl rfl ?_)
 let P1 : ASf := fun t H => ⟨(1, slE eInt p1) :: (3, gF p0) :: (5, .fptr [hI p2] 0) :: t, H⟩
 refine bf hK (P1 [] []) ?_
 refine zad ?_
 refine zaa rfl fun K hK => bv rfl (qab ty27 rfl (qav rfl (lb rfl) rfl)) ?_
 obtain ⟨x1, h2, h⟩ := bS h
 refine b_op rfl (qaB rfl rfl rfl rfl (zai (qdd h2)) ?_)
 refine bv rfl (qae rfl rfl qcL) ?_
 refine bf hK (P1 [(16, .bool (decide (x1 ≠ 0)))] []) ?_
 refine zae rfl (fun hc => ?_) (fun hc => ?_)
 ·obtain ⟨hc, h⟩ := cT hc h
  refine zaa rfl fun K hK => mv rfl rfl (mv rfl rfl ?_)
  refine bf hK ⟨[(6, .v (.slice none 0 0)), (7, hI 1)], []⟩ ?_
  refine AW.to (qct ⟨[(6, slE eInt ([] : List Int)), (7, hI 1)], []⟩ ⟨⟨_, rfl, .nil _⟩, ⟨_, rfl, .refl _⟩, trivial⟩ trivial ?_)
  obtain rfl := oi h
  exact AW.ret (qad (.inr rfl) (resT rfl (resT rfl rfl)) rfl ⟨(qai fun _ _ => ⟨trivial, trivial⟩), trivial, trivial⟩)
 obtain ⟨hc, h⟩ := cF hc h
 refine zac ?_
 refine zad ?_
 refine zaa rfl fun K hK => bv rfl (qab ty27 rfl (qav rfl (lb rfl) rfl)) (mv rfl rfl ?_)
 obtain ⟨x3, h4, h⟩ := bS h
 refine b_op rfl (qaB rfl rfl rfl rfl (zai (qhL h4)) ?_)
 refine mv rfl rfl ?_
 refine bf hK (P1 [(8, hI x3)] []) ?_
 refine zaa rfl fun K hK => mv rfl rfl (bv rfl (qae rfl rfl qcL) ?_)
 refine bf hK (P1 [(8, hI x3), (21, .bool (decide (x3 ≠ 0)))] []) ?_
 refine zae rfl (fun hc => ?_) (fun hc => ?_)
 ·obtain ⟨hc, h⟩ := cT hc h
  refine zaa rfl fun K hK => mv rfl rfl (mv rfl rfl (mv rfl rfl ?_))
  refine bf hK ⟨[(6, .v (.slice none 0 0)), (7, hI x3)], []⟩ ?_
  refine AW.to (qct ⟨[(6, slE eInt ([] : List Int)), (7, hI x3)], []⟩ ⟨⟨_, rfl, .nil _⟩, ⟨_, rfl, .refl _⟩, trivial⟩ trivial ?_)
  obtain rfl := oi h
  exact AW.ret (qad (.inr rfl) (resT rfl (resT rfl rfl)) rfl ⟨(qai fun _ _ => ⟨trivial, trivial⟩), trivial, trivial⟩)
 obtain ⟨hc, h⟩ := cF hc h
 refine zac ?_
 refine zad ?_
 refine zag h (S := Bool) (V := Unit) (fun a v => (P1 [(30, .bool a)] [])) (fun a5 w6 h => ?_) (fun k7 h => ?_)
 ·refine zae rfl (fun hc => ?_) (fun hc => ?_)
  ·have h := ifT hc h
   refine zaa rfl fun K hK => mv rfl rfl (mv rfl rfl ?_)
   refine bf hK ⟨[(6, .v (.slice none 0 0)), (7, hI 2)], []⟩ ?_
   refine AW.to (qct ⟨[(6, slE eInt ([] : List Int)), (7, hI 2)], []⟩ ⟨⟨_, rfl, .nil _⟩, ⟨_, rfl, .refl _⟩, trivial⟩ trivial ?_)
   obtain rfl := oi h
   exact AW.ret (qad (.inr rfl) (resT rfl (resT rfl rfl)) rfl ⟨(qai fun _ _ => ⟨trivial, trivial⟩), trivial, trivial⟩)
  have h := ifF (bF' hc) h
  refine zac ?_
  refine zaa rfl fun K hK => b_op rfl (qba (fid := 108) (zs := [.v (.slice none 0 0)]) 108009 rfl rfl ty31 rfl (fun v8 => ?_))
  refine bf hK (P1 [(9, .ptr 108009 v8 0)] [(108009, v8, .arr 1 31 [.v (.slice none 0 0)])]) ?_
  refine zad ?_
  refine zaa rfl fun K hK => mv rfl rfl (bv rfl (qaI rfl rfl ty31 rfl) (mv rfl rfl ?_))
  let E1 : Nat × HV := (32, hI ((p1).length : Int))
  let P2 : ASf := fun t H => ⟨(3, gF p0) :: (5, .fptr [hI p2] 0) :: (9, .ptr 108009 v8 0) :: (31, slE eInt p1) :: E1 :: t, H⟩
  refine bf hK (P2 [(33, hI 0)] [(108009, v8, .arr 1 31 [.v (.slice none 0 0)])]) ?_
  refine AW.lpX h (by first | exact qaG | exact qbp) (S := Int × (List Int)) (V := Nat) (fun a v => (P2 [(33, hI a.1)] [(108009, v8, .arr 1 31 [.ar 108050 v eInt.k 0 ((a.2).length)]), (108050, v, .arr eInt.k 3 (eInt.E a.2))])) ?_ (X := (List Int)) (W := Nat) (fun a v => ⟨[(9, .ptr 108009 v8 0)], [(108009, v8, .arr 1 31 [.ar 108050 v eInt.k 0 ((a).length)]), (108050, v, .arr eInt.k 3 (eInt.E a))]⟩) (fun a31 w32 h => ?_) (fun a9 w10 st11 h => ?_)
  ·refine qfv (qg5 108050 108009 v8 1 0 eInt.k 3 31 rfl rfl (by decide) fun v30 => ?_)
   exact qa9 (s' := (P2 [(33, hI 0)] [(108009, v8, .arr 1 31 [.ar 108050 v30 eInt.k 0 ((([] : List Int)).length)]), (108050, v30, .arr eInt.k 3 (eInt.E ([] : List Int)))])) (zak ⟨rfl, rfl, rfl, rfl, rfl, rfl, trivial⟩ ⟨hle rfl (by first | rfl | simp only [List.length_set, qcP, qbN]), rfl, trivial⟩) ⟨v30, rfl⟩
  ·refine zaa rfl fun K hK => bv rfl (qar ty31 rfl rfl (qan rfl rfl)) ?_
   obtain ⟨h33, h⟩ := ifN h
   refine b_op rfl (qry qr3 (l := a31) rfl rfl rfl rfl h33 ?_)
   refine qnY hK (s' := ⟨[(9, .ptr 108009 v8 0)], [(108009, v8, .arr 1 31 [.ar 108050 w32 eInt.k 0 ((sortI a31).length)]), (108050, w32, .arr eInt.k 3 (eInt.E (sortI a31)))]⟩) (zak ⟨rfl, trivial⟩ ⟨hle rfl (by first | rfl | simp only [List.length_set, qcP, qbN]), rfl, trivial⟩) ?_
   refine zaa rfl fun K hK => bv rfl (qar ty31 rfl rfl (qan rfl rfl)) ?_
   refine b_op rfl (ql8 (q := slE eInt (qaW (sortI a31))) [(108009, v8, .arr 1 31 [.ar 108050 w32 eInt.k 0 ((sortI a31).length)])] rfl rfl rfl rfl (fun K hK => qnX (H' := [(108009, v8, .arr 1 31 [.ar 108050 w32 eInt.k 0 ((sortI a31).length)])]) (l := sortI a31) rfl rfl (qci ⟨rfl, trivial⟩) rfl hK) ?_)
   refine mv rfl rfl (mv rfl rfl ?_)
   refine bf hK ⟨[(6, slE eInt (qaW (sortI a31))), (7, hI 0)], []⟩ ?_
   obtain rfl := oi h
   exact AW.ret (qad (.inr rfl) (resT rfl (resT rfl rfl)) rfl ⟨(qai fun _ _ => ⟨trivial, trivial⟩), trivial, trivial⟩)
  refine zaa rfl fun K hK => bv rfl (qae rfl rfl qaV) ?_
  let O2 : Nat × Nat × AObj := (108009, v8, .arr 1 31 [.ar 108050 w10 eInt.k 0 ((a9.2).length)])
  let O3 : Nat × Nat × AObj := (108050, w10, .arr eInt.k 3 (eInt.E a9.2))
  refine bf hK (P2 [(33, hI a9.1), (34, .bool (decide (a9.1 < ((p1).length : Int))))] [O2, O3]) ?_
  refine zam rfl (fun hc => ?_) (fun hc => ?_)
  ·obtain ⟨hc, h⟩ := cT hc h
   refine zac ?_
   refine zad (zaf ?_)
   refine zaa rfl fun K hK => ?_
   obtain ⟨x13, h14, h⟩ := bS h
   refine bv rfl (qaJ ty31 es31 rfl rfl (qaw h14)) (bv rfl (qab ty3 rfl (qaL eInt h14 (o := 0) rfl rfl)) (mv rfl rfl ?_))
   refine bf hK ⟨[(3, gF p0), (5, .fptr [hI p2] 0), (9, .ptr 108009 v8 0), (11, hI x13), (31, slE eInt p1), E1, (33, hI a9.1)], [O2, O3]⟩ ?_
   refine zaa rfl fun K hK => bv rfl (qab ty27 rfl (qav rfl (lb rfl) rfl)) (mv rfl rfl ?_)
   refine b_op rfl (qaB rfl rfl rfl rfl (zai (qip p0 x13)) ?_)
   refine bf hK (P2 [(33, hI a9.1), (39, .fn (.func 194) [] [gF p0, .fptr [hI x13] 0])] [O2, O3]) ?_
   refine zaf ?_
   refine AW.to (qa9 (s' := (P2 [(33, hI a9.1), (39, .fn (.func 194) [] [gF p0, .fptr [hI x13] 0])] [O2, O3])) (le_q rfl rfl) ?_)
   obtain ⟨L15, h16, h⟩ := bS h
   refine AW.rangeY (c := .ret) 108900 (fun x => [hI x.1, .agg [hI x.2.1, hI x.2.2.1, hI x.2.2.2]]) h (by first | exact qaG | exact qbp) rfl (qhT h16) (S := (List Int)) (V := Nat) (fun a v => [(108009, v8, .arr 1 31 [.ar 108050 v eInt.k 0 ((a).length)]), (108050, v, .arr eInt.k 3 (eInt.E a))]) w10 (X := Unit) (W := Unit) (fun _ _ => []) (fun _ _ => rfl) (fun _ _ => rfl) rfl (fun _ => rfl) (fun a26 w27 h => ?_) (fun a28 w29 h => ?_) (fun Lo l22 v20 a17 x19 w18 st21 h => ?_)
   ·refine zab rfl fun K hK => bv rfl (qae rfl rfl qa6) (mv rfl rfl ?_)
    refine qah (hK _ ?_)
    exact to_L ⟨(IntKind.wrap .i64 (a9.1 + 1), a26), w27, h, rfl⟩
   ·cases h
   refine zab rfl fun K hK => b_op rfl (qba (fid := 108) (zs := [hI 0, hI 0, hI 0]) 108013 rfl rfl qcN rfl (fun v23 => ?_))
   refine b_op rfl (qaD (cs := [hI x19.2.1, hI x19.2.2.1, hI x19.2.2.2]) (zs := [hI x19.2.1, hI x19.2.2.1, hI x19.2.2.2]) rfl rfl rfl qcN rfl rfl rfl rfl rfl ?_)
   refine qah (hK _ ?_)
   refine ⟨rfl, rfl, ?_⟩
   refine zaf ?_
   refine zaa rfl fun K hK => bv rfl (qao qdC rfl rfl) (bv rfl (qar ty3 rfl rfl (qan rfl rfl)) (bv rfl (qab ty3 rfl (qan rfl rfl)) (bv rfl (qae rfl rfl qd1) ?_)))
   refine bf hK ⟨[(3, gF p0), (5, .fptr [hI p2] 0), (9, .ptr 108009 v8 0), (13, .ptr 108013 v23 0), (31, slE eInt p1), E1, (33, hI a9.1), (41, .agg [hI x19.2.1, hI x19.2.2.1, hI x19.2.2.2]), (45, .bool (decide (x19.2.2.1 = p2)))], [(108900, v20, Lo .busy none), (108009, v8, .arr 1 31 [.ar 108050 w18 eInt.k 0 ((a17).length)]), (108050, w18, .arr eInt.k 3 (eInt.E a17)), (108013, v23, .arr 3 128 [hI x19.2.1, hI x19.2.2.1, hI x19.2.2.2])]⟩ ?_
   refine zae rfl (fun hc => ?_) (fun hc => ?_)
   ·obtain ⟨hc, h⟩ := cT hc h
    refine zab rfl fun K hK => bv rfl (qar ty31 rfl rfl (qan rfl rfl)) (bv rfl (qao qdZ rfl rfl) (bv rfl (qar ty3 rfl rfl (qan rfl rfl)) ?_))
    refine b_op rfl (qdX rfl rfl (qbV (cs := [hI x19.2.2.2]) ty31 ty3 rfl rfl rfl rfl rfl) ?_)
    obtain ⟨h25, h⟩ := ifN h
    refine b_op rfl (qdh eInt (l := a17) (m := [x19.2.2.2]) rfl rfl ty31 ty31 ty3 rfl rfl rfl rfl rfl h25 (fun v24 => ?_))
    refine b_op rfl (qaD (cs := [.ar 108050 v24 eInt.k 0 ((a17 ++ [x19.2.2.2]).length)]) (zs := [.ar 108050 v24 eInt.k 0 ((a17 ++ [x19.2.2.2]).length)]) rfl rfl rfl ty31 rfl rfl rfl rfl rfl ?_)
    refine qah (hK _ ?_)
    exact ⟨a17 ++ [x19.2.2.2], v24, h, (zak trivial ⟨rfl, rfl, rfl, trivial⟩)⟩
   obtain ⟨hc, h⟩ := cF hc h
   refine zac ?_
   exact ⟨a17, w18, h, (zak trivial ⟨rfl, rfl, rfl, trivial⟩)⟩
  obtain ⟨hc, h⟩ := cF hc h
  refine AW.exit ?_
  exact to_L ⟨a9.2, w10, h, rfl⟩
 refine zab rfl fun K hK => bv rfl (qab ty3 rfl (qan rfl rfl)) (bv rfl (qae rfl rfl qaV) (mv rfl rfl ?_))
 by_cases hg34 : p2 < 0
 ·have h := ifT hg34 h
  refine b_F rfl rfl rfl rfl rfl (decide_eq_true hg34) ?_
  iterate 3 refine b_F rfl rfl rfl rfl rfl rfl ?_
  refine bv rfl (qaj rfl rfl rfl) ?_
  refine qah (hK _ ?_)
  exact to_L ⟨true, (), h, rfl⟩
 have h := ifF hg34 h
 refine b_T rfl rfl rfl rfl (decide_eq_false hg34) (qaf rfl (qab ty3 rfl (qan rfl rfl)) ?_)
 refine b_T rfl rfl rfl rfl rfl (qaf rfl (qac qez rfl) ?_)
 refine b_T rfl rfl rfl rfl rfl (qaf rfl (qab ty3 rfl (qan rfl rfl)) ?_)
 refine b_T rfl rfl rfl rfl rfl (qaf rfl (qae rfl rfl qfO) ?_)
 refine bv rfl (qak rfl rfl rfl) ?_
 refine qah (hK _ ?_)
 exact to_L ⟨decide (p0.1 ≤ p2), (), h, rfl⟩
theorem qfp {p0 : qaa} {p1 : List (Int)} {p2 : Int} {r : (List (Int))} (h : qbb p0 p1 p2 = some r) : Pure Tryz.prog 111 [gA p0, slE eInt p1, .int .u8 p2] (· = slE eInt r) := by
 unfold qbb at h
 refine zaj Tryz.func111 rfl rfl (lb rfl) fun hf => ?_
 unfold Tryz.f111
 dsimp only [qaH, Nat.reduceAdd]
 refine zaa rfl fun K hK => b_op rfl (qa5 rfl rfl rfl ?_)
 refine mv rfl rfl ?_
 refine bf hK ⟨[(1, slE eInt p1), (2, .int .u8 p2), (3, gF p0)], []⟩ ?_
 refine AW.dgs 10 follows rfl rfl fun K hK => ?_
 refine sv rfl (qab ty27 rfl (qav rfl (lb rfl) rfl)) ?_
 iterate 2 refine sm rfl rfl ?_
 obtain ⟨x1, h2, h⟩ := bS h
 refine s_op rfl rfl (qaR rfl rfl rfl rfl (zai (qc1 h2)) ?_)
 obtain ⟨x3, h4, h⟩ := bS h
 refine s_op rfl rfl (qaR rfl rfl rfl rfl (zai (qkT h4)) ?_)
 refine sm rfl rfl ?_
 refine sv rfl (qaq rfl rfl) ?_
 refine sv rfl (qaq rfl rfl) ?_
 iterate 2 refine sm rfl rfl ?_
 refine qbU ?_
 refine bf hK ⟨[(7, slE eInt x3.1)], []⟩ ?_
 refine zaa rfl fun K hK => mv rfl rfl (mv rfl rfl ?_)
 refine bf hK ⟨[(6, slE eInt x3.1)], []⟩ ?_
 obtain rfl := oi h
 exact AW.ret (qad (.inr rfl) (resT rfl rfl) rfl (qai fun _ _ => ⟨trivial, trivial⟩))
theorem qeM {p0 : qaa} {r : (List (Int))} (h : qbA p0 = some r) : Pure Tryz.prog 62 [gA p0] (· = slE eInt r) := by
 unfold qbA at h
 refine zaj Tryz.func62 rfl rfl (lb rfl) fun hf => ?_
 unfold Tryz.f62
 dsimp only [qaH, Nat.reduceAdd]
 refine zaa rfl fun K hK => b_op rfl (qa5 rfl rfl rfl ?_)
 refine mv rfl rfl ?_
 refine bf hK ⟨[(1, gF p0)], []⟩ ?_
 refine zaa rfl fun K hK => bv rfl (qac qcp rfl) (bv rfl (qab ty3 rfl (qan rfl rfl)) ?_)
 obtain ⟨h2, h⟩ := ifN h
 refine b_op rfl (qfC (fid := 62) eInt (0 : Int) 62007 rfl rfl ty31 rfl rfl ty3 rfl rfl h2 (fun v1 => ?_))
 refine mv rfl rfl ?_
 let E4 : Nat × HV := (3, .ar 62007 v1 eInt.k 0 ((List.replicate (p0.2.1).toNat (0 : Int)).length))
 let O5 : Nat × Nat × AObj := (62007, v1, .arr eInt.k 3 (eInt.E (List.replicate (p0.2.1).toNat (0 : Int))))
 refine bf hK ⟨[E4], [O5]⟩ ?_
 refine zad ?_
 refine zaa rfl fun K hK => mv rfl rfl (bv rfl (qhv rfl rfl ty31 rfl rfl) (mv rfl rfl ?_))
 let E6 : Nat × HV := (9, hI (((List.replicate (p0.2.1).toNat (0 : Int)).length : Nat) : Int))
 refine bf hK ⟨[E4, E6, (10, hI 0)], [O5]⟩ ?_
 refine AW.lpX h (by first | exact qaG | exact qbp) (S := Int × (List Int)) (V := Unit) (fun a v => ⟨[(3, .ar 62007 v1 eInt.k 0 ((a.2).length)), E6, (10, hI a.1)], [(62007, v1, .arr eInt.k 3 (eInt.E a.2))]⟩) ?_ (X := (List Int)) (W := Unit) (fun a v => ⟨[(3, .ar 62007 v1 eInt.k 0 ((a).length))], [(62007, v1, .arr eInt.k 3 (eInt.E a))]⟩) (fun a9 w10 h => ?_) (fun a3 w4 st5 h => ?_)
 ·exact to_L ⟨(), rfl⟩
 ·refine zaa rfl fun K hK => mv rfl rfl (mv rfl rfl ?_)
  refine bf hK ⟨[(2, .ar 62007 v1 eInt.k 0 ((a9).length))], [(62007, v1, .arr eInt.k 3 (eInt.E a9))]⟩ ?_
  refine AW.to (qdN 2 [(62007, v1, .arr eInt.k 3 (eInt.E a9))] ⟨[(2, slE eInt a9)], []⟩ ⟨⟨_, rfl, qbw eInt (l := a9) rfl fun _ _ => rfl⟩, trivial⟩ trivial ⟨rfl, trivial⟩ ⟨rfl, trivial⟩ ?_)
  obtain rfl := oi h
  exact AW.ret (qad (.inr rfl) (resT rfl rfl) rfl (qai fun _ _ => ⟨trivial, trivial⟩))
 refine zaa rfl fun K hK => bv rfl (qae rfl rfl qaV) ?_
 let P3 : ASf := fun t H => ⟨(3, .ar 62007 v1 eInt.k 0 ((a3.2).length)) :: t, (62007, v1, .arr eInt.k 3 (eInt.E a3.2)) :: H⟩
 refine bf hK (P3 [E6, (10, hI a3.1), (11, .bool (decide (a3.1 < (((List.replicate (p0.2.1).toNat (0 : Int)).length : Nat) : Int))))] []) ?_
 refine zam rfl (fun hc => ?_) (fun hc => ?_)
 ·obtain ⟨hc, h⟩ := cT hc h
  refine zac ?_
  refine zad (zaf ?_)
  refine zaa rfl fun K hK => mv rfl rfl (mv rfl rfl ?_)
  refine bf hK (P3 [(4, hI a3.1), E6, (10, hI a3.1)] []) ?_
  refine zab rfl fun K hK => mv rfl rfl (mv rfl rfl (mv rfl rfl ?_))
  obtain ⟨x7, h8, h⟩ := bS h
  refine bv rfl (qd2 ty31 es31 rfl rfl (qaw h8) rfl) ?_
  refine b_op rfl (qe3 eInt (l := a3.2) (j := a3.1) (v := a3.1) rfl rfl rfl ty3 rfl rfl rfl (qaw h8) ?_)
  refine qnY hK (s' := ⟨[(3, .ar 62007 v1 eInt.k 0 (((a3.2).set (a3.1).toNat a3.1).length)), E6, (10, hI a3.1)], [(62007, v1, .arr eInt.k 3 (eInt.E ((a3.2).set (a3.1).toNat a3.1)))]⟩) (zak ⟨arl (by first | rfl | simp only [List.length_set, qcP, qbN]), rfl, rfl, trivial⟩ ⟨rfl, trivial⟩) ?_
  refine zab rfl fun K hK => bv rfl (qae rfl rfl qa6) (mv rfl rfl ?_)
  refine qah (hK _ ?_)
  exact to_L ⟨(IntKind.wrap .i64 (a3.1 + 1), (a3.2).set (a3.1).toNat a3.1), (), h, rfl⟩
 obtain ⟨hc, h⟩ := cF hc h
 refine AW.exit ?_
 exact to_L ⟨a3.2, (), h, rfl⟩
theorem qfi {p0 : qaa} {r : Int} (h : qa1 p0 = some r) : Pure Tryz.prog 110 [gA p0] (· = hI r) := by
 unfold qa1 at h
 refine zaj Tryz.func110 rfl rfl (lb rfl) fun hf => ?_
 unfold Tryz.f110
 dsimp only [qaH, Nat.reduceAdd]
 refine zaa rfl fun K hK => b_op rfl (qa5 rfl rfl rfl ?_)
 refine mv rfl rfl ?_
 refine bf hK ⟨[(1, gF p0)], []⟩ ?_
 refine zad (zaf ?_)
 refine zaa rfl fun K hK => bv rfl (qab ty27 rfl (qav rfl (lb rfl) rfl)) ?_
 obtain ⟨x1, h2, h⟩ := bS h
 refine b_op rfl (qaB rfl rfl rfl rfl (zai (qdd h2)) ?_)
 refine bv rfl (qae rfl rfl qcL) (mv rfl rfl ?_)
 refine bf hK ⟨[(1, gF p0), (3, .bool (decide (x1 ≠ 0)))], []⟩ ?_
 refine zae rfl (fun hc => ?_) (fun hc => ?_)
 ·obtain ⟨hc, h⟩ := cT hc h
  refine zaa rfl fun K hK => mv rfl rfl ?_
  refine bf hK ⟨[(2, hI 1)], []⟩ ?_
  obtain rfl := oi h
  exact AW.ret (qad (.inr rfl) (resT rfl rfl) rfl trivial)
 obtain ⟨hc, h⟩ := cF hc h
 refine zaa rfl fun K hK => bv rfl (qac qez rfl) (bv rfl (qab ty3 rfl (qan rfl rfl)) (bv rfl (qae rfl rfl qbh) (mv rfl rfl ?_)))
 refine bf hK ⟨[(7, .bool (decide (16 < p0.1)))], []⟩ ?_
 refine zae rfl (fun hc => ?_) (fun hc => ?_)
 ·obtain ⟨hc, h⟩ := cT hc h
  refine zaa rfl fun K hK => mv rfl rfl ?_
  refine bf hK ⟨[(2, hI 12)], []⟩ ?_
  obtain rfl := oi h
  exact AW.ret (qad (.inr rfl) (resT rfl rfl) rfl trivial)
 obtain ⟨hc, h⟩ := cF hc h
 refine zac ?_
 refine zaa rfl fun K hK => mv rfl rfl ?_
 refine bf hK ⟨[(2, hI 0)], []⟩ ?_
 obtain rfl := oi h
 exact AW.ret (qad (.inr rfl) (resT rfl rfl) rfl trivial)
theorem qgm {p0 : qaa} {p1 : Int} {r : Int} (h : qbS p0 p1 = some r) : Pure Tryz.prog 142 [gA p0, hI p1] (· = hI r) := by
 unfold qbS at h
 refine zaj Tryz.func142 rfl rfl (lb rfl) fun hf => ?_
 unfold Tryz.f142
 dsimp only [qaH, Nat.reduceAdd]
 refine zaa rfl fun K hK => b_op rfl (qa5 rfl rfl rfl ?_)
 refine mv rfl rfl ?_
 refine bf hK ⟨[(1, hI p1), (2, gF p0)], []⟩ ?_
 refine zad ?_
 refine zaa rfl fun K hK => bv rfl (qab ty27 rfl (qav rfl (lb rfl) rfl)) ?_
 obtain ⟨x1, h2, h⟩ := bS h
 refine b_op rfl (qaB rfl rfl rfl rfl (zai (qfi h2)) ?_)
 refine mv rfl rfl ?_
 refine bf hK ⟨[(1, hI p1), (5, hI x1)], []⟩ ?_
 refine zaa rfl fun K hK => mv rfl rfl (bv rfl (qae rfl rfl qcL) ?_)
 refine bf hK ⟨[(1, hI p1), (5, hI x1), (9, .bool (decide (x1 ≠ 0)))], []⟩ ?_
 refine zae rfl (fun hc => ?_) (fun hc => ?_)
 ·obtain ⟨hc, h⟩ := cT hc h
  refine zaa rfl fun K hK => mv rfl rfl (mv rfl rfl ?_)
  refine bf hK ⟨[(4, hI x1)], []⟩ ?_
  obtain rfl := oi h
  exact AW.ret (qad (.inr rfl) (resT rfl rfl) rfl trivial)
 obtain ⟨hc, h⟩ := cF hc h
 refine zac ?_
 refine zad ?_
 refine zag h (S := Bool) (V := Unit) (fun a v => ⟨[(16, .bool a)], []⟩) (fun a3 w4 h => ?_) (fun k5 h => ?_)
 ·refine zae rfl (fun hc => ?_) (fun hc => ?_)
  ·have h := ifT hc h
   refine zaa rfl fun K hK => mv rfl rfl ?_
   refine bf hK ⟨[(4, hI 2)], []⟩ ?_
   obtain rfl := oi h
   exact AW.ret (qad (.inr rfl) (resT rfl rfl) rfl trivial)
  have h := ifF (bF' hc) h
  refine zac ?_
  refine zaa rfl fun K hK => mv rfl rfl ?_
  refine bf hK ⟨[(4, hI 0)], []⟩ ?_
  obtain rfl := oi h
  exact AW.ret (qad (.inr rfl) (resT rfl rfl) rfl trivial)
 refine zab rfl fun K hK => mv rfl rfl (bv rfl (qae rfl rfl qaV) (mv rfl rfl ?_))
 by_cases hg6 : p1 < 0
 ·have h := ifT hg6 h
  refine b_F rfl rfl rfl rfl rfl (decide_eq_true hg6) ?_
  refine b_F rfl rfl rfl rfl rfl rfl ?_
  refine bv rfl (qaj rfl rfl rfl) ?_
  refine qah (hK _ ?_)
  exact to_L ⟨true, (), h, rfl⟩
 have h := ifF hg6 h
 refine b_T rfl rfl rfl rfl (decide_eq_false hg6) (qaf rfl (qas rfl rfl).2 ?_)
 refine b_T rfl rfl rfl rfl rfl (qaf rfl (qae rfl rfl qbh) ?_)
 refine bv rfl (qak rfl rfl rfl) ?_
 refine qah (hK _ ?_)
 exact to_L ⟨decide (4096 < p1), (), h, rfl⟩
theorem qhr {p0 : Int} {r : Bool} (h : qcc p0 = some r) : Pure Tryz.prog 140 [hI p0] (· = HV.bool r) := by
 unfold qcc at h
 refine zaj Tryz.func140 rfl rfl (lb rfl) fun hf => ?_
 unfold Tryz.f140
 dsimp only [qaH, Nat.reduceAdd]
 refine zaa rfl fun K hK => mv rfl rfl ?_
 refine bf hK ⟨[(0, hI p0)], []⟩ ?_
 refine zag h (S := Bool) (V := Unit) (fun a v => ⟨[(2, .bool a)], []⟩) (fun a1 w2 h => ?_) (fun k3 h => ?_)
 ·obtain rfl := oi h
  exact AW.ret (qad (.inr rfl) (resT rfl rfl) rfl trivial)
 refine zab rfl fun K hK => mv rfl rfl (bv rfl (qae rfl rfl qfO) (mv rfl rfl ?_))
 by_cases hg4 : 1 ≤ p0
 ·have h := ifT hg4 h
  refine b_T rfl rfl rfl rfl (decide_eq_true hg4) (qaf rfl (qas rfl rfl).2 ?_)
  refine b_T rfl rfl rfl rfl rfl (qaf rfl (qae rfl rfl qhW) ?_)
  refine bv rfl (qaj rfl rfl rfl) (mv rfl rfl ?_)
  refine qah (hK _ ?_)
  exact to_L ⟨decide (p0 ≤ 16), (), h, rfl⟩
 have h := ifF hg4 h
 refine b_F rfl rfl rfl rfl rfl (decide_eq_false hg4) ?_
 refine b_F rfl rfl rfl rfl rfl rfl ?_
 refine bv rfl (qak rfl rfl rfl) (mv rfl rfl ?_)
 refine qah (hK _ ?_)
 exact to_L ⟨false, (), h, rfl⟩
theorem qkQ {p0 : Int} {p1 : List UInt8} {r : Int} (h : qcu p0 p1 = some r) : Pure Tryz.prog 92 [hI p0, .str p1] (· = hI r) := by
 unfold qcu at h
 refine zaj Tryz.func92 rfl rfl (lb rfl) fun hf => ?_
 unfold Tryz.f92
 dsimp only [qaH, Nat.reduceAdd]
 refine zaa rfl fun K hK => mv rfl rfl ?_
 let P4 : ASf := fun t H => ⟨(0, hI p0) :: (1, .str p1) :: t, H⟩
 refine bf hK (P4 [] []) ?_
 refine zad (zaf ?_)
 refine zaa rfl fun K hK => mv rfl rfl ?_
 obtain ⟨x1, h2, h⟩ := bS h
 refine b_op rfl (qaB rfl rfl rfl rfl (zai (qhr h2)) ?_)
 refine bv rfl (qfu rfl) (mv rfl rfl ?_)
 refine bf hK (P4 [(6, .bool (!x1))] []) ?_
 refine zae rfl (fun hc => ?_) (fun hc => ?_)
 ·have h := ifT hc h
  refine zaa rfl fun K hK => mv rfl rfl ?_
  refine bf hK ⟨[(4, hI 12)], []⟩ ?_
  obtain rfl := oi h
  exact AW.ret (qad (.inr rfl) (resT rfl rfl) rfl trivial)
 have h := ifF (bF' hc) h
 refine zaa rfl fun K hK => mv rfl rfl (bv rfl (qgo rfl rfl ty9 rfl) (bv rfl (qae rfl rfl qbh) (mv rfl rfl ?_)))
 refine bf hK (P4 [(10, .bool (decide (65536 < ((p1).length : Int))))] []) ?_
 refine zae rfl (fun hc => ?_) (fun hc => ?_)
 ·obtain ⟨hc, h⟩ := cT hc h
  refine zaa rfl fun K hK => mv rfl rfl ?_
  refine bf hK ⟨[(4, hI 4)], []⟩ ?_
  obtain rfl := oi h
  exact AW.ret (qad (.inr rfl) (resT rfl rfl) rfl trivial)
 obtain ⟨hc, h⟩ := cF hc h
 refine zac ?_
 refine zad ?_
 refine zaa rfl fun K hK => mv rfl rfl (bv rfl (qgo rfl rfl ty9 rfl) (mv rfl rfl ?_))
 let E7 : Nat × HV := (15, hI ((p1).length : Int))
 refine bf hK (P4 [E7, (16, hI 0)] []) ?_
 refine AW.lpR h (by first | exact qaG | exact qbp) (S := Int) (V := Unit) (fun a v => (P4 [E7, (16, hI a)] [])) ?_ (X := Unit) (W := Unit) (fun a v => ⟨[], []⟩) (fun a12 w13 h => ?_) (fun a3 w4 st5 h hr6=> ?_)
 ·exact to_L ⟨(), rfl⟩
 ·refine zaa rfl fun K hK => mv rfl rfl ?_
  refine bf hK ⟨[(4, hI 0)], []⟩ ?_
  obtain rfl := oi h
  exact AW.ret (qad (.inr rfl) (resT rfl rfl) rfl trivial)
 refine zaa rfl fun K hK => bv rfl (qae rfl rfl qaV) ?_
 refine bf hK (P4 [E7, (16, hI a3), (17, .bool (decide (a3 < ((p1).length : Int))))] []) ?_
 refine zam rfl (fun hc => ?_) (fun hc => ?_)
 ·obtain ⟨hc, h⟩ := cT hc h
  refine zac ?_
  refine zad (zaf ?_)
  refine zaa rfl fun K hK => mv rfl rfl (mv rfl rfl ?_)
  refine bf hK (P4 [(5, hI a3), E7, (16, hI a3)] []) ?_
  refine AW.dgs 7 follows rfl rfl fun K hK => ?_
  refine sm rfl rfl ?_
  obtain ⟨h7, h⟩ := ifN h
  refine sv rfl (qhX ty9 rfl rfl rfl h7) ?_
  iterate 2 refine sm rfl rfl ?_
  obtain ⟨x8, h9, h⟩ := bS h
  refine sv rfl (qkU ty9 rfl rfl h9) ?_
  obtain ⟨x10, h11, h⟩ := bS h
  refine s_op rfl rfl (qaR rfl rfl rfl rfl (zai (qc1 h11)) ?_)
  refine sv rfl (qae rfl rfl qaV) ?_
  refine qbU ?_
  refine bf hK (P4 [E7, (16, hI a3), (25, .bool (decide (x10 < 0)))] []) ?_
  refine zae rfl (fun hc => ?_) (fun hc => ?_)
  ·obtain ⟨hc, h⟩ := cT hc h
   refine zaa rfl fun K hK => mv rfl rfl ?_
   refine bf hK ⟨[(4, hI 13)], []⟩ ?_
   have h := hr6 _ h
   obtain rfl := oi h
   exact AW.ret (qad (.inr rfl) (resT rfl rfl) rfl trivial)
  obtain ⟨hc, h⟩ := cF hc h
  refine zac ?_
  refine zab rfl fun K hK => bv rfl (qae rfl rfl qa6) (mv rfl rfl ?_)
  refine qah (hK _ ?_)
  exact to_L ⟨IntKind.wrap .i64 (a3 + 1), (), h, rfl⟩
 obtain ⟨hc, h⟩ := cF hc h
 refine AW.exit ?_
 exact to_L ⟨(), (), h, rfl⟩
theorem qg2 {p0 : qaa} {p1 : List UInt8} {r : Int} (h : qbg p0 p1 = some r) : Pure Tryz.prog 60 [gA p0, .str p1] (· = hI r) := by
 unfold qbg at h
 refine zaj Tryz.func60 rfl rfl (lb rfl) fun hf => ?_
 unfold Tryz.f60
 dsimp only [qaH, Nat.reduceAdd]
 refine zaa rfl fun K hK => b_op rfl (qa5 rfl rfl rfl ?_)
 refine mv rfl rfl ?_
 refine bf hK ⟨[(1, .str p1), (2, gF p0)], []⟩ ?_
 refine zad ?_
 refine zaa rfl fun K hK => bv rfl (qab ty27 rfl (qav rfl (lb rfl) rfl)) ?_
 obtain ⟨x1, h2, h⟩ := bS h
 refine b_op rfl (qaB rfl rfl rfl rfl (zai (qfi h2)) ?_)
 refine mv rfl rfl ?_
 refine bf hK ⟨[(1, .str p1), (2, gF p0), (5, hI x1)], []⟩ ?_
 refine zaa rfl fun K hK => mv rfl rfl (bv rfl (qae rfl rfl qcL) ?_)
 refine bf hK ⟨[(1, .str p1), (2, gF p0), (5, hI x1), (9, .bool (decide (x1 ≠ 0)))], []⟩ ?_
 refine zae rfl (fun hc => ?_) (fun hc => ?_)
 ·obtain ⟨hc, h⟩ := cT hc h
  refine zaa rfl fun K hK => mv rfl rfl (mv rfl rfl ?_)
  refine bf hK ⟨[(4, hI x1)], []⟩ ?_
  obtain rfl := oi h
  exact AW.ret (qad (.inr rfl) (resT rfl rfl) rfl trivial)
 obtain ⟨hc, h⟩ := cF hc h
 refine zac ?_
 refine zaa rfl fun K hK => bv rfl (qac qez rfl) (bv rfl (qab ty3 rfl (qan rfl rfl)) (mv rfl rfl ?_))
 obtain ⟨x3, h4, h⟩ := bS h
 refine b_op rfl (qaB rfl rfl rfl rfl (zai (qkQ h4)) ?_)
 refine mv rfl rfl ?_
 refine bf hK ⟨[(4, hI x3)], []⟩ ?_
 obtain rfl := oi h
 exact AW.ret (qad (.inr rfl) (resT rfl rfl) rfl trivial)
end Go.AW

namespace Go.AW
open Go
abbrev qap := (List (List UInt8)) × (List (List UInt8))
def qaQ (p0 : List (List UInt8)) (p1 : (List UInt8) → Option (Bool)) : Option (Int) :=
 lpO (loopW (S := Int) (X := Ou (Unit) (Int)) (fun a1 =>
     if a1 < ((p0).length : Int) then
      (idx p0 a1).bind fun x5 =>
      (p1 x5).bind fun x7 =>
      if x7 = true then
       some (Stp.exit (Ou.ret a1))
      else
       some (Stp.next (IntKind.wrap .i64 (a1 + 1)))
     else
      some (Stp.exit (Ou.go ()))) 0) (fun a9 =>
     some (-1)) some
def qaA (p0 : List (List UInt8)) (p1 : (List UInt8) → Option (Bool)) : Option (Bool) :=
 (qaQ p0 p1).bind fun x1 =>
 some (decide (0 ≤ x1))
def qb6 (p0 : qaa) (p1 : List UInt8) : Option (Bool) :=
 (qbc p0 p1).bind fun x1 =>
 jp (fun (a3 : Bool) =>
   some a3)
   fun k5 =>
  if x1.2 = 0 then
   k5 x1.1
  else
   k5 false
def qb4 (p0 : List UInt8) (c0 : qaa) (c1 : List UInt8) (c2 : List UInt8) : Option (Bool) :=
 if c1.length + p0.length ≤ maxLen then
  if (c1 ++ p0).length + c2.length ≤ maxLen then
   (qb6 c0 ((c1 ++ p0) ++ c2)).bind fun x3 =>
   some x3
  else none
 else none
def qbG (p0 : qaa) (p1 : List (List UInt8)) (p2 : List UInt8) (p3 : List UInt8) : Option (Bool) :=
 (qaA p1 (fun b0 => qb4 b0 p0 p2 p3)).bind fun x1 =>
 some x1
def qcl  : Option (qaa) :=
 some (2, 2, [(0, 0, 0), (0, 1, 1), (1, 0, 0)])
end Go.AW
namespace Go.AW
open Go
def qcg (p0 : List UInt8) (c0 : qaa) (c1 : List (List UInt8)) (c2 : List UInt8) : Option (Bool) :=
 jp (fun (a1 : Bool) =>
   some a1)
   fun k3 =>
  (qbG c0 c1 p0 c2).bind fun x4 =>
  if (!x4) = true then
   k3 true
  else
   (qbG c0 c1 c2 p0).bind fun x6 =>
   k3 (!x6)
end Go.AW
namespace Go.AW
def qnU (g : qaa) (ms : List (List UInt8)) (out : List (List UInt8)) (w : List UInt8) : Option Bool :=
 (qbG g ms w w).bind fun j => if (!j) = true then some true else qaA out (fun v => qcg v g ms w)
def tkW (c : List (List UInt8) → List UInt8 → Option Bool) : List (List UInt8) → List (List UInt8) → Option (List (List UInt8))
 | [], out => some out
 | w :: ws, out => (c out w).bind fun b => if b = true then tkW c ws out else tkW c ws (out ++ [w])
def qbX (all : List (List UInt8)) (g : qaa) (ms : List (List UInt8)) : Option (List (List UInt8)) :=
 if all.length ≤ 1000000 then tkW (qnU g ms) all [] else none
theorem qlU {c : List (List UInt8) → List UInt8 → Option Bool} : ∀ {ws out L : List (List UInt8)}, tkW c ws out = some L → ∃ l, L = out ++ l
 | [], out, L, h => ⟨[], by rw [List.append_nil]; exact (Option.some.inj h).symm⟩
 | w :: ws, out, L, h => by
  simp only [tkW] at h
  obtain ⟨b, _, h⟩ := Option.bind_eq_some_iff.1 h
  split at h
  ·exact qlU h
  obtain ⟨l, hl⟩ := qlU h
  exact ⟨w :: l, by rw [hl, List.append_assoc]; rfl⟩
end Go.AW
namespace Go.AW
open Go Go.Proofs
set_option maxHeartbeats 1600000
set_option maxRecDepth 100000
theorem qc8 {p0 : List (List UInt8)} {p1 : (List UInt8) → Option (Bool)} {g1 : FuncId} {z1 : List HV} {r : Int} (h : qaQ p0 p1 = some r) (hf1 : ∀ a0 b, p1 a0 = some b → Pure Tryz.prog g1 ([.str a0] ++ z1) (· = HV.bool b)) : Pure Tryz.prog 135 [slE eStr p0, .fn (.func g1) [] z1] (· = hI r) := by
 unfold qaQ at h
 refine zaj Tryz.func135 rfl rfl (lb rfl) fun hf => ?_
 unfold Tryz.f135
 dsimp only [qaH, Nat.reduceAdd]
 refine zaa rfl fun K hK => mv rfl rfl ?_
 let E1 : Nat × HV := (1, .fn (.func g1) [] z1)
 let P1 : ASf := fun t H => ⟨(0, slE eStr p0) :: E1 :: t, H⟩
 refine bf hK (P1 [] []) ?_
 refine zad ?_
 refine zaa rfl fun K hK => mv rfl rfl (bv rfl (qaI rfl rfl ty22 rfl) (mv rfl rfl ?_))
 let E2 : Nat × HV := (7, hI ((p0).length : Int))
 refine bf hK (P1 [E2, (8, hI 0)] []) ?_
 refine AW.lpR h (by first | exact qaG | exact qbp) (S := Int) (V := Unit) (fun a v => (P1 [E2, (8, hI a)] [])) ?_ (X := Unit) (W := Unit) (fun a v => ⟨[], []⟩) (fun a9 w10 h => ?_) (fun a1 w2 st3 h hr4=> ?_)
 ·exact to_L ⟨(), rfl⟩
 ·refine zaa rfl fun K hK => mv rfl rfl ?_
  refine bf hK ⟨[(4, hI (-1))], []⟩ ?_
  obtain rfl := oi h
  exact AW.ret (qad (.inr rfl) (resT rfl rfl) rfl trivial)
 refine zaa rfl fun K hK => bv rfl (qae rfl rfl qaV) ?_
 refine bf hK (P1 [E2, (8, hI a1), (9, .bool (decide (a1 < ((p0).length : Int))))] []) ?_
 refine zam rfl (fun hc => ?_) (fun hc => ?_)
 ·obtain ⟨hc, h⟩ := cT hc h
  refine zac ?_
  refine zad (zaf ?_)
  refine zaa rfl fun K hK => mv rfl rfl (mv rfl rfl ?_)
  refine bf hK (P1 [(5, hI a1), E2, (8, hI a1)] []) ?_
  refine zaa rfl fun K hK => mv rfl rfl (mv rfl rfl (mv rfl rfl ?_))
  obtain ⟨x5, h6, h⟩ := bS h
  refine bv rfl (qaJ ty22 es22 rfl rfl (qaw h6)) (bv rfl (qab ty9 rfl (qaL eStr h6 (o := 0) rfl rfl)) ?_)
  obtain ⟨x7, h8, h⟩ := bS h
  refine b_op rfl (qaB rfl rfl rfl rfl (zai (hf1 _ _ h8)) ?_)
  refine bf hK (P1 [(5, hI a1), E2, (8, hI a1), (16, .bool x7)] []) ?_
  refine zae rfl (fun hc => ?_) (fun hc => ?_)
  ·have h := ifT hc h
   refine zaa rfl fun K hK => mv rfl rfl (mv rfl rfl ?_)
   refine bf hK ⟨[(4, hI a1)], []⟩ ?_
   have h := hr4 _ h
   obtain rfl := oi h
   exact AW.ret (qad (.inr rfl) (resT rfl rfl) rfl trivial)
  have h := ifF (bF' hc) h
  refine zac ?_
  refine zab rfl fun K hK => bv rfl (qae rfl rfl qa6) (mv rfl rfl ?_)
  refine qah (hK _ ?_)
  exact to_L ⟨IntKind.wrap .i64 (a1 + 1), (), h, rfl⟩
 obtain ⟨hc, h⟩ := cF hc h
 refine AW.exit ?_
 exact to_L ⟨(), (), h, rfl⟩
theorem qbu {p0 : List (List UInt8)} {p1 : (List UInt8) → Option (Bool)} {g1 : FuncId} {z1 : List HV} {r : Bool} (h : qaA p0 p1 = some r) (hf1 : ∀ a0 b, p1 a0 = some b → Pure Tryz.prog g1 ([.str a0] ++ z1) (· = HV.bool b)) : Pure Tryz.prog 84 [slE eStr p0, .fn (.func g1) [] z1] (· = HV.bool r) := by
 unfold qaA at h
 refine zaj Tryz.func84 rfl rfl (lb rfl) fun hf => ?_
 unfold Tryz.f84
 dsimp only [qaH, Nat.reduceAdd]
 refine zaa rfl fun K hK => mv rfl rfl ?_
 refine bf hK ⟨[(0, slE eStr p0), (1, .fn (.func g1) [] z1)], []⟩ ?_
 refine zaa rfl fun K hK => mv rfl rfl (mv rfl rfl ?_)
 obtain ⟨x1, h2, h⟩ := bS h
 refine b_op rfl (qaB rfl rfl rfl rfl (zai (qc8 h2 hf1)) ?_)
 refine bv rfl (qae rfl rfl qfO) (mv rfl rfl ?_)
 refine bf hK ⟨[(4, .bool (decide (0 ≤ x1)))], []⟩ ?_
 obtain rfl := oi h
 exact AW.ret (qad (.inr rfl) (resT rfl rfl) rfl trivial)
theorem qin {p0 : qaa} {p1 : List (Int)} {p2 : List UInt8} {r : (List (Int))} (h : qcy p0 p1 p2 = some r) : Pure Tryz.prog 61 [gA p0, slE eInt p1, .str p2] (· = slE eInt r) := by
 unfold qcy at h
 refine zaj Tryz.func61 rfl rfl (lb rfl) fun hf => ?_
 unfold Tryz.f61
 dsimp only [qaH, Nat.reduceAdd]
 refine zaa rfl fun K hK => b_op rfl (qa5 rfl rfl rfl ?_)
 refine mv rfl rfl ?_
 refine bf hK ⟨[(1, slE eInt p1), (2, .str p2), (3, gF p0)], []⟩ ?_
 refine zad ?_
 refine zaa rfl fun K hK => mv rfl rfl ?_
 refine bf hK ⟨[(1, slE eInt p1), (2, .str p2), (3, gF p0), (7, hI 0)], []⟩ ?_
 refine AW.lpX h (by first | exact qaG | exact qbp) (S := (List Int) × Int) (V := Unit) (fun a v => ⟨[(1, slE eInt a.1), (2, .str p2), (3, gF p0), (7, hI a.2)], []⟩) ?_ (X := (List Int)) (W := Unit) (fun a v => ⟨[(1, slE eInt a)], []⟩) (fun a13 w14 h => ?_) (fun a1 w2 st3 h => ?_)
 ·exact to_L ⟨(), rfl⟩
 ·refine zaa rfl fun K hK => mv rfl rfl (mv rfl rfl ?_)
  refine bf hK ⟨[(6, slE eInt a13)], []⟩ ?_
  obtain rfl := oi h
  exact AW.ret (qad (.inr rfl) (resT rfl rfl) rfl (qai fun _ _ => ⟨trivial, trivial⟩))
 refine zad ?_
 refine zag h (S := Bool) (V := Unit) (fun a v => ⟨[(1, slE eInt a1.1), (2, .str p2), (3, gF p0), (7, hI a1.2), (16, .bool a)], []⟩) (fun a5 w6 h => ?_) (fun k7 h => ?_)
 ·refine zae rfl (fun hc => ?_) (fun hc => ?_)
  ·have h := ifT hc h
   refine zac ?_
   refine zad (zaf ?_)
   refine AW.dg 7 follows rfl rfl fun K hK => ?_
   refine sv rfl (qab ty27 rfl (qav rfl (lb rfl) rfl)) ?_
   iterate 3 refine sm rfl rfl ?_
   obtain ⟨x8, h9, h⟩ := bS h
   refine sv rfl (qkU ty9 rfl rfl h9) ?_
   obtain ⟨x10, h11, h⟩ := bS h
   refine s_op rfl rfl (qaR rfl rfl rfl rfl (zai (qfp h11)) ?_)
   refine sm rfl rfl ?_
   refine qbU ?_
   refine bf hK ⟨[(1, slE eInt x10), (2, .str p2), (3, gF p0), (7, hI a1.2)], []⟩ ?_
   refine zab rfl fun K hK => mv rfl rfl (bv rfl (qae rfl rfl qa6) (mv rfl rfl ?_))
   refine qah (hK _ ?_)
   exact to_L ⟨(x10, IntKind.wrap .i64 (a1.2 + 1)), (), h, rfl⟩
  have h := ifF (bF' hc) h
  refine AW.exit ?_
  exact to_L ⟨a1.1, (), h, rfl⟩
 refine zab rfl fun K hK => mv rfl rfl (mv rfl rfl (bv rfl (qgo rfl rfl ty9 rfl) (bv rfl (qae rfl rfl qaV) (mv rfl rfl ?_))))
 by_cases hg12 : a1.2 < ((p2).length : Int)
 ·have h := ifT hg12 h
  refine b_T rfl rfl rfl rfl (decide_eq_true hg12) (qaf rfl (qas rfl rfl).2 ?_)
  refine b_T rfl rfl rfl rfl rfl (qaf rfl (qaI rfl rfl ty31 rfl) ?_)
  refine b_T rfl rfl rfl rfl rfl (qaf rfl (qae rfl rfl qbh) ?_)
  refine bv rfl (qaj rfl rfl rfl) ?_
  refine qah (hK _ ?_)
  exact to_L ⟨decide (0 < ((a1.1).length : Int)), (), h, rfl⟩
 have h := ifF hg12 h
 refine b_F rfl rfl rfl rfl rfl (decide_eq_false hg12) ?_
 iterate 2 refine b_F rfl rfl rfl rfl rfl rfl ?_
 refine bv rfl (qak rfl rfl rfl) ?_
 refine qah (hK _ ?_)
 exact to_L ⟨false, (), h, rfl⟩
theorem qgn {p0 : qaa} {p1 : List UInt8} {r : Bool × Int} (h : qbc p0 p1 = some r) : Pure Tryz.prog 16 [gA p0, .str p1] (· = HV.tup [.bool r.1, hI r.2]) := by
 unfold qbc at h
 refine zaj Tryz.func16 rfl rfl (lb rfl) fun hf => ?_
 unfold Tryz.f16
 dsimp only [qaH, Nat.reduceAdd]
 refine zaa rfl fun K hK => b_op rfl (qa5 rfl rfl rfl ?_)
 refine mv rfl rfl (mv rfl rfl ?_)
 refine bf hK ⟨[(1, .str p1), (2, gF p0)], []⟩ ?_
 refine zad ?_
 refine zaa rfl fun K hK => bv rfl (qab ty27 rfl (qav rfl (lb rfl) rfl)) (mv rfl rfl ?_)
 obtain ⟨x1, h2, h⟩ := bS h
 refine b_op rfl (qaB rfl rfl rfl rfl (zai (qg2 h2)) ?_)
 refine mv rfl rfl ?_
 refine bf hK ⟨[(1, .str p1), (2, gF p0), (6, hI x1)], []⟩ ?_
 refine zaa rfl fun K hK => mv rfl rfl (bv rfl (qae rfl rfl qcL) ?_)
 refine bf hK ⟨[(1, .str p1), (2, gF p0), (6, hI x1), (11, .bool (decide (x1 ≠ 0)))], []⟩ ?_
 refine zae rfl (fun hc => ?_) (fun hc => ?_)
 ·obtain ⟨hc, h⟩ := cT hc h
  refine zaa rfl fun K hK => mv rfl rfl (mv rfl rfl (mv rfl rfl ?_))
  refine bf hK ⟨[(4, .bool false), (5, hI x1)], []⟩ ?_
  obtain rfl := oi h
  exact AW.ret (qad (.inr rfl) (resT rfl (resT rfl rfl)) rfl ⟨trivial, trivial, trivial⟩)
 obtain ⟨hc, h⟩ := cF hc h
 refine zac ?_
 refine AW.dgs 9 follows rfl rfl fun K hK => ?_
 refine sv rfl (qab ty27 rfl (qav rfl (lb rfl) rfl)) ?_
 refine sv rfl (qab ty27 rfl (qav rfl (lb rfl) rfl)) ?_
 obtain ⟨x3, h4, h⟩ := bS h
 refine s_op rfl rfl (qaR rfl rfl rfl rfl (zai (qeM h4)) ?_)
 refine sm rfl rfl ?_
 obtain ⟨x5, h6, h⟩ := bS h
 refine s_op rfl rfl (qaR rfl rfl rfl rfl (zai (qin h6)) ?_)
 refine sv rfl (qaI rfl rfl ty31 rfl) ?_
 refine sv rfl (qae rfl rfl qbh) ?_
 iterate 2 refine sm rfl rfl ?_
 refine qbU ?_
 refine bf hK ⟨[(4, .bool (decide (0 < ((x5).length : Int)))), (5, hI 0)], []⟩ ?_
 obtain rfl := oi h
 exact AW.ret (qad (.inr rfl) (resT rfl (resT rfl rfl)) rfl ⟨trivial, trivial, trivial⟩)
theorem qeK {p0 : qaa} {p1 : List UInt8} {r : Bool} (h : qb6 p0 p1 = some r) : Pure Tryz.prog 72 [gA p0, .str p1] (· = HV.bool r) := by
 unfold qb6 at h
 refine zaj Tryz.func72 rfl rfl (lb rfl) fun hf => ?_
 unfold Tryz.f72
 dsimp only [qaH, Nat.reduceAdd]
 refine zaa rfl fun K hK => b_op rfl (qa5 rfl rfl rfl ?_)
 refine mv rfl rfl ?_
 refine bf hK ⟨[(1, .str p1), (2, gF p0)], []⟩ ?_
 refine zaa rfl fun K hK => bv rfl (qab ty27 rfl (qav rfl (lb rfl) rfl)) (mv rfl rfl ?_)
 obtain ⟨x1, h2, h⟩ := bS h
 refine b_op rfl (qaB rfl rfl rfl rfl (zai (qgn h2)) ?_)
 refine mv rfl rfl (bv rfl (qaq rfl rfl) (bv rfl (qaq rfl rfl) (mv rfl rfl (mv rfl rfl ?_))))
 refine bf hK ⟨[(5, .bool x1.1), (6, hI x1.2)], []⟩ ?_
 refine zag h (S := Bool) (V := Unit) (fun a v => ⟨[(4, .bool a)], []⟩) (fun a3 w4 h => ?_) (fun k5 h => ?_)
 ·obtain rfl := oi h
  exact AW.ret (qad (.inr rfl) (resT rfl rfl) rfl trivial)
 refine zab rfl fun K hK => mv rfl rfl (bv rfl (qae rfl rfl qd1) (mv rfl rfl ?_))
 by_cases hg6 : x1.2 = 0
 ·have h := ifT hg6 h
  refine b_T rfl rfl rfl rfl (decide_eq_true hg6) (qaf rfl (qas rfl rfl).2 ?_)
  refine bv rfl (qaj rfl rfl rfl) (mv rfl rfl ?_)
  refine qah (hK _ ?_)
  exact to_L ⟨x1.1, (), h, rfl⟩
 have h := ifF hg6 h
 refine b_F rfl rfl rfl rfl rfl (decide_eq_false hg6) ?_
 refine bv rfl (qak rfl rfl rfl) (mv rfl rfl ?_)
 refine qah (hK _ ?_)
 exact to_L ⟨false, (), h, rfl⟩
theorem qgZ {p0 : List UInt8} {c0 : qaa} {c1 : List UInt8} {c2 : List UInt8} {r : Bool} (h : qb4 p0 c0 c1 c2 = some r) : Pure Tryz.prog 136 [.str p0, gF c0, .fptr [.str c1] 0, .fptr [.str c2] 0] (· = HV.bool r) := by
 unfold qb4 at h
 refine zaj Tryz.func136 rfl rfl (lb rfl) fun hf => ?_
 unfold Tryz.f136
 dsimp only [qaH, Nat.reduceAdd]
 refine zaa rfl fun K hK => mv rfl rfl ?_
 refine bf hK ⟨[(0, .str p0), (1, gF c0), (2, .fptr [.str c1] 0), (3, .fptr [.str c2] 0)], []⟩ ?_
 refine zaa rfl fun K hK => bv rfl (qab ty27 rfl (qav rfl (lb rfl) rfl)) (bv rfl (qab ty9 rfl (qan rfl rfl)) (mv rfl rfl ?_))
 obtain ⟨h1, h⟩ := ifN h
 refine bv rfl (qae rfl rfl (qf2 h1)) (bv rfl (qab ty9 rfl (qan rfl rfl)) ?_)
 obtain ⟨h2, h⟩ := ifN h
 refine bv rfl (qae rfl rfl (qf2 h2)) ?_
 obtain ⟨x3, h4, h⟩ := bS h
 refine b_op rfl (qaB rfl rfl rfl rfl (zai (qeK h4)) ?_)
 refine mv rfl rfl ?_
 refine bf hK ⟨[(5, .bool x3)], []⟩ ?_
 obtain rfl := oi h
 exact AW.ret (qad (.inr rfl) (resT rfl rfl) rfl trivial)
theorem qei {p0 : qaa} {p1 : List (List UInt8)} {p2 : List UInt8} {p3 : List UInt8} {r : Bool} (h : qbG p0 p1 p2 p3 = some r) : Pure Tryz.prog 86 [gA p0, slE eStr p1, .str p2, .str p3] (· = HV.bool r) := by
 unfold qbG at h
 refine zaj Tryz.func86 rfl rfl (lb rfl) fun hf => ?_
 unfold Tryz.f86
 dsimp only [qaH, Nat.reduceAdd]
 refine zaa rfl fun K hK => b_op rfl (qa5 rfl rfl rfl ?_)
 refine b_op rfl (qa5 rfl rfl rfl ?_)
 refine b_op rfl (qa5 rfl rfl rfl ?_)
 refine mv rfl rfl ?_
 refine bf hK ⟨[(1, slE eStr p1), (4, gF p0), (6, .fptr [.str p2] 0), (7, .fptr [.str p3] 0)], []⟩ ?_
 refine zaa rfl fun K hK => mv rfl rfl (bv rfl (qgp rfl rfl) ?_)
 obtain ⟨x1, h2, h⟩ := bS h
 refine b_op rfl (qaB rfl rfl rfl rfl (zai (qbu h2 (fun _ _ h => qgZ h))) ?_)
 refine mv rfl rfl ?_
 refine bf hK ⟨[(8, .bool x1)], []⟩ ?_
 obtain rfl := oi h
 exact AW.ret (qad (.inr rfl) (resT rfl rfl) rfl trivial)
theorem qf6 {p0 : List UInt8} {c0 : qaa} {c1 : List (List UInt8)} {c2 : List UInt8} {r : Bool} (h : qcg p0 c0 c1 c2 = some r) : Pure Tryz.prog 148 [.str p0, gF c0, .fptr [slE eStr c1] 0, .fptr [.str c2] 0] (· = HV.bool r) := by
 unfold qcg at h
 refine zaj Tryz.func148 rfl rfl (lb rfl) fun hf => ?_
 unfold Tryz.f148
 dsimp only [qaH, Nat.reduceAdd]
 refine zaa rfl fun K hK => mv rfl rfl ?_
 refine bf hK ⟨[(0, .str p0), (1, gF c0), (2, .fptr [slE eStr c1] 0), (3, .fptr [.str c2] 0)], []⟩ ?_
 refine zag h (S := Bool) (V := Unit) (fun a v => ⟨[(5, .bool a)], []⟩) (fun a1 w2 h => ?_) (fun k3 h => ?_)
 ·obtain rfl := oi h
  exact AW.ret (qad (.inr rfl) (resT rfl rfl) rfl trivial)
 refine zab rfl fun K hK => bv rfl (qab ty27 rfl (qav rfl (lb rfl) rfl)) (bv rfl (qab ty22 rfl (qan rfl rfl)) (mv rfl rfl (bv rfl (qab ty9 rfl (qan rfl rfl)) ?_)))
 obtain ⟨x4, h5, h⟩ := bS h
 refine b_op rfl (qaB rfl rfl rfl rfl (zai (qei h5)) ?_)
 refine bv rfl (qfu rfl) (mv rfl rfl ?_)
 by_cases hg8 : (!x4) = true
 ·have h := ifT hg8 h
  refine b_F rfl rfl rfl rfl rfl hg8 ?_
  iterate 5 refine b_F rfl rfl rfl rfl rfl rfl ?_
  refine bv rfl (qaj rfl rfl rfl) (mv rfl rfl ?_)
  refine qah (hK _ ?_)
  exact to_L ⟨true, (), h, rfl⟩
 have h := ifF hg8 h
 refine b_T rfl rfl rfl rfl (bF hg8) (qaf rfl (qab ty27 rfl (qav rfl (lb rfl) rfl)) ?_)
 refine b_T rfl rfl rfl rfl rfl (qaf rfl (qab ty22 rfl (qan rfl rfl)) ?_)
 refine b_T rfl rfl rfl rfl rfl (qaf rfl (qab ty9 rfl (qan rfl rfl)) ?_)
 refine b_T rfl rfl rfl rfl rfl (qaf rfl (qas rfl rfl).2 ?_)
 obtain ⟨x6, h7, h⟩ := bS h
 refine b_T rfl rfl rfl rfl rfl (qaB rfl rfl rfl rfl (zai (qei h7)) ?_)
 refine b_T rfl rfl rfl rfl rfl (qaf rfl (qfu rfl) ?_)
 refine bv rfl (qak rfl rfl rfl) (mv rfl rfl ?_)
 refine qah (hK _ ?_)
 exact to_L ⟨!x6, (), h, rfl⟩
end Go.AW

namespace Go.AW
open Go
def qee (p0 : Int) (p1 : Int) : Option ((List (List UInt8)) × Int) :=
 (qcc p0).bind fun x1 =>
 if (!x1) = true then
  some ([], 12)
 else
  if p1 < 0 then
   some ([], 2)
  else
   if 65536 < p1 then
    some ([], 4)
   else
    if p0 = 1 then
     (qcY [48] p1).bind fun x3 =>
     some ([x3], 0)
    else
     lpO (loopW (S := (List (List UInt8)) × Int) (X := Ou ((List (List UInt8))) ((List (List UInt8)) × Int)) (fun a5 =>
       if a5.2 < p1 then
        if 4096 < (IntKind.wrap .i64 (((a5.1).length : Int) * p0)) then
         some (Stp.exit (Ou.ret ([], 4)))
        else
         if 0 ≤ (0 : Int) ∧ (0 : Int) ≤ IntKind.wrap .i64 (((a5.1).length : Int) * p0) ∧ (IntKind.wrap .i64 (((a5.1).length : Int) * p0) : Int) * 16 ≤ 281474976710656 then
          (loopW (S := Int × (List (List UInt8))) (X := (List (List UInt8))) (fun a11 =>
            if a11.1 < ((a5.1).length : Int) then
             (idx a5.1 a11.1).bind fun x15 =>
             (loopW (S := Int × (List (List UInt8))) (X := (List (List UInt8))) (fun a17 =>
               if a17.1 < p0 then
                if 0 ≤ (a17.1 : Int) ∧ (a17.1 : Int) ≤ IntKind.wrap .i64 (a17.1 + 1) ∧ IntKind.wrap .i64 (a17.1 + 1) ≤ (([48, 49, 50, 51, 52, 53, 54, 55, 56, 57, 97, 98, 99, 100, 101, 102] : List UInt8).length : Int) then
                 if x15.length + ((([48, 49, 50, 51, 52, 53, 54, 55, 56, 57, 97, 98, 99, 100, 101, 102] : List UInt8).take (IntKind.wrap .i64 (a17.1 + 1)).toNat).drop (a17.1).toNat).length ≤ maxLen then
                  if fits 16 ((a17.2 : List (List UInt8)).length + ([x15 ++ ((([48, 49, 50, 51, 52, 53, 54, 55, 56, 57, 97, 98, 99, 100, 101, 102] : List UInt8).take (IntKind.wrap .i64 (a17.1 + 1)).toNat).drop (a17.1).toNat)]).length) then
                   some (Stp.next (IntKind.wrap .i64 (a17.1 + 1), a17.2 ++ [x15 ++ ((([48, 49, 50, 51, 52, 53, 54, 55, 56, 57, 97, 98, 99, 100, 101, 102] : List UInt8).take (IntKind.wrap .i64 (a17.1 + 1)).toNat).drop (a17.1).toNat)]))
                  else none
                 else none
                else none
               else
                some (Stp.exit a17.2)) (0, a11.2)).bind fun a25 =>
             some (Stp.next (IntKind.wrap .i64 (a11.1 + 1), a25))
            else
             some (Stp.exit a11.2)) (0, List.replicate (0 : Int).toNat (([] : List UInt8) : List UInt8))).bind fun a27 =>
          some (Stp.next (a27, IntKind.wrap .i64 (a5.2 + 1)))
         else none
       else
        some (Stp.exit (Ou.go a5.1))) ([([] : List UInt8)], 0)) (fun a29 =>
       some (a29, 0)) some
def qcH (p0 : Int) : Option (Int) :=
 lpO (loopW (S := Int) (X := Ou (Unit) (Int)) (fun a1 =>
   if a1 < 16 then
    (idx ([48, 49, 50, 51, 52, 53, 54, 55, 56, 57, 97, 98, 99, 100, 101, 102] : List UInt8) a1).bind fun x5 =>
    if (x5.toNat : Int) = p0 then
     some (Stp.exit (Ou.ret a1))
    else
     some (Stp.next (IntKind.wrap .i64 (a1 + 1)))
   else
    some (Stp.exit (Ou.go ()))) 0) (fun a7 =>
   some (-1)) some
def qdm (p0 : Int) (p1 : List UInt8) : Option (Int) :=
 jp (fun (a1 : Bool) =>
  if a1 = true then
   some 12
  else
   if 65536 < ((p1).length : Int) then
    some 4
   else
    lpO (loopW (S := Int) (X := Ou (Unit) (Int)) (fun a4 =>
      if a4 < ((p1).length : Int) then
       (idx p1 a4).bind fun x8 =>
       (qcH (x8.toNat : Int)).bind fun x10 =>
       jp (fun (a12 : Bool) =>
        if a12 = true then
         some (Stp.exit (Ou.ret 13))
        else
         some (Stp.next (IntKind.wrap .i64 (a4 + 1))))
        fun k14 =>
        if x10 < 0 then
         k14 true
        else
         k14 (decide (p0 ≤ x10))
      else
       some (Stp.exit (Ou.go ()))) 0) (fun a16 =>
      some 0) some)
  fun k3 =>
  if p0 < 1 then
   k3 true
  else
   k3 (decide (16 < p0))
def qb1 (p0 : qaa) (p1 : List UInt8) : Option (Int) :=
 (qbQ p0).bind fun x1 =>
 if x1 ≠ 0 then
  some x1
 else
  (qdm p0.1 p1).bind fun x3 =>
  some x3
def qdP (p0 : qaa) (p1 : List (Int)) (p2 : List UInt8) : Option ((List (Int))) :=
 (loopW (S := (List Int) × Int) (X := (List Int)) (fun a1 =>
   if a1.2 < ((p2).length : Int) then
    (idx p2 a1.2).bind fun x5 =>
    (qcH (x5.toNat : Int)).bind fun x7 =>
    (qc4 p0 a1.1 x7).bind fun x9 =>
    some (Stp.next (x9, IntKind.wrap .i64 (a1.2 + 1)))
   else
    some (Stp.exit a1.1)) (p1, 0)).bind fun a11 =>
 some a11
def qb2 (p0 : qaa) (p1 : List UInt8) : Option (Bool × Int) :=
 (qb1 p0 p1).bind fun x1 =>
 if x1 ≠ 0 then
  some (false, x1)
 else
  (qdz p0).bind fun x3 =>
  (qdP p0 x3 p1).bind fun x5 =>
  some (decide (0 < ((x5).length : Int)), 0)
def qcv (p0 : qaa) (p1 : List UInt8) : Option (Bool) :=
 (qb2 p0 p1).bind fun x1 =>
 some x1.1
def qa7 (p0 : List (List UInt8)) (p1 : qaa) (p2 : List UInt8) (p3 : List UInt8) : Option (Bool) :=
 lpO (loopW (S := Int) (X := Ou (Unit) (Bool)) (fun a1 =>
     if a1 < ((p0).length : Int) then
      (idx p0 a1).bind fun x5 =>
      if p2.length + x5.length ≤ maxLen then
       if (p2 ++ x5).length + p3.length ≤ maxLen then
        (qcv p1 ((p2 ++ x5) ++ p3)).bind fun x9 =>
        if x9 = true then
         some (Stp.exit (Ou.ret true))
        else
         some (Stp.next (IntKind.wrap .i64 (a1 + 1)))
       else none
      else none
     else
      some (Stp.exit (Ou.go ()))) 0) (fun a11 =>
     some false) some
def qer (E : List qam) (i : Nat) : List Int := (E.filter fun e => decide (e.1 = (i : Int))).map (·.2.2)
def qcb (nx : Nat → List Int) : Nat → List Bool → Nat → List Bool
 | 0, seen, _ => seen
 | n + 1, seen, s => (nx s).foldl (fun sn t => if sn.getD t.toNat true = true then sn else qcb nx n sn t.toNat) (seen.set s true)
def qoD (g : qaa) (s : Int) : Prop := (0 ≤ g.2.1 ∧ g.2.1 ≤ 1000) ∧ g.2.2.length ≤ 100000 ∧ (0 ≤ s ∧ s < g.2.1) ∧ ∀ e ∈ g.2.2, (0 ≤ e.1 ∧ e.1 < g.2.1) ∧ (0 ≤ e.2.2 ∧ e.2.2 < g.2.1)
open Classical in
def qcI (g : qaa) (s : Int) : Option (List Bool) :=
 if qoD g s then some (qcb (qer g.2.2) g.2.1.toNat (List.replicate g.2.1.toNat false) s.toNat) else none
theorem qed (nx : Nat → List Int) : ∀ (n : Nat) (seen : List Bool) (s : Nat), (qcb nx n seen s).length = seen.length
 | 0, _, _ => rfl
 | n + 1, seen, s => by
  have : ∀ (l : List Int) (sn : List Bool), sn.length = seen.length → (l.foldl (fun sn t => if sn.getD t.toNat true = true then sn else qcb nx n sn t.toNat) sn).length = seen.length := by
   intro l
   induction l with
   | nil => exact fun _ h => h
   | cons t l ih =>
    intro sn h
    refine ih _ ?_
    dsimp only
    split
    ·exact h
    rw [qed nx n]; exact h
  exact this _ _ (by simp)
theorem qcW {l : List Bool} {i : Nat} (h : l.getD i true = false) : (l.set i true).count false + 1 = l.count false := by
 induction l generalizing i with
 | nil => simp at h
 | cons a l ih =>
  cases i with
  | zero =>
   simp at h
   subst h
   simp
  | succ i =>
   have := ih (i := i) (by simpa using h)
   simp only [List.set_cons_succ, List.count_cons]
   omega
theorem qlE (l : List Bool) (i : Nat) : (l.set i true).count false ≤ l.count false := by
 induction l generalizing i with
 | nil => simp
 | cons a l ih =>
  cases i with
  | zero => simp only [List.set_cons_zero, List.count_cons]; simp
  | succ i =>
   have := ih i
   simp only [List.set_cons_succ, List.count_cons]
   omega
theorem qft (nx : Nat → List Int) : ∀ (n : Nat) (seen : List Bool) (s : Nat), (qcb nx n seen s).count false ≤ seen.count false
 | 0, _, _ => Nat.le_refl _
 | n + 1, seen, s => by
  have : ∀ (l : List Int) (sn : List Bool), sn.count false ≤ seen.count false → (l.foldl (fun sn t => if sn.getD t.toNat true = true then sn else qcb nx n sn t.toNat) sn).count false ≤ seen.count false := by
   intro l
   induction l with
   | nil => exact fun _ h => h
   | cons t l ih =>
    intro sn h
    refine ih _ ?_
    dsimp only
    split
    ·exact h
    exact Nat.le_trans (qft nx n _ _) h
  exact this _ _ (qlE _ _)
def qfl (nx : Nat → List Int) (n : Nat) (seen : List Bool) (s i : Nat) : List Bool := ((nx s).take i).foldl (fun sn t => if sn.getD t.toNat true = true then sn else qcb nx n sn t.toNat) (seen.set s true)
theorem qot (nx : Nat → List Int) (n : Nat) (seen : List Bool) (s i : Nat) : (qfl nx n seen s i).length = seen.length := by
 unfold qfl
 have : ∀ (l : List Int) (sn : List Bool), sn.length = seen.length → (l.foldl (fun sn t => if sn.getD t.toNat true = true then sn else qcb nx n sn t.toNat) sn).length = seen.length := by
  intro l
  induction l with
  | nil => exact fun _ h => h
  | cons t l ih =>
   intro sn h
   refine ih _ ?_
   dsimp only
   split
   ·exact h
   rw [qed]; exact h
 exact this _ _ (by simp)
theorem qlZ {nx : Nat → List Int} {n : Nat} {seen : List Bool} {s i : Nat} (h : seen.getD s true = false) (hc : seen.count false ≤ n + 1) : (qfl nx n seen s i).count false ≤ n := by
 unfold qfl
 have h1 := qcW h
 have : ∀ (l : List Int) (sn : List Bool), sn.count false ≤ n → (l.foldl (fun sn t => if sn.getD t.toNat true = true then sn else qcb nx n sn t.toNat) sn).count false ≤ n := by
  intro l
  induction l with
  | nil => exact fun _ h => h
  | cons t l ih =>
   intro sn h
   refine ih _ ?_
   dsimp only
   split
   ·exact h
   exact Nat.le_trans (qft nx n _ _) h
 exact this _ _ (by omega)
theorem qnC (nx : Nat → List Int) (n : Nat) (seen : List Bool) (s : Nat) {i : Nat} (hi : i < (nx s).length) : qfl nx n seen s (i + 1) = if (qfl nx n seen s i).getD (nx s)[i].toNat true = true then qfl nx n seen s i else qcb nx n (qfl nx n seen s i) (nx s)[i].toNat := by
 unfold qfl
 rw [← List.take_append_getElem hi, List.foldl_append]
 rfl
inductive RT (nx : Nat → List Int) : Nat → Nat → Prop
 | refl (s : Nat) : RT nx s s
 | tail {s a : Nat} {t : Int} (h : RT nx s a) (ht : t ∈ nx a) : RT nx s t.toNat
theorem RT.head {nx : Nat → List Int} {s : Nat} {t : Int} {b : Nat} (ht : t ∈ nx s) (h : RT nx t.toNat b) : RT nx s b := by
 induction h with
 | refl => exact .tail (.refl s) ht
 | tail _ h2 ih => exact .tail ih h2
theorem RT.trans {nx : Nat → List Int} {a b c : Nat} (h : RT nx a b) (h2 : RT nx b c) : RT nx a c := by
 induction h2 with
 | refl => exact h
 | tail _ h3 ih => exact .tail ih h3
def isOn (l : List Bool) (i : Nat) : Prop := l[i]? = some true
theorem qgI {l : List Bool} {i : Nat} (hi : i < l.length) : (l.getD i true = true) = isOn l i := by
 unfold isOn
 rw [List.getD_eq_getElem?_getD, List.getElem?_eq_getElem hi]
 simp
theorem qey {l : List Bool} {s i : Nat} (hs : s < l.length) : isOn (l.set s true) i ↔ i = s ∨ isOn l i := by
 unfold isOn
 by_cases e : s = i
 ·subst e
  rw [List.getElem?_set_self hs]
  simp
 rw [List.getElem?_set_ne e]
 exact ⟨.inr, fun h => h.resolve_left fun h => e h.symm⟩
theorem qjm {nx : Nat → List Int} {S : Nat} (hb : ∀ i, i < S → ∀ t ∈ nx i, 0 ≤ t ∧ t < (S : Int)) : ∀ (n : Nat) (seen : List Bool) (s : Nat), seen.length = S → s < S → ¬ isOn seen s → seen.count false ≤ n →
  (∀ i, isOn seen i → isOn (qcb nx n seen s) i) ∧ isOn (qcb nx n seen s) s ∧ (∀ i, isOn (qcb nx n seen s) i → ¬ isOn seen i → ∀ t ∈ nx i, isOn (qcb nx n seen s) t.toNat) ∧ ∀ i, isOn (qcb nx n seen s) i → isOn seen i ∨ RT nx s i
 | 0, seen, s, hl, hs, ho, hc => by
  have : seen.getD s true = false := by
   rw [← Bool.not_eq_true, qgI (by omega)]
   exact ho
  have := qcW this
  omega
 | n + 1, seen, s, hl, hs, ho, hc => by
  have h0 : seen.getD s true = false := by
   rw [← Bool.not_eq_true, qgI (by omega)]
   exact ho
  have hc0 := qcW h0
  have key : ∀ (l : List Int), (∀ t ∈ l, t ∈ nx s) → ∀ (sn : List Bool), sn.length = S → sn.count false ≤ n → (∀ i, i = s ∨ isOn seen i → isOn sn i) → (∀ i, isOn sn i → ¬ (i = s ∨ isOn seen i) → ∀ t ∈ nx i, isOn sn t.toNat) → (∀ i, isOn sn i → isOn seen i ∨ RT nx s i) →
    let r := l.foldl (fun sn t => if sn.getD t.toNat true = true then sn else qcb nx n sn t.toNat) sn
    (∀ i, isOn sn i → isOn r i) ∧ (∀ i, isOn r i → ¬ (i = s ∨ isOn seen i) → ∀ t ∈ nx i, isOn r t.toNat) ∧ (∀ i, isOn r i → isOn seen i ∨ RT nx s i) ∧ ∀ t ∈ l, isOn r t.toNat := by
   intro l
   induction l with
   | nil => exact fun _ sn _ _ _ h2 h3 => ⟨fun _ h => h, h2, h3, fun _ h => nomatch h⟩
   | cons t l ih =>
    intro hl' sn e1 e2 e3 e4 e5
    have ht := hl' t (List.mem_cons_self ..)
    obtain ⟨t0, t1⟩ := hb s hs t ht
    have htl : t.toNat < sn.length := by omega
    rw [List.foldl_cons]
    dsimp only
    by_cases hon : isOn sn t.toNat
    ·rw [if_pos (by rw [qgI htl]; exact hon)]
     obtain ⟨r1, r2, r3, r4⟩ := ih (fun x hx => hl' x (List.mem_cons_of_mem _ hx)) sn e1 e2 e3 e4 e5
     refine ⟨r1, r2, r3, fun x hx => ?_⟩
     rcases List.mem_cons.1 hx with rfl | hx
     ·exact r1 _ hon
     exact r4 x hx
    rw [if_neg (by rw [qgI htl]; exact hon)]
    obtain ⟨v1, v2, v3, v4⟩ := qjm hb n sn t.toNat e1 (by omega) hon e2
    obtain ⟨r1, r2, r3, r4⟩ := ih (fun x hx => hl' x (List.mem_cons_of_mem _ hx)) (qcb nx n sn t.toNat) (by rw [qed]; exact e1) (Nat.le_trans (qft ..) e2) (fun i hi => v1 _ (e3 i hi)) (fun i hi hn t' ht' => by
     by_cases hi2 : isOn sn i
     ·exact v1 _ (e4 i hi2 hn t' ht')
     ·exact v3 i hi hi2 t' ht') (fun i hi => by
     rcases v4 i hi with h | h
     ·exact e5 i h
     exact .inr (RT.head ht h))
    refine ⟨fun i hi => r1 i (v1 i hi), r2, r3, fun x hx => ?_⟩
    rcases List.mem_cons.1 hx with rfl | hx
    ·exact r1 _ v2
    exact r4 x hx
  obtain ⟨r1, r2, r3, r4⟩ := key (nx s) (fun _ h => h) (seen.set s true) (by rw [List.length_set]; exact hl) (by omega) (fun i hi => (qey (by omega)).2 hi) (fun i hi hn => absurd ((qey (by omega)).1 hi) hn) (fun i hi => by
   rcases (qey (by omega)).1 hi with rfl | h
   ·exact .inr (.refl _)
   exact .inl h)
  have hv : qcb nx (n + 1) seen s = (nx s).foldl (fun sn t => if sn.getD t.toNat true = true then sn else qcb nx n sn t.toNat) (seen.set s true) := rfl
  rw [hv]
  refine ⟨fun i hi => r1 i ((qey (by omega)).2 (.inr hi)), r1 s ((qey (by omega)).2 (.inl rfl)), fun i hi hn => ?_, r3⟩
  by_cases e : i = s
  ·subst e; exact r4
  exact r2 i hi (fun h => h.elim e hn)
theorem qsS {a b : List Bool} (hl : a.length = b.length) (h : ∀ i, i < a.length → (isOn a i ↔ isOn b i)) : a = b := by
 apply List.ext_getElem hl
 intro i h1 h2
 have := h i h1
 unfold isOn at this
 rw [List.getElem?_eq_getElem h1, List.getElem?_eq_getElem h2] at this
 simp only [Option.some.injEq] at this
 cases ha : a[i] <;> cases hb : b[i] <;> simp_all
theorem qev {S i : Nat} : ¬ isOn (List.replicate S false) i := by
 unfold isOn
 rw [List.getElem?_replicate]
 split <;> simp
theorem qiq {nx : Nat → List Int} {S s : Nat} (hb : ∀ i, i < S → ∀ t ∈ nx i, 0 ≤ t ∧ t < (S : Int)) (hs : s < S) (i : Nat) : isOn (qcb nx S (List.replicate S false) s) i ↔ RT nx s i := by
 obtain ⟨_, h2, h3, h4⟩ := qjm hb S (List.replicate S false) s (by simp) hs qev (by simp)
 refine ⟨fun h => (h4 i h).resolve_left qev, fun h => ?_⟩
 induction h with
 | refl => exact h2
 | tail _ ht ih => exact h3 _ ih qev _ ht
theorem RT.lt {nx : Nat → List Int} {S s i : Nat} (hb : ∀ i, i < S → ∀ t ∈ nx i, 0 ≤ t ∧ t < (S : Int)) (hs : s < S) (h : RT nx s i) : i < S := by
 induction h with
 | refl => exact hs
 | tail _ ht ih =>
  have := hb _ ih _ ht
  omega
def rndE (o : List Bool) (e : qam) : List Bool := if o.getD e.1.toNat false = true then o.set e.2.2.toNat true else o
def rnd (E : List qam) (o : List Bool) : List Bool := E.foldl rndE o
def rnds (E : List qam) : Nat → List Bool → List Bool
 | 0, o => o
 | n + 1, o => rnds E n (rnd E o)
theorem qgH {l : List Bool} {i : Nat} : (l.getD i false = true) = isOn l i := by
 unfold isOn
 rw [List.getD_eq_getElem?_getD]
 cases h : l[i]? with
 | none => simp
 | some b => simp
section
variable {E : List qam} {S : Nat} (hE : ∀ e ∈ E, (0 ≤ e.1 ∧ e.1 < (S : Int)) ∧ (0 ≤ e.2.2 ∧ e.2.2 < (S : Int)))
theorem qkj (o : List Bool) (e : qam) : (rndE o e).length = o.length := by
 unfold rndE
 split
 ·exact List.length_set
 rfl
theorem qg8 : ∀ (E : List qam) (o : List Bool), (rnd E o).length = o.length
 | [], _ => rfl
 | e :: E, o => (qg8 E (rndE o e)).trans (qkj o e)
theorem qki {o : List Bool} {e : qam} (h : e.2.2.toNat < o.length) (i : Nat) : isOn (rndE o e) i ↔ isOn o i ∨ (isOn o e.1.toNat ∧ i = e.2.2.toNat) := by
 unfold rndE
 split
 ·rename_i h1
  rw [qgH] at h1
  rw [qey h]
  constructor
  ·rintro (rfl | h2)
   ·exact .inr ⟨h1, rfl⟩
   exact .inl h2
  rintro (h2 | ⟨_, rfl⟩)
  ·exact .inr h2
  exact .inl rfl
 rename_i h1
 rw [qgH] at h1
 exact ⟨.inl, fun h => h.resolve_right fun h2 => h1 h2.1⟩
theorem qmS : ∀ (E : List qam) (o : List Bool), (∀ e ∈ E, e.2.2.toNat < o.length) → (∀ i, isOn o i → isOn (rnd E o) i) ∧ (∀ e ∈ E, isOn o e.1.toNat → isOn (rnd E o) e.2.2.toNat)
 | [], o, _ => ⟨fun _ h => h, fun _ h => nomatch h⟩
 | e :: E, o, h => by
  have he := h e (List.mem_cons_self ..)
  obtain ⟨h1, h2⟩ := qmS E (rndE o e) (fun x hx => by rw [qkj]; exact h x (List.mem_cons_of_mem _ hx))
  refine ⟨fun i hi => h1 i ((qki he i).2 (.inl hi)), fun x hx ho => ?_⟩
  rcases List.mem_cons.1 hx with rfl | hx
  ·exact h1 _ ((qki he _).2 (.inr ⟨ho, rfl⟩))
  exact h2 x hx ((qki he _).2 (.inl ho))
theorem qk9 {nx : Nat → List Int} {s : Nat} : ∀ (E : List qam) (o : List Bool), (∀ e ∈ E, e.2.2.toNat < o.length ∧ e.2.2 ∈ nx e.1.toNat) → (∀ i, isOn o i → RT nx s i) → ∀ i, isOn (rnd E o) i → RT nx s i
 | [], _, _, h => h
 | e :: E, o, hE, h => by
  obtain ⟨e1, e2⟩ := hE e (List.mem_cons_self ..)
  refine qk9 E (rndE o e) (fun x hx => by rw [qkj]; exact hE x (List.mem_cons_of_mem _ hx)) fun i hi => ?_
  rcases (qki e1 i).1 hi with h1 | ⟨h1, rfl⟩
  ·exact h i h1
  exact .tail (h _ h1) e2
theorem qjM : ∀ {a b : List Bool}, a.length = b.length → (∀ i, isOn a i → isOn b i) → b.count false ≤ a.count false ∧ (b.count false = a.count false → b = a)
 | [], [], _, _ => ⟨Nat.le_refl _, fun _ => rfl⟩
 | x :: a, y :: b, hl, h => by
  obtain ⟨h1, h2⟩ := qjM (a := a) (b := b) (by simpa using hl) (fun i hi => by
   have := h (i + 1) (by unfold isOn at *; simpa using hi)
   unfold isOn at *
   simpa using this)
  have h0 := h 0
  unfold isOn at h0
  simp only [List.getElem?_cons_zero, Option.some.injEq] at h0
  simp only [List.count_cons]
  cases x <;> cases y <;> simp at h0 ⊢
  ·exact ⟨h1, h2⟩
  ·constructor
   ·omega
   intro h; omega
  exact ⟨h1, h2⟩
theorem qiE (hT : ∀ e ∈ E, e.2.2.toNat < S) : ∀ (n : Nat) (o : List Bool), o.length = S → (∀ i, isOn o i → isOn (rnds E n o) i) ∧ ((rnds E n o).count false + n ≤ o.count false ∨ ∀ e ∈ E, isOn (rnds E n o) e.1.toNat → isOn (rnds E n o) e.2.2.toNat)
 | 0, o, _ => ⟨fun _ h => h, .inl (Nat.le_refl _)⟩
 | n + 1, o, hl => by
  have hT' : ∀ e ∈ E, e.2.2.toNat < o.length := fun e he => by rw [hl]; exact hT e he
  obtain ⟨m1, m2⟩ := qmS E o hT'
  obtain ⟨h1, h2⟩ := qiE hT n (rnd E o) (by rw [qg8]; exact hl)
  refine ⟨fun i hi => h1 i (m1 i hi), ?_⟩
  obtain ⟨c1, c2⟩ := qjM (a := o) (b := rnd E o) (qg8 E o).symm m1
  by_cases hc : (rnd E o).count false = o.count false
  ·have e := c2 hc
   have st : ∀ m, rnds E m o = o := by
    intro m
    induction m with
    | zero => rfl
    | succ m ih =>
     show rnds E m (rnd E o) = o
     rw [e]
     exact ih
   refine .inr ?_
   rw [st]
   intro x hx ho
   have := m2 x hx ho
   rwa [e] at this
  rcases h2 with h2 | h2
  ·refine .inl ?_
   show (rnds E n (rnd E o)).count false + (n + 1) ≤ _
   omega
  exact .inr h2
theorem qkh : ∀ (n : Nat) (o : List Bool), (rnds E n o).length = o.length
 | 0, _ => rfl
 | n + 1, o => (qkh n (rnd E o)).trans (qg8 E o)
theorem qjw {nx : Nat → List Int} {s : Nat} : ∀ (n : Nat) (o : List Bool), (∀ e ∈ E, e.2.2.toNat < o.length ∧ e.2.2 ∈ nx e.1.toNat) → (∀ i, isOn o i → RT nx s i) → ∀ i, isOn (rnds E n o) i → RT nx s i
 | 0, _, _, h => h
 | n + 1, o, hE, h => qjw n (rnd E o) (fun e he => by rw [qg8]; exact hE e he) (qk9 E o hE h)
include hE in
theorem qru {s : Nat} (hs : s < S) (i : Nat) : isOn (rnds E S ((List.replicate S false).set s true)) i ↔ RT (qer E) s i := by
 have hl : ((List.replicate S false).set s true).length = S := by simp
 have hm : ∀ e ∈ E, e.2.2 ∈ qer E e.1.toNat := fun e he => by
  unfold qer
  refine List.mem_map.2 ⟨e, List.mem_filter.2 ⟨he, ?_⟩, rfl⟩
  have := (hE e he).1
  simp only [decide_eq_true_eq]
  omega
 have hT : ∀ e ∈ E, e.2.2.toNat < S := fun e he => by
  have := (hE e he).2
  omega
 have hc0 : ((List.replicate S false).set s true).count false + 1 = S := by
  have : (List.replicate S false).getD s true = false := by
   rw [List.getD_eq_getElem?_getD, List.getElem?_replicate, if_pos hs]
   rfl
  have := qcW this
  rw [this]
  simp
 obtain ⟨h1, h2⟩ := qiE hT S _ hl
 have h2 := h2.resolve_left (by omega)
 constructor
 ·refine qjw S _ (fun e he => ⟨by rw [hl]; exact hT e he, hm e he⟩) (fun i hi => ?_) i
  rcases (qey (by simpa using hs)).1 hi with rfl | h
  ·exact .refl _
  exact (qev h).elim
 intro h
 induction h with
 | refl => exact h1 s ((qey (by simpa using hs)).2 (.inl rfl))
 | @tail a t _ ht ih =>
  unfold qer at ht
  obtain ⟨e, he, rfl⟩ := List.mem_map.1 ht
  obtain ⟨he, hf⟩ := List.mem_filter.1 he
  simp only [decide_eq_true_eq] at hf
  refine h2 e he ?_
  rw [show e.1.toNat = a by omega]
  exact ih
theorem qnI (hE : ∀ e ∈ E, (0 ≤ e.1 ∧ e.1 < (S : Int)) ∧ (0 ≤ e.2.2 ∧ e.2.2 < (S : Int))) {s : Nat} (hs : s < S) : qcb (qer E) S (List.replicate S false) s = rnds E S ((List.replicate S false).set s true) := by
 have hb : ∀ i, i < S → ∀ t ∈ qer E i, 0 ≤ t ∧ t < (S : Int) := by
  intro i _ t ht
  unfold qer at ht
  obtain ⟨e, he, rfl⟩ := List.mem_map.1 ht
  exact (hE e (List.mem_filter.1 he).1).2
 refine qsS (by rw [qed, qkh]; simp) fun i _ => ?_
 rw [qiq hb hs, qru hE hs]
end
def rowR (g : qaa) (s : Nat) : List Bool := qcb (qer g.2.2) g.2.1.toNat (List.replicate g.2.1.toNat false) s
def qbO (g : qaa) (n : Nat) : List (List Bool) := (List.range n).map (rowR g)
def inC (g : qaa) (s t : Nat) : Bool := (rowR g s).getD t false && (rowR g t).getD s false
def lstB (g : qaa) (s n : Nat) : List Int := ((List.range n).filter (inC g s)).map Int.ofNat
def qda (g : qaa) (n : Nat) : List (List Int) := ((List.range n).filter fun s => (lstB g s g.2.1.toNat).head? == some (s : Int)).map fun s => lstB g s g.2.1.toNat
def qlG (g : qaa) : Prop := (0 ≤ g.2.1 ∧ g.2.1 ≤ 1000) ∧ g.2.2.length ≤ 100000 ∧ ∀ e ∈ g.2.2, (0 ≤ e.1 ∧ e.1 < g.2.1) ∧ (0 ≤ e.2.2 ∧ e.2.2 < g.2.1)
open Classical in
def qbK (g : qaa) : Option (List (List Int)) := if qlG g then some (qda g g.2.1.toNat) else none
theorem qmR (g : qaa) (s : Nat) : (rowR g s).length = g.2.1.toNat := by unfold rowR; rw [qed]; simp
theorem qoz {g : qaa} (h : qlG g) {s : Nat} (hs : s < g.2.1.toNat) (i : Nat) : isOn (rowR g s) i ↔ RT (qer g.2.2) s i := by
 refine qiq (fun j _ t ht => ?_) hs i
 unfold qer at ht
 obtain ⟨e, he, rfl⟩ := List.mem_map.1 ht
 have := (h.2.2 e (List.mem_filter.1 he).1).2
 omega
theorem qiW {g : qaa} (h : qlG g) {s t : Nat} (hs : s < g.2.1.toNat) (ht : t < g.2.1.toNat) : inC g s t = true ↔ RT (qer g.2.2) s t ∧ RT (qer g.2.2) t s := by
 unfold inC
 rw [Bool.and_eq_true, qgH, qgH, qoz h hs, qoz h ht]
theorem qiT (g : qaa) (s n : Nat) : lstB g s (n + 1) = if inC g s n = true then lstB g s n ++ [(n : Int)] else lstB g s n := by
 unfold lstB
 rw [List.range_succ, List.filter_append, List.map_append, List.filter_cons]
 split
 ·simp
 simp
theorem qrF {g : qaa} (h : qlG g) {s : Nat} (hs : s < g.2.1.toNat) : ∃ x, (lstB g s g.2.1.toNat)[0]? = some x := by
 have : (s : Int) ∈ lstB g s g.2.1.toNat := List.mem_map.2 ⟨s, List.mem_filter.2 ⟨List.mem_range.2 hs, (qiW h hs hs).2 ⟨.refl s, .refl s⟩⟩, rfl⟩
 cases hl : lstB g s g.2.1.toNat with
 | nil => rw [hl] at this; cases this
 | cons x l => exact ⟨x, rfl⟩
theorem qkx (g : qaa) (s n : Nat) : (lstB g s n).length ≤ n := by
 unfold lstB
 rw [List.length_map]
 exact Nat.le_trans (List.length_filter_le _ _) (by simp)
theorem qhh (g : qaa) (n : Nat) : qda g (n + 1) = if (lstB g n g.2.1.toNat).head? = some (n : Int) then qda g n ++ [lstB g n g.2.1.toNat] else qda g n := by
 unfold qda
 rw [List.range_succ, List.filter_append, List.map_append, List.filter_cons]
 by_cases e : (lstB g n g.2.1.toNat).head? = some (n : Int)
 ·rw [if_pos e, if_pos (by rw [e]; simp)]
  simp
 rw [if_neg e, if_neg (by simpa using e)]
 simp
theorem qpx (g : qaa) {n m : Nat} (h : n ≤ m) : ∃ l, qda g m = qda g n ++ l := by
 induction m with
 | zero =>
  obtain rfl : n = 0 := by omega
  exact ⟨[], by simp⟩
 | succ m ih =>
  by_cases e : n = m + 1
  ·subst e; exact ⟨[], by simp⟩
  obtain ⟨l, hl⟩ := ih (by omega)
  rw [qhh]
  split
  ·exact ⟨l ++ [lstB g m g.2.1.toNat], by rw [hl, List.append_assoc]⟩
  exact ⟨l, hl⟩
def qbo (p0 : qaa) : Option (Bool × Int) :=
 (qbv p0).bind fun x1 =>
 if x1 ≠ 0 then
  some (false, 1)
 else
  lpO (loopW (S := Int) (X := Ou (Unit) (Bool × Int)) (fun a3 =>
      if a3 < ((p0.2.2).length : Int) then
       (idx p0.2.2 (IntKind.wrap .i64 (a3 - 1))).bind fun x70401 =>
       (idx p0.2.2 a3).bind fun x70901 =>
       jp (fun (a8 : Bool) =>
         if a8 = true then
          some (Stp.exit (Ou.ret (false, 0)))
         else
          some (Stp.next (IntKind.wrap .i64 (a3 + 1))))
         fun k10 =>
        if x70401.1 = x70901.1 then
         k10 (decide (x70401.2.1 = x70901.2.1))
        else
         k10 false
      else
       some (Stp.exit (Ou.go ()))) 1) (fun a12 =>
      some (true, 0)) some
def qbs (p0 : List (Int)) : Option (Bool) :=
 some true
def qc0 (p0 : qaa) : Option ((List (List (Int))) × Int) :=
 (qbv p0).bind fun x1 =>
 if x1 ≠ 0 then
  some ([], 1)
 else
  (qbK p0).bind fun L5 =>
  lpO (forL (S := (List (List (Int)))) (X := Unit) (fun a7 (x9 : (List (Int))) =>
      (qbs x9).bind fun x13 =>
      if x13 = true then
       if fits 24 ((a7 : List (List (Int))).length + ([x9]).length) then
        some (Stp.next (a7 ++ [x9]))
       else none
      else
       some (Stp.next a7)) L5 ([] : List (List (Int)))) (fun a17 =>
      some (a17, 0)) fun a19 =>
      none
def qcT (p0 : qaa) : Option ((List (List (Int))) × Int) :=
 (qc0 p0).bind fun x1 =>
 some (x1.1, x1.2)
def qbd (p0 : qaa) : Option (Bool × Int) :=
 (qcT p0).bind fun x1 =>
 jp (fun (a3 : Bool) =>
   some (a3, x1.2))
   fun k5 =>
  if x1.2 = 0 then
   if ((x1.1).length : Int) = 1 then
    k5 (decide (0 < ((p0.2.2).length : Int)))
   else
    k5 false
  else
   k5 false
def qb8 (p0 : qaa) (p1 : Int) (p2 : Int) (p3 : Int) : Option (qap × Int) :=
 (qbv p0).bind fun x3 =>
 if x3 ≠ 0 then
  some (([], []), 1)
 else
  if p0.1 ≠ 2 then
   some (([], []), 12)
  else
   (qbo p0).bind fun x5 =>
   (qbd p0).bind fun x7 =>
   jp (fun (a9 : Bool) =>
     if a9 = true then
      some (([], []), 8)
     else
      jp (fun (a12 : Bool) =>
        if a12 = true then
         some (([], []), 2)
        else
         (qbe p0 p1).bind fun x15 =>
         if x15.2 ≠ 0 then
          some (([], []), x15.2)
         else
          (qee 2 p2).bind fun x17 =>
          if x17.2 ≠ 0 then
           some (([], []), x17.2)
          else
           (qbX x15.1 p0 x17.1).bind fun L22 =>
           lpO (forL (S := (List (List UInt8))) (X := (List (List UInt8))) (fun a24 (x26 : (List UInt8)) =>
               if fits 16 ((a24 : List (List UInt8)).length + ([x26]).length) then
                if (((a24 ++ [x26]).length : Nat) : Int) = p3 then
                 some (Stp.exit (a24 ++ [x26]))
                else
                 some (Stp.next (a24 ++ [x26]))
               else none) L22 ([] : List (List UInt8))) (fun a32 =>
               some (([], []), 15)) fun a34 =>
               some ((a34, x17.1), 0))
        fun k14 =>
       if p1 < 1 then
        k14 true
       else
        if 16 < p1 then
         k14 true
        else
         if p2 < 0 then
          k14 true
         else
          if 8 < p2 then
           k14 true
          else
           if p3 < 1 then
            k14 true
           else
            k14 (decide (256 < p3)))
     fun k11 =>
    if x5.2 ≠ 0 then
     k11 true
    else
     if x7.2 ≠ 0 then
      k11 true
     else
      if (!x5.1) = true then
       k11 true
      else
       k11 (!x7.1)
def qbm (p0 : qaa) : Option (Bool × Int) :=
 (qaS p0).bind fun x1 =>
 if x1 ≠ 0 then
  some (false, 1)
 else
  lpO (loopW (S := Int) (X := Ou (Unit) (Bool × Int)) (fun a3 =>
      if a3 < ((p0.2.2).length : Int) then
       jp (fun (a7 : Bool) =>
         if a7 = true then
          some (Stp.exit (Ou.ret (false, 0)))
         else
          some (Stp.next (IntKind.wrap .i64 (a3 + 1))))
         fun k9 =>
        (idx p0.2.2 a3).bind fun x10 =>
        (idx p0.2.2 (IntKind.wrap .i64 (a3 - 1))).bind fun x12 =>
        if x10.1 = x12.1 then
         (idx p0.2.2 a3).bind fun x14 =>
         (idx p0.2.2 (IntKind.wrap .i64 (a3 - 1))).bind fun x16 =>
         k9 (decide (x14.2.1 = x16.2.1))
        else
         k9 false
      else
       some (Stp.exit (Ou.go ()))) 1) (fun a19 =>
      some (true, 0)) some
def qcw (p0 : qaa) (p1 : Int) : Option ((List (Bool))) :=
 if 0 ≤ (p0.2.1 : Int) ∧ (p0.2.1 : Int) ≤ p0.2.1 ∧ (p0.2.1 : Int) * 1 ≤ 281474976710656 then
  (idx (List.replicate (p0.2.1).toNat (false : Bool)) p1).bind fun x3 =>
  (loopW (S := Int × (List Bool)) (X := (List Bool)) (fun a5 =>
      if a5.1 < p0.2.1 then
       (loopW (S := Int × (List Bool)) (X := (List Bool)) (fun a9 =>
           if a9.1 < ((p0.2.2).length : Int) then
            jp (fun (a13 : (List Bool)) =>
              some (Stp.next (IntKind.wrap .i64 (a9.1 + 1), a13)))
              fun k15 =>
             (idx p0.2.2 a9.1).bind fun x16 =>
             (idx a9.2 x16.1).bind fun x18 =>
             (idx a9.2 x16.1).bind fun x20 =>
             if x20 = true then
              (idx p0.2.2 a9.1).bind fun x22 =>
              (idx a9.2 x22.2.2).bind fun x24 =>
              k15 ((a9.2).set (x22.2.2).toNat true)
             else
              k15 a9.2
           else
            some (Stp.exit a9.2)) (0, a5.2)).bind fun a26 =>
       some (Stp.next (IntKind.wrap .i64 (a5.1 + 1), a26))
      else
       some (Stp.exit a5.2)) (0, (List.replicate (p0.2.1).toNat (false : Bool)).set (p1).toNat true)).bind fun a28 =>
  some a28
 else none
def qef (p0 : qaa) : Option ((List (List (Int))) × Int) :=
 (qaS p0).bind fun x1 =>
 if x1 ≠ 0 then
  some ([], 1)
 else
  (loopW (S := Int × (List (List (Bool)))) (X := (List (List (Bool)))) (fun a5 =>
      if a5.1 < p0.2.1 then
       (qcw p0 a5.1).bind fun x9 =>
       if fits 24 ((a5.2 : List (List (Bool))).length + ([x9]).length) then
        some (Stp.next (IntKind.wrap .i64 (a5.1 + 1), a5.2 ++ [x9]))
       else none
      else
       some (Stp.exit a5.2)) (0, [])).bind fun a13 =>
  (loopW (S := Int × (List (List (Int)))) (X := (List (List (Int)))) (fun a16 =>
      if a16.1 < p0.2.1 then
       jp (fun (a20 : (List (List (Int)))) =>
         some (Stp.next (IntKind.wrap .i64 (a16.1 + 1), a20)))
         fun k22 =>
        (loopW (S := Bool × Int × (List Int)) (X := (List Int) × Bool) (fun a24 =>
            if a24.2.1 < p0.2.1 then
             jp (fun (a28 : Bool × (List Int)) =>
               some (Stp.next (a28.1, IntKind.wrap .i64 (a24.2.1 + 1), a28.2)))
               fun k30 =>
              jp (fun (a31 : Bool) =>
                if a31 = true then
                 if fits 8 ((a24.2.2 : List Int).length + ([a24.2.1]).length) then
                  if a24.1 = true then
                   k30 (decide (a16.1 ≤ a24.2.1), a24.2.2 ++ [a24.2.1])
                  else
                   k30 (false, a24.2.2 ++ [a24.2.1])
                 else none
                else
                 k30 (a24.1, a24.2.2))
                fun k33 =>
               (idx a13 a16.1).bind fun x37 =>
               (idx a13 a16.1).bind fun x39 =>
               (idx x39 a24.2.1).bind fun x41 =>
               if x41 = true then
                (idx a13 a24.2.1).bind fun x43 =>
                (idx a13 a24.2.1).bind fun x45 =>
                (idx x45 a16.1).bind fun x47 =>
                k33 x47
               else
                k33 false
            else
             some (Stp.exit (a24.2.2, a24.1))) (true, 0, [])).bind fun a50 =>
        if a50.2 = true then
         if fits 24 ((a16.2 : List (List (Int))).length + ([a50.1]).length) then
          k22 (a16.2 ++ [a50.1])
         else none
        else
         k22 a16.2
      else
       some (Stp.exit a16.2)) (0, [])).bind fun a54 =>
  some (a54, 0)
def qdA (p0 : List (Int)) (p1 : Int) : Option (Bool) :=
 lpO (loopW (S := Int) (X := Ou (Unit) (Bool)) (fun a1 =>
     if a1 < ((p0).length : Int) then
      (idx p0 a1).bind fun x5 =>
      if x5 = p1 then
       some (Stp.exit (Ou.ret true))
      else
       some (Stp.next (IntKind.wrap .i64 (a1 + 1)))
     else
      some (Stp.exit (Ou.go ()))) 0) (fun a7 =>
     some false) some
def qcS (p0 : qaa) : Option ((List (List (Int))) × Int) :=
 (qef p0).bind fun x1 =>
 (loopW (S := Int × (List (List (Int)))) (X := (List (List (Int)))) (fun a4 =>
     if a4.1 < ((x1.1).length : Int) then
      jp (fun (a8 : (List (List (Int)))) =>
        some (Stp.next (IntKind.wrap .i64 (a4.1 + 1), a8)))
        fun k10 =>
       (loopW (S := Bool × Int) (X := Bool) (fun a11 =>
           if a11.2 < ((p0.2.2).length : Int) then
            jp (fun (a15 : Bool) =>
              some (Stp.next (a15, IntKind.wrap .i64 (a11.2 + 1))))
              fun k17 =>
             if a11.1 = true then
              k17 true
             else
              (idx x1.1 a4.1).bind fun x18 =>
              (idx p0.2.2 a11.2).bind fun x20 =>
              (qdA x18 x20.1).bind fun x22 =>
              if x22 = true then
               (idx x1.1 a4.1).bind fun x24 =>
               (idx p0.2.2 a11.2).bind fun x26 =>
               (qdA x24 x26.2.2).bind fun x28 =>
               k17 x28
              else
               k17 false
           else
            some (Stp.exit a11.1)) (false, 0)).bind fun a32 =>
       if a32 = true then
        (idx x1.1 a4.1).bind fun x34 =>
        if fits 24 ((a4.2 : List (List (Int))).length + ([x34]).length) then
         k10 (a4.2 ++ [x34])
        else none
       else
        k10 a4.2
     else
      some (Stp.exit a4.2)) (0, [])).bind fun a38 =>
 some (a38, x1.2)
def qbE (p0 : qaa) : Option (Bool × Int) :=
 (qef p0).bind fun x1 =>
 (qcS p0).bind fun x3 =>
 jp (fun (a5 : Bool) =>
   some (a5, x1.2))
   fun k7 =>
  if x1.2 = 0 then
   if ((x1.1).length : Int) = 1 then
    k7 (decide (((x3.1).length : Int) = 1))
   else
    k7 false
  else
   k7 false
def qdB (p0 : Int) (p1 : Int) : Option ((List (List UInt8)) × Int) :=
 jp (fun (a1 : Bool) =>
   if a1 = true then
    some ([], 12)
   else
    if p1 < 0 then
     some ([], 2)
    else
     if 65536 < p1 then
      some ([], 4)
     else
      lpO (loopW (S := (List (List UInt8)) × Int) (X := Ou ((List (List UInt8))) ((List (List UInt8)) × Int)) (fun a4 =>
          if a4.2 < p1 then
           if 4096 < (IntKind.wrap .i64 (((a4.1).length : Int) * p0)) then
            some (Stp.exit (Ou.ret ([], 4)))
           else
            (loopW (S := Int × (List (List UInt8))) (X := (List (List UInt8))) (fun a9 =>
                if a9.1 < ((a4.1).length : Int) then
                 (loopW (S := Int × (List (List UInt8))) (X := (List (List UInt8))) (fun a13 =>
                     if a13.1 < p0 then
                      (idx a4.1 a9.1).bind fun x17 =>
                      if 0 ≤ (a13.1 : Int) ∧ (a13.1 : Int) ≤ IntKind.wrap .i64 (a13.1 + 1) ∧ IntKind.wrap .i64 (a13.1 + 1) ≤ (([48, 49, 50, 51, 52, 53, 54, 55, 56, 57, 97, 98, 99, 100, 101, 102] : List UInt8).length : Int) then
                       if x17.length + ((([48, 49, 50, 51, 52, 53, 54, 55, 56, 57, 97, 98, 99, 100, 101, 102] : List UInt8).take (IntKind.wrap .i64 (a13.1 + 1)).toNat).drop (a13.1).toNat).length ≤ maxLen then
                        if fits 16 ((a13.2 : List (List UInt8)).length + ([x17 ++ ((([48, 49, 50, 51, 52, 53, 54, 55, 56, 57, 97, 98, 99, 100, 101, 102] : List UInt8).take (IntKind.wrap .i64 (a13.1 + 1)).toNat).drop (a13.1).toNat)]).length) then
                         some (Stp.next (IntKind.wrap .i64 (a13.1 + 1), a13.2 ++ [x17 ++ ((([48, 49, 50, 51, 52, 53, 54, 55, 56, 57, 97, 98, 99, 100, 101, 102] : List UInt8).take (IntKind.wrap .i64 (a13.1 + 1)).toNat).drop (a13.1).toNat)]))
                        else none
                       else none
                      else none
                     else
                      some (Stp.exit a13.2)) (0, a9.2)).bind fun a23 =>
                 some (Stp.next (IntKind.wrap .i64 (a9.1 + 1), a23))
                else
                 some (Stp.exit a9.2)) (0, [])).bind fun a25 =>
            some (Stp.next (a25, IntKind.wrap .i64 (a4.2 + 1)))
          else
           some (Stp.exit (Ou.go a4.1))) ([([] : List UInt8)], 0)) (fun a27 =>
          some (a27, 0)) some)
   fun k3 =>
  if p0 < 1 then
   k3 true
  else
   k3 (decide (16 < p0))
def qcF (p0 : qaa) (p1 : Int) (p2 : Int) (p3 : Int) : Option (qap × Int) :=
 (qaS p0).bind fun x2 =>
 if x2 ≠ 0 then
  some (([], []), 1)
 else
  if p0.1 ≠ 2 then
   some (([], []), 12)
  else
   (qbm p0).bind fun x4 =>
   (qbE p0).bind fun x6 =>
   jp (fun (a8 : Bool) =>
     if a8 = true then
      some (([], []), 8)
     else
      jp (fun (a11 : Bool) =>
        if a11 = true then
         some (([], []), 2)
        else
         (qcG p0 p1).bind fun x14 =>
         if x14.2 ≠ 0 then
          some (([], []), x14.2)
         else
          (qdB 2 p2).bind fun x17 =>
          (loopW (S := Int × (List (List UInt8))) (X := (List (List UInt8))) (fun a19 =>
              jp (fun (a23 : Bool) =>
                if a23 = true then
                 jp (fun (a26 : (List (List UInt8))) =>
                   some (Stp.next (IntKind.wrap .i64 (a19.1 + 1), a26)))
                   fun k28 =>
                  (idx x14.1 a19.1).bind fun x29 =>
                  (idx x14.1 a19.1).bind fun x31 =>
                  (qa7 x17.1 p0 x29 x31).bind fun x33 =>
                  (loopW (S := Bool × Int) (X := Bool) (fun a35 =>
                      if a35.2 < (((a19.2).length : Nat) : Int) then
                       jp (fun (a39 : Bool) =>
                         some (Stp.next (a39, IntKind.wrap .i64 (a35.2 + 1))))
                         fun k41 =>
                        if a35.1 = true then
                         (idx x14.1 a19.1).bind fun x42 =>
                         (idx a19.2 a35.2).bind fun x44 =>
                         (idx a19.2 a35.2).bind fun x46 =>
                         (qa7 x17.1 p0 x42 x46).bind fun x48 =>
                         if x48 = true then
                          (idx a19.2 a35.2).bind fun x50 =>
                          (idx a19.2 a35.2).bind fun x52 =>
                          (idx x14.1 a19.1).bind fun x54 =>
                          (qa7 x17.1 p0 x52 x54).bind fun x56 =>
                          k41 x56
                         else
                          k41 false
                        else
                         k41 false
                      else
                       some (Stp.exit a35.1)) (x33, 0)).bind fun a60 =>
                  if a60 = true then
                   (idx x14.1 a19.1).bind fun x62 =>
                   if fits 16 ((a19.2 : List (List UInt8)).length + ([x62]).length) then
                    k28 (a19.2 ++ [x62])
                   else none
                  else
                   k28 a19.2
                else
                 some (Stp.exit a19.2))
                fun k25 =>
               if a19.1 < ((x14.1).length : Int) then
                k25 (decide ((((a19.2).length : Nat) : Int) < p3))
               else
                k25 false) (0, ([] : List (List UInt8)))).bind fun a68 =>
          if (((a68).length : Nat) : Int) < p3 then
           some (([], []), 15)
          else
           some ((a68, x17.1), 0))
        fun k13 =>
       if p1 < 1 then
        k13 true
       else
        if 16 < p1 then
         k13 true
        else
         if p2 < 0 then
          k13 true
         else
          if 8 < p2 then
           k13 true
          else
           if p3 < 1 then
            k13 true
           else
            k13 (decide (256 < p3)))
     fun k10 =>
    if (!x4.1) = true then
     k10 true
    else
     k10 (!x6.1)
def qc5 (p0 : List (List UInt8)) (p1 : List (List UInt8)) : Option (Bool) :=
 if ((p0).length : Int) ≠ ((p1).length : Int) then
  some false
 else
  lpO (loopW (S := Int) (X := Ou (Unit) (Bool)) (fun a1 =>
      if a1 < ((p0).length : Int) then
       (idx p0 a1).bind fun x5 =>
       (idx p1 a1).bind fun x7 =>
       if x5 ≠ x7 then
        some (Stp.exit (Ou.ret false))
       else
        some (Stp.next (IntKind.wrap .i64 (a1 + 1)))
      else
       some (Stp.exit (Ou.go ()))) 0) (fun a9 =>
      some true) some
def qby (p0 : qap) (p1 : qap) : Option (Bool) :=
 jp (fun (a1 : Bool) =>
   some a1)
   fun k3 =>
  (qc5 p0.1 p1.1).bind fun x4 =>
  if x4 = true then
   (qc5 p0.2 p1.2).bind fun x6 =>
   k3 x6
  else
   k3 false
def qbR (p0 : qaa) (p1 : Int) (p2 : Int) (p3 : Int) : Option (Bool) :=
 jp (fun (a1 : Bool) =>
   if a1 = true then
    (m_law31_awake).bind fun x4 =>
    some x4
   else
    (qb8 p0 p1 p2 p3).bind fun x6 =>
    (qcF p0 p1 p2 p3).bind fun x9 =>
    jp (fun (a12 : Bool) =>
      some a12)
      fun k14 =>
     (qby x6.1 x9.1).bind fun x15 =>
     if x15 = true then
      if x6.2 = x9.2 then
       (m_law31_awake).bind fun x17 =>
       k14 x17
      else
       k14 false
     else
      k14 false)
   fun k3 =>
  (qdl p0).bind fun x21 =>
  if x21 = true then
   k3 true
  else
   if 6 < p1 then
    if p1 ≤ 16 then
     k3 true
    else
     if 3 < p2 then
      if p2 ≤ 8 then
       k3 true
      else
       if 8 < p3 then
        k3 (decide (p3 ≤ 256))
       else
        k3 false
     else
      if 8 < p3 then
       k3 (decide (p3 ≤ 256))
      else
       k3 false
   else
    if 3 < p2 then
     if p2 ≤ 8 then
      k3 true
     else
      if 8 < p3 then
       k3 (decide (p3 ≤ 256))
      else
       k3 false
    else
     if 8 < p3 then
      k3 (decide (p3 ≤ 256))
     else
      k3 false
section
variable {P : Program} {ro : Option Nat} {N : Nat} {s : AS} {ops : Array Oper} {K : AS → Prop} {F : List Nat → AS → Prop} {L : List Nat}
theorem AOpI.mono {i : Nat} {G G' : AS → Prop} (h : AOpI P ro N ops i G s) (hg : ∀ s', G s' → G' s') : AOpI P ro N ops i G' s := fun w0 μ0 μ a w next Q hs hE hK =>
 h w0 μ0 μ a w next Q hs hE fun μ2 s2 a2 w2 hk hs2 hE2 => hK μ2 s2 a2 w2 (hg s2 hk) hs2 hE2
theorem qrL (hF : F = AnyL P ro N ops K) (hda : daOk ops = true) (p : Nat) (hp : p ≤ ops.size) (hw : ((List.range ops.size).all fun i => decide (i < p) || (List.range p).all fun k => (da ops i).contains k) = true)
  (Inv : List Nat → AS → Prop) (hstep : ∀ L s i, Inv L s → i < p → i ∉ L → (∀ k ∈ da ops i, k ∈ L) → AOpI P ro N ops i (Inv (i :: L)) s)
  (hend : ∀ L s, Inv L s → (∀ k, k < p ↔ k ∈ L) → F L s) : ∀ (d : Nat) (L : List Nat) (s : AS), Inv L s → (∀ k ∈ L, k < p) → L.Nodup → L.length + d = p → F L s
 | 0, L, s, hI, hL, hn, hd => by
  refine hend L s hI fun k => ⟨fun hk => Classical.byContradiction fun hkn => ?_, hL k⟩
  have hsub : (k :: L) ⊆ List.range p := fun x hx => by
   rcases List.mem_cons.1 hx with rfl | hx
   ·exact List.mem_range.2 hk
   exact List.mem_range.2 (hL x hx)
  have := (List.nodup_cons.2 ⟨hkn, hn⟩).length_le_of_subset hsub
  simp only [List.length_cons, List.length_range] at this
  omega
 | d + 1, L, s, hI, hL, hn, hd => by
  have hex : ∃ k, k < p ∧ k ∉ L := Classical.byContradiction fun hno => by
   have hsub : List.range p ⊆ L := fun x hx => Classical.byContradiction fun hx' => hno ⟨x, List.mem_range.1 hx, hx'⟩
   have := (List.nodup_range (n := p)).length_le_of_subset hsub
   simp only [List.length_range] at this
   omega
  obtain ⟨k0, hk0, hkL⟩ := hex
  have hlt : ∀ i, i ∈ qfA ops L → i < p ∧ i ∉ L ∧ ∀ k ∈ da ops i, k ∈ L := fun i hi => by
   simp only [qfA, List.mem_filter, List.mem_range, Bool.and_eq_true, Bool.not_eq_true', List.all_eq_true] at hi
   obtain ⟨h1, h2, h3⟩ := hi
   have h2' : i ∉ L := fun h => by rw [List.contains_iff_mem.2 h] at h2; cases h2
   refine ⟨Classical.byContradiction fun hip => ?_, h2', fun k hk => List.contains_iff_mem.1 (h3 k hk)⟩
   have := List.all_eq_true.1 hw i (List.mem_range.2 h1)
   rw [Bool.or_eq_true, decide_eq_true_eq] at this
   rcases this with h | h
   ·exact hip h
   have := List.all_eq_true.1 h k0 (List.mem_range.2 hk0)
   exact hkL (List.contains_iff_mem.1 (h3 k0 (List.contains_iff_mem.1 this)))
  -- some operation is ready
  have hready : (qfA ops L).isEmpty = false := by
   have hdak := qdU hda
   -- the qe5 that is not done
   have hmin : ∃ m, m < p ∧ m ∉ L ∧ ∀ k, k < m → k ∈ L := by
    have : ∀ n, (∃ m, m < n ∧ m < p ∧ m ∉ L) → ∃ m, m < p ∧ m ∉ L ∧ ∀ k, k < m → k ∈ L := by
     intro n
     induction n with
     | zero => rintro ⟨m, h, _⟩; omega
     | succ n ih =>
      rintro ⟨m, h1, h2, h3⟩
      by_cases hc : ∃ m, m < n ∧ m < p ∧ m ∉ L
      ·exact ih hc
      refine ⟨m, h2, h3, fun k hk => Classical.byContradiction fun hkn => hc ⟨k, by omega, by omega, hkn⟩⟩
    exact this p ⟨k0, hk0, hk0, hkL⟩
   obtain ⟨m, hm, hmL, hmin⟩ := hmin
   have : m ∈ qfA ops L := by
    simp only [qfA, List.mem_filter, List.mem_range, Bool.and_eq_true, Bool.not_eq_true', List.all_eq_true]
    refine ⟨by omega, ?_, fun k hk => List.contains_iff_mem.2 (hmin k (hdak m (by omega) k hk))⟩
    cases h : L.contains m with
    | false => rfl
    | true => exact absurd (List.contains_iff_mem.1 h) hmL
   cases hl : qfA ops L with
   | nil => rw [hl] at this; cases this
   | cons a l => rfl
  refine qll hF hda (qfA ops L) rfl hready ?_
  have hall : ∀ l : List Nat, (∀ i ∈ l, i ∈ qfA ops L) → allR l fun i => AOpI P ro N ops i (F (i :: L)) s := by
   intro l
   induction l with
   | nil => intro _; exact trivial
   | cons i l ih =>
    intro hl
    obtain ⟨h1, h2, h3⟩ := hlt i (hl i (List.mem_cons_self ..))
    refine ⟨(hstep L s i hI h1 h2 h3).mono fun s' h' => ?_, ih fun j hj => hl j (List.mem_cons_of_mem _ hj)⟩
    refine qrL hF hda p hp hw Inv hstep hend d (i :: L) s' h' (fun k hk => ?_) (List.nodup_cons.2 ⟨h2, hn⟩) (by simp only [List.length_cons]; omega)
    rcases List.mem_cons.1 hk with rfl | hk
    ·exact h1
    exact hL k hk
  exact hall _ fun i hi => hi
end
def rid (i : Nat) : Nat := (1000000 + i) * 1000 + 30
theorem ql3 {i j : Nat} (h : rid i = rid j) : i = j := by unfold rid at h; omega
theorem qaY {id v : Nat} {o : AObj} {H : Heap} : hget ((id, v, o) :: H) id = some (v, o) := by simp [hget]
theorem qaz {id j v : Nat} {o : AObj} {H : Heap} (h : id ≠ j) : hget ((j, v, o) :: H) id = hget H id := by simp [hget, h]
theorem qlj {id v v' : Nat} {o o' : AObj} {H : Heap} : ∀ j x, hget ((id, v, o) :: H) j = some x → hget ((id, v, o) :: (id, v', o') :: H) j = some x := fun j x h => by
 by_cases e : j = id
 ·subst e; rw [qaY] at h ⊢; exact h
 rw [qaz e] at h ⊢; rw [qaz e]; exact h
abbrev Rws := List (Nat × List Int)
def qeQ : Nat → Rws → Heap
 | _, [] => []
 | k, (v, l) :: t => (rid k, v, .arr 1 3 (eInt.E l)) :: qeQ (k + 1) t
def hdr : Nat → Rws → List HV
 | _, [] => []
 | k, (v, l) :: t => .ar (rid k) v 1 0 l.length :: hdr (k + 1) t
theorem qhf : ∀ (k : Nat) (rs : Rws), (hdr k rs).length = rs.length
 | _, [] => rfl
 | k, (v, l) :: t => by simp [hdr, qhf (k + 1) t]
theorem qpj : ∀ (k : Nat) (rs : Rws) (v : Nat) (l : List Int), hdr k (rs ++ [(v, l)]) = hdr k rs ++ [.ar (rid (k + rs.length)) v 1 0 l.length]
 | _, [], _, _ => rfl
 | k, (v, l) :: t, v', l' => by
  simp only [List.cons_append, hdr, qpj (k + 1) t v' l', List.length_cons]
  rw [show k + 1 + t.length = k + (t.length + 1) by omega]
theorem qmn : ∀ {rs : Rws} (k : Nat) {i v : Nat} {l : List Int}, rs[i]? = some (v, l) → (hdr k rs)[i]? = some (.ar (rid (k + i)) v 1 0 l.length)
 | [], _, i, _, _, h => by simp at h
 | (v, l) :: t, k, 0, _, _, h => by
  simp at h
  obtain ⟨rfl, rfl⟩ := h
  simp [hdr]
 | (v, l) :: t, k, i + 1, _, _, h => by
  simp only [List.getElem?_cons_succ] at h
  have := qmn (k + 1) h
  simp only [hdr, List.getElem?_cons_succ, this]
  rw [show k + 1 + i = k + (i + 1) by omega]
theorem qcV : ∀ {rs : Rws} (k : Nat) {i v : Nat} {l : List Int}, rs[i]? = some (v, l) → hget (qeQ k rs) (rid (k + i)) = some (v, .arr 1 3 (eInt.E l))
 | [], _, i, _, _, h => by simp at h
 | (v, l) :: t, k, 0, _, _, h => by
  simp at h
  obtain ⟨rfl, rfl⟩ := h
  exact qaY
 | (v, l) :: t, k, i + 1, _, _, h => by
  simp only [List.getElem?_cons_succ] at h
  have := qcV (k + 1) h
  show hget ((rid k, v, _) :: qeQ (k + 1) t) (rid (k + (i + 1))) = _
  rw [qaz (fun e => by have := ql3 e; omega), ← this, show k + 1 + i = k + (i + 1) by omega]
theorem qhC : ∀ (rs : Rws) (k : Nat) {id : Nat}, (∀ i, i < rs.length → id ≠ rid (k + i)) → hget (qeQ k rs) id = none
 | [], _, _, _ => rfl
 | (v, l) :: t, k, id, h => by
  show hget ((rid k, v, _) :: qeQ (k + 1) t) id = none
  rw [qaz (show id ≠ rid k from h 0 (by simp))]
  exact qhC t (k + 1) fun i hi => by
   have := h (i + 1) (by simp; omega)
   rwa [show k + (i + 1) = k + 1 + i by omega] at this
theorem qe7 {H : Heap} : ∀ (rs : Rws) (k : Nat), (∀ i v l, rs[i]? = some (v, l) → hget H (rid (k + i)) = some (v, .arr 1 3 (eInt.E l))) → leH H (qeQ k rs)
 | [], _, _ => trivial
 | (v, l) :: t, k, h => ⟨h 0 v l rfl, qe7 t (k + 1) fun i v' l' hi => by
  have := h (i + 1) v' l' (by simpa using hi)
  rwa [show k + (i + 1) = k + 1 + i by omega] at this⟩
theorem qrt {rs : Rws} {v : Nat} {l : List Int} {H : Heap} (hH : ∀ i, hget H (rid i) = none) : ∀ id x, hget (qeQ 0 (rs ++ [(v, l)])) id = some x → hget ((rid rs.length, v, .arr 1 3 (eInt.E l)) :: (H ++ qeQ 0 rs)) id = some x := by
 refine qci (qe7 _ 0 fun i v' l' hi => ?_)
 have happ : ∀ (A B : Heap) (id : Nat), hget A id = none → hget (A ++ B) id = hget B id := by
  intro A B id
  induction A with
  | nil => intro _; rfl
  | cons a A ih =>
   obtain ⟨j, u, o⟩ := a
   intro h
   by_cases e : id = j
   ·subst e; rw [qaY] at h; cases h
   rw [qaz e] at h
   rw [List.cons_append, qaz e]
   exact ih h
 rw [Nat.zero_add]
 by_cases hlt : i < rs.length
 ·rw [List.getElem?_append_left hlt] at hi
  rw [qaz (fun e => by have := ql3 e; omega), happ _ _ _ (hH i)]
  have := qcV 0 hi
  rwa [Nat.zero_add] at this
 have hi2 : i = rs.length := by
  have := (List.getElem?_eq_some_iff.1 hi).1
  simp at this
  omega
 subst hi2
 simp at hi
 obtain ⟨rfl, rfl⟩ := hi
 exact qaY
abbrev eHd : EncL HV := ⟨1, fun h => [h], fun l => l, fun l => by induction l with
 | nil => rfl
 | cons a l ih => exact congrArg (a :: ·) ih, fun _ => rfl⟩
theorem qpi : ∀ (rs : Rws) (k i v : Nat) (l : List Int), hdr k (rs.set i (v, l)) = (hdr k rs).set i (.ar (rid (k + i)) v 1 0 l.length)
 | [], _, _, _, _ => rfl
 | (u, m) :: t, k, 0, v, l => rfl
 | (u, m) :: t, k, i + 1, v, l => by
  simp only [List.set_cons_succ, hdr, qpi t (k + 1) i v l]
  rw [show k + 1 + i = k + (i + 1) by omega]
theorem qmP {rs : Rws} {i v v' : Nat} {l l' : List Int} (h : rs[i]? = some (v, l)) : ∀ id x, hget (qeQ 0 (rs.set i (v', l'))) id = some x → hget ((rid i, v', .arr 1 3 (eInt.E l')) :: qeQ 0 rs) id = some x := by
 refine qci (qe7 _ 0 fun j w m hm => ?_)
 rw [Nat.zero_add]
 by_cases e : i = j
 ·subst e
  have hi := (List.getElem?_eq_some_iff.1 h).1
  rw [List.getElem?_set_self hi] at hm
  cases hm
  exact qaY
 rw [List.getElem?_set_ne e] at hm
 rw [qaz (fun x => e (ql3 x).symm)]
 have := qcV 0 hm
 rwa [Nat.zero_add] at this
theorem qoc {s : AS} {G : AS → Prop} (oid ov : Nat) (e' : TypeId) (H : Heap) (n : Nat) (hoid : ∀ i, oid ≠ rid i) (hH : ∀ i, hget H (rid i) = none) (ho : hget H oid = none) :
  ∀ (m : Nat) (rs : Rws), rs.length + m = n → (∀ (i v : Nat) (l : List Int), rs[i]? = some (v, l) → l = []) → (∀ id x, hget ((oid, ov, .arr 1 e' (hdr 0 rs ++ List.replicate m (.v (.slice none 0 0)))) :: (H ++ qeQ 0 rs)) id = some x → hget s.heap id = some x) →
   (∀ rs : Rws, rs.length = n → (∀ (i v : Nat) (l : List Int), rs[i]? = some (v, l) → l = []) → G ⟨s.slots, (oid, ov, .arr 1 e' (hdr 0 rs)) :: (H ++ qeQ 0 rs)⟩) → s.to G
 | 0, rs, hn, hl, hs, h => by
  refine qa9 (s' := ⟨s.slots, (oid, ov, .arr 1 e' (hdr 0 rs)) :: (H ++ qeQ 0 rs)⟩) ⟨fun _ _ h => h, fun id x hx => hs id x ?_⟩ (h rs (by omega) hl)
  simpa using hx
 | m + 1, rs, hn, hl, hs, h => by
  have hc : (hdr 0 rs ++ List.replicate (m + 1) (HV.v (.slice none 0 0)))[rs.length]? = some (.v (.slice none 0 0)) := by
   rw [List.getElem?_append_right (by rw [qhf]; omega), qhf, Nat.sub_self]
   rfl
  refine qfv (qg5 (rid rs.length) oid ov 1 rs.length 1 3 e' (hs _ _ qaY) hc (hoid _) fun ver => ?_)
  have happ : ∀ (A B : Heap) (id : Nat), hget A id = none → hget (A ++ B) id = hget B id := by
   intro A B id
   induction A with
   | nil => intro _; rfl
   | cons a A ih =>
    obtain ⟨j, u, o⟩ := a
    intro h
    by_cases e : id = j
    ·subst e; rw [qaY] at h; cases h
    rw [qaz e] at h
    rw [List.cons_append, qaz e]
    exact ih h
  refine qfv (qa9 (s' := ⟨s.slots, (oid, ov, .arr 1 e' (hdr 0 (rs ++ [(ver, [])]) ++ List.replicate m (.v (.slice none 0 0)))) :: (H ++ qeQ 0 (rs ++ [(ver, [])]))⟩) ⟨fun _ _ h => h, fun id x hx => ?_⟩ ?_)
  ·have ecell : (hdr 0 rs ++ List.replicate (m + 1) (HV.v (.slice none 0 0))).set rs.length (.ar (rid rs.length) ver 1 0 0) = hdr 0 (rs ++ [(ver, [])]) ++ List.replicate m (.v (.slice none 0 0)) := by
    rw [qpj, Nat.zero_add, List.set_append_right _ _ (by rw [qhf]; omega), qhf, Nat.sub_self, List.replicate_succ, List.set_cons_zero, List.append_assoc]
    rfl
   by_cases e1 : id = oid
   ·subst e1
    rw [qaY] at hx
    rw [qaz (hoid _), qaY, ecell]
    exact hx
   rw [qaz e1] at hx
   by_cases e2 : id = rid rs.length
   ·subst e2
    rw [happ _ _ _ (hH _)] at hx
    have := qcV (rs := rs ++ [(ver, [])]) 0 (i := rs.length) (v := ver) (l := []) (by simp)
    rw [Nat.zero_add] at this
    rw [this] at hx
    rw [qaY]
    exact hx
   rw [qaz e2, qaz e1]
   refine hs id x ?_
   rw [qaz e1]
   -- not among the new rows
   by_cases e3 : ∃ y, hget H id = some y
   ·obtain ⟨y, hy⟩ := e3
    have hk : ∀ (A B : Heap), hget A id = some y → hget (A ++ B) id = some y := by
     intro A B
     induction A with
     | nil => intro h; cases h
     | cons a A ih =>
      obtain ⟨j, u, o⟩ := a
      intro h
      by_cases e : id = j
      ·subst e; rw [qaY] at h; rw [List.cons_append, qaY]; exact h
      rw [qaz e] at h
      rw [List.cons_append, qaz e]
      exact ih h
    rw [hk _ _ hy] at hx ⊢
    exact hx
   have hno : hget H id = none := by
    cases hh : hget H id with
    | none => rfl
    | some y => exact absurd ⟨y, hh⟩ e3
   rw [happ _ _ _ hno] at hx ⊢
   have := qrt (rs := rs) (v := ver) (l := []) (H := []) (fun _ => rfl) id x hx
   rw [qaz e2] at this
   exact this
  refine qoc oid ov e' H n hoid hH ho m (rs ++ [(ver, [])]) (by simp; omega) (fun i v l hi => ?_) (fun id x hx => hx) h
  by_cases hlt : i < rs.length
  ·rw [List.getElem?_append_left hlt] at hi
   exact hl i v l hi
  have hi2 := (List.getElem?_eq_some_iff.1 hi).1
  simp at hi2
  have : i = rs.length := by omega
  subst this
  simp at hi
  first | exact hi.2 | exact hi.2.symm
section
variable {α : Type} {en : EncL α} {et : TypeId}
structure InvG (b np sp : Nat) (base : List (Nat × HV)) (val : Nat → Nat → HV) (H0 : Heap) (H1 : Nat → Heap) (v' : Nat) (L : List Nat) (s : AS) : Prop where
 base : ∀ p ∈ base, sget s.slots p.1 = some p.2
 val : ∀ k ∈ L, k < np → sget s.slots (b + k) = some (val v' k)
 heap : ∀ id x, hget (if sp ∈ L then H1 v' else H0) id = some x → hget s.heap id = some x
theorem qgv {b i : Nat} {hv : HV} {sl : List (Nat × HV)} {t : Nat} (h : t ≠ b + i) : sget ((b + i, hv) :: sl) t = sget sl t := by simp only [sget]; rw [if_neg h]
theorem InvG.put {b np sp : Nat} {base : List (Nat × HV)} {val : Nat → Nat → HV} {H0 : Heap} {H1 : Nat → Heap} {v' : Nat} {L : List Nat} {sl : List (Nat × HV)} {H : Heap} (h : InvG b np sp base val H0 H1 v' L ⟨sl, H⟩) (hb : ∀ p ∈ base, p.1 < b) {i : Nat} (hi : i ≠ sp) {hv : HV} (hval : val v' i = hv) : InvG b np sp base val H0 H1 v' (i :: L) ⟨(b + i, hv) :: sl, H⟩ where
 base := fun p hp => by
  have := hb p hp
  show sget ((b + i, hv) :: sl) p.1 = _
  rw [qgv (by omega)]
  exact h.base p hp
 val := fun k hk h12 => by
  show sget ((b + i, hv) :: sl) (b + k) = _
  by_cases e : k = i
  ·subst e
   simp only [sget, if_true, hval]
  rw [qgv (by omega)]
  rcases List.mem_cons.1 hk with h1 | h1
  ·exact absurd h1 e
  exact h.val k h1 h12
 heap := fun id x hx => by
  refine h.heap id x ?_
  have : (sp ∈ i :: L) ↔ sp ∈ L := by
   rw [List.mem_cons]
   exact ⟨fun h => h.elim (fun e => absurd e.symm hi) (fun h => h), .inr⟩
  by_cases h11 : sp ∈ L
  ·rw [if_pos (this.2 h11)] at hx
   rw [if_pos h11]; exact hx
  rw [if_neg (fun h => h11 (this.1 h))] at hx
  rw [if_neg h11]; exact hx
theorem qpJ {p n : Nat} {L : List Nat} (hall : ∀ k, k < p ↔ k ∈ L) : (List.range n).all (fun i => L.contains i == (List.range p).contains i) = true := by
 rw [List.all_eq_true]
 intro i _
 have e : L.contains i = (List.range p).contains i := by
  rw [Bool.eq_iff_iff, List.contains_iff_mem, List.contains_iff_mem, List.mem_range]
  exact (hall i).symm
 rw [e]
 simp
end
end Go.AW
namespace Go.AW
open Go
structure InvT (b np : Nat) (base : List (Nat × HV)) (val : Nat → HV) (Hp : Heap → Prop) (L : List Nat) (s : AS) : Prop where
 base : ∀ p ∈ base, sget s.slots p.1 = some p.2
 val : ∀ k ∈ L, k < np → sget s.slots (b + k) = some (val k)
 heap : Hp s.heap
theorem InvT.put {b np : Nat} {base : List (Nat × HV)} {val : Nat → HV} {Hp : Heap → Prop} {L : List Nat} {sl : List (Nat × HV)} {H H' : Heap} (h : InvT b np base val Hp L ⟨sl, H⟩) (hb : ∀ p ∈ base, p.1 < b) {i : Nat} {hv : HV} (hval : val i = hv) (hH : Hp H') : InvT b np base val Hp (i :: L) ⟨(b + i, hv) :: sl, H'⟩ where
 base := fun p hp => by
  have := hb p hp
  show sget ((b + i, hv) :: sl) p.1 = _
  rw [qgv (by omega)]
  exact h.base p hp
 val := fun k hk h12 => by
  show sget ((b + i, hv) :: sl) (b + k) = _
  by_cases e : k = i
  ·subst e
   simp only [sget, if_true, hval]
  rw [qgv (by omega)]
  rcases List.mem_cons.1 hk with h1 | h1
  ·exact absurd h1 e
  exact h.val k h1 h12
 heap := hH
theorem AW.seqGr {P : Program} {ro : Option Nat} {N : Nat} {s : AS} {Q : Exit → AS → Prop} {x y : Code} (G : AS → Prop) (hx : AW P ro N x (fun e s' => (e = .normal ∧ G s') ∨ (e = .ret ∧ Q .ret s')) s) (hy : ∀ s', G s' → AW P ro N y Q s') : AW P ro N (.seq x y) Q s :=
 zad (hx.mono fun e s' h => by
  rcases h with ⟨rfl, hg⟩ | ⟨rfl, hr⟩
  ·exact hy s' hg
  exact hr)
theorem AW.seqG {P : Program} {ro : Option Nat} {N : Nat} {s : AS} {Q : Exit → AS → Prop} {x y : Code} (G : AS → Prop) (hx : AW P ro N x (fun e s' => e = .normal ∧ G s') s) (hy : ∀ s', G s' → AW P ro N y Q s') : AW P ro N (.seq x y) Q s :=
 zad (hx.mono fun e s' h => by
  obtain ⟨rfl, hg⟩ := h
  exact hy s' hg)
end Go.AW
namespace Go.AW
open Go
def qgK : Heap → Nat
 | [] => 0
 | (i, _) :: H => i + 1 + qgK H
theorem qlt : ∀ {H : Heap} {j : Nat} {x : Nat × AObj}, hget H j = some x → j < qgK H
 | [], _, _, h => by cases h
 | (i, v, o) :: H, j, x, h => by
  simp only [hget] at h
  show j < i + 1 + qgK H
  split at h
  ·omega
  have := qlt h
  omega
theorem qfa (H : Heap) : hget H (qgK H) = none := by
 cases h : hget H (qgK H) with
 | none => rfl
 | some x => exact absurd (qlt h) (Nat.lt_irrefl _)
theorem qe6 {i v : Nat} {o : AObj} {H : Heap} (h : hget H i = none) : ∀ j x, hget H j = some x → hget ((i, v, o) :: H) j = some x := by
 intro j x hx
 by_cases e : j = i
 ·subst e; rw [h] at hx; cases hx
 simp only [hget]; rw [if_neg e]; exact hx
theorem qkz {i v v2 : Nat} {o o2 : AObj} {H : Heap} : ∀ j x, hget ((i, v2, o2) :: H) j = some x → hget ((i, v2, o2) :: (i, v, o) :: H) j = some x := by
 intro j x hx
 by_cases e : j = i
 ·subst e; simp only [hget, if_true] at hx ⊢; exact hx
 simp only [hget] at hx ⊢; rw [if_neg e] at hx; rw [if_neg e, if_neg e]; exact hx
theorem qmh {i v : Nat} {o : AObj} {H : Heap} : ∀ j x, hget ((i, v, o) :: H) j = some x → hget (hset H i v o) j = some x := by
 intro j x hx
 rw [qal]
 simp only [hget] at hx
 exact hx
theorem qof {s : AS} {G : AS → Prop} (n : Nat) (D : Heap) (s' : AS) (h1 : leF n D s.slots s'.slots) (h2 : ∀ id x, hget s'.heap id = some x → hget s.heap id = some x) (h3 : ∀ id x, hget D id = some x → hget s.heap id = some x) (h4 : ∀ id x, hget D id = some x → hget s'.heap id = none) (h : G s') : s.to G := by
 intro ro N B μ a w hs
 refine ⟨μ.cut s'.heap, s', h, ⟨hs.size, hs.sr.sub h2, fun t hv ht => ?_, hs.marks.evo (Evo.cut w μ s'.heap), hs.ro.evo (Evo.cut w μ s'.heap)⟩, Evo.cut w μ s'.heap⟩
 obtain ⟨g, hg, rfl⟩ := qkA h1 t hv ht
 exact ⟨(hs.slot t g hg).1, qe9 hs.sr (fun id x hx => ⟨h3 id x hx, h4 id x hx⟩) n g _ (hs.slot t g hg).2⟩
end Go.AW
namespace Go.AW
open Go Go.Proofs
set_option maxHeartbeats 1600000
set_option maxRecDepth 100000
def valD (fp : HV) (E : List qam) (a : Int) (x y : qam) : Nat → HV
  | 0 | 6 => HV.fptr (match fp with | .fptr cs _ => cs | _ => []) 2
  | 1 | 7 => slE eFromLabelTo E
  | 2 | 8 => hI a
  | 3 => hI (IntKind.wrap .i64 (a - 1))
  | 4 => HV.fptr (eFromLabelTo.E E) ((IntKind.wrap .i64 (a - 1)).toNat * 3)
  | 5 => HV.agg [hI x.1, hI x.2.1, hI x.2.2]
  | 9 => HV.fptr (eFromLabelTo.E E) (a.toNat * 3)
  | _ => HV.agg [hI y.1, hI y.2.1, hI y.2.2]
abbrev zD : List HV := [hI 0, hI 0, hI 0]
structure InvD (fp : HV) (a : Int) (val : Nat → HV) (a5 a6 te : Nat) (c7 : List HV) (L : List Nat) (s : AS) : Prop where
  s1 : sget s.slots 1 = some fp
  s4 : sget s.slots 4 = some (hI a)
  val : ∀ k ∈ L, k < 11 → sget s.slots (17 + k) = some (val k)
  o5 : 11 ∈ L → ∃ v, sget s.slots 5 = some (HV.ptr a5 v 0) ∧ hget s.heap a5 = some (v, .arr 3 te (if 13 ∈ L then c7 else zD))
  o6 : 12 ∈ L → ∃ v, sget s.slots 6 = some (HV.ptr a6 v 0) ∧ hget s.heap a6 = some (v, .arr 3 te zD)
  d5 : 13 ∈ L → 11 ∈ L
section
variable {fp : HV} {a : Int} {val : Nat → HV} {a5 a6 te : Nat} {c7 : List HV} {L : List Nat} {sl : List (Nat × HV)} {H : Heap}
theorem qew {i j : Nat} (h : i ∈ j :: L) (hne : i ≠ j) : i ∈ L := (List.mem_cons.1 h).resolve_left hne
theorem qdu {i j : Nat} {v : HV} (h : i ≠ j) : sget ((j, v) :: sl) i = sget sl i := by simp only [sget]; rw [if_neg h]
theorem qlY {j : Nat} {v : HV} : sget ((j, v) :: sl) j = some v := by simp only [sget, if_true]
theorem InvD.put (h : InvD fp a val a5 a6 te c7 L ⟨sl, H⟩) {i : Nat} (hi : i < 11) {hv : HV} (hv' : val i = hv) : InvD fp a val a5 a6 te c7 (i :: L) ⟨(17 + i, hv) :: sl, H⟩ where
  s1 := (qdu (by omega)).trans h.s1
  s4 := (qdu (by omega)).trans h.s4
  val := fun k hk hlt => by
    show sget ((17 + i, hv) :: sl) (17 + k) = _
    by_cases e : k = i
    · subst e; rw [qlY, hv']
    exact (qdu (by omega)).trans (h.val k (qew hk e) hlt)
  o5 := fun hm => by
    obtain ⟨v, h1, h2⟩ := h.o5 (qew hm (by omega))
    refine ⟨v, (qdu (by omega)).trans h1, h2.trans ?_⟩
    have : (13 ∈ i :: L) ↔ 13 ∈ L := ⟨fun h => qew h (by omega), List.mem_cons_of_mem _⟩
    simp only [this]
  o6 := fun hm => by
    obtain ⟨v, h1, h2⟩ := h.o6 (qew hm (by omega))
    exact ⟨v, (qdu (by omega)).trans h1, h2⟩
  d5 := fun hm => List.mem_cons_of_mem _ (h.d5 (qew hm (by omega)))
theorem InvD.al5 (h : InvD fp a val a5 a6 te c7 L ⟨sl, H⟩) (hq : 11 ∉ L) (hne : a6 ≠ a5) (v : Nat) : InvD fp a val a5 a6 te c7 (11 :: L) ⟨(5, .ptr a5 v 0) :: sl, (a5, v, .arr 3 te zD) :: H⟩ where
  s1 := (qdu (by decide)).trans h.s1
  s4 := (qdu (by decide)).trans h.s4
  val := fun k hk hlt => (qdu (by omega)).trans (h.val k (qew hk (by omega)) hlt)
  o5 := fun _ => ⟨v, qlY, by
    have : ¬ 13 ∈ 11 :: L := fun hm => hq (h.d5 (qew hm (by decide)))
    rw [if_neg this]
    exact qaY⟩
  o6 := fun hm => by
    obtain ⟨v', h1, h2⟩ := h.o6 (qew hm (by decide))
    exact ⟨v', (qdu (by decide)).trans h1, (qaz hne).trans h2⟩
  d5 := fun _ => List.mem_cons_self ..
theorem InvD.al6 (h : InvD fp a val a5 a6 te c7 L ⟨sl, H⟩) (hq : 12 ∉ L) (hne : a5 ≠ a6) (v : Nat) : InvD fp a val a5 a6 te c7 (12 :: L) ⟨(6, .ptr a6 v 0) :: sl, (a6, v, .arr 3 te zD) :: H⟩ where
  s1 := (qdu (by decide)).trans h.s1
  s4 := (qdu (by decide)).trans h.s4
  val := fun k hk hlt => (qdu (by omega)).trans (h.val k (qew hk (by omega)) hlt)
  o5 := fun hm => by
    obtain ⟨v', h1, h2⟩ := h.o5 (qew hm (by decide))
    refine ⟨v', (qdu (by decide)).trans h1, ((qaz hne).trans h2).trans ?_⟩
    have : (13 ∈ 12 :: L) ↔ 13 ∈ L := ⟨fun h => qew h (by decide), List.mem_cons_of_mem _⟩
    simp only [this]
  o6 := fun _ => ⟨v, qlY, qaY⟩
  d5 := fun hm => List.mem_cons_of_mem _ (h.d5 (qew hm (by decide)))
theorem InvD.st5 (h : InvD fp a val a5 a6 te c7 L ⟨sl, H⟩) (hq : 11 ∈ L) {v : Nat} (hs : sget sl 5 = some (HV.ptr a5 v 0)) (hne : a6 ≠ a5) : InvD fp a val a5 a6 te c7 (13 :: L) ⟨sl, (a5, v, .arr 3 te c7) :: H⟩ where
  s1 := h.s1
  s4 := h.s4
  val := fun k hk hlt => h.val k (qew hk (by omega)) hlt
  o5 := fun _ => ⟨v, hs, by rw [if_pos (List.mem_cons_self ..)]; exact qaY⟩
  o6 := fun hm => by
    obtain ⟨v', h1, h2⟩ := h.o6 (qew hm (by decide))
    exact ⟨v', h1, (qaz hne).trans h2⟩
  d5 := fun _ => List.mem_cons_of_mem _ hq
end
theorem qfr {p0 : qaa} {r : Bool × Int} (h : qbo p0 = some r) : Pure Tryz.prog 94 [gA p0] (· = HV.tup [.bool r.1, hI r.2]) := by
 unfold qbo at h
 refine zaj Tryz.func94 rfl rfl (lb rfl) fun hf => ?_
 unfold Tryz.f94
 dsimp only [qaH, Nat.reduceAdd]
 refine zaa rfl fun K hK => b_op rfl (qa5 rfl rfl rfl ?_)
 refine mv rfl rfl (mv rfl rfl ?_)
 refine bf hK ⟨[(1, gF p0)], []⟩ ?_
 refine zad ?_
 refine zaa rfl fun K hK => bv rfl (qab ty27 rfl (qav rfl (lb rfl) rfl)) ?_
 obtain ⟨x1, h2, h⟩ := bS h
 refine b_op rfl (qaB rfl rfl rfl rfl (zai (qdd h2)) ?_)
 refine bv rfl (qae rfl rfl qcL) ?_
 refine bf hK ⟨[(1, gF p0), (9, .bool (decide (x1 ≠ 0)))], []⟩ ?_
 refine zae rfl (fun hc => ?_) (fun hc => ?_)
 ·obtain ⟨hc, h⟩ := cT hc h
  refine zaa rfl fun K hK => mv rfl rfl (mv rfl rfl ?_)
  refine bf hK ⟨[(2, .bool false), (3, hI 1)], []⟩ ?_
  obtain rfl := oi h
  exact AW.ret (qad (.inr rfl) (resT rfl (resT rfl rfl)) rfl ⟨trivial, trivial, trivial⟩)
 obtain ⟨hc, h⟩ := cF hc h
 refine zac ?_
 refine zad ?_
 refine zaa rfl fun K hK => mv rfl rfl ?_
 refine bf hK ⟨[(1, gF p0), (4, hI 1)], []⟩ ?_
 refine AW.lpR h (by first | exact qaG | exact qbp) (S := Int) (V := Unit) (fun a v => ⟨[(1, gF p0), (4, hI a)], []⟩) ?_ (X := Unit) (W := Unit) (fun a v => ⟨[], []⟩) (fun a17 w18 h => ?_) (fun a3 w4 st5 h hr6=> ?_)
 ·exact to_L ⟨(), rfl⟩
 ·refine zaa rfl fun K hK => mv rfl rfl (mv rfl rfl ?_)
  refine bf hK ⟨[(2, .bool true), (3, hI 0)], []⟩ ?_
  obtain rfl := oi h
  exact AW.ret (qad (.inr rfl) (resT rfl (resT rfl rfl)) rfl ⟨trivial, trivial, trivial⟩)
 refine zad ?_
 refine zaa rfl fun K hK => mv rfl rfl (bv rfl (qac qbi rfl) (bv rfl (qab ty25 rfl (qan rfl rfl)) (bv rfl (qaI rfl rfl ty25 rfl) (bv rfl (qae rfl rfl qaV) ?_))))
 refine bf hK ⟨[(1, gF p0), (4, hI a3), (14, .bool (decide (a3 < ((p0.2.2).length : Int))))], []⟩ ?_
 refine zae rfl (fun hc => ?_) (fun hc => ?_)
 ·obtain ⟨hc, h⟩ := cT hc h
  refine zac ?_
  refine zad (zaf ?_)
  obtain ⟨x7, h8, h⟩ := bS h
  obtain ⟨x9, h10, h⟩ := bS h
  refine AW.dls follows fun K hK F hFF => ?_
  refine qrL (F := F) hFF rfl 14 (by decide) rfl (fun L s => InvD (gF p0) a3 (valD (gF p0) p0.2.2 a3 x7 x9) 94005 94006 128 [hI x7.1, hI x7.2.1, hI x7.2.2] L s) ?stp ?fin 14 [] _ ⟨rfl, rfl, (fun _ h => by cases h), (fun h => by cases h), (fun h => by cases h), (fun h => by cases h)⟩ (fun k hk => by cases hk) List.nodup_nil rfl
  case stp =>
   rintro L ⟨sl, H⟩ q hJ hq hqL hdeps
   have h1 := hJ.s1
   have h4 := hJ.s4
   have val := hJ.val
   match q, hq with
   | 0, _ => exact l_op rfl rfl rfl (qaf rfl (qac qbi h1) (qah (hJ.put (by decide) rfl)))
   | 1, _ => exact l_op rfl rfl rfl (qaf rfl (qab ty25 (val 0 (hdeps 0 (by decide)) (by decide)) (qan rfl rfl)) (qah (hJ.put (by decide) rfl)))
   | 2, _ => exact l_op rfl rfl rfl (qaf rfl (qas rfl (show (⟨sl, _⟩ : AS).ev (.tmp 4) = _ from h4)).2 (qah (hJ.put (by decide) rfl)))
   | 3, _ => exact l_op rfl rfl rfl (qaf rfl (qae (val 2 (hdeps 2 (by decide)) (by decide)) rfl qhk) (qah (hJ.put (by decide) rfl)))
   | 4, _ => exact l_op rfl rfl rfl (qaf rfl (qaJ ty25 es25 (val 1 (hdeps 1 (by decide)) (by decide)) (val 3 (hdeps 3 (by decide)) (by decide)) (qaw h8)) (qah (hJ.put (by decide) rfl)))
   | 5, _ => exact l_op rfl rfl rfl (qaf rfl (qab qcN (val 4 (hdeps 4 (by decide)) (by decide)) (qlm eFromLabelTo h8 rfl rfl)) (qah (hJ.put (by decide) rfl)))
   | 6, _ => exact l_op rfl rfl rfl (qaf rfl (qac qbi h1) (qah (hJ.put (by decide) rfl)))
   | 7, _ => exact l_op rfl rfl rfl (qaf rfl (qab ty25 (val 6 (hdeps 6 (by decide)) (by decide)) (qan rfl rfl)) (qah (hJ.put (by decide) rfl)))
   | 8, _ => exact l_op rfl rfl rfl (qaf rfl (qas rfl (show (⟨sl, _⟩ : AS).ev (.tmp 4) = _ from h4)).2 (qah (hJ.put (by decide) rfl)))
   | 9, _ => exact l_op rfl rfl rfl (qaf rfl (qaJ ty25 es25 (val 7 (hdeps 7 (by decide)) (by decide)) (val 8 (hdeps 8 (by decide)) (by decide)) (qaw h10)) (qah (hJ.put (by decide) rfl)))
   | 10, _ => exact l_op rfl rfl rfl (qaf rfl (qab qcN (val 9 (hdeps 9 (by decide)) (by decide)) (qlm eFromLabelTo h10 rfl rfl)) (qah (hJ.put (by decide) rfl)))
   | 11, _ => exact l_op rfl rfl rfl (qba (fid := 94) (zs := [hI 0, hI 0, hI 0]) 94005 rfl rfl qcN rfl (fun v => qah (hJ.al5 hqL (by decide) v)))
   | 12, _ => exact l_op rfl rfl rfl (qba (fid := 94) (zs := [hI 0, hI 0, hI 0]) 94006 rfl rfl qcN rfl (fun v => qah (hJ.al6 hqL (by decide) v)))
   | 13, _ =>
    obtain ⟨v5, s5, g5⟩ := hJ.o5 (hdeps 11 (by decide))
    rw [if_neg hqL] at g5
    exact l_op rfl rfl rfl (qaD (cs := [hI x7.1, hI x7.2.1, hI x7.2.2]) (zs := [hI x7.1, hI x7.2.1, hI x7.2.2]) rfl s5 (val 5 (hdeps 5 (by decide)) (by decide)) qcN rfl g5 rfl rfl rfl (qah (hJ.st5 (hdeps 11 (by decide)) s5 (by decide))))
   | n + 14, h => exact absurd h (by omega)
  rintro L ⟨sl, H⟩ hJ hall
  have hin : ∀ q, q < 14 → q ∈ L := fun q hq => (hall q).1 hq
  obtain ⟨v11, s5, g5⟩ := hJ.o5 (hin 11 (by decide))
  obtain ⟨v12, s6, g6⟩ := hJ.o6 (hin 12 (by decide))
  rw [if_pos (hin 13 (by decide))] at g5
  refine l_go (L' := List.range 14) (s' := ⟨[(1, (gF p0)), (4, hI a3), (5, .ptr 94005 v11 0), (6, .ptr 94006 v12 0), (27, .agg [hI x9.1, hI x9.2.1, hI x9.2.2])], [(94005, v11, .arr 3 128 [hI x7.1, hI x7.2.1, hI x7.2.2]), (94006, v12, .arr 3 128 [hI 0, hI 0, hI 0])]⟩) hFF (qpJ hall) ?_ ⟨qaO ⟨hJ.s1, hJ.s4, s5, s6, hJ.val 10 (hin 10 (by decide)) (by decide), trivial⟩, qci ⟨g5, g6, trivial⟩⟩
  clear g5 g6 s5 s6 hin hall hJ H sl L
  refine qll hFF rfl [14] rfl rfl ⟨?_, trivial⟩
  refine l_op rfl rfl rfl (qaD (cs := [hI x9.1, hI x9.2.1, hI x9.2.2]) (zs := [hI x9.1, hI x9.2.1, hI x9.2.2]) rfl rfl rfl qcN rfl rfl rfl rfl rfl (qah ?_))
  refine l_go (L' := List.range 15) (s' := ⟨[(1, gF p0), (4, hI a3), (5, .ptr 94005 v11 0), (6, .ptr 94006 v12 0)], [(94005, v11, .arr 3 128 [hI x7.1, hI x7.2.1, hI x7.2.2]), (94006, v12, .arr 3 128 [hI x9.1, hI x9.2.1, hI x9.2.2])]⟩) hFF rfl ?_ ⟨qaO ⟨rfl, rfl, rfl, rfl, trivial⟩, qci ⟨rfl, rfl, trivial⟩⟩
  refine qpc hFF rfl rfl (hK _ ?_)
  clear hFF F
  refine zag h (S := Bool) (V := Unit) (fun a v => ⟨[(1, gF p0), (4, hI a3), (39, .bool a)], []⟩) (fun a13 w14 h => ?_) (fun k15 h => ?_)
  ·refine zae rfl (fun hc => ?_) (fun hc => ?_)
   ·have h := ifT hc h
    refine zaa rfl fun K hK => mv rfl rfl (mv rfl rfl ?_)
    refine bf hK ⟨[(2, .bool false), (3, hI 0)], []⟩ ?_
    have h := hr6 _ h
    obtain rfl := oi h
    exact AW.ret (qad (.inr rfl) (resT rfl (resT rfl rfl)) rfl ⟨trivial, trivial, trivial⟩)
   have h := ifF (bF' hc) h
   refine zac ?_
   refine zab rfl fun K hK => mv rfl rfl (bv rfl (qae rfl rfl qa6) (mv rfl rfl ?_))
   refine qah (hK _ ?_)
   exact to_L ⟨IntKind.wrap .i64 (a3 + 1), (), h, rfl⟩
  refine zab rfl fun K hK => bv rfl (qao qcC rfl rfl) (bv rfl (qar ty3 rfl rfl (qan rfl rfl)) (bv rfl (qao qcC rfl rfl) (bv rfl (qar ty3 rfl rfl (qan rfl rfl)) (bv rfl (qae rfl rfl qd1) (mv rfl rfl ?_)))))
  by_cases hg16 : x7.1 = x9.1
  ·have h := ifT hg16 h
   refine b_T rfl rfl rfl rfl (decide_eq_true hg16) (qaf rfl (qao qdC rfl rfl) ?_)
   refine b_T rfl rfl rfl rfl rfl (qaf rfl (qar ty3 rfl rfl (qan rfl rfl)) ?_)
   refine b_T rfl rfl rfl rfl rfl (qaf rfl (qao qdC rfl rfl) ?_)
   refine b_T rfl rfl rfl rfl rfl (qaf rfl (qar ty3 rfl rfl (qan rfl rfl)) ?_)
   refine b_T rfl rfl rfl rfl rfl (qaf rfl (qae rfl rfl qd1) ?_)
   refine bv rfl (qaj rfl rfl rfl) ?_
   refine qah (hK _ ?_)
   exact to_L ⟨decide (x7.2.1 = x9.2.1), (), h, rfl⟩
  have h := ifF hg16 h
  refine b_F rfl rfl rfl rfl rfl (decide_eq_false hg16) ?_
  iterate 4 refine b_F rfl rfl rfl rfl rfl rfl ?_
  refine bv rfl (qak rfl rfl rfl) ?_
  refine qah (hK _ ?_)
  exact to_L ⟨false, (), h, rfl⟩
 obtain ⟨hc, h⟩ := cF hc h
 refine AW.exit ?_
 exact to_L ⟨(), (), h, rfl⟩
end Go.AW
end
