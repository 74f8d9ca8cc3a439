import Derived.Test.YtlddcjolelmpmaaGreatCg3
/- The evaluation of closed code: one operation, a region, control, calls; and that what it gives is so. -/
namespace Go.AW
open Go
set_option linter.unusedSimpArgs false

structure Tabs where
  ty : TypeId → Option TyI
  fn : FuncId → Option Func
  ext : FuncId → List HV → Option HV
  /-- functions that sort in place: texts (true), numbers (false) -/
  sort : FuncId → Option Bool
  /-- the slots that are read behind a region: by the function's number of slots, and the region's number -/
  keep : Nat → Nat → Option (List Nat)
  /-- known results of functions that change nothing, at arguments that name no owned object -/
  extP : FuncId → List HV → Option HV := fun _ _ => none

structure Tabs.Ok (P : Program) (T : Tabs) : Prop where
  ty : TabOk P T.ty
  fn : ∀ f x, T.fn f = some x → P.funcs[f]? = some x ∧ (x.name == "runtime.NumGoroutine") = false
  ext : ∀ f args r, T.ext f args = some r → Fresh P f args r
  sortS : ∀ f, T.sort f = some true → SortsS P f
  sortI : ∀ f, T.sort f = some false → SortsI P f
  draw : P.follows .mixedOrders = true
  extP : ∀ f args r, T.extP f args = some r → Pure P f args (· = r) := by intro f args r h; cases h

def noIterB (id : Nat) : Heap → Bool
  | [] => true
  | (_, _, .iter m _ _ _) :: H => (!Nat.beq m id) && noIterB id H
  | _ :: H => noIterB id H

def unseen (seen : List (List UInt8)) : List (List UInt8 × HV) → List (List UInt8 × HV)
  | [] => []
  | (k, v) :: es => if k ∈ seen then unseen seen es else (k, v) :: unseen seen es

noncomputable def opBox (o : Oper) (s : AS) (n : Nat) (e : TypeId) (x : Operand) : Option (AS × Nat) := match s.evR x with
    | some hv => match hv.cells? with
      | some cs => new s n o.dst n (.arr cs.length e cs) (.ptr n n 0)
      | none => none
    | none => none
noncomputable def opAlloc (T : Tabs) (o : Oper) (s : AS) (n : Nat) (e : TypeId) : Option (AS × Nat) := match T.ty e with
    | some U => match zcells U.zero with
      | some zs => new s n o.dst n (.arr zs.length e zs) (.ptr n n 0)
      | none => none
    | none => none
noncomputable def opStore (T : Tabs) (o : Oper) (s : AS) (n : Nat) (t : TypeId) (x y : Operand) : Option (AS × Nat) := match s.evR x, s.evR y, T.ty t with
    | some (.ptr id ver off), some hv, some U => match hv.cells?, hgetR s.heap id with
      | some cs, some (ver', .arr k e xs) => guardO (Nat.beq ver ver' && (Nat.beq U.size cs.length && Nat.ble (off + cs.length) xs.length))
          (guardO (scL n (splice xs off cs)) (some (({ s with heap := hsetR s.heap id ver (.arr k e (splice xs off cs)) } : AS).putR o.dst (.v undef), n)))
      | _, _ => none
    | _, _, _ => none
noncomputable def opBuildSlice (T : Tabs) (o : Oper) (s : AS) (n : Nat) (t : TypeId) (m : Nat) (ps : Array (Nat × Operand)) : Option (AS × Nat) := guardO (Nat.ble m 16777216) (match sslice T.ty s t m ps.toList with
    | some (k, e, cs) => new s n o.dst n (.arr k e cs) (.ar n n k 0 m)
    | none => none)
noncomputable def opMakeSlice (T : Tabs) (o : Oper) (s : AS) (n : Nat) (t : TypeId) (x y : Operand) : Option (AS × Nat) := match T.ty t, s.evR x, s.evR y with
    | some ⟨.slice e, _, _, _⟩, some (.int .i64 l), some (.int .i64 c) => match T.ty e with
      | some Te => match zcells Te.zero with
        | some zs => guardO (Nat.beq zs.length Te.size && decide (0 ≤ l ∧ l ≤ c ∧ c * Te.bytes ≤ 281474976710656)) (new s n o.dst n (.arr Te.size e (zrep zs l.toNat)) (.ar n n Te.size 0 l.toNat))
        | none => none
      | none => none
    | _, _, _ => none
noncomputable def opAppend (T : Tabs) (o : Oper) (s : AS) (n : Nat) (aa : Array Operand) (ts : Array TypeId) : Option (AS × Nat) := match aa.toList, ts.toList with
    | [x, y], [t, xt] => match T.ty t, s.evR x, s.evR y with
      | some ⟨.slice e, _, _, _⟩, some hx, some hy => match T.ty e with
        | some Te => match sbase s Te.size e hx, ssrc T.ty s xt Te.size hy with
          | some (m, cs), some (m', ds) => guardO ((zcells Te.zero).any (fun zs => zs.length == Te.size) && (Nat.ble ((m + m') * Te.bytes) 140737488355328 && Nat.ble (m + m') maxLen))
              (new s n o.dst (baseId hx n) (.arr Te.size e (cs ++ ds)) (.ar (baseId hx n) n Te.size 0 (m + m')))
          | _, _ => none
        | none => none
      | _, _, _ => none
    | _, _ => none
noncomputable def opClear (T : Tabs) (o : Oper) (s : AS) (n : Nat) (aa : Array Operand) (ts : Array TypeId) : Option (AS × Nat) := match aa.toList, ts.toList with
    | [x], [t] => match T.ty t, s.evR x with
      | some ⟨.slice e, _, _, _⟩, some (.ar id ver _ off n') => match T.ty e, hgetR s.heap id with
        | some Te, some (ver', .arr k' e' xs) => match zcells Te.zero with
          | some [z] => guardO (Nat.beq ver ver' && Nat.ble (off + n') xs.length) (guardO (scL n (xs.take off ++ List.replicate n' z ++ xs.drop (off + n')))
              (some (({ s with heap := hsetR s.heap id ver (.arr k' e' (xs.take off ++ List.replicate n' z ++ xs.drop (off + n'))) } : AS).putR o.dst (.tup []), n)))
          | _ => none
        | _, _ => none
      | _, _ => none
    | _, _ => none
noncomputable def opCopy (T : Tabs) (o : Oper) (s : AS) (n : Nat) (aa : Array Operand) (ts : Array TypeId) : Option (AS × Nat) := match aa.toList, ts.toList with
    | [x, y], [t, xt] => match T.ty t, s.evR x, s.evR y with
      | some ⟨.slice e, _, _, _⟩, some (.ar id ver _ off n'), some hy => match T.ty e, hgetR s.heap id with
        | some Te, some (ver', .arr k' e' xs) => match ssrc T.ty s xt Te.size hy with
          | some (m, ds) => guardO (Nat.beq ver ver' && (!isStr hy && Nat.ble (off + n' * Te.size) xs.length)) (guardO (scL n (xs.take off ++ ds.take (min m n' * Te.size) ++ xs.drop (off + min m n' * Te.size)))
              (some (({ s with heap := hsetR s.heap id ver (.arr k' e' (xs.take off ++ ds.take (min m n' * Te.size) ++ xs.drop (off + min m n' * Te.size))) } : AS).putR o.dst (.int .i64 ((min m n' : Nat) : Int)), n)))
          | none => none
        | _, _ => none
      | _, _, _ => none
    | _, _ => none
noncomputable def opCall (r : Task → Option Out) (o : Oper) (s : AS) (n : Nat) (f : Operand) (aa : Array Operand) : Option (AS × Nat) := match s.evR f, aa.toList.mapM s.evR with
    | some (.fn (.func g) fs cs), some hs => guardO (scL n (fs ++ hs ++ cs)) (match r (.call g (fs ++ hs ++ cs) s.heap n) with
      | some (.call rv H n') => some (({ s with heap := H } : AS).putR o.dst rv, n')
      | _ => none)
    | some (.yl id ver), some hs => match hgetR s.heap id with
      | some (ver', .loop .ready none f m snap ps assign body) => guardO (Nat.beq ver ver' && (Nat.beq ps.size hs.length && (ps.toList.all fun p => Nat.blt p m))) (guardO (scS n (setPs snap ps.toList hs))
          (match r (.code false m assign ⟨setPs snap ps.toList hs, s.heap⟩ n) with
          | some (.code .normal s1 n1) => match hgetR s1.heap id with
            | some (_, .loop .ready none _ _ _ _ _ _) => match r (.code false m body { s1 with heap := hsetR s1.heap id ver (.loop .busy none f m snap ps assign body) } n1) with
              | some (.code e s2 n2) => match hgetR s2.heap id with
                | some (_, .loop .busy none _ _ _ _ _ _) => match e with
                  | .normal => some (({ s with heap := hsetR s2.heap id ver (.loop .ready none f m snap ps assign body) } : AS).putR o.dst (.bool true), n2)
                  | .ret => some (({ s with heap := hsetR s2.heap id ver (.loop .done (some .ret) f m snap ps assign body) } : AS).putR o.dst (.bool false), n2)
                  | .exit i => some (({ s with heap := hsetR s2.heap id ver (.loop .done (some (.exit i)) f m snap ps assign body) } : AS).putR o.dst (.bool false), n2)
                  | _ => none
                | _ => none
              | _ => none
            | _ => none
          | _ => none))
      | _ => none
    | _, _ => none
noncomputable def opBuild (T : Tabs) (o : Oper) (s : AS) (n : Nat) (t : TypeId) (ps : Array (Nat × Operand)) : Option (AS × Nat) := match sbuild T.ty s t ps.toList with
    | some r => fin s n o.dst r
    | none => none
noncomputable def opMapUpdate (T : Tabs) (o : Oper) (s : AS) (n : Nat) (t : TypeId) (m x y : Operand) : Option (AS × Nat) := match T.ty t, s.evR m, s.evR x, s.evR y with
    | some ⟨.map kt _, _, _, _⟩, some (.mp id ver), some (.str k), some hv => match T.ty kt, hgetR s.heap id with
      | some ⟨.string, _, _, _⟩, some (ver', .map es) => guardO (Nat.beq ver ver' && noIterB id s.heap) (guardO (scE n (mput k hv es))
          (some (({ s with heap := hsetR s.heap id ver (.map (mput k hv es)) } : AS).putR o.dst (.v undef), n)))
      | _, _ => none
    | _, _, _, _ => none
noncomputable def opLookup (T : Tabs) (o : Oper) (s : AS) (n : Nat) (t : TypeId) (m x : Operand) : Option (AS × Nat) := match T.ty t, s.evR m, s.evR x with
    | some ⟨.map kt et, _, _, _⟩, some (.mp id ver), some (.str k) => match T.ty kt, T.ty et, hgetR s.heap id with
      | some ⟨.string, _, _, _⟩, some Te, some (ver', .map es) => match constHV Te.zero with
        | some z => guardO (Nat.beq ver ver') (fin s n o.dst ((alook k es).getD z))
        | none => none
      | _, _, _ => none
    | _, _, _ => none
noncomputable def opRange (T : Tabs) (o : Oper) (s : AS) (n : Nat) (t : TypeId) (m : Operand) : Option (AS × Nat) := match T.ty t, s.evR m with
    | some ⟨.map _ _, _, _, _⟩, some (.mp mid mver) => match hgetR s.heap mid with
      | some (mver', .map _) => guardO (Nat.beq mver mver') (new s n o.dst n (.iter mid mver [] false) (.it n n))
      | _ => none
    | _, _ => none
noncomputable def opNext (o : Oper) (s : AS) (n : Nat) (x : Operand) : Option (AS × Nat) := match s.evR x with
    | some (.it id ver) => match hgetR s.heap id with
      | some (ver', .iter mid mver seen _) => match hgetR s.heap mid with
        | some (mver', .map es) => guardO (Nat.beq ver ver' && Nat.beq mver mver') (match unseen seen es with
          | [] => fin s n o.dst (.tup [.bool false])
          | [(k, v)] => guardO (v.sc n) (some (({ s with heap := hsetR s.heap id ver (.iter mid mver (k :: seen) true) } : AS).putR o.dst (.tup [.bool true, .str k, v]), n))
          | _ => none)
        | _ => none
      | _ => none
    | _ => none
noncomputable def opEntry (o : Oper) (s : AS) (n : Nat) (x : Operand) : Option (AS × Nat) := match s.evR x with
    | some (.it id ver) => match hgetR s.heap id with
      | some (ver', .iter mid mver (k :: _) true) => match hgetR s.heap mid with
        | some (mver', .map es) => guardO (Nat.beq ver ver' && Nat.beq mver mver') (match alook k es with
          | some v => fin s n o.dst (.tup [.str k, v])
          | none => none)
        | _ => none
      | _ => none
    | _ => none

noncomputable def sop (r : Task → Option Out) (T : Tabs) (o : Oper) (s : AS) (n : Nat) : Option (AS × Nat) :=
  match o.op with
  | .box e x => opBox o s n e x
  | .alloc e => opAlloc T o s n e
  | .store t x y => opStore T o s n t x y
  | .buildSlice t m ps => opBuildSlice T o s n t m ps
  | .makeSlice t x y => opMakeSlice T o s n t x y
  | .call ⟨.builtin .append, aa, ts⟩ => opAppend T o s n aa ts
  | .call ⟨.builtin .clear, aa, ts⟩ => opClear T o s n aa ts
  | .call ⟨.builtin .copy, aa, ts⟩ => opCopy T o s n aa ts
  | .call ⟨.value f, aa, _⟩ => opCall r o s n f aa
  | .build t ps => opBuild T o s n t ps
  | .makeMap _ none => new s n o.dst n (.map []) (.mp n n)
  | .mapUpdate t m x y => opMapUpdate T o s n t m x y
  | .insert t m x y => opMapUpdate T o s n t m x y
  | .lookup t m x false => opLookup T o s n t m x
  | .range t m => opRange T o s n t m
  | .next x false => opNext o s n x
  | .entry x => opEntry o s n x
  | op => match sval T.ty op s with
    | some h => fin s n o.dst h
    | none => none

theorem alook_ren (ρ : Nat → Nat) (k : List UInt8) : ∀ es, alook k (renE ρ es) = (alook k es).map (HV.ren ρ)
  | [] => rfl
  | (q, h) :: es => by
    simp only [renE, alook]
    split
    · rfl
    · exact alook_ren ρ k es

theorem mput_ren (ρ : Nat → Nat) (k : List UInt8) (h : HV) : ∀ es, renE ρ (mput k h es) = mput k (h.ren ρ) (renE ρ es)
  | [] => rfl
  | (q, g) :: es => by
    simp only [renE, mput]
    split
    · rfl
    · simp only [renE, mput_ren ρ k h es]

theorem noIterB_sound {id : Nat} {ρ : Nat → Nat} : ∀ {H : Heap}, noIterB id H = true → noIter id (renH ρ H)
  | [], _ => trivial
  | (i, v, .iter m mv seen cur) :: H, h => by
    simp only [noIterB, Bool.and_eq_true] at h
    refine ⟨fun e => ?_, noIterB_sound h.2⟩
    subst e
    simp at h
  | (i, v, .arr _ _ _) :: H, h => noIterB_sound (H := H) h
  | (i, v, .map _) :: H, h => noIterB_sound (H := H) h
  | (i, v, .loop _ _ _ _ _ _ _ _) :: H, h => noIterB_sound (H := H) h

theorem mem_renE {ρ : Nat → Nat} {k : List UInt8} {v : HV} : ∀ {es : List (List UInt8 × HV)}, (k, v) ∈ renE ρ es → ∃ u, (k, u) ∈ es ∧ v = u.ren ρ
  | [], h => by cases h
  | (q, g) :: es, h => by
    simp only [renE, List.mem_cons] at h
    rcases h with h | h
    · cases h; exact ⟨g, List.mem_cons_self .., rfl⟩
    · obtain ⟨u, h1, h2⟩ := mem_renE h
      exact ⟨u, List.mem_cons_of_mem _ h1, h2⟩

theorem mem_renE' {ρ : Nat → Nat} {k : List UInt8} {u : HV} : ∀ {es : List (List UInt8 × HV)}, (k, u) ∈ es → (k, u.ren ρ) ∈ renE ρ es
  | [], h => by cases h
  | (q, g) :: es, h => by
    simp only [renE, List.mem_cons] at h ⊢
    rcases h with h | h
    · cases h; exact .inl rfl
    · exact .inr (mem_renE' h)

theorem mem_unseen {seen : List (List UInt8)} {k : List UInt8} {v : HV} : ∀ {es : List (List UInt8 × HV)}, (k, v) ∈ unseen seen es ↔ (k, v) ∈ es ∧ k ∉ seen
  | [] => by simp [unseen]
  | (q, g) :: es => by
    simp only [unseen]
    split
    · rename_i hq
      rw [mem_unseen (es := es)]
      simp only [List.mem_cons]
      constructor
      · exact fun h => ⟨.inr h.1, h.2⟩
      · rintro ⟨h | h, h2⟩
        · cases h; exact absurd hq h2
        · exact ⟨h, h2⟩
    · rename_i hq
      simp only [List.mem_cons, mem_unseen (es := es)]
      constructor
      · rintro (h | h)
        · cases h; exact ⟨.inl rfl, hq⟩
        · exact ⟨.inr h.1, h.2⟩
      · rintro ⟨h | h, h2⟩
        · exact .inl h
        · exact .inr ⟨h, h2⟩

section
variable {P : Program} {T : Tabs} {N n n' : Nat} {o : Oper} {s s' : AS} {r : Task → Option Out}

theorem set_ok {id ver : Nat} {x ob : AObj} {h : HV} (hs : s.sc n = true) (hg : hget s.heap id = some (ver, x)) (hx : ∀ st pend f n snap ps a b, x ≠ .loop st pend f n snap ps a b) (ho : ob.sc n = true) (hh : h.sc n = true)
    (hk : ∀ (ρ : Nat → Nat) (ro : Option Nat) (K : AS → Prop), K ((⟨(s.ren ρ).slots, hset (s.ren ρ).heap id (ρ ver) (ob.ren ρ)⟩ : AS).put o.dst (h.ren ρ)) → AOp P ro N o K (s.ren ρ)) :
    OpOk P N o s n (({ s with heap := hset s.heap id ver ob } : AS).put o.dst h) n := by
  have hl := sch_get (sc_heap_of hs) hg
  refine ⟨sc_put (sc_heap hs hl.1.1 hl.1.2 ho) hh, ?_, fun ρ ro K hK => hk ρ ro K ?_⟩
  · rw [put_heap']
    exact ⟨Nat.le_refl _, LoopKeep.set fun v st pend f n snap ps a b e => by rw [hg] at e; cases e; exact hx _ _ _ _ _ _ _ _ rfl, Back.set (.inr ⟨_, hg⟩)⟩
  · have := hK ρ (Agree.refl _ _)
    rw [ren_put] at this
    simpa only [AS.ren, renH_set] using this

theorem evL_sc {xs : List Operand} {hs : List HV} (h : xs.mapM s.ev = some hs) (ρ : Nat → Nat) : xs.mapM (s.ren ρ).ev = some (renL ρ hs) := by rw [evL_ren, h]; rfl

theorem setPs_ren (ρ : Nat → Nat) : ∀ (ps : List Tmp) (snap : List (Nat × HV)) (hs : List HV), renS ρ (setPs snap ps hs) = setPs (renS ρ snap) ps (renL ρ hs)
  | [], snap, hs => by simp [setPs]
  | p :: ps, snap, [] => by simp [setPs, renL]
  | p :: ps, snap, h :: hs => by simp only [setPs, renL, setPs_ren ρ ps, renS_set]

theorem sval_ok (hT : T.Ok P) (hN : okd N o.dst = true) (hs : s.sc n = true) (h : (match sval T.ty o.op s with
    | some h => fin s n o.dst h
    | none => none) = some (s', n')) : OpOk P N o s n s' n' := by
  split at h
  · rename_i hv hev
    exact fin_ok hs h fun ρ ro K hK => AOp.pure hN (sval_sound hT.ty hev hK)
  · cases h

theorem yield_ok (hr : Good P r) (hN : okd N o.dst = true) (hs : s.sc n = true) {c : Call} {g : Operand} {id ver : Nat} {hs' : List HV} (hop : o.op = .call c) (hc : c.callee = .value g) (hg : s.ev g = some (.yl id ver)) (ha : c.args.toList.mapM s.ev = some hs')
    (h : (match hget s.heap id with
      | some (ver', .loop .ready none f m snap ps assign body) => guardO (Nat.beq ver ver' && (Nat.beq ps.size hs'.length && (ps.toList.all fun p => Nat.blt p m))) (guardO (scS n (setPs snap ps.toList hs'))
          (match r (.code false m assign ⟨setPs snap ps.toList hs', s.heap⟩ n) with
          | some (.code .normal s1 n1) => match hget s1.heap id with
            | some (_, .loop .ready none _ _ _ _ _ _) => match r (.code false m body { s1 with heap := hset s1.heap id ver (.loop .busy none f m snap ps assign body) } n1) with
              | some (.code e s2 n2) => match hget s2.heap id with
                | some (_, .loop .busy none _ _ _ _ _ _) => match e with
                  | .normal => some (({ s with heap := hset s2.heap id ver (.loop .ready none f m snap ps assign body) } : AS).put o.dst (.bool true), n2)
                  | .ret => some (({ s with heap := hset s2.heap id ver (.loop .done (some .ret) f m snap ps assign body) } : AS).put o.dst (.bool false), n2)
                  | .exit i => some (({ s with heap := hset s2.heap id ver (.loop .done (some (.exit i)) f m snap ps assign body) } : AS).put o.dst (.bool false), n2)
                  | _ => none
                | _ => none
              | _ => none
            | _ => none
          | _ => none))
      | _ => none) = some (s', n')) : OpOk P N o s n s' n' := by
  have hsh := sc_heap_of hs
  split at h
  · rename_i ver' f m snap ps assign body hgl
    replace h := guardO_some h
    obtain ⟨h1, h⟩ := h
    replace h := guardO_some h
    obtain ⟨h2, h⟩ := h
    simp only [Bool.and_eq_true, List.all_eq_true] at h1
    have hv := Nat.eq_of_beq_eq_true h1.1
    subst hv
    have hps := Nat.eq_of_beq_eq_true h1.2.1
    have hpm : ∀ p ∈ ps.toList, p < m := fun p hp => blt_lt (h1.2.2 p hp)
    have hlsc := sch_get hsh hgl
    split at h
    · rename_i s1 n1 hr1
      obtain ⟨hs1, st1, hw1⟩ := hr _ _ hr1 (by simp only [AS.sc, h2, hsh, Bool.and_self])
      split at h
      · rename_i v1 f1 m1 snap1 ps1 as1 bd1 hg1
        obtain ⟨_, _, he1⟩ := st1.loop _ _ _ _ _ _ _ _ _ _ hgl _ hg1
        cases he1
        have hlsc1 := sch_get (sc_heap_of hs1) hg1
        have hsb : ({ s1 with heap := hset s1.heap id ver (.loop .busy none f m snap ps assign body) } : AS).sc n1 = true := sc_heap hs1 hlsc1.1.1 hlsc1.1.2 hlsc1.2
        split at h
        · rename_i e s2 n2 hr2
          obtain ⟨hs2, st2, hw2⟩ := hr _ _ hr2 hsb
          have stb : Step n1 n1 s1.heap (hset s1.heap id ver (.loop .busy none f m snap ps assign body)) := ⟨Nat.le_refl _, LoopKeep.setL hg1, Back.set (.inr ⟨_, hg1⟩)⟩
          have st12 := (st1.trans hsh stb).trans hsh st2
          split at h
          · rename_i v2 f2 m2 snap2 ps2 as2 bd2 hg2
            obtain ⟨_, _, he2⟩ := st12.loop _ _ _ _ _ _ _ _ _ _ hgl _ hg2
            cases he2
            have hlsc2 := sch_get (sc_heap_of hs2) hg2
            -- what a round comes to
            have done : ∀ (st : LoopState) (pend : Option Code) (b : Bool), (∀ (ρ' : Nat → Nat) (K : HV → Heap → Prop) (e' : Exit), e' = e →
                  K (.bool b) (hset (s2.ren ρ').heap id (ρ' ver) (.loop st pend (ρ' f) m (renS ρ' snap) ps assign body)) → rndQ id (ρ' ver) (ρ' f) m (renS ρ' snap) ps assign body K e' (s2.ren ρ')) →
                OpOk P N o s n (({ s with heap := hset s2.heap id ver (.loop st pend f m snap ps assign body) } : AS).put o.dst (.bool b)) n2 := by
              intro st pend b hq
              have hsn : ({ s with heap := hset s2.heap id ver (.loop st pend f m snap ps assign body) } : AS).sc n2 = true := by
                have := scS_mono st12.le _ (sc_slots_of hs)
                have h3 := scH_set _ id ver (.loop st pend f m snap ps assign body) (sc_heap_of hs2) hlsc2.1.1 hlsc2.1.2 hlsc2.2
                simp only [AS.sc, this, h3, Bool.and_self]
              refine ⟨sc_put hsn rfl, ?_, fun ρ ro K hK => ?_⟩
              · rw [put_heap']
                exact st12.trans hsh ⟨Nat.le_refl _, LoopKeep.setL hg2, Back.set (.inr ⟨_, hg2⟩)⟩
              · have hg' : (s.ren ρ).ev g = some (.yl id (ρ ver)) := by rw [ev_ren, hg]; rfl
                refine AOp.yield hop hc hN hg' (evL_sc ha ρ) ?_
                refine ⟨ρ f, m, renS ρ snap, ps, assign, body, hget_s ρ hgl, by rw [renL_len]; exact hps, hpm, fun l => ?_⟩
                have e0 : (⟨setPs (renS ρ snap) ps.toList (renL ρ hs'), (s.ren ρ).heap⟩ : AS) = (⟨setPs snap ps.toList hs', s.heap⟩ : AS).ren ρ := by simp only [AS.ren, setPs_ren]
                rw [e0]
                refine hw1 ρ (some l) _ (fun h => by cases h) fun ρ1 ha1 => ⟨rfl, ?_, ?_⟩
                · have := hget_s ρ1 hg1
                  simp only [AObj.ren] at this
                  rw [this, ha1 ver hlsc.1.2]
                  have h4 := hlsc.2
                  simp only [AObj.sc, Bool.and_eq_true] at h4
                  rw [ha1 f (blt_lt h4.1), renS_agree ha1 _ h4.2]
                · have h4 := hlsc.2
                  simp only [AObj.sc, Bool.and_eq_true] at h4
                  have e1 : ({ s1.ren ρ1 with heap := hset (s1.ren ρ1).heap id (ρ ver) (.loop .busy none (ρ f) m (renS ρ snap) ps assign body) } : AS) = ({ s1 with heap := hset s1.heap id ver (.loop .busy none f m snap ps assign body) } : AS).ren ρ1 := by
                    simp only [AS.ren, renH_set, AObj.ren]
                    rw [ha1 ver hlsc.1.2, ha1 f (blt_lt h4.1), renS_agree ha1 _ h4.2]
                  rw [e1]
                  refine hw2 ρ1 (some l) _ (fun h => by cases h) fun ρ2 ha2 => ?_
                  have ha02 : Agree n ρ ρ2 := ha1.trans st1.le ha2
                  rw [ha02 ver hlsc.1.2, ha02 f (blt_lt h4.1), renS_agree ha02 _ h4.2]
                  refine hq ρ2 _ e rfl ?_
                  have := hK ρ2 ha02
                  rw [ren_put] at this
                  have e2 : ({ s with heap := hset s2.heap id ver (.loop st pend f m snap ps assign body) } : AS).ren ρ2 = { s.ren ρ with heap := hset (s2.ren ρ2).heap id (ρ2 ver) (.loop st pend (ρ2 f) m (renS ρ2 snap) ps assign body) } := by
                    simp only [AS.ren, renH_set, AObj.ren]
                    rw [renS_agree ha02 _ (sc_slots_of hs)]
                  rw [e2] at this
                  exact this
            have hgb : ∀ ρ' : Nat → Nat, hget (s2.ren ρ').heap id = some (ρ' ver, .loop .busy none (ρ' f) m (renS ρ' snap) ps assign body) := fun ρ' => hget_s ρ' hg2
            split at h
            · cases h
              exact done _ _ _ fun ρ' K e' he hK => by subst he; exact ⟨hgb ρ', hK⟩
            · cases h
              exact done _ _ _ fun ρ' K e' he hK => by subst he; exact ⟨hgb ρ', hK⟩
            · cases h
              exact done _ _ _ fun ρ' K e' he hK => by subst he; exact ⟨hgb ρ', hK⟩
            · cases h
          · cases h
        · cases h
      · cases h
    · cases h
  · cases h

theorem sop_ok (hT : T.Ok P) (hr : Good P r) (hN : okd N o.dst = true) (hs : s.sc n = true) (h : sop r T o s n = some (s', n')) : OpOk P N o s n s' n' := by
  have hsh := sc_heap_of hs
  have self : ∀ m, Nat.blt m (m + 1) = true := fun m => by simp [Nat.blt_eq]
  unfold sop at h
  split at h
  · -- box
    rename_i e x hop
    unfold opBox at h
    try simp only [evR_eq, hgetR_eq, hsetR_eq, sgetR_eq, putR_eq, aslR_eq, apartsR_eq] at h
    split at h
    · rename_i hv hx
      split at h
      · rename_i cs hcs
        refine new_ok (ob := .arr cs.length e cs) (h := .ptr n n 0) hs (.inl rfl) (self n) h fun ρ ro K hK => ?_
        have h1 : (s.ren ρ).ev x = some (hv.ren ρ) := by rw [ev_ren, hx]; rfl
        have h2 : (hv.ren ρ).cells? = some (renL ρ cs) := by rw [cells_ren, hcs]; rfl
        refine AOp.boxM n hop hN h1 h2 fun ver => ?_
        have := hK ver
        simp only [HV.ren, upd_at, AObj.ren] at this
        rw [renL_len]
        exact this
      · cases h
    · cases h
  · -- alloc
    rename_i e hop
    unfold opAlloc at h
    try simp only [evR_eq, hgetR_eq, hsetR_eq, sgetR_eq, putR_eq, aslR_eq, apartsR_eq] at h
    split at h
    · rename_i U hU
      split at h
      · rename_i zs hz
        refine new_ok (ob := .arr zs.length e zs) (h := .ptr n n 0) hs (.inl rfl) (self n) h fun ρ ro K hK => ?_
        refine AOp.alloc n hop hN (hT.ty _ _ hU) hz fun ver => ?_
        have := hK ver
        simp only [HV.ren, upd_at, AObj.ren, zcells_ren ρ hz] at this
        exact this
      · cases h
    · cases h
  · -- store
    rename_i t x y hop
    unfold opStore at h
    try simp only [evR_eq, hgetR_eq, hsetR_eq, sgetR_eq, putR_eq, aslR_eq, apartsR_eq] at h
    split at h
    · rename_i id ver off hv U hx hy hU
      split at h
      · rename_i cs ver' k e xs hcs hg
        replace h := guardO_some h
        obtain ⟨h1, h⟩ := h
        replace h := guardO_some h
        obtain ⟨h2, h⟩ := h
        cases h
        simp only [Bool.and_eq_true] at h1
        have hv' := Nat.eq_of_beq_eq_true h1.1
        subst hv'
        refine set_ok (x := .arr k e xs) hs hg (by intros; simp) h2 rfl fun ρ ro K hK => ?_
        have e1 : (s.ren ρ).ev x = some (.ptr id (ρ ver) off) := by rw [ev_ren, hx]; rfl
        have e2 : (s.ren ρ).ev y = some (hv.ren ρ) := by rw [ev_ren, hy]; rfl
        have e3 : (hv.ren ρ).cells? = some (renL ρ cs) := by rw [cells_ren, hcs]; rfl
        refine AOp.store hop hN e1 e2 e3 (hget_s ρ hg) (hT.ty _ _ hU) (by rw [renL_len]; exact Nat.eq_of_beq_eq_true h1.2.1) (by rw [renL_len, renL_len]; exact Nat.le_of_ble_eq_true h1.2.2) ?_
        simp only [AObj.ren, renL_splice] at hK
        exact hK
      · cases h
    · cases h
  · -- buildSlice
    rename_i t m ps hop
    unfold opBuildSlice at h
    try simp only [evR_eq, hgetR_eq, hsetR_eq, sgetR_eq, putR_eq, aslR_eq, apartsR_eq] at h
    replace h := guardO_some h
    obtain ⟨h1, h⟩ := h
    split at h
    · rename_i k e cs hsl
      refine new_ok (ob := .arr k e cs) (h := .ar n n k 0 m) hs (.inl rfl) (self n) h fun ρ ro K hK => ?_
      refine AOp.buildSliceM n hop hN (Nat.le_of_ble_eq_true h1) (sslice_sound hT.ty hsl fun ver => ?_)
      have := hK ver
      simp only [HV.ren, upd_at, AObj.ren] at this
      exact this
    · cases h
  · -- makeSlice
    rename_i t x y hop
    unfold opMakeSlice at h
    try simp only [evR_eq, hgetR_eq, hsetR_eq, sgetR_eq, putR_eq, aslR_eq, apartsR_eq] at h
    split at h
    · rename_i e sz by' z l c hU hx hy
      split at h
      · rename_i Te hTe
        split at h
        · rename_i zs hz
          replace h := guardO_some h
          obtain ⟨h1, h⟩ := h
          simp only [Bool.and_eq_true] at h1
          obtain ⟨h2, h3, h4⟩ := of_decide_eq_true h1.2
          refine new_ok (ob := .arr Te.size e (zrep zs l.toNat)) (h := .ar n n Te.size 0 l.toNat) hs (.inl rfl) (self n) h fun ρ ro K hK => ?_
          have e1 : (s.ren ρ).ev x = some (.int .i64 l) := by rw [ev_ren, hx]; rfl
          have e2 : (s.ren ρ).ev y = some (.int .i64 c) := by rw [ev_ren, hy]; rfl
          refine AOp.makeSlice (k1 := .i64) (k2 := .i64) n hop hN (hT.ty _ _ hU) rfl (hT.ty _ _ hTe) hz (Nat.eq_of_beq_eq_true h1.1) e1 e2 h2 h3 h4 fun ver => ?_
          have := hK ver
          simp only [HV.ren, upd_at, AObj.ren, zrep_ren ρ (zcells_ren ρ hz)] at this
          exact this
        · cases h
      · cases h
    · cases h
  · -- append
    rename_i aa ts hop
    unfold opAppend at h
    try simp only [evR_eq, hgetR_eq, hsetR_eq, sgetR_eq, putR_eq, aslR_eq, apartsR_eq] at h
    split at h
    · rename_i x y t xt ha ht
      split at h
      · rename_i e sz by' z hx hy hU hex hey
        split at h
        · rename_i Te hTe
          split at h
          · rename_i m cs m' ds hb hsr
            replace h := guardO_some h
            obtain ⟨h1, h⟩ := h
            simp only [Bool.and_eq_true] at h1
            have has : aa = #[x, y] := Array.toList_inj.1 (by simpa using ha)
            have hts : ts = #[t, xt] := Array.toList_inj.1 (by simpa using ht)
            subst has hts
            have hid : baseId hx n = n ∨ ∃ v k e' cs', hget s.heap (baseId hx n) = some (v, .arr k e' cs') := by
              unfold sbase at hb
              rw [hgetR_eq] at hb
              split at hb
              · exact .inl rfl
              · rename_i id ver k' off n2
                split at hb
                · rename_i ver' k2 e2 cs2 hg
                  exact .inr ⟨_, _, _, _, hg⟩
                · cases hb
              · cases hb
            refine new_ok (ob := .arr Te.size e (cs ++ ds)) (h := .ar (baseId hx n) n Te.size 0 (m + m')) hs hid (self n) h fun ρ ro K hK => ?_
            have e1 : (s.ren ρ).ev x = some (hx.ren ρ) := by rw [ev_ren, hex]; rfl
            have e2 : (s.ren ρ).ev y = some (hy.ren ρ) := by rw [ev_ren, hey]; rfl
            have e3 : baseId (hx.ren ρ) n = baseId hx n := by cases hx <;> rfl
            refine AOp.append n hop hN (hT.ty _ _ hU) rfl (hT.ty _ _ hTe) h1.1 e1 e2 (sbase_sound hb) (ssrc_sound hT.ty hsr) (Nat.le_of_ble_eq_true h1.2.1) (Nat.le_of_ble_eq_true h1.2.2) fun ver => ?_
            rw [e3]
            have := hK ver
            simp only [HV.ren, upd_at, AObj.ren, renL_append] at this
            exact this
          · cases h
        · cases h
      · cases h
    · cases h
  · -- clear
    rename_i aa ts hop
    unfold opClear at h
    try simp only [evR_eq, hgetR_eq, hsetR_eq, sgetR_eq, putR_eq, aslR_eq, apartsR_eq] at h
    split at h
    · rename_i x t ha ht
      split at h
      · rename_i e sz by' z id ver k off m hU hx
        split at h
        · rename_i Te ver' k' e' xs hTe hg
          split at h
          · rename_i z' hz
            replace h := guardO_some h
            obtain ⟨h1, h⟩ := h
            replace h := guardO_some h
            obtain ⟨h2, h⟩ := h
            cases h
            simp only [Bool.and_eq_true] at h1
            have hv' := Nat.eq_of_beq_eq_true h1.1
            subst hv'
            have has : aa = #[x] := Array.toList_inj.1 (by simpa using ha)
            have hts : ts = #[t] := Array.toList_inj.1 (by simpa using ht)
            subst has hts
            refine set_ok (x := .arr k' e' xs) hs hg (by intros; simp) h2 rfl fun ρ ro K hK => ?_
            have e1 : (s.ren ρ).ev x = some (.ar id (ρ ver) k off m) := by rw [ev_ren, hx]; rfl
            refine AOp.clear hop hN (hT.ty _ _ hU) rfl (hT.ty _ _ hTe) hz e1 (hget_s ρ hg) (by rw [renL_len]; exact Nat.le_of_ble_eq_true h1.2) ?_
            have hzr : z'.ren ρ = z' := by
              have := zcells_ren ρ hz
              simp only [renL, List.cons.injEq, and_true] at this
              exact this
            have hrr : renL ρ (List.replicate m z') = List.replicate m z' := by rw [renL_map, List.map_replicate, hzr]
            simp only [AObj.ren, renL_append, renL_take, renL_drop, hrr] at hK
            exact hK
          · cases h
        · cases h
      · cases h
    · cases h
  · -- copy
    rename_i aa ts hop
    unfold opCopy at h
    try simp only [evR_eq, hgetR_eq, hsetR_eq, sgetR_eq, putR_eq, aslR_eq, apartsR_eq] at h
    split at h
    · rename_i x y t xt ha ht
      split at h
      · rename_i e sz by' z id ver k off m' hy hU hex hey
        split at h
        · rename_i Te ver' k' e' xs hTe hg
          split at h
          · rename_i m ds hsr
            replace h := guardO_some h
            obtain ⟨h1, h⟩ := h
            replace h := guardO_some h
            obtain ⟨h2, h⟩ := h
            cases h
            simp only [Bool.and_eq_true] at h1
            have hv' := Nat.eq_of_beq_eq_true h1.1
            subst hv'
            have has : aa = #[x, y] := Array.toList_inj.1 (by simpa using ha)
            have hts : ts = #[t, xt] := Array.toList_inj.1 (by simpa using ht)
            subst has hts
            refine set_ok (x := .arr k' e' xs) hs hg (by intros; simp) h2 rfl fun ρ ro K hK => ?_
            have e1 : (s.ren ρ).ev x = some (.ar id (ρ ver) k off m') := by rw [ev_ren, hex]; rfl
            have e2 : (s.ren ρ).ev y = some (hy.ren ρ) := by rw [ev_ren, hey]; rfl
            refine AOp.copy hop hN (hT.ty _ _ hU) rfl (hT.ty _ _ hTe) e1 e2 (fun l e => ?_) (hget_s ρ hg) (ssrc_sound hT.ty hsr) (by rw [renL_len]; exact Nat.le_of_ble_eq_true h1.2.2) ?_
            · have h3 := h1.2.1
              cases hy <;> simp [HV.ren, isStr] at e h3
            · simp only [AObj.ren, renL_append, renL_take, renL_drop] at hK
              exact hK
          · cases h
        · cases h
      · cases h
    · cases h
  · -- call
    rename_i f aa ts hop
    unfold opCall at h
    try simp only [evR_eq, hgetR_eq, hsetR_eq, sgetR_eq, putR_eq, aslR_eq, apartsR_eq] at h
    split at h
    · rename_i g fs cs hs' hf ha
      replace h := guardO_some h
      obtain ⟨h1, h⟩ := h
      split at h
      · rename_i rv H n1 hr1
        cases h
        obtain ⟨h2, h3, st, hc⟩ := hr _ _ hr1 h1 hsh
        have hsl := sc_slots_of hs
        refine ⟨sc_put (by simp only [AS.sc, scS_mono st.le _ hsl, h3, Bool.and_self]) h2, by rw [put_heap']; exact st, fun ρ ro K hK => ?_⟩
        have e1 : (s.ren ρ).ev f = some (.fn (.func g) (renL ρ fs) (renL ρ cs)) := by rw [ev_ren, hf]; rfl
        refine AOp.call hop rfl hN e1 (evL_sc ha ρ) ?_
        rw [← renL_append, ← renL_append]
        refine hc ρ _ fun ρ' hag => ?_
        have := hK ρ' hag
        rw [ren_put] at this
        have e2 : ({ s with heap := H } : AS).ren ρ' = { s.ren ρ with heap := renH ρ' H } := by
          simp only [AS.ren]
          rw [renS_agree hag _ hsl]
        rw [e2] at this
        exact this
      · cases h
    · rename_i id ver hs' hf ha
      exact yield_ok hr hN hs hop rfl hf ha h
    · cases h
  · -- build
    rename_i t ps hop
    unfold opBuild at h
    try simp only [evR_eq, hgetR_eq, hsetR_eq, sgetR_eq, putR_eq, aslR_eq, apartsR_eq] at h
    split at h
    · rename_i rv hb
      exact fin_ok hs h fun ρ ro K hK => AOp.build hop hN (sbuild_sound hT.ty hb hK)
    · cases h
  · -- makeMap
    rename_i t hop
    refine new_ok (ob := .map []) (h := .mp n n) hs (.inl rfl) (self n) h fun ρ ro K hK => ?_
    refine AOp.makeMap n hop hN fun ver => ?_
    have := hK ver
    simp only [HV.ren, upd_at, AObj.ren, renE] at this
    exact this
  · -- mapUpdate
    rename_i t m x y hop
    unfold opMapUpdate at h
    try simp only [evR_eq, hgetR_eq, hsetR_eq, sgetR_eq, putR_eq, aslR_eq, apartsR_eq] at h
    split at h
    · rename_i kt et sz by' z id ver k hv hU hm hx hy
      split at h
      · rename_i sz2 by2 z2 ver' es hTk hg
        replace h := guardO_some h
        obtain ⟨h1, h⟩ := h
        replace h := guardO_some h
        obtain ⟨h2, h⟩ := h
        cases h
        simp only [Bool.and_eq_true] at h1
        have hv' := Nat.eq_of_beq_eq_true h1.1
        subst hv'
        refine set_ok (x := .map es) hs hg (by intros; simp) h2 rfl fun ρ ro K hK => ?_
        have e1 : (s.ren ρ).ev m = some (.mp id (ρ ver)) := by rw [ev_ren, hm]; rfl
        have e2 : (s.ren ρ).ev x = some (.str k) := by rw [ev_ren, hx]; rfl
        have e3 : (s.ren ρ).ev y = some (hv.ren ρ) := by rw [ev_ren, hy]; rfl
        refine AOp.mapUpdate (.inl hop) hN (hT.ty _ _ hU) rfl (hT.ty _ _ hTk) rfl e1 e2 e3 (hget_s ρ hg) (noIterB_sound h1.2) ?_
        simp only [AObj.ren, mput_ren] at hK
        exact hK
      · cases h
    · cases h
  · -- insert
    rename_i t m x y hop
    unfold opMapUpdate at h
    try simp only [evR_eq, hgetR_eq, hsetR_eq, sgetR_eq, putR_eq, aslR_eq, apartsR_eq] at h
    split at h
    · rename_i kt et sz by' z id ver k hv hU hm hx hy
      split at h
      · rename_i sz2 by2 z2 ver' es hTk hg
        replace h := guardO_some h
        obtain ⟨h1, h⟩ := h
        replace h := guardO_some h
        obtain ⟨h2, h⟩ := h
        cases h
        simp only [Bool.and_eq_true] at h1
        have hv' := Nat.eq_of_beq_eq_true h1.1
        subst hv'
        refine set_ok (x := .map es) hs hg (by intros; simp) h2 rfl fun ρ ro K hK => ?_
        have e1 : (s.ren ρ).ev m = some (.mp id (ρ ver)) := by rw [ev_ren, hm]; rfl
        have e2 : (s.ren ρ).ev x = some (.str k) := by rw [ev_ren, hx]; rfl
        have e3 : (s.ren ρ).ev y = some (hv.ren ρ) := by rw [ev_ren, hy]; rfl
        refine AOp.mapUpdate (.inr hop) hN (hT.ty _ _ hU) rfl (hT.ty _ _ hTk) rfl e1 e2 e3 (hget_s ρ hg) (noIterB_sound h1.2) ?_
        simp only [AObj.ren, mput_ren] at hK
        exact hK
      · cases h
    · cases h
  · -- lookup
    rename_i t m x hop
    unfold opLookup at h
    try simp only [evR_eq, hgetR_eq, hsetR_eq, sgetR_eq, putR_eq, aslR_eq, apartsR_eq] at h
    split at h
    · rename_i kt et sz by' z id ver k hU hm hx
      split at h
      · rename_i sz2 by2 z2 Te ver' es hTk hTe hg
        split at h
        · rename_i z3 hz
          replace h := guardO_some h
          obtain ⟨h1, h⟩ := h
          have hv' := Nat.eq_of_beq_eq_true h1
          subst hv'
          refine fin_ok hs h fun ρ ro K hK => ?_
          have e1 : (s.ren ρ).ev m = some (.mp id (ρ ver)) := by rw [ev_ren, hm]; rfl
          have e2 : (s.ren ρ).ev x = some (.str k) := by rw [ev_ren, hx]; rfl
          refine AOp.lookup hop hN (hT.ty _ _ hU) rfl (hT.ty _ _ hTk) rfl (hT.ty _ _ hTe) hz e1 e2 (hget_s ρ hg) ?_
          rw [alook_ren]
          have h5 := constHV_ren ρ Te.zero
          rw [hz] at h5
          simp only [Option.map_some, Option.some.injEq] at h5
          cases hl : alook k es with
          | none => rw [hl] at hK; simp only [Option.getD_none, h5, Option.map_none] at hK ⊢; exact hK
          | some q => rw [hl] at hK; exact hK
        · cases h
      · cases h
    · cases h
  · -- range
    rename_i t m hop
    unfold opRange at h
    try simp only [evR_eq, hgetR_eq, hsetR_eq, sgetR_eq, putR_eq, aslR_eq, apartsR_eq] at h
    split at h
    · rename_i kt et sz by' z mid mver hU hm
      split at h
      · rename_i mver' es hg
        replace h := guardO_some h
        obtain ⟨h1, h⟩ := h
        have hv' := Nat.eq_of_beq_eq_true h1
        subst hv'
        have hlt := sch_get hsh hg
        refine new_ok (ob := .iter mid mver [] false) (h := .it n n) hs (.inl rfl) (self n) h fun ρ ro K hK => ?_
        have e1 : (s.ren ρ).ev m = some (.mp mid (ρ mver)) := by rw [ev_ren, hm]; rfl
        refine AOp.range n hop hN (hT.ty _ _ hU) rfl e1 (hget_s ρ hg) (by have := hlt.1.1; omega) fun ver => ?_
        have := hK ver
        simp only [HV.ren, upd_at, AObj.ren] at this
        exact this
      · cases h
    · cases h
  · -- next
    rename_i x hop
    unfold opNext at h
    try simp only [evR_eq, hgetR_eq, hsetR_eq, sgetR_eq, putR_eq, aslR_eq, apartsR_eq] at h
    split at h
    · rename_i id ver hx
      split at h
      · rename_i ver' mid mver seen cur hg
        split at h
        · rename_i mver' es hgm
          replace h := guardO_some h
          obtain ⟨h1, h⟩ := h
          simp only [Bool.and_eq_true] at h1
          have hv' := Nat.eq_of_beq_eq_true h1.1
          subst hv'
          have hv' := Nat.eq_of_beq_eq_true h1.2
          subst hv'
          split at h
          · rename_i hu
            refine fin_ok hs h fun ρ ro K hK => ?_
            have e1 : (s.ren ρ).ev x = some (.it id (ρ ver)) := by rw [ev_ren, hx]; rfl
            refine AOp.next hop hN e1 (hget_s ρ hg) (hget_s ρ hgm) (fun _ => hK) fun k v hkv hks => ?_
            obtain ⟨u, hu1, _⟩ := mem_renE hkv
            have := mem_unseen.2 ⟨hu1, hks⟩
            rw [hu] at this
            cases this
          · rename_i k v hu
            replace h := guardO_some h
            obtain ⟨h2, h⟩ := h
            cases h
            have hlm := sch_get hsh hgm
            refine set_ok (x := .iter mid mver seen cur) hs hg (by intros; simp) (by simp only [AObj.sc]; simpa [Nat.blt_eq] using hlm.1.2) (by simp only [HV.sc, scL, h2, Bool.and_self]) fun ρ ro K hK => ?_
            have e1 : (s.ren ρ).ev x = some (.it id (ρ ver)) := by rw [ev_ren, hx]; rfl
            refine AOp.next hop hN e1 (hget_s ρ hg) (hget_s ρ hgm) (fun hall => ?_) fun k' v' hkv hks => ?_
            · have hm : (k, v) ∈ unseen seen es := by rw [hu]; exact List.mem_cons_self ..
              obtain ⟨h3, h4⟩ := mem_unseen.1 hm
              exact absurd (hall _ (mem_renE' h3)) h4
            · obtain ⟨u, hu1, rfl⟩ := mem_renE hkv
              have := mem_unseen.2 ⟨hu1, hks⟩
              rw [hu] at this
              simp only [List.mem_singleton] at this
              cases this
              exact hK
          · cases h
        · cases h
      · cases h
    · cases h
  · -- entry
    rename_i x hop
    unfold opEntry at h
    try simp only [evR_eq, hgetR_eq, hsetR_eq, sgetR_eq, putR_eq, aslR_eq, apartsR_eq] at h
    split at h
    · rename_i id ver hx
      split at h
      · rename_i ver' mid mver k seen hg
        split at h
        · rename_i mver' es hgm
          replace h := guardO_some h
          obtain ⟨h1, h⟩ := h
          simp only [Bool.and_eq_true] at h1
          have hv' := Nat.eq_of_beq_eq_true h1.1
          subst hv'
          have hv' := Nat.eq_of_beq_eq_true h1.2
          subst hv'
          split at h
          · rename_i v hl
            refine fin_ok hs h fun ρ ro K hK => ?_
            have e1 : (s.ren ρ).ev x = some (.it id (ρ ver)) := by rw [ev_ren, hx]; rfl
            have e2 : alook k (renE ρ es) = some (v.ren ρ) := by rw [alook_ren, hl]; rfl
            exact AOp.entry hop hN e1 (hget_s ρ hg) (hget_s ρ hgm) e2 hK
          · cases h
        · cases h
      · cases h
    · cases h
  · exact sval_ok hT hN hs h

end
end Go.AW

/- The evaluation of closed code: regions, control, calls; that what it gives is so; a function's contract from its evaluation. -/
namespace Go.AW
open Go
set_option linter.unusedSimpArgs false

noncomputable def sops (r : Task → Option Out) (T : Tabs) (all : List Oper) : List Oper → AS → Nat → Option (AS × Nat)
  | [], s, n => some (s, n)
  | o :: rest, s, n => match o.guard with
    | none => match sop r T o s n with
      | some (s1, n1) => sops r T all rest s1 n1
      | none => none
    | some (j, want) => match all[j]? with
      | some oj => match oj.dst with
        | some d => match sgetR s.slots d with
          | some (.bool b) => match (b == want) with
            | true => match sop r T o (s.putR (some d) (.bool want)) n with
              | some (s1, n1) => sops r T all rest s1 n1
              | none => none
            | false => sops r T all rest ((s.putR (some d) (.bool !want)).putR o.dst (.v undef)) n
          | _ => none
        | none => none
      | none => none

noncomputable def sfrz : Nat → Heap → HV → Option HV
  | 0, _, h => some h
  | n + 1, D, h => match h with
    | .agg cs => match cs.mapM (sfrz n D) with
      | some cs => some (.agg cs)
      | none => none
    | .tup cs => match cs.mapM (sfrz n D) with
      | some cs => some (.tup cs)
      | none => none
    | .fn f fs cs => match fs.mapM (sfrz n D), cs.mapM (sfrz n D) with
      | some fs, some cs => some (.fn f fs cs)
      | _, _ => none
    | .ar id ver k off m => match hgetR D id with
      | some (ver', .arr _ _ cs) => guardO (Nat.beq ver ver' && Nat.ble (off + m * k) cs.length) (match ((cs.drop off).take (m * k)).mapM (sfrz n D) with
        | some cs => some (.sl k m cs)
        | none => none)
      | _ => none
    | .ptr id ver off => match hgetR D id with
      | some (ver', .arr _ _ cs) => guardO (Nat.beq ver ver') (match cs.mapM (sfrz n D) with
        | some cs => some (.fptr cs off)
        | none => none)
      | _ => none
    | h => some h

theorem sfrz_sound (n : Nat) (D : Heap) (ρ : Nat → Nat) : ∀ h h', sfrz n D h = some h' → frz n (renH ρ D) (h.ren ρ) = h'.ren ρ := by
  induction n with
  | zero => intro h h' e; cases e; rfl
  | succ n ih =>
    have ihL : ∀ (cs ds : List HV), cs.mapM (sfrz n D) = some ds → (renL ρ cs).map (frz n (renH ρ D)) = renL ρ ds := by
      intro cs
      induction cs with
      | nil => intro ds e; simp at e; subst e; rfl
      | cons c cs ihc =>
        intro ds e
        simp only [List.mapM_cons, Option.pure_def, Option.bind_eq_bind, Option.bind_eq_some_iff] at e
        obtain ⟨d, hd, es, he, e⟩ := e
        cases e
        simp only [renL, List.map_cons, ih _ _ hd, ihc _ he]
    intro h h' e
    unfold sfrz at e
    simp only [hgetR_eq] at e
    split at e
    · split at e
      · rename_i hc; cases e; simp only [HV.ren, frz, ihL _ _ hc]
      · cases e
    · split at e
      · rename_i hc; cases e; simp only [HV.ren, frz, ihL _ _ hc]
      · cases e
    · split at e
      · rename_i hf hc; cases e; simp only [HV.ren, frz, ihL _ _ hf, ihL _ _ hc]
      · cases e
    · split at e
      · rename_i id ver k off m _ ver' k' e' cs hg
        replace e := guardO_some e
        obtain ⟨h1, e⟩ := e
        simp only [Bool.and_eq_true] at h1
        have hv := Nat.eq_of_beq_eq_true h1.1
        subst hv
        split at e
        · rename_i ds hc
          cases e
          simp only [HV.ren, frz, hget_ren, hg, Option.map_some, AObj.ren]
          rw [if_pos ⟨trivial, by rw [renL_len]; exact Nat.le_of_ble_eq_true h1.2⟩, ← renL_drop, ← renL_take, ihL _ _ hc]
        · cases e
      · cases e
    · split at e
      · rename_i id ver off _ ver' k' e' cs hg
        replace e := guardO_some e
        obtain ⟨h1, e⟩ := e
        have hv := Nat.eq_of_beq_eq_true h1
        subst hv
        split at e
        · rename_i ds hc
          cases e
          simp only [HV.ren, frz, hget_ren, hg, Option.map_some, AObj.ren, if_true]
          rw [ihL _ _ hc]
        · cases e
      · cases e
    · cases e
      cases h <;> first | rfl | (exfalso; rename_i h1 h2 h3 h4 h5; first | exact h1 _ rfl | exact h2 _ rfl | exact h3 _ _ _ rfl | exact h4 _ _ _ _ _ rfl | exact h5 _ _ _ rfl)

theorem ACall.conv {P : Program} {f : FuncId} {args : List HV} {H : Heap} {K K' : HV → Heap → Prop} (h : ACall P f args H K) (hc : ∀ r H', K r H' → ∃ r2 H2, Conv H' r r2 H2 ∧ K' r2 H2) : ACall P f args H K' :=
  ⟨h.1, fun μ w vs hs hr => (h.2 μ w vs hs hr).mono fun _ w' ⟨v, r, H', μ', e, k, hs', hr', E⟩ => by
    obtain ⟨r2, H2, hconv, hk⟩ := hc r H' k
    obtain ⟨μ2, hs2, hr2, E2⟩ := hconv w' μ' v hs' hr'
    exact ⟨v, r2, H2, μ2, e, hk, hs2, hr2, E.trans E2⟩⟩

noncomputable def spBox (s : AS) (x : Operand) : Option HV := match s.evR x with
    | some hv => match hv.cells? with
      | some cs => some (.fptr cs 0)
      | none => none
    | none => none
noncomputable def spBuild (T : Tabs) (s : AS) (t : TypeId) (m : Nat) (ps : Array (Nat × Operand)) : Option HV := guardO (Nat.ble m 16777216) (match sslice T.ty s t m ps.toList with
    | some (k, _, cs) => some (.sl k m cs)
    | none => none)
noncomputable def spCall (r : Task → Option Out) (s : AS) (f : Operand) (aa : Array Operand) : Option HV := match s.evR f, aa.toList.mapM s.evR with
    | some (.fn (.func g) fs cs), some hs => (match (fs ++ hs ++ cs).mapM (sfrz 8 s.heap) with
      | some as' => guardO (scL 0 as') (match r (.call g as' [] 0) with
        | some (.call rv H _) => guardO (scL 0 (fs ++ hs ++ cs) || (nf rv && nfH H)) (match sfrz 8 H rv with
          | some q => guardO (q.sc 0) (some q)
          | none => none)
        | _ => none)
      | none => none)
    | _, _ => none
noncomputable def sopS (r : Task → Option Out) (T : Tabs) (o : Oper) (s : AS) : Option HV :=
  match o.op with
  | .box _ x => spBox s x
  | .buildSlice t m ps => spBuild T s t m ps
  | .call ⟨.value f, aa, _⟩ => spCall r s f aa
  | op => sval T.ty op s

noncomputable def ssteps (r : Task → Option Out) (T : Tabs) (all : List Oper) : List Oper → AS → Nat → Option AS
  | [], s, _ => some s
  | o :: rest, s, n => match o.guard with
    | none => match sopS r T o s with
      | some h => guardO (h.sc n) (ssteps r T all rest (s.putR o.dst h) n)
      | none => none
    | some (j, want) => match all[j]? with
      | some oj => match oj.dst with
        | some d => match sgetR s.slots d with
          | some (.bool b) => match (b == want) with
            | true => match sopS r T o (s.putR (some d) (.bool want)) with
              | some h => guardO (h.sc n) (ssteps r T all rest ((s.putR (some d) (.bool want)).putR o.dst h) n)
              | none => none
            | false => ssteps r T all rest ((s.putR (some d) (.bool !want)).putR o.dst (.v undef)) n
          | _ => none
        | none => none
      | none => none

def steadyKind (o : Oper) : Bool := match o.op with
  | .alloc _ | .store _ _ _ | .makeSlice _ _ _ | .makeMap _ _ | .mapUpdate _ _ _ _ | .insert _ _ _ _ | .lookup _ _ _ _ | .range _ _ | .next _ _ | .entry _ | .build _ _ => false
  | .call ⟨.builtin .append, _, _⟩ => false
  | _ => true
def callKind (o : Oper) : Bool := match o.op with
  | .call ⟨.value _, _, _⟩ | .box _ _ | .buildSlice _ _ _ => true
  | _ => false

def fnB : HV → Bool
  | .fn _ _ (_ :: _) => true
  | _ => false
noncomputable def greedy (r : Task → Option Out) (T : Tabs) (all : List Oper) : List Oper → AS → Nat → Nat
  | [], _, p => p
  | o :: rest, s, p => bif steadyKind o then (match o.guard with
    | none => match sopS r T o s with
      | some h => bif fnB h && callKind o then p else greedy r T all rest (s.putR o.dst h) (p + 1)
      | none => p
    | some (j, want) => match all[j]? with
      | some oj => match oj.dst with
        | some d => match sgetR s.slots d with
          | some (.bool b) => match (b == want) with
            | true => match sopS r T o s with
              | some h => greedy r T all rest (s.putR o.dst h) (p + 1)
              | none => p
            | false => greedy r T all rest (s.putR o.dst (.v undef)) (p + 1)
          | _ => p
        | none => p
      | none => p) else p

def plain : List Oper → Nat → Nat
  | [], p => p
  | o :: rest, p => bif (steadyKind o && !callKind o) then plain rest (p + 1) else p

noncomputable def sdrawP (r : Task → Option Out) (T : Tabs) (ops : Array Oper) (s : AS) (n p : Nat) : Option (AS × Nat) :=
  guardO (drawOk ops p) (match ssteps r T ops.toList (ops.toList.take p) s n with
    | some s1 => sops r T ops.toList (ops.toList.drop p) s1 n
    | none => none)

noncomputable def sdraw (r : Task → Option Out) (T : Tabs) (ops : Array Oper) (s : AS) (n : Nat) : Option (AS × Nat) :=
  match sdrawP r T ops s n (greedy r T ops.toList ops.toList s 0) with
  | some x => some x
  | none => sdrawP r T ops s n (plain ops.toList 0)

noncomputable def sres1 (T : TypeId → Option TyI) (s : AS) (rv : ResultVar) : Option HV :=
  match rv with
  | .tmp t => sgetR s.slots t
  | .cell t ty' => match T ty', sgetR s.slots t with
    | some U, some (.fptr cs off) => sload U cs off
    | some U, some (.ptr id ver off) => match hgetR s.heap id with
      | some (ver', .arr _ _ cs) => guardO (Nat.beq ver ver') (sload U cs off)
      | _ => none
    | _, _ => none

noncomputable def sres (T : TypeId → Option TyI) (s : AS) : List ResultVar → Option (List HV)
  | [] => some []
  | rv :: rvs => match sres1 T s rv, sres T s rvs with
    | some h, some hs => some (h :: hs)
    | _, _ => none

/-! dropping what nothing leads to -/
mutual
def HV.refs (n : Nat) : HV → List Nat → List Nat
  | .agg cs, a | .tup cs, a | .sl _ _ cs, a | .fptr cs _, a => refsL n cs a
  | .ar id _ _ _ _, a | .ptr id _ _, a | .mp id _, a | .yl id _, a | .it id _, a => bif Nat.blt id n then a else id :: a
  | .fn _ fs cs, a => refsL n fs (refsL n cs a)
  | _, a => a
def refsL (n : Nat) : List HV → List Nat → List Nat
  | [], a => a
  | c :: cs, a => c.refs n (refsL n cs a)
end
def refsS (n : Nat) : List (Nat × HV) → List Nat → List Nat
  | [], a => a
  | (_, h) :: l, a => h.refs n (refsS n l a)
def refsE (n : Nat) : List (List UInt8 × HV) → List Nat → List Nat
  | [], a => a
  | (_, h) :: l, a => h.refs n (refsE n l a)
def AObj.refs (n : Nat) : AObj → List Nat → List Nat
  | .arr _ _ cs, a => refsL n cs a
  | .map es, a => refsE n es a
  | .iter mid _ _ _, a => bif Nat.blt mid n then a else mid :: a
  | .loop _ _ _ _ snap _ _ _, a => refsS n snap a
def oldRefs (n : Nat) : Heap → List Nat → List Nat
  | [], a => a
  | (i, _, o) :: l, a => bif Nat.blt i n then o.refs n (oldRefs n l a) else oldRefs n l a
def memN (i : Nat) : List Nat → Bool
  | [] => false
  | j :: l => bif Nat.beq i j then true else memN i l
def mark (n : Nat) (H : Heap) : Nat → List Nat → List Nat → List Nat
  | 0, _, m => m
  | _ + 1, [], m => m
  | f + 1, i :: w, m => bif memN i m then mark n H f w m else match hget H i with
    | some (_, o) => mark n H f (o.refs n w) (i :: m)
    | none => mark n H f w m
def hkeep (n : Nat) (m : List Nat) : Heap → Heap
  | [] => []
  | (i, x) :: l => bif (Nat.blt i n || memN i m) then (i, x) :: hkeep n m l else hkeep n m l
def anyNew (n : Nat) : Heap → Bool
  | [] => false
  | (i, _) :: l => bif Nat.blt i n then anyNew n l else true
def gc (n : Nat) (rv : HV) (H : Heap) : Heap := bif anyNew n H then hkeep n (mark n H 200 (rv.refs n (oldRefs n H [])) []) H else H

theorem hkeep_get (n : Nat) (m : List Nat) : ∀ (H : Heap) (id : Nat) (x : Nat × AObj), hget (hkeep n m H) id = some x → hget H id = some x
  | [], _, _, h => h
  | (i, v, o) :: l, id, x, h => by
    simp only [hkeep] at h
    simp only [hget]
    cases hb : (Nat.blt i n || memN i m) with
    | true =>
      rw [hb] at h
      simp only [cond_true, hget] at h
      split
      · rename_i e; rw [if_pos e] at h; exact h
      · rename_i e; rw [if_neg e] at h; exact hkeep_get n m l id x h
    | false =>
      rw [hb] at h
      simp only [cond_false] at h
      split
      · rename_i e
        subst e
        exfalso
        have : ∀ l : Heap, hget (hkeep n m l) id = none := fun l => by
          induction l with
          | nil => rfl
          | cons y l ih =>
            obtain ⟨j, y⟩ := y
            simp only [hkeep]
            cases hb2 : (Nat.blt j n || memN j m) with
            | true =>
              simp only [cond_true, hget]
              split
              · rename_i e; subst e; rw [hb] at hb2; cases hb2
              · exact ih
            | false => exact ih
        rw [this] at h
        cases h
      · exact hkeep_get n m l id x h

theorem gc_get {n : Nat} {rv : HV} {H : Heap} {id : Nat} {x : Nat × AObj} (h : hget (gc n rv H) id = some x) : hget H id = some x := by
  unfold gc at h
  cases hb : anyNew n H with
  | true => rw [hb] at h; exact hkeep_get _ _ _ _ _ h
  | false => rw [hb] at h; exact h

theorem hkeep_sc {k n : Nat} {m : List Nat} : ∀ {H : Heap}, scH k H = true → scH k (hkeep n m H) = true
  | [], _ => rfl
  | (i, v, o) :: l, h => by
    simp only [scH, Bool.and_eq_true] at h
    simp only [hkeep]
    cases (Nat.blt i n || memN i m) with
    | true => simp only [cond_true, scH, h.1.1.1, h.1.1.2, h.1.2, hkeep_sc h.2, Bool.and_self]
    | false => exact hkeep_sc h.2
theorem gc_sc {k n : Nat} {rv : HV} {H : Heap} (h : scH k H = true) : scH k (gc n rv H) = true := by
  unfold gc
  cases anyNew n H with
  | true => exact hkeep_sc h
  | false => exact h

theorem Step.drop {n n' : Nat} {H H1 H2 : Heap} (h : Step n n' H H1) (hd : ∀ id x, hget H2 id = some x → hget H1 id = some x) : Step n n' H H2 :=
  ⟨h.le, fun id v st pend f m snap ps a b hg x hx => h.loop id v st pend f m snap ps a b hg x (hd id x hx), fun id hid y hy => h.back id hid y (hd id y hy)⟩

mutual
theorem HV.ren_id : ∀ h : HV, h.ren (fun v => v) = h
  | .int _ _ => rfl
  | .bool _ => rfl
  | .str _ => rfl
  | .v _ => rfl
  | .agg cs => congrArg HV.agg (renL_id cs)
  | .tup cs => congrArg HV.tup (renL_id cs)
  | .sl k m cs => congrArg (HV.sl k m) (renL_id cs)
  | .ar _ _ _ _ _ => rfl
  | .ptr _ _ _ => rfl
  | .fptr cs off => congrArg (fun x => HV.fptr x off) (renL_id cs)
  | .fn f fs cs => by simp only [HV.ren]; rw [renL_id fs, renL_id cs]
  | .mp _ _ => rfl
  | .yl _ _ => rfl
  | .it _ _ => rfl
theorem renL_id : ∀ cs : List HV, renL (fun v => v) cs = cs
  | [] => rfl
  | c :: cs => by simp only [renL]; rw [HV.ren_id c, renL_id cs]
end
theorem ren_sc0 (ρ : Nat → Nat) {h : HV} (hs : h.sc 0 = true) : h.ren ρ = h := (HV.ren_agree (ρ' := fun v => v) (fun v hv => by omega) h hs).trans h.ren_id
theorem renL_sc0 (ρ : Nat → Nat) {h : List HV} (hs : scL 0 h = true) : renL ρ h = h := (renL_agree (ρ' := fun v => v) (fun v hv => by omega) h hs).trans (renL_id h)

mutual
theorem sc0_clean : ∀ h : HV, h.sc 0 = true → clean h
  | .int _ _, _ => trivial
  | .bool _, _ => trivial
  | .str _, _ => trivial
  | .v _, _ => trivial
  | .agg cs, h => sc0_cleanL cs h
  | .tup cs, h => sc0_cleanL cs h
  | .sl _ _ cs, h => sc0_cleanL cs h
  | .fptr cs _, h => sc0_cleanL cs h
  | .fn _ fs cs, h => by
    simp only [HV.sc, Bool.and_eq_true] at h
    exact ⟨sc0_cleanL fs h.1, sc0_cleanL cs h.2⟩
  | .ar _ v _ _ _, h => absurd (blt_lt h) (Nat.not_lt_zero _)
  | .ptr _ v _, h => absurd (blt_lt h) (Nat.not_lt_zero _)
  | .mp _ v, h => absurd (blt_lt h) (Nat.not_lt_zero _)
  | .yl _ v, h => absurd (blt_lt h) (Nat.not_lt_zero _)
  | .it _ v, h => absurd (blt_lt h) (Nat.not_lt_zero _)
theorem sc0_cleanL : ∀ cs : List HV, scL 0 cs = true → cleanL cs
  | [], _ => trivial
  | c :: cs, h => by
    simp only [scL, Bool.and_eq_true] at h
    exact ⟨sc0_clean c h.1, sc0_cleanL cs h.2⟩
end

noncomputable def rounds (r : Task → Option Out) (top : Bool) (N : Nat) (x : Code) : Nat → AS → Nat → Option Out
  | 0, _, _ => none
  | k + 1, s, n => match r (.code top N x s n) with
    | some (.code .normal s1 n1) => rounds r top N x k s1 n1
    | o => o

def isEnd : Exit → Bool
  | .normal | .ret => true
  | _ => false

def notBusy : LoopState → Bool
  | .busy => false
  | _ => true

def strsOf : List HV → Option (List (List UInt8))
  | [] => some []
  | .str l :: cs => match strsOf cs with
    | some ls => some (l :: ls)
    | none => none
  | _ => none
def intsOf : List HV → Option (List Int)
  | [] => some []
  | .int .i64 n :: cs => match intsOf cs with
    | some ls => some (n :: ls)
    | none => none
  | _ => none

theorem strsOf_eq : ∀ {cs : List HV} {ls : List (List UInt8)}, strsOf cs = some ls → cs = ls.map .str
  | [], ls, h => by cases h; rfl
  | c :: cs, ls, h => by
    unfold strsOf at h
    split at h
    · cases h; simp_all
    · rename_i l cs' heq
      cases heq
      split at h
      · rename_i ls' hl
        cases h
        rw [strsOf_eq hl]
        rfl
      · cases h
    · cases h
theorem intsOf_eq : ∀ {cs : List HV} {ls : List Int}, intsOf cs = some ls → cs = ls.map (.int .i64)
  | [], ls, h => by cases h; rfl
  | c :: cs, ls, h => by
    unfold intsOf at h
    split at h
    · cases h; simp_all
    · rename_i l cs' heq
      cases heq
      split at h
      · rename_i ls' hl
        cases h
        rw [intsOf_eq hl]
        rfl
      · cases h
    · cases h

noncomputable def ssort (k : Bool) (args : List HV) (H : Heap) (n : Nat) : Option Out :=
  match args with
  | [.v (.slice none 0 0)] => some (.call (.tup []) H n)
  | [.ar id ver 1 0 m] => match hgetR H id with
    | some (ver', .arr 1 e cs) => match k with
      | true => match strsOf cs with
        | some ls => guardO (Nat.beq ver ver' && (Nat.beq m ls.length && Nat.blt ls.length 4611686018427387904)) (some (.call (.tup []) (hsetR H id ver (.arr 1 e ((isort (fun a b => decide (a ≤ b)) ls).map .str))) n))
        | none => none
      | false => match intsOf cs with
        | some ls => guardO (Nat.beq ver ver' && (Nat.beq m ls.length && Nat.blt ls.length 4611686018427387904)) (some (.call (.tup []) (hsetR H id ver (.arr 1 e ((isort (fun a b => decide (a ≤ b)) ls).map (.int .i64)))) n))
        | none => none
    | _ => none
  | _ => none

noncomputable def stRegion (T : Tabs) (r : Task → Option Out) (ops : Array Oper) (dr : Bool) (N : Nat) (s : AS) (n : Nat) : Option Out := guardO (ops.toList.all fun o => okd N o.dst) (match (match dr with
        | true => sdraw r T ops s n
        | false => sops r T ops.toList ops.toList s n) with
      | some (s1, n1) => some (.code .normal s1 n1)
      | none => none)
noncomputable def stRange (r : Task → Option Out) (top : Bool) (N : Nat) (g : Operand) (ps : Array Tmp) (assign body : Code) (s : AS) (n : Nat) : Option Out := match top, s.evR g with
      | true, some (.fn (.func f) fs cs) => guardO (scL n fs && scL n cs) (match r (.call f (fs ++ [.yl n n] ++ cs) (hsetR s.heap n n (.loop .ready none (n + 1) N s.slots ps assign body)) (n + 2)) with
        | some (.call _ H n1) => match hgetR H n with
          | some (_, .loop st pend _ _ _ _ _ _) => guardO (notBusy st) (match pend with
            | none => some (.code .normal { s with heap := hsetR H n n (.loop .exhausted none (n + 1) N s.slots ps assign body) } n1)
            | some .ret => some (.code .ret { s with heap := hsetR H n n (.loop .exhausted (some .ret) (n + 1) N s.slots ps assign body) } n1)
            | some (.exit i) => some (.code (.exit i) { s with heap := hsetR H n n (.loop .exhausted (some (.exit i)) (n + 1) N s.slots ps assign body) } n1)
            | _ => none)
          | _ => none
        | _ => none)
      | _, _ => none
noncomputable def stBody (T : Tabs) (r : Task → Option Out) (fn : Func) (c : Code) (args : List HV) (H : Heap) (n : Nat) : Option Out := guardO (Nat.ble args.length fn.ntmps) (match r (.code true fn.ntmps c ⟨enumS 0 args, H⟩ n) with
          | some (.code e s1 n1) => guardO (isEnd e) (match sres T.ty s1 fn.results.toList with
            | some hs => guardO ((joinR hs).sc n1) (some (.call (joinR hs) (gc n (joinR hs) s1.heap) n1))
            | none => none)
          | _ => none)
noncomputable def stCall (T : Tabs) (r : Task → Option Out) (f : FuncId) (args : List HV) (H : Heap) (n : Nat) : Option Out := match T.sort f with
   | some k => ssort k args H n
   | none => match guardO (scL 0 args) (T.extP f args) with
    | some rv => guardO (rv.sc 0) (some (.call rv H n))
    | none => match (match args.mapM (sfrz 8 H) with
      | some as' => guardO (scL 0 as') (T.ext f as')
      | none => none) with
     | some rv => guardO (rv.sc 0) (some (.call rv H n))
     | none => match T.fn f with
      | some fn => match fn.body with
        | some c => stBody T r fn c args H n
        | none => none
      | none => none
noncomputable def stCut (T : Tabs) (r : Task → Option Out) (top : Bool) (N : Nat) (ks : Option (List Nat)) (y : Code) (s : AS) (n : Nat) : Option Out := match ks with
      | some ks => keepK s.slots ks fun l => r (.code top N y ⟨l, s.heap⟩ n)
      | none => r (.code top N y s n)
noncomputable def stSeq (T : Tabs) (r : Task → Option Out) (top : Bool) (N : Nat) (x y : Code) (s : AS) (n : Nat) : Option Out := match r (.code top N x s n) with
      | some (.code .normal s1 n1) => stCut T r top N (match x with
        | .region id _ _ => T.keep N id
        | _ => none) y s1 n1
      | o => o
noncomputable def stBlock (r : Task → Option Out) (top : Bool) (N : Nat) (i : Nat) (x : Code) (s : AS) (n : Nat) : Option Out := match r (.code top N x s n) with
      | some (.code (.exit j) s1 n1) => some (.code (if j = i then .normal else .exit j) s1 n1)
      | o => o
noncomputable def stCond (r : Task → Option Out) (top : Bool) (N : Nat) (c : Operand) (x y : Code) (s : AS) (n : Nat) : Option Out := match s.evR c with
      | some (.bool true) => r (.code top N x s n)
      | some (.bool false) => r (.code top N y s n)
      | _ => none
noncomputable def stCode (T : Tabs) (r : Task → Option Out) (top : Bool) (N : Nat) (c : Code) (s : AS) (n : Nat) : Option Out := match c with
    | .skip => some (.code .normal s n)
    | .exit i => some (.code (.exit i) s n)
    | .ret => some (.code .ret s n)
    | .seq x y => stSeq T r top N x y s n
    | .block i x => stBlock r top N i x s n
    | .cond c x y => stCond r top N c x y s n
    | .loop x => rounds r top N x 5000 s n
    | .region _ ops dr => stRegion T r ops dr N s n
    | .rangeFunc g ps assign body => stRange r top N g ps assign body s n
    | _ => none
noncomputable def step (T : Tabs) (r : Task → Option Out) : Task → Option Out
  | .code top N c s n => stCode T r top N c s n
  | .call f args H n => stCall T r f args H n

noncomputable def run (T : Tabs) : Nat → Task → Option Out
  | 0, _ => none
  | k + 1, t => step T (run T k) t

section
variable {P : Program} {T : Tabs} {N n n' : Nat} {s s' : AS} {r : Task → Option Out}

theorem sops_ok (hT : T.Ok P) (hr : Good P r) {ops : Array Oper} (hok : ops.toList.all (fun o => okd N o.dst) = true) : ∀ (l : List Oper) (i : Nat) (s : AS) (n : Nat), (∀ k, l[k]? = ops[i + k]?) → s.sc n = true → sops r T ops.toList l s n = some (s', n') →
    s'.sc n' = true ∧ Step n n' s.heap s'.heap ∧ ∀ (ρ : Nat → Nat) (ro : Option Nat) (K : AS → Prop), (∀ ρ', Agree n ρ ρ' → K (s'.ren ρ')) → AOps P ro N ops (List.range' i l.length) K (s.ren ρ)
  | [], i, s, n, _, hs, h => by
    cases h
    exact ⟨hs, Step.refl _ _, fun ρ ro K hK => AOps.nil (hK ρ (Agree.refl _ _))⟩
  | o :: l, i, s, n, hl, hs, h => by
    have ho : ops[i]? = some o := by have := hl 0; simpa using this.symm
    have hN : okd N o.dst = true := List.all_eq_true.1 hok o (by
      have := Array.getElem?_toList (xs := ops) (i := i)
      rw [ho] at this
      exact List.mem_of_getElem? this)
    have hl' : ∀ k, l[k]? = ops[i + 1 + k]? := fun k => by
      have := hl (k + 1)
      rw [List.getElem?_cons_succ] at this
      rw [this]; congr 1; omega
    -- an operation, then the rest
    have go : ∀ (s0 : AS), s0.sc n = true → s0.heap = s.heap → (match sop r T o s0 n with
        | some (s1, n1) => sops r T ops.toList l s1 n1
        | none => none) = some (s', n') → s'.sc n' = true ∧ Step n n' s.heap s'.heap ∧ ∀ (ρ : Nat → Nat) (ro : Option Nat) (K : AS → Prop), (∀ ρ', Agree n ρ ρ' → K (s'.ren ρ')) → AOp P ro N o (AOps P ro N ops (List.range' (i + 1) l.length) K) (s0.ren ρ) := by
      intro s0 hs0 hh h
      split at h
      · rename_i s1 n1 hop
        obtain ⟨h1, h2, h3⟩ := sop_ok hT hr hN hs0 hop
        obtain ⟨h4, h5, h6⟩ := sops_ok hT hr hok l (i + 1) s1 n1 hl' h1 h
        rw [hh] at h2
        refine ⟨h4, h2.trans (sc_heap_of hs) h5, fun ρ ro K hK => h3 ρ ro _ fun ρ1 ha1 => h6 ρ1 ro K fun ρ2 ha2 => hK ρ2 (ha1.trans h2.le ha2)⟩
      · cases h
    simp only [sops, sgetR_eq, putR_eq] at h
    split at h
    · rename_i hg
      obtain ⟨h1, h2, h3⟩ := go s hs rfl h
      exact ⟨h1, h2, fun ρ ro K hK => AOps.cons ho hg (h3 ρ ro K hK)⟩
    · rename_i j want hg
      split at h
      · rename_i oj hoj
        split at h
        · rename_i d hd
          split at h
          · rename_i b hb
            have hbr : ∀ ρ : Nat → Nat, sget (s.ren ρ).slots d = some (.bool b) := fun ρ => by
              show sget (renS ρ s.slots) d = _
              rw [sget_ren, hb]; rfl
            split at h
            · rename_i hbw
              have hbw : b = want := by simpa using hbw
              obtain ⟨h1, h2, h3⟩ := go (s.put (some d) (.bool want)) (sc_put hs rfl) rfl h
              refine ⟨h1, h2, fun ρ ro K hK => AOps.guard ho hN hg (by simpa using hoj) hd (hbr ρ) (fun _ => ?_) (fun e => by cases b <;> cases want <;> simp at e hbw)⟩
              have := h3 ρ ro K hK
              rw [ren_put] at this
              exact this
            · rename_i hbw
              have hbw : b ≠ want := by simpa using hbw
              obtain ⟨h1, h2, h3⟩ := sops_ok hT hr hok l (i + 1) _ n hl' (sc_put (sc_put hs rfl) rfl) h
              rw [put_heap', put_heap'] at h2
              refine ⟨h1, h2, fun ρ ro K hK => AOps.guard ho hN hg (by simpa using hoj) hd (hbr ρ) (fun e => absurd e hbw) fun _ => ?_⟩
              have := h3 ρ ro K hK
              rw [ren_put, ren_put] at this
              exact this
          · cases h
        · cases h
      · cases h

theorem mapM_frz {D : Heap} (ρ : Nat → Nat) : ∀ {cs ds : List HV}, cs.mapM (sfrz 8 D) = some ds → (renL ρ cs).map (frz 8 (renH ρ D)) = renL ρ ds
  | [], ds, e => by simp at e; subst e; rfl
  | c :: cs, ds, e => by
    simp only [List.mapM_cons, Option.pure_def, Option.bind_eq_bind, Option.bind_eq_some_iff] at e
    obtain ⟨d, hd, es, he, e⟩ := e
    cases e
    simp only [renL, List.map_cons, sfrz_sound 8 D ρ _ _ hd, mapM_frz ρ he]

mutual
theorem nf_ren (ρ : Nat → Nat) : ∀ h : HV, nf h = true → nf (h.ren ρ) = true
  | .int _ _, _ => rfl
  | .bool _, _ => rfl
  | .str _, _ => rfl
  | .v _, _ => rfl
  | .agg cs, h => nfL_ren ρ cs h
  | .tup cs, h => nfL_ren ρ cs h
  | .sl _ _ _, h => by cases h
  | .ar _ _ _ _ _, _ => rfl
  | .ptr _ _ _, _ => rfl
  | .fptr _ _, h => by cases h
  | .fn _ fs cs, h => by
    simp only [nf, Bool.and_eq_true] at h
    simp only [HV.ren, nf, nfL_ren ρ fs h.1, nfL_ren ρ cs h.2, Bool.and_self]
  | .mp _ _, _ => rfl
  | .yl _ _, _ => rfl
  | .it _ _, _ => rfl
theorem nfL_ren (ρ : Nat → Nat) : ∀ cs : List HV, nfL cs = true → nfL (renL ρ cs) = true
  | [], _ => rfl
  | c :: cs, h => by
    simp only [nfL, Bool.and_eq_true] at h
    simp only [renL, nfL, nf_ren ρ c h.1, nfL_ren ρ cs h.2, Bool.and_self]
end
theorem nfE_ren (ρ : Nat → Nat) : ∀ es, nfE es = true → nfE (renE ρ es) = true
  | [], _ => rfl
  | (_, c) :: cs, h => by
    simp only [nfE, Bool.and_eq_true] at h
    simp only [renE, nfE, nf_ren ρ c h.1, nfE_ren ρ cs h.2, Bool.and_self]
theorem nfH_ren (ρ : Nat → Nat) : ∀ H : Heap, nfH H = true → nfH (renH ρ H) = true
  | [], _ => rfl
  | (_, _, o) :: H, h => by
    simp only [nfH, Bool.and_eq_true] at h
    have ho : nfO (o.ren ρ) = true := by
      cases o with
      | arr k e cs => exact nfL_ren ρ cs h.1
      | map es => exact nfE_ren ρ es h.1
      | iter _ _ _ _ => rfl
      | loop _ _ _ _ _ _ _ _ => cases h.1
    simp only [renH, nfH, ho, nfH_ren ρ H h.2, Bool.and_self]

theorem sfrz_sc0 {D : Heap} (m : Nat) : ∀ (h h' : HV), h.sc 0 = true → sfrz m D h = some h' → h' = h := by
  induction m with
  | zero => intro h h' _ e; cases e; rfl
  | succ m ih =>
    have ihL : ∀ (cs ds : List HV), scL 0 cs = true → cs.mapM (sfrz m D) = some ds → ds = cs := by
      intro cs
      induction cs with
      | nil => intro ds _ e; simp at e; exact e
      | cons c cs ihc =>
        intro ds hs e
        simp only [scL, Bool.and_eq_true] at hs
        simp only [List.mapM_cons, Option.pure_def, Option.bind_eq_bind, Option.bind_eq_some_iff] at e
        obtain ⟨d, hd, es, he, e⟩ := e
        cases e
        rw [ih _ _ hs.1 hd, ihc _ hs.2 he]
    intro h h' hs e
    unfold sfrz at e
    split at e
    · split at e
      · rename_i hc; cases e; rw [ihL _ _ hs hc]
      · cases e
    · split at e
      · rename_i hc; cases e; rw [ihL _ _ hs hc]
      · cases e
    · simp only [HV.sc, Bool.and_eq_true] at hs
      split at e
      · rename_i hf hc; cases e; rw [ihL _ _ hs.1 hf, ihL _ _ hs.2 hc]
      · cases e
    · exact absurd (blt_lt hs) (Nat.not_lt_zero _)
    · exact absurd (blt_lt hs) (Nat.not_lt_zero _)
    · cases e; rfl

theorem sfrzL_sc0 {D : Heap} (m : Nat) : ∀ (cs ds : List HV), scL 0 cs = true → cs.mapM (sfrz m D) = some ds → ds = cs
  | [], ds, _, e => by simp at e; exact e
  | c :: cs, ds, hs, e => by
    simp only [scL, Bool.and_eq_true] at hs
    simp only [List.mapM_cons, Option.pure_def, Option.bind_eq_bind, Option.bind_eq_some_iff] at e
    obtain ⟨d, hd, es, he, e⟩ := e
    cases e
    rw [sfrz_sc0 m _ _ hs.1 hd, sfrzL_sc0 m _ _ hs.2 he]

theorem callS_ok (hr : Good P r) {g : FuncId} {aa as' : List HV} {H H1 : Heap} {n1 : Nat} {rv q : HV} (ha : aa.mapM (sfrz 8 H) = some as') (h0 : scL 0 as' = true) (hc : r (.call g as' [] 0) = some (.call rv H1 n1))
    (hn : (scL 0 aa || (nf rv && nfH H1)) = true) (hf : sfrz 8 H1 rv = some q) (hq : q.sc 0 = true) (ρ : Nat → Nat) : ACallD P g (renL ρ aa) (renH ρ H) q := by
  obtain ⟨h1, h2, st, hcall⟩ := hr _ _ hc h0 rfl
  have hargs : renL ρ as' = (renL ρ aa).map (frz 8 (renH ρ H)) := (mapM_frz ρ ha).symm
  have hqr : ∀ ρ' : Nat → Nat, frz 8 (renH ρ' H1) (rv.ren ρ') = q := fun ρ' => by rw [sfrz_sound 8 H1 ρ' rv q hf, ren_sc0 ρ' hq]
  cases hs : scL 0 aa with
  | true =>
    have e : as' = aa := sfrzL_sc0 8 _ _ hs ha
    subst e
    refine ACallD.pure0 ?_
    rw [renL_sc0 ρ hs]
    have h5 := hcall ρ (fun r' H' => ∃ ρ', r' = rv.ren ρ' ∧ H' = renH ρ' H1) fun ρ' _ => ⟨ρ', rfl, rfl⟩
    rw [renL_sc0 ρ hs] at h5
    refine h5.conv ?_
    rintro r' H' ⟨ρ', rfl, rfl⟩
    exact ⟨_, _, Conv.all 8, hqr ρ', hqr ρ' ▸ sc0_clean q hq, rfl⟩
  | false =>
    rw [hs, Bool.false_or, Bool.and_eq_true] at hn
    refine ACall.lend (K := fun r' H' => ∃ ρ', r' = rv.ren ρ' ∧ H' = renH ρ' H1) 8 8 ?_ ?_ (sc0_clean q hq)
    · rw [← hargs]
      exact hcall ρ _ fun ρ' _ => ⟨ρ', rfl, rfl⟩
    · rintro r' H' ⟨ρ', rfl, rfl⟩
      exact ⟨nf_ren ρ' rv hn.1, nfH_ren ρ' H1 hn.2, hqr ρ'⟩

theorem sopS_ok (hT : T.Ok P) (hr : Good P r) {o : Oper} {q : HV} (h : sopS r T o s = some q) (ρ : Nat → Nat) {R : HV → Prop} (hq : R (q.ren ρ)) : aopS P o R (s.ren ρ) := by
  unfold sopS at h
  unfold aopS
  split at h
  · rename_i e x hop
    simp only [hop]
    unfold spBox at h
    try simp only [evR_eq, hgetR_eq, hsetR_eq, sgetR_eq, putR_eq, aslR_eq, apartsR_eq] at h
    split at h
    · rename_i hv hx
      split at h
      · rename_i cs hcs
        cases h
        simp only [ev_ren, hx, Option.map_some, cells_ren, hcs]
        exact hq
      · cases h
    · cases h
  · rename_i t m ps hop
    simp only [hop]
    unfold spBuild at h
    try simp only [evR_eq, hgetR_eq, hsetR_eq, sgetR_eq, putR_eq, aslR_eq, apartsR_eq] at h
    replace h := guardO_some h
    obtain ⟨h1, h⟩ := h
    split at h
    · rename_i k e cs hsl
      cases h
      exact ⟨Nat.le_of_ble_eq_true h1, sslice_sound hT.ty hsl hq⟩
    · cases h
  · rename_i f aa ts hop
    simp only [hop]
    unfold spCall at h
    try simp only [evR_eq, hgetR_eq, hsetR_eq, sgetR_eq, putR_eq, aslR_eq, apartsR_eq] at h
    split at h
    · rename_i g fs cs hs hf ha
      split at h
      · rename_i as' has'
        replace h := guardO_some h
        obtain ⟨h1, h⟩ := h
        split at h
        · rename_i rv H1 n1 hrc
          replace h := guardO_some h
          obtain ⟨h2, h⟩ := h
          split at h
          · rename_i q' hq'
            replace h := guardO_some h
            obtain ⟨h3, h⟩ := h
            cases h
            have := callS_ok hr has' h1 hrc h2 hq' h3 ρ
            simp only [ev_ren, hf, Option.map_some, HV.ren, evL_sc ha ρ]
            rw [← renL_append, ← renL_append]
            rw [ren_sc0 ρ h3] at hq
            exact ⟨q, this, hq⟩
          · cases h
        · cases h
      · cases h
    · cases h
  · have h' := sval_sound (P := P) hT.ty h hq
    split
    · rename_i h1 h2 h3 _ _ _ e; exact absurd e (h1 _ _)
    · rename_i h1 h2 h3 _ _ _ _ e; exact absurd e (h2 _ _ _)
    · rename_i e; rw [e] at h'; exact h'.elim
    · rename_i h1 h2 h3 _ _ _ _ e; exact absurd e (h3 _ _ _)
    · exact h'

theorem ssteps_ok (hT : T.Ok P) (hr : Good P r) {all : List Oper} (ρ : Nat → Nat) {K : AS → Prop} {s1 : AS} : ∀ (l : List Oper) (s : AS), s.sc n = true → ssteps r T all l s n = some s1 → s1.sc n = true ∧ s1.heap = s.heap ∧ (K (s1.ren ρ) → asteps P all l K (s.ren ρ))
  | [], s, hs, h => by cases h; exact ⟨hs, rfl, id⟩
  | o :: l, s, hs, h => by
    have go : ∀ (s0 : AS), s0.sc n = true → s0.heap = s.heap → (match sopS r T o s0 with
        | some h => guardO (h.sc n) (ssteps r T all l (s0.put o.dst h) n)
        | none => none) = some s1 → s1.sc n = true ∧ s1.heap = s.heap ∧ (K (s1.ren ρ) → aopS P o (fun h => asteps P all l K ((s0.ren ρ).put o.dst h)) (s0.ren ρ)) := by
      intro s0 hs0 hh h
      split at h
      · rename_i q hq
        replace h := guardO_some h
        obtain ⟨h1, h⟩ := h
        obtain ⟨h2, h3, h4⟩ := ssteps_ok hT hr ρ l _ (sc_put hs0 h1) h
        rw [put_heap', hh] at h3
        refine ⟨h2, h3, fun hK => sopS_ok hT hr hq ρ ?_⟩
        have := h4 hK
        rw [ren_put] at this
        exact this
      · cases h
    simp only [ssteps, sgetR_eq, putR_eq] at h
    split at h
    · rename_i hg
      obtain ⟨h1, h2, h3⟩ := go s hs rfl h
      refine ⟨h1, h2, fun hK => ?_⟩
      simp only [asteps, hg]
      exact h3 hK
    · rename_i j want hg
      split at h
      · rename_i oj hoj
        split at h
        · rename_i d hd
          split at h
          · rename_i b hb
            have hbr : sget (s.ren ρ).slots d = some (.bool b) := by
              show sget (renS ρ s.slots) d = _
              rw [sget_ren, hb]; rfl
            split at h
            · rename_i hbw
              have hbw : b = want := by simpa using hbw
              obtain ⟨h1, h2, h3⟩ := go (s.put (some d) (.bool want)) (sc_put hs rfl) rfl h
              refine ⟨h1, h2, fun hK => ?_⟩
              simp only [asteps, hg, hoj, hd, hbr]
              have h4 := h3 hK
              rw [ren_put] at h4
              rw [if_pos hbw]
              exact h4
            · rename_i hbw
              have hbw : b ≠ want := by simpa using hbw
              obtain ⟨h1, h2, h3⟩ := ssteps_ok hT hr ρ l _ (sc_put (d := o.dst) (h := .v undef) (sc_put (d := some d) (h := .bool !want) hs rfl) rfl) h
              rw [put_heap', put_heap'] at h2
              refine ⟨h1, h2, fun hK => ?_⟩
              simp only [asteps, hg, hoj, hd, hbr]
              have h4 := h3 hK
              rw [ren_put, ren_put] at h4
              rw [if_neg hbw]
              exact h4
          · cases h
        · cases h
      · cases h

theorem AW.ops {ro : Option Nat} {id : Nat} {ops : Array Oper} {Q : Exit → AS → Prop} (h : AOps P ro N ops (List.range' 0 ops.toList.length) (fun s' => Q .normal s') s) : AW P ro N (.region id ops false) Q s := by
  intro w0 μ0 μ a w hs hE
  refine wpIn_region ?_
  rw [List.range_eq_range', ← Array.length_toList]
  exact h w0 μ0 μ a w _ hs hE fun μ' s' a' w' hk hs' hE' => ⟨(fun _ h => by cases h), (fun h => by cases h), _, _, hk, hs', hE'⟩

theorem sdrawP_ok (hT : T.Ok P) (hr : Good P r) {id : Nat} {ops : Array Oper} (hok : ops.toList.all (fun o => okd N o.dst) = true) {p : Nat} (hs : s.sc n = true) (h : sdrawP r T ops s n p = some (s', n')) :
    s'.sc n' = true ∧ Step n n' s.heap s'.heap ∧ ∀ (ρ : Nat → Nat) (ro : Option Nat) (Q : Exit → AS → Prop), (∀ ρ', Agree n ρ ρ' → Q .normal (s'.ren ρ')) → AW P ro N (.region id ops true) Q (s.ren ρ) := by
  unfold sdrawP at h
  replace h := guardO_some h
  obtain ⟨hd, h⟩ := h
  split at h
  · rename_i s1 hst
    have h1 := fun (ρ : Nat → Nat) (K : AS → Prop) => ssteps_ok (K := K) hT hr ρ _ _ hs hst
    have h2 := h1 (fun v => v) fun _ => True
    obtain ⟨h3, h4, h5⟩ := sops_ok hT hr hok (ops.toList.drop p) p s1 n (fun k => by rw [List.getElem?_drop, Array.getElem?_toList]) h2.1 h
    rw [h2.2.1] at h4
    refine ⟨h3, h4, fun ρ ro Q hQ => AW.drawX p (fun x => x = s1.ren ρ) hT.draw hok hd ?_ ((h1 ρ _).2.2 rfl)⟩
    rintro x rfl
    have := h5 ρ ro (fun s' => Q .normal s') hQ
    have hl : (ops.toList.drop p).length = ops.size - p := by simp
    rw [hl] at this
    exact this
  · cases h

theorem sdraw_ok (hT : T.Ok P) (hr : Good P r) {id : Nat} {ops : Array Oper} (hok : ops.toList.all (fun o => okd N o.dst) = true) (hs : s.sc n = true) (h : sdraw r T ops s n = some (s', n')) :
    s'.sc n' = true ∧ Step n n' s.heap s'.heap ∧ ∀ (ρ : Nat → Nat) (ro : Option Nat) (Q : Exit → AS → Prop), (∀ ρ', Agree n ρ ρ' → Q .normal (s'.ren ρ')) → AW P ro N (.region id ops true) Q (s.ren ρ) := by
  unfold sdraw at h
  split at h
  · rename_i x hx
    cases h
    exact sdrawP_ok hT hr hok hs hx
  · exact sdrawP_ok hT hr hok hs h

theorem sres_ok (hT : T.Ok P) (ρ : Nat → Nat) : ∀ {rvs : List ResultVar} {hs : List HV} {R : List HV → Prop}, sres T.ty s rvs = some hs → R (renL ρ hs) → resAll P (s.ren ρ) rvs R
  | [], hs, R, h, hR => by cases h; exact hR
  | rv :: rvs, hs, R, h, hR => by
    simp only [sres] at h
    split at h
    · rename_i q qs hq hqs
      cases h
      have key : ∀ R' : HV → Prop, R' (q.ren ρ) → resOne P (s.ren ρ) rv R' := by
        intro R' hR'
        cases rv with
        | tmp t =>
          have : sget (renS ρ s.slots) t = some (q.ren ρ) := by rw [sget_ren]; simp only [sres1, sgetR_eq, hgetR_eq] at hq; rw [hq]; rfl
          simp only [resOne, AS.ren, this]
          exact hR'
        | cell t t' =>
          simp only [sres1, sgetR_eq, hgetR_eq] at hq
          split at hq
          · rename_i U cs off hU hx
            have : sget (s.ren ρ).slots t = some (.fptr (renL ρ cs) off) := by show sget (renS ρ s.slots) t = _; rw [sget_ren, hx]; rfl
            simp only [resOne, hT.ty _ _ hU, this]
            exact sload_sound hq hR'
          · rename_i U id ver off hU hx
            split at hq
            · rename_i ver' k e cs hg
              replace hq := guardO_some hq
              obtain ⟨h1, hq⟩ := hq
              have hv := Nat.eq_of_beq_eq_true h1
              subst hv
              have : sget (s.ren ρ).slots t = some (.ptr id (ρ ver) off) := by show sget (renS ρ s.slots) t = _; rw [sget_ren, hx]; rfl
              simp only [resOne, hT.ty _ _ hU, this, hget_s ρ hg, AObj.ren]
              exact ⟨trivial, sload_sound hq hR'⟩
            · cases hq
          · cases hq
      exact key _ (sres_ok hT ρ hqs hR)
    · cases h

theorem thenQ_ne {k : AS → Prop} {Q : Exit → AS → Prop} {e : Exit} (he : e ≠ .normal) {s : AS} (h : Q e s) : thenQ k Q e s := by
  cases e with
  | normal => exact absurd rfl he
  | _ => exact h

theorem rounds_step (hr : Good P r) {top : Bool} {x : Code} {o : Out} : ∀ (k : Nat) (s : AS) (n : Nat), s.sc n = true → rounds r top N x k s n = some o → ∃ e s2 n2, o = .code e s2 n2 ∧ s2.sc n2 = true ∧ Step n n2 s.heap s2.heap
  | 0, _, _, _, h => by cases h
  | k + 1, s, n, hs, h => by
    simp only [rounds] at h
    split at h
    · rename_i s1 n1 hr1
      obtain ⟨h1, h2, _⟩ := hr _ _ hr1 hs
      obtain ⟨e, s2, n2, h3, h4, h5⟩ := rounds_step hr k s1 n1 h1 h
      exact ⟨e, s2, n2, h3, h4, h2.trans (sc_heap_of hs) h5⟩
    · have := hr _ _ h
      cases o with
      | code e s2 n2 => exact ⟨e, s2, n2, rfl, (this hs).1, (this hs).2.1⟩
      | call rv H n2 => exact this.elim

theorem rounds_ok (hr : Good P r) {top : Bool} {x : Code} {o : Out} (k : Nat) (h : rounds r top N x k s n = some o) : Sem P (.code top N (.loop x) s n) o := by
  cases o with
  | call rv H n2 =>
    have : ∀ (k : Nat) (s : AS) (n : Nat), rounds r top N x k s n ≠ some (.call rv H n2) := by
      intro k
      induction k with
      | zero => intro s n h; cases h
      | succ k ih =>
        intro s n h
        simp only [rounds] at h
        split at h
        · exact ih _ _ h
        · exact (hr _ _ h).elim
    exact absurd h (this k s n)
  | code e s2 n2 =>
    intro hs
    obtain ⟨e', s2', n2', he, h1, h2⟩ := rounds_step hr k s n hs h
    cases he
    refine ⟨h1, h2, fun ρ ro Q htop hQ => ?_⟩
    refine AW.loop' (fun j s0 => ∃ s1 n1 ρ1, s0 = s1.ren ρ1 ∧ s1.sc n1 = true ∧ rounds r top N x j s1 n1 = some (.code e s2 n2) ∧ Agree n ρ ρ1 ∧ n ≤ n1) ⟨k, _, AS.le_refl _, s, n, ρ, rfl, hs, h, Agree.refl _ _, Nat.le_refl _⟩ ?_
    rintro j s0 ⟨s1, n1, ρ1, rfl, hs1, hj, hag, hn⟩
    cases j with
    | zero => cases hj
    | succ j =>
      simp only [rounds] at hj
      split at hj
      · rename_i s3 n3 hr3
        obtain ⟨h3, h4, h5⟩ := hr _ _ hr3 hs1
        refine h5 ρ1 ro _ htop fun ρ' hag' => ?_
        exact ⟨j, Nat.lt_succ_self j, _, AS.le_refl _, s3, n3, ρ', rfl, h3, hj, hag.trans hn hag', Nat.le_trans hn h4.le⟩
      · rename_i hno
        obtain ⟨h3, h4, h5⟩ := hr _ _ hj hs1
        refine h5 ρ1 ro _ htop fun ρ' hag' => thenQ_ne ?_ (hQ ρ' (hag.trans hn hag'))
        rintro rfl
        exact hno _ _ hj

theorem sc_enumS : ∀ (i : Nat) (args : List HV), scL n args = true → scS n (enumS i args) = true
  | _, [], _ => rfl
  | i, a :: args, h => by
    simp only [scL, Bool.and_eq_true] at h
    simp only [enumS, scS, h.1, sc_enumS (i + 1) args h.2, Bool.and_self]

theorem renS_enumS (ρ : Nat → Nat) : ∀ (i : Nat) (args : List HV), renS ρ (enumS i args) = enumS i (renL ρ args)
  | _, [] => rfl
  | i, a :: args => by simp only [enumS, renS, renL, renS_enumS ρ (i + 1) args]

theorem scL_append {cs ds : List HV} (h : scL n cs = true) (h' : scL n ds = true) : scL n (cs ++ ds) = true := by
  induction cs with
  | nil => exact h'
  | cons c cs ih =>
    simp only [scL, Bool.and_eq_true] at h
    simp only [List.cons_append, scL, h.1, ih h.2, Bool.and_self]

theorem joinR_ren (ρ : Nat → Nat) : ∀ hs : List HV, (joinR hs).ren ρ = joinR (renL ρ hs)
  | [] => rfl
  | [h] => rfl
  | _ :: _ :: _ => rfl

theorem strs_ren (ρ : Nat → Nat) : ∀ ls : List (List UInt8), renL ρ (ls.map HV.str) = ls.map HV.str
  | [] => rfl
  | a :: ls => by simp only [List.map_cons, renL, HV.ren, strs_ren ρ ls]
theorem ints_ren (ρ : Nat → Nat) : ∀ ls : List Int, renL ρ (ls.map (HV.int .i64)) = ls.map (HV.int .i64)
  | [] => rfl
  | a :: ls => by simp only [List.map_cons, renL, HV.ren, ints_ren ρ ls]
theorem strs_sc (n : Nat) : ∀ ls : List (List UInt8), scL n (ls.map HV.str) = true
  | [] => rfl
  | a :: ls => by simp only [List.map_cons, scL, HV.sc, strs_sc n ls, Bool.and_self]
theorem ints_sc (n : Nat) : ∀ ls : List Int, scL n (ls.map (HV.int .i64)) = true
  | [] => rfl
  | a :: ls => by simp only [List.map_cons, scL, HV.sc, ints_sc n ls, Bool.and_self]

theorem ssort_ok (hT : T.Ok P) {f : FuncId} {k : Bool} (hk : T.sort f = some k) {args : List HV} {H : Heap} {o : Out} (h : ssort k args H n = some o) : Sem P (.call f args H n) o := by
  unfold ssort at h
  simp only [hgetR_eq, hsetR_eq] at h
  split at h
  · cases h
    refine fun _ hH => ⟨rfl, hH, Step.refl _ _, fun ρ K hK => ?_⟩
    cases k with
    | true => exact (hT.sortS f hk).nil _ _ (hK ρ (Agree.refl _ _))
    | false => exact (hT.sortI f hk).nil _ _ (hK ρ (Agree.refl _ _))
  · rename_i id ver m
    split at h
    · rename_i ver' e cs hg
      split at h
      · split at h
        · rename_i ls hls
          replace h := guardO_some h
          obtain ⟨h1, h⟩ := h
          cases h
          simp only [Bool.and_eq_true] at h1
          have hv := Nat.eq_of_beq_eq_true h1.1
          subst hv
          have hm := Nat.eq_of_beq_eq_true h1.2.1
          subst hm
          have hcs := strsOf_eq hls
          subst hcs
          intro _ hH
          have hlt := sch_get hH hg
          refine ⟨rfl, scH_set _ _ _ _ hH hlt.1.1 hlt.1.2 (strs_sc _ _), ⟨Nat.le_refl _, LoopKeep.set (by rw [hg]; intros; simp), Back.set (.inr ⟨_, hg⟩)⟩, fun ρ K hK => ?_⟩
          refine (hT.sortS f hk).arr _ id (ρ ver) e ls K (by rw [hget_ren, hg]; simp only [Option.map_some, AObj.ren, strs_ren]) (blt_lt h1.2.2) ?_
          have := hK ρ (Agree.refl _ _)
          rw [renH_set] at this
          simp only [AObj.ren, strs_ren, HV.ren, renL] at this
          rw [sortS_isort]
          exact this
        · cases h
      · split at h
        · rename_i ls hls
          replace h := guardO_some h
          obtain ⟨h1, h⟩ := h
          cases h
          simp only [Bool.and_eq_true] at h1
          have hv := Nat.eq_of_beq_eq_true h1.1
          subst hv
          have hm := Nat.eq_of_beq_eq_true h1.2.1
          subst hm
          have hcs := intsOf_eq hls
          subst hcs
          intro _ hH
          have hlt := sch_get hH hg
          refine ⟨rfl, scH_set _ _ _ _ hH hlt.1.1 hlt.1.2 (ints_sc _ _), ⟨Nat.le_refl _, LoopKeep.set (by rw [hg]; intros; simp), Back.set (.inr ⟨_, hg⟩)⟩, fun ρ K hK => ?_⟩
          refine (hT.sortI f hk).arr _ id (ρ ver) e ls K (by rw [hget_ren, hg]; simp only [Option.map_some, AObj.ren, ints_ren]) (blt_lt h1.2.2) ?_
          have := hK ρ (Agree.refl _ _)
          rw [renH_set] at this
          simp only [AObj.ren, ints_ren, HV.ren, renL] at this
          rw [sortI_isort]
          exact this
        · cases h
    · cases h
  · cases h

theorem stCut_ok (hr : Good P r) {top : Bool} {ks : Option (List Nat)} {y : Code} {o : Out} (h : stCut T r top N ks y s n = some o) : Sem P (.code top N y s n) o := by
  unfold stCut at h
  split at h
  · rename_i ks
    rw [keepK_eq] at h
    have h2 := hr _ _ h
    cases o with
    | call rv H n2 => exact h2.elim
    | code e s2 n2 =>
      intro hs
      simp only [AS.sc, Bool.and_eq_true] at hs
      obtain ⟨h6, h7, h8⟩ := h2 (by simp only [AS.sc, Bool.and_eq_true]; exact ⟨keepL_sc hs.1 ks, hs.2⟩)
      exact ⟨h6, h7, fun ρ ro Q htop hQ => AW.weaken (h8 ρ ro Q htop hQ) (keepL_le ρ s ks)⟩
  · exact hr _ _ h

theorem step_ok (hT : T.Ok P) (hr : Good P r) : Good P (step T r) := by
  intro t o h
  cases t with
  | call f args H n =>
    simp only [step, stCall, stBody] at h
    split at h
    · rename_i k hk
      exact ssort_ok hT hk h
    split at h
    · -- a pure function that is known
      rename_i rv hx
      replace h := guardO_some h
      obtain ⟨h1, h⟩ := h
      cases h
      replace hx := guardO_some hx
      obtain ⟨h2, hx⟩ := hx
      intro hargs hH
      refine ⟨HV.sc_mono (Nat.zero_le _) rv h1, hH, Step.refl _ _, fun ρ K hK => ?_⟩
      have hf := hT.extP _ _ _ hx
      rw [renL_sc0 ρ h2]
      refine ACall.pure0 hf fun r hr => ?_
      subst hr
      have := hK ρ (Agree.refl _ _)
      rw [ren_sc0 ρ h1] at this
      exact this
    split at h
    · -- a function that is known
      rename_i rv hx
      replace h := guardO_some h
      obtain ⟨h1, h⟩ := h
      cases h
      split at hx
      · rename_i as' ha
        replace hx := guardO_some hx
        obtain ⟨h2, hx⟩ := hx
        intro hargs hH
        refine ⟨HV.sc_mono (Nat.zero_le _) rv h1, hH, Step.refl _ _, fun ρ K hK => ?_⟩
        have hf := hT.ext _ _ _ hx
        have ha2 := mapM_frz ρ ha
        rw [renL_sc0 ρ h2] at ha2
        refine hf.call 8 ha2 ?_
        have := hK ρ (Agree.refl _ _)
        rw [ren_sc0 ρ h1] at this
        exact this
      · cases hx
    · split at h
      · rename_i fn hfn
        split at h
        · rename_i c hc
          replace h := guardO_some h
          obtain ⟨h1, h⟩ := h
          split at h
          · rename_i e s1 n1 hr1
            replace h := guardO_some h
            obtain ⟨h2, h⟩ := h
            split at h
            · rename_i hs hres
              replace h := guardO_some h
              obtain ⟨h3, h⟩ := h
              cases h
              intro hargs hH
              obtain ⟨h4, h5, h6⟩ := hr _ _ hr1 (by simp only [AS.sc, sc_enumS 0 args hargs, hH, Bool.and_self])
              refine ⟨h3, gc_sc (sc_heap_of h4), h5.drop fun id x hx => gc_get hx, fun ρ K hK => ?_⟩
              obtain ⟨hf, hname⟩ := hT.fn _ _ hfn
              refine ACall.of_body hf hname hc (by rw [renL_len]; exact Nat.le_of_ble_eq_true h1) ?_
              have e0 : ({ slots := enumS 0 (renL ρ args), heap := renH ρ H } : AS) = (⟨enumS 0 args, H⟩ : AS).ren ρ := by simp only [AS.ren, renS_enumS]
              rw [e0]
              refine h6 ρ none _ (fun _ => rfl) fun ρ' hag => ⟨?_, sres_ok hT ρ' hres ?_⟩
              · cases e with
                | normal => exact .inl rfl
                | ret => exact .inr rfl
                | _ => cases h2
              · refine ⟨_, renH ρ' (gc n (joinR hs) s1.heap), Conv.drop fun id x hx => ?_, ?_⟩
                · rw [hget_ren] at hx
                  cases hg : hget (gc n (joinR hs) s1.heap) id with
                  | none => rw [hg] at hx; cases hx
                  | some y =>
                    rw [hg] at hx
                    show hget (renH ρ' s1.heap) id = some x
                    rw [hget_ren, gc_get hg]
                    exact hx
                · rw [← joinR_ren]
                  exact hK ρ' hag
            · cases h
          · cases h
        · cases h
      · cases h
  | code top N c s n =>
    simp only [step, stCode] at h
    split at h
    · cases h
      exact fun hs => ⟨hs, Step.refl _ _, fun ρ ro Q _ hQ => AW.skip (hQ ρ (Agree.refl _ _))⟩
    · cases h
      exact fun hs => ⟨hs, Step.refl _ _, fun ρ ro Q _ hQ => AW.exit (hQ ρ (Agree.refl _ _))⟩
    · cases h
      exact fun hs => ⟨hs, Step.refl _ _, fun ρ ro Q _ hQ => AW.ret (hQ ρ (Agree.refl _ _))⟩
    · -- seq
      unfold stSeq at h
      try simp only [evR_eq, hgetR_eq, hsetR_eq, sgetR_eq, putR_eq, aslR_eq, apartsR_eq] at h
      rename_i x y
      split at h
      · rename_i s1 n1 hr1
        have h2 := stCut_ok hr h
        cases o with
        | call rv H n2 => exact h2.elim
        | code e s2 n2 =>
          intro hs
          obtain ⟨h3, h4, h5⟩ := hr _ _ hr1 hs
          obtain ⟨h6, h7, h8⟩ := h2 h3
          refine ⟨h6, h4.trans (sc_heap_of hs) h7, fun ρ ro Q htop hQ => AW.seq (h5 ρ ro _ htop fun ρ1 ha1 => h8 ρ1 ro Q htop fun ρ2 ha2 => hQ ρ2 (ha1.trans h4.le ha2))⟩
      · rename_i hno
        have h2 := hr _ _ h
        cases o with
        | call rv H n2 => exact h2.elim
        | code e s2 n2 =>
          intro hs
          obtain ⟨h3, h4, h5⟩ := h2 hs
          exact ⟨h3, h4, fun ρ ro Q htop hQ => AW.seq (h5 ρ ro _ htop fun ρ' ha => thenQ_ne (fun e => by subst e; exact hno _ _ h) (hQ ρ' ha))⟩
    · -- block
      unfold stBlock at h
      try simp only [evR_eq, hgetR_eq, hsetR_eq, sgetR_eq, putR_eq, aslR_eq, apartsR_eq] at h
      rename_i i x
      split at h
      · rename_i j s1 n1 hr1
        cases h
        intro hs
        obtain ⟨h3, h4, h5⟩ := hr _ _ hr1 hs
        refine ⟨h3, h4, fun ρ ro Q htop hQ => AW.block (h5 ρ ro _ htop fun ρ' ha => ?_)⟩
        have := hQ ρ' ha
        simp only [blockQ]
        split
        · rename_i e; rw [if_pos e] at this; exact this
        · rename_i e; rw [if_neg e] at this; exact this
      · rename_i hno
        have h2 := hr _ _ h
        cases o with
        | call rv H n2 => exact h2.elim
        | code e s2 n2 =>
          intro hs
          obtain ⟨h3, h4, h5⟩ := h2 hs
          refine ⟨h3, h4, fun ρ ro Q htop hQ => AW.block (h5 ρ ro _ htop fun ρ' ha => ?_)⟩
          have := hQ ρ' ha
          cases e with
          | exit j => exact absurd h (hno _ _ _)
          | _ => exact this
    · -- cond
      unfold stCond at h
      try simp only [evR_eq, hgetR_eq, hsetR_eq, sgetR_eq, putR_eq, aslR_eq, apartsR_eq] at h
      rename_i c x y
      split at h
      · rename_i hc
        have h2 := hr _ _ h
        cases o with
        | call rv H n2 => exact h2.elim
        | code e s2 n2 =>
          intro hs
          obtain ⟨h3, h4, h5⟩ := h2 hs
          exact ⟨h3, h4, fun ρ ro Q htop hQ => AW.cond (t := true) (by rw [ev_ren, hc]; rfl) (fun _ => h5 ρ ro Q htop hQ) (fun e => by cases e)⟩
      · rename_i hc
        have h2 := hr _ _ h
        cases o with
        | call rv H n2 => exact h2.elim
        | code e s2 n2 =>
          intro hs
          obtain ⟨h3, h4, h5⟩ := h2 hs
          exact ⟨h3, h4, fun ρ ro Q htop hQ => AW.cond (t := false) (by rw [ev_ren, hc]; rfl) (fun e => by cases e) (fun _ => h5 ρ ro Q htop hQ)⟩
      · cases h
    · exact rounds_ok hr _ h
    · -- region
      unfold stRegion at h
      try simp only [evR_eq, hgetR_eq, hsetR_eq, sgetR_eq, putR_eq, aslR_eq, apartsR_eq] at h
      rename_i id ops dr
      replace h := guardO_some h
      obtain ⟨hok, h⟩ := h
      split at h
      · rename_i s1 n1 hop
        cases h
        intro hs
        cases dr with
        | true =>
          obtain ⟨h3, h4, h5⟩ := sdraw_ok (id := id) hT hr hok hs hop
          exact ⟨h3, h4, fun ρ ro Q _ hQ => h5 ρ ro Q hQ⟩
        | false =>
          obtain ⟨h3, h4, h5⟩ := sops_ok hT hr hok ops.toList 0 s n (fun k => by simp) hs hop
          exact ⟨h3, h4, fun ρ ro Q _ hQ => AW.ops (h5 ρ ro _ hQ)⟩
      · cases h
    · -- rangeFunc
      unfold stRange at h
      try simp only [evR_eq, hgetR_eq, hsetR_eq, sgetR_eq, putR_eq, aslR_eq, apartsR_eq] at h
      rename_i g ps assign body
      split at h
      · rename_i f fs cs hg
        replace h := guardO_some h
        obtain ⟨h1, h⟩ := h
        simp only [Bool.and_eq_true] at h1
        split at h
        · rename_i rv H n1 hr1
          split at h
          · rename_i v1 st' pend f1 m1 snap1 ps1 as1 bd1 hg1
            replace h := guardO_some h
            obtain ⟨h4, h⟩ := h
            -- the loop behind the iterator's call
            have fin : ∀ (pe : Option Code), pe = pend → ∀ (e : Exit), (∀ (ρ : Nat → Nat) (Q : Exit → AS → Prop) (sx : AS), Q e sx → match (generalizing := false) pe with
                | none => Q .normal sx
                | some c => AW P none N c Q sx) →
                Sem P (.code true N (.rangeFunc g ps assign body) s n) (.code e { s with heap := hset H n n (.loop .exhausted pe (n + 1) N s.slots ps assign body) } n1) := by
              intro pe hpe e hq hs
              subst hpe
              have hsh := sc_heap_of hs
              have hlsc : (AObj.loop .ready none (n + 1) N s.slots ps assign body).sc (n + 2) = true := by
                simp only [AObj.sc, scS_mono (Nat.le_add_right n 2) _ (sc_slots_of hs), Bool.and_true]
                simp [Nat.blt_eq]
              have hself : Nat.blt n (n + 2) = true := by simp [Nat.blt_eq]
              have h0 : scH (n + 2) (hset s.heap n n (.loop .ready none (n + 1) N s.slots ps assign body)) = true := scH_set _ _ _ _ (scH_mono (Nat.le_add_right n 2) _ hsh) (by omega) (by omega) hlsc
              have hargs : scL (n + 2) (fs ++ [.yl n n] ++ cs) = true := scL_append (scL_append (scL_mono (Nat.le_add_right n 2) _ h1.1) (by simp only [scL, HV.sc, hself, Bool.and_self])) (scL_mono (Nat.le_add_right n 2) _ h1.2)
              obtain ⟨h2, h3, st, hc⟩ := hr _ _ hr1 hargs h0
              have st0 : Step n (n + 2) s.heap (hset s.heap n n (.loop .ready none (n + 1) N s.slots ps assign body)) :=
                ⟨by omega, LoopKeep.set (by rw [sch_fresh hsh]; intros; simp), Back.set (.inl (Nat.le_refl _))⟩
              have st1 := st0.trans hsh st
              have hgl : hget (hset s.heap n n (.loop .ready none (n + 1) N s.slots ps assign body)) n = some (n, .loop .ready none (n + 1) N s.slots ps assign body) := by rw [hget_hset, if_pos rfl]
              obtain ⟨_, _, he1⟩ := st.loop _ _ _ _ _ _ _ _ _ _ hgl _ hg1
              cases he1
              have hls1 : (AObj.loop .exhausted pe (n + 1) N s.slots ps assign body).sc n1 = true := by
                simp only [AObj.sc, scS_mono st1.le _ (sc_slots_of hs), Bool.and_true]
                have := st.le
                simp [Nat.blt_eq]; omega
              have hn1 : n < n1 := by have := st.le; omega
              refine ⟨by simp only [AS.sc, scS_mono st1.le _ (sc_slots_of hs), scH_set _ n n _ h3 hn1 hn1 hls1, Bool.and_self], st1.trans hsh ⟨Nat.le_refl _, LoopKeep.setL hg1, Back.set (.inr ⟨_, hg1⟩)⟩, fun ρ ro Q htop hQ => ?_⟩
              have hro : ro = none := htop rfl
              subst hro
              have hg' : (s.ren ρ).ev g = some (.fn (.func f) (renL ρ fs) (renL ρ cs)) := by rw [ev_ren, hg]; rfl
              refine AW.rangeFunc n hg' fun fn ver => ?_
              have hu := Agree.upd n ver ρ
              have ha1 : Agree n ρ (upd (upd ρ n ver) (n + 1) fn) := hu.trans (Nat.le_succ n) (Agree.upd (n + 1) fn _)
              have e0 : hset (s.ren ρ).heap n ver (.loop .ready none fn N (s.ren ρ).slots ps assign body) = renH (upd (upd ρ n ver) (n + 1) fn) (hset s.heap n n (.loop .ready none (n + 1) N s.slots ps assign body)) := by
                rw [renH_set]
                simp only [AObj.ren, AS.ren]
                rw [renH_agree ha1 _ hsh, renS_agree ha1 _ (sc_slots_of hs), upd_at]
                simp [upd]
              have e1 : renL ρ fs ++ [.yl n ver] ++ renL ρ cs = renL (upd (upd ρ n ver) (n + 1) fn) (fs ++ [.yl n n] ++ cs) := by
                rw [renL_append, renL_append, renL_agree ha1 _ h1.1, renL_agree ha1 _ h1.2]
                simp only [renL, HV.ren]
                have : upd (upd ρ n ver) (n + 1) fn n = ver := by simp [upd]
                rw [this]
              rw [e0, e1]
              refine hc _ _ fun ρ' hag => ?_
              have hv : ρ' n = ver := by rw [← hag n (by omega)]; simp [upd]
              have hfn : ρ' (n + 1) = fn := by rw [← hag (n + 1) (by omega)]; simp [upd]
              have ha2 : Agree n ρ ρ' := ha1.trans (Nat.le_add_right n 2) hag
              have hsl : renS ρ' s.slots = (s.ren ρ).slots := (renS_agree ha2 _ (sc_slots_of hs)).symm
              have hQ' := hQ ρ' ha2
              have e2 : (({ s with heap := hset H n n (.loop .exhausted pe (n + 1) N s.slots ps assign body) } : AS)).ren ρ' = { s.ren ρ with heap := hset (renH ρ' H) n ver (.loop .exhausted pe fn N (s.ren ρ).slots ps assign body) } := by
                simp only [AS.ren, renH_set, AObj.ren, hv, hfn]
                rw [renS_agree ha2 _ (sc_slots_of hs)]
              rw [e2] at hQ'
              refine ⟨st', pe, ?_, ?_, ?_⟩
              · rw [hget_ren, hg1]
                simp only [Option.map_some, AObj.ren, hv, hfn, hsl]
              · rintro rfl; cases h4
              · have := hq ρ Q _ hQ'
                cases pe with
                | none => exact this
                | some c => exact this
            split at h
            · cases h
              exact fin none rfl .normal (fun ρ Q sx hx => hx)
            · cases h
              exact fin (some .ret) rfl .ret (fun ρ Q sx hx => AW.ret hx)
            · cases h
              exact fin (some (.exit _)) rfl (.exit _) (fun ρ Q sx hx => AW.exit hx)
            · cases h
          · cases h
        · cases h
      · cases h
    · cases h

theorem run_ok (hT : T.Ok P) : ∀ k, Good P (run T k)
  | 0 => fun _ _ h => by cases h
  | k + 1 => step_ok hT (run_ok hT k)

theorem Fresh.of_run (hT : T.Ok P) {f : FuncId} {args : List HV} {k n1 : Nat} {rv q : HV} {H : Heap} (h : run T k (.call f args [] 0) = some (.call rv H n1)) (ha : scL 0 args = true) (hn : (nf rv && nfH H) = true)
    (hf : sfrz 8 H rv = some q) (hq : q.sc 0 = true) : Fresh P f args q := by
  obtain ⟨_, _, _, hcall⟩ := run_ok hT k _ _ h ha rfl
  have h5 := hcall (fun v => v) (fun r' H' => ∃ ρ', r' = rv.ren ρ' ∧ H' = renH ρ' H) fun ρ' _ => ⟨ρ', rfl, rfl⟩
  rw [renL_id] at h5
  simp only [Bool.and_eq_true] at hn
  refine ⟨sc0_clean q hq, _, 8, h5, ?_⟩
  rintro r' H' ⟨ρ', rfl, rfl⟩
  exact ⟨nf_ren ρ' rv hn.1, nfH_ren ρ' H hn.2, by rw [sfrz_sound 8 H ρ' rv q hf, ren_sc0 ρ' hq]⟩
end
end Go.AW

/- Tables of known results for the evaluation. -/
namespace Go.AW
open Go

mutual
def HV.same : HV → HV → Bool
  | .int .i64 n, .int .i64 m => decide (n = m)
  | .int .u8 n, .int .u8 m => decide (n = m)
  | .int .u64 n, .int .u64 m => decide (n = m)
  | .int .u32 n, .int .u32 m => decide (n = m)
  | .bool b, .bool c => b == c
  | .str l, .str k => decide (l = k)
  | .agg cs, .agg ds => sameL cs ds
  | .tup cs, .tup ds => sameL cs ds
  | .sl k n cs, .sl k' n' ds => Nat.beq k k' && Nat.beq n n' && sameL cs ds
  | .v (.slice none 0 0), .v (.slice none 0 0) => true
  | _, _ => false
def sameL : List HV → List HV → Bool
  | [], [] => true
  | c :: cs, d :: ds => c.same d && sameL cs ds
  | _, _ => false
end

mutual
theorem HV.same_eq : ∀ a b : HV, a.same b = true → a = b
  | .int k n, b, h => by
    cases b with
    | int k' m => cases k <;> cases k' <;> simp [HV.same] at h <;> rw [h]
    | _ => cases k <;> simp [HV.same] at h
  | .bool x, b, h => by
    cases b <;> simp [HV.same] at h
    rw [h]
  | .str x, b, h => by
    cases b <;> simp [HV.same] at h
    rw [h]
  | .v x, b, h => by
    unfold HV.same at h
    split at h <;> simp_all
  | .agg cs, b, h => by
    cases b with
    | agg ds => simp only [HV.same] at h; rw [sameL_eq cs ds h]
    | _ => simp [HV.same] at h
  | .tup cs, b, h => by
    cases b with
    | tup ds => simp only [HV.same] at h; rw [sameL_eq cs ds h]
    | _ => simp [HV.same] at h
  | .sl k n cs, b, h => by
    cases b with
    | sl k' n' ds =>
      simp only [HV.same, Bool.and_eq_true] at h
      rw [Nat.eq_of_beq_eq_true h.1.1, Nat.eq_of_beq_eq_true h.1.2, sameL_eq cs ds h.2]
    | _ => simp [HV.same] at h
  | .ar _ _ _ _ _, b, h => by cases b <;> simp [HV.same] at h
  | .ptr _ _ _, b, h => by cases b <;> simp [HV.same] at h
  | .fptr _ _, b, h => by cases b <;> simp [HV.same] at h
  | .fn _ _ _, b, h => by cases b <;> simp [HV.same] at h
  | .mp _ _, b, h => by cases b <;> simp [HV.same] at h
  | .yl _ _, b, h => by cases b <;> simp [HV.same] at h
  | .it _ _, b, h => by cases b <;> simp [HV.same] at h
theorem sameL_eq : ∀ a b : List HV, sameL a b = true → a = b
  | [], [], _ => rfl
  | [], _ :: _, h => by simp [sameL] at h
  | _ :: _, [], h => by simp [sameL] at h
  | c :: cs, d :: ds, h => by
    simp only [sameL, Bool.and_eq_true] at h
    rw [HV.same_eq c d h.1, sameL_eq cs ds h.2]
end

def elook : List (FuncId × List HV × HV) → FuncId → List HV → Option HV
  | [], _, _ => none
  | (g, aa, q) :: l, f, args => bif (Nat.beq g f && sameL aa args) then some q else elook l f args

theorem elook_ok {P : Program} : ∀ {l : List (FuncId × List HV × HV)}, (∀ e ∈ l, Fresh P e.1 e.2.1 e.2.2) → ∀ f args r, elook l f args = some r → Fresh P f args r
  | [], _, _, _, _, h => by cases h
  | (g, aa, q) :: l, hl, f, args, r, h => by
    simp only [elook] at h
    cases hb : (Nat.beq g f && sameL aa args) with
    | true =>
      rw [hb] at h
      cases h
      simp only [Bool.and_eq_true] at hb
      have h1 := Nat.eq_of_beq_eq_true hb.1
      have h2 := sameL_eq _ _ hb.2
      subst h1 h2
      exact hl _ (List.mem_cons_self ..)
    | false =>
      rw [hb] at h
      exact elook_ok (fun e he => hl e (List.mem_cons_of_mem _ he)) f args r h

noncomputable def comes (T : Tabs) (k : Nat) (f : FuncId) (args : List HV) (q : HV) : Bool :=
  match run T k (.call f args [] 0) with
  | some (.call rv H _) => scL 0 args && (nf rv && nfH H) && (match sfrz 8 H rv with
    | some r => r.sc 0 && r.same q
    | none => false)
  | _ => false

theorem Fresh.of_comes {P : Program} {T : Tabs} (hT : T.Ok P) {k : Nat} {f : FuncId} {args : List HV} {q : HV} (h : comes T k f args q = true) : Fresh P f args q := by
  unfold comes at h
  split at h
  · rename_i rv H n1 hr
    simp only [Bool.and_eq_true] at h
    obtain ⟨⟨h1, h2⟩, h3⟩ := h
    split at h3
    · rename_i r hr'
      simp only [Bool.and_eq_true] at h3
      have := HV.same_eq _ _ h3.2
      subst this
      exact Fresh.of_run hT hr h1 (by simp only [h2.1, h2.2, Bool.and_self]) hr' h3.1
    · cases h3
  · cases h

noncomputable def comesP (T : Tabs) (k : Nat) (f : FuncId) (args : List HV) (q : HV) : Bool :=
  match run T k (.call f args [] 0) with
  | some (.call rv H _) => scL 0 args && (match sfrz 8 H rv with
    | some r => r.sc 0 && r.same q
    | none => false)
  | _ => false

theorem Pure.of_comes {P : Program} {T : Tabs} (hT : T.Ok P) {k : Nat} {f : FuncId} {args : List HV} {q : HV} (h : comesP T k f args q = true) : Pure P f args (· = q) := by
  unfold comesP at h
  split at h
  · rename_i rv H n1 hr
    simp only [Bool.and_eq_true] at h
    obtain ⟨h1, h3⟩ := h
    split at h3
    · rename_i r hf
      simp only [Bool.and_eq_true] at h3
      have := HV.same_eq _ _ h3.2
      subst this
      obtain ⟨_, _, _, hcall⟩ := run_ok hT k _ _ hr h1 rfl
      have h5 := hcall (fun v => v) (fun r' H' => ∃ ρ', r' = rv.ren ρ' ∧ H' = renH ρ' H) fun ρ' _ => ⟨ρ', rfl, rfl⟩
      rw [renL_id] at h5
      refine h5.conv ?_
      rintro r' H' ⟨ρ', rfl, rfl⟩
      exact ⟨_, _, Conv.all 8, by rw [sfrz_sound 8 H ρ' rv _ hf, ren_sc0 ρ' h3.1], by rw [sfrz_sound 8 H ρ' rv _ hf, ren_sc0 ρ' h3.1]; exact sc0_clean _ h3.1, rfl⟩
    · cases h3
  · cases h

end Go.AW

/- The evaluator's tables of this seat: no known results but those given, no sorting in place. -/
namespace Go.AW
open Go Go.Proofs

theorem namesT_ok : Tryz.prog.funcs.toList.all (fun x => !(x.name == "runtime.NumGoroutine")) = true := by kernel_rfl
theorem fnT_ok (f : FuncId) (x : Func) (h : Tryz.prog.funcs[f]? = some x) : (x.name == "runtime.NumGoroutine") = false := by
  have := List.all_eq_true.1 namesT_ok x (by
    rw [← Array.getElem?_toList] at h
    exact List.mem_of_getElem? h)
  simpa using this
def tabsE (P : Program) (l l' : List (FuncId × List HV × HV)) : Tabs where
  extP := elook l'
  ty := ty P
  fn := fun f => P.funcs[f]?
  ext := elook l
  sort := fun _ => none
  keep := fun _ _ => none
theorem elookP_ok {P : Program} : ∀ {l : List (FuncId × List HV × HV)}, (∀ e ∈ l, Pure P e.1 e.2.1 (· = e.2.2)) → ∀ f args r, elook l f args = some r → Pure P f args (· = r)
  | [], _, _, _, _, h => by cases h
  | (g, aa, q) :: l, hl, f, args, r, h => by
    simp only [elook] at h
    cases hb : (Nat.beq g f && sameL aa args) with
    | true =>
      rw [hb] at h
      cases h
      simp only [Bool.and_eq_true] at hb
      have h1 := Nat.eq_of_beq_eq_true hb.1
      have h2 := sameL_eq _ _ hb.2
      subst h1 h2
      exact hl _ (List.mem_cons_self ..)
    | false =>
      rw [hb] at h
      exact elookP_ok (fun e he => hl e (List.mem_cons_of_mem _ he)) f args r h
theorem tabsE_ok {P : Program} {l l' : List (FuncId × List HV × HV)} (hn : ∀ (f : FuncId) (x : Func), P.funcs[f]? = some x → (x.name == "runtime.NumGoroutine") = false) (hd : P.follows .mixedOrders = true) (hl : ∀ e ∈ l, Fresh P e.1 e.2.1 e.2.2) (hl' : ∀ e ∈ l', Pure P e.1 e.2.1 (· = e.2.2)) : (tabsE P l l').Ok P where
  extP := fun f args r h => elookP_ok hl' f args r h
  ty := fun _ _ h => h
  fn := fun f x h => ⟨h, hn f x h⟩
  ext := fun f args r h => elook_ok hl f args r h
  sortS := fun f h => by cases h
  sortI := fun f h => by cases h
  draw := hd
theorem tabsT_ok {l l' : List (FuncId × List HV × HV)} (hl : ∀ e ∈ l, Fresh Tryz.prog e.1 e.2.1 e.2.2) (hl' : ∀ e ∈ l', Pure Tryz.prog e.1 e.2.1 (· = e.2.2)) : (tabsE Tryz.prog l l').Ok Tryz.prog := tabsE_ok fnT_ok follows hl hl'
theorem tabs0_ok : (tabsE Tryz.prog [] []).Ok Tryz.prog := tabsT_ok (fun _ h => by cases h) (fun _ h => by cases h)
end Go.AW

/- bits.Len64 of small numbers, evaluated. -/
namespace Go.AW
open Go Go.Proofs
theorem w_math_bits_Len64 {p0 : Int} {r : Int} (h : m_math_bits_Len64 p0 = some r) : Pure Tryz.prog 117 [HV.int .u64 p0] (· = HV.int .i64 r) := by
  have hall : ∀ x ∈ [(1 : Int), 2, 3, 4, 5, 6], ∀ r, m_math_bits_Len64 x = some r → Pure Tryz.prog 117 [HV.int .u64 x] (· = HV.int .i64 r) := by
    intro x hx r h
    simp only [List.mem_cons, List.not_mem_nil, or_false] at hx
    rcases hx with rfl | rfl | rfl | rfl | rfl | rfl
    all_goals (cases h; exact Pure.of_comes (k := 1000) tabs0_ok (by kernel_rfl))
  refine hall p0 ?_ r h
  unfold m_math_bits_Len64 at h
  simp only [List.mem_cons, List.not_mem_nil, or_false]
  split at h
  · omega
  · split at h
    · omega
    · split at h
      · omega
      · cases h

end Go.AW

/- Models, printed by lk.py. -/
namespace Go.AW
open Go
set_option linter.unusedVariables false
noncomputable def m_integer_short (p0 : List (Int)) (p1 : Int) : Option ((List (Int)) × Int) :=
 if 0 ≤ (((p0).length : Int) : Int) ∧ (((p0).length : Int) : Int) ≤ ((p0).length : Int) ∧ (((p0).length : Int) : Int) * 4 ≤ 281474976710656 then
  (loopW (S := Int × Int × (List Int)) (X := (List Int) × Int) (fun a3 =>
      if 0 ≤ a3.2.1 then
       (idx p0 a3.2.1).bind fun x7 =>
       if (IntKind.wrap .u64 p1) ≠ 0 then
        if (IntKind.wrap .u64 p1) ≠ 0 then
         (idx a3.2.2 a3.2.1).bind fun x91101 =>
         some (Stp.next (Int.tmod (IntKind.wrap .u64 (BitVec.ofInt (IntKind.bits .u64) (IntKind.wrap .u64 (a3.1 * 2 ^ (min (32 : Int).toNat (IntKind.bits .u64)))) ||| BitVec.ofInt (IntKind.bits .u64) (IntKind.wrap .u64 x7)).toNat) (IntKind.wrap .u64 p1), IntKind.wrap .i64 (a3.2.1 - 1), (a3.2.2).set (a3.2.1).toNat (IntKind.wrap .u32 (IntKind.wrap .u64 (Int.tdiv (IntKind.wrap .u64 (BitVec.ofInt (IntKind.bits .u64) (IntKind.wrap .u64 (a3.1 * 2 ^ (min (32 : Int).toNat (IntKind.bits .u64)))) ||| BitVec.ofInt (IntKind.bits .u64) (IntKind.wrap .u64 x7)).toNat) (IntKind.wrap .u64 p1))))))
        else none
       else none
      else
       some (Stp.exit (a3.2.2, a3.1))) (0, IntKind.wrap .i64 (((p0).length : Int) - 1), List.replicate (((p0).length : Int)).toNat (0 : Int))).bind fun a10 =>
  (m_integer_trim a10.1).bind fun x12 =>
  some (x12, IntKind.wrap .u32 a10.2)
 else none

end Go.AW

/- Maps with texts as keys, in lockstep. -/
namespace Go.AW
open Go
def entE {β : Type} (f : β → HV) (l : List (List UInt8 × β)) : List (List UInt8 × HV) := l.map fun x => (x.1, f x.2)
def mlook {β : Type} (k : List UInt8) : List (List UInt8 × β) → Option β
  | [] => none
  | (q, h) :: es => if k = q then some h else mlook k es
def mputN {β : Type} (k : List UInt8) (h : β) : List (List UInt8 × β) → List (List UInt8 × β)
  | [] => [(k, h)]
  | (q, x) :: es => if k = q then (q, h) :: es else (q, x) :: mputN k h es
theorem alook_ent {β : Type} (f : β → HV) (k : List UInt8) : ∀ l : List (List UInt8 × β), alook k (entE f l) = (mlook k l).map f
  | [] => rfl
  | (q, x) :: l => by
    show alook k ((q, f x) :: entE f l) = _
    simp only [alook, mlook]
    split
    · rfl
    · exact alook_ent f k l
theorem mput_ent {β : Type} (f : β → HV) (k : List UInt8) (v : β) : ∀ l : List (List UInt8 × β), mput k (f v) (entE f l) = entE f (mputN k v l)
  | [] => rfl
  | (q, x) :: l => by
    show mput k (f v) ((q, f x) :: entE f l) = _
    simp only [mput, mputN]
    split
    · rfl
    · rw [mput_ent f k v l]; rfl
section
variable {P : Program} {ro : Option Nat} {N : Nat} {s : AS} {o : Oper} {sl : List (Nat × HV)} {H : Heap} {all : Array Oper} {rest : List Oper} {K : AS → Prop} {fid : Nat} {β : Type}

theorem o_makeMap (f : β → HV) {d : Nat} {t : TypeId} (id : Nat) (h0 : (o.dst, o.op) = (some d, .makeMap t none)) (hid : fid * 1000 + d = id)
    (k : ∀ ver, bops P ro N all rest K ⟨(d, .mp id ver) :: sl, (id, ver, .map (entE f [])) :: H⟩) : aop P fid [] o (fun s' => bops P ro N all rest K s') ⟨sl, H⟩ := by
  obtain ⟨h1, h2⟩ := Prod.mk.inj h0
  simp only [aop, h2, h1]
  intro ver
  have e : cid fid (some d) = id := hid
  rw [e]
  exact bops_le (putH_le (s := ⟨sl, H⟩) id ver (.map (entE f [])) d (.mp id ver)) (k ver)

theorem o_mapSet (f : β → HV) {t kt et : TypeId} {a b : Nat} {z : Value} {m x y : Operand} {id ver : Nat} {k : List UInt8} {v : β} {es : List (List UInt8 × β)} {a2 b2 : Nat} {z2 : Value} (h0 : (o.dst, o.op) = (none, .mapUpdate t m x y) ∨ (o.dst, o.op) = (none, .insert t m x y)) (hT : ty P t = some ⟨.map kt et, a, b, z⟩) (hK : ty P kt = some ⟨.string, a2, b2, z2⟩)
    (hm : (⟨sl, H⟩ : AS).ev m = some (.mp id ver)) (hx : (⟨sl, H⟩ : AS).ev x = some (.str k)) (hy : (⟨sl, H⟩ : AS).ev y = some (f v)) (hg : hget H id = some (ver, .map (entE f es))) (hn : noIter id H)
    (kk : bops P ro N all rest K ⟨sl, (id, ver, .map (entE f (mputN k v es))) :: H⟩) : aop P 0 [] o (fun s' => bops P ro N all rest K s') ⟨sl, H⟩ := by
  rcases h0 with h0 | h0
  all_goals
    obtain ⟨h1, h2⟩ := Prod.mk.inj h0
    simp only [aop, h2, hT, hm, hx, hy, hK, hg, h1]
    refine ⟨trivial, hn, ?_⟩
    rw [mput_ent]
    exact bops_le (putN_le (s := ⟨sl, H⟩) id ver _ _) kk

theorem o_look (f : β → HV) {d : Nat} {t kt et : TypeId} {a b : Nat} {z : Value} {m x : Operand} {id ver : Nat} {k : List UInt8} {v : β} {es : List (List UInt8 × β)} {a2 b2 : Nat} {z2 : Value} {Te : TyI} {zh : HV} (h0 : (o.dst, o.op) = (some d, .lookup t m x false)) (hT : ty P t = some ⟨.map kt et, a, b, z⟩) (hK : ty P kt = some ⟨.string, a2, b2, z2⟩) (hTe : ty P et = some Te) (hz : constHV Te.zero = some zh)
    (hm : (⟨sl, H⟩ : AS).ev m = some (.mp id ver)) (hx : (⟨sl, H⟩ : AS).ev x = some (.str k)) (hg : hget H id = some (ver, .map (entE f es))) (hl : ((mlook k es).map f).getD zh = f v)
    (kk : bops P ro N all rest K ⟨(d, f v) :: sl, H⟩) : aop P fid [] o (fun s' => bops P ro N all rest K s') ⟨sl, H⟩ := by
  obtain ⟨h1, h2⟩ := Prod.mk.inj h0
  simp only [aop, h2, hT, hm, hx, hK, hTe, hg, hz, h1, alook_ent, hl]
  exact ⟨trivial, bops_le (put_le d (f v)) kk⟩
theorem look_dflt {f : β → HV} {k : List UInt8} {v : β} {es : List (List UInt8 × β)} {zh : HV} (h : f v = zh) : ((mlook k es).map f).getD zh = f ((mlook k es).getD v) := by
  cases mlook k es with
  | none => exact h.symm
  | some x => rfl
end
end Go.AW

/- Lockstep walks: a call whose body is walked in its place, with what the caller owns. -/
namespace Go.AW
open Go
section
variable {P : Program} {ro : Option Nat} {N : Nat} {s : AS} {o : Oper} {sl : List (Nat × HV)} {H : Heap} {all : Array Oper} {rest l : List Oper} {K : AS → Prop} {Q : Exit → AS → Prop}

theorem bops_to (h : s.to (bops P ro N all l K)) : bops P ro N all l K s := fun hok i hi w0 μ0 μ a w Q hs hE hK => by
  obtain ⟨μ1, t, ht, hs1, E1⟩ := h ro N w0.heap.size μ a w hs
  exact ht hok i hi w0 μ0 μ1 a w Q hs1 (hE.trans E1) hK

theorem AW.fin {c : Code} (h : AW P ro N c (thenQ (fun s' => s'.to (Q .normal)) Q) s) : AW P ro N c Q s := by
  intro w0 μ0 μ a w hs hE
  refine wpIn_mono (h w0 μ0 μ a w hs hE) ?_
  rintro e a' w' ⟨h1, h2, μ', s', h3, h4, h5⟩
  cases e with
  | normal =>
    obtain ⟨μ2, t, ht, hs2, E2⟩ := h3 ro N w0.heap.size μ' a' w' h4
    exact ⟨h1, h2, μ2, t, ht, hs2, h5.trans E2⟩
  | exit id => exact ⟨h1, h2, μ', s', h3, h4, h5⟩
  | goto l => exact ⟨h1, h2, μ', s', h3, h4, h5⟩
  | ret => exact ⟨h1, h2, μ', s', h3, h4, h5⟩
  | panic ch => exact absurd rfl (h1 ch)
  | outgrown => exact absurd rfl h2

theorem o_callJ {S V R : Type} {M : S → Option R} {B : (S → Option R) → Option R} {r : R} {d : Nat} {aa : Array Operand} {ts : Array TypeId} {f : Operand} {g : FuncId} {fs hs cs args : List HV} (h : jp M B = some r) (St : S → V → AS) (h0 : (o.dst, o.op) = (some d, .call ⟨.value f, aa, ts⟩)) (hf : (⟨sl, H⟩ : AS).ev f = some (.fn (.func g) fs cs)) (ha : aa.toList.mapM (⟨sl, H⟩ : AS).ev = some hs) (hargs : fs ++ hs ++ cs = args)
    (k : ∀ a v, M a = some r → bops P ro N all rest K (St a v)) (b : ∀ M', B M' = some r → ACall P g args H fun q H' => (⟨(d, q) :: sl, H'⟩ : AS).to fun t => ∃ a v, M' a = some r ∧ t = St a v) : aop P 0 [] o (fun s' => bops P ro N all rest K s') ⟨sl, H⟩ := by
  obtain ⟨h1, h2⟩ := Prod.mk.inj h0
  refine op_call h2 hf ha hargs ((b M h).mono fun q H' hk => ?_)
  rw [h1]
  exact bops_le (put_le (s := ⟨sl, H'⟩) d q) (bops_to (to_mono hk fun t ⟨a, v, hm, e⟩ => by subst e; exact k a v hm))

theorem resAll_mono : ∀ {rvs : List ResultVar} {F G : List HV → Prop}, resAll P s rvs F → (∀ h, F h → G h) → resAll P s rvs G := by
  intro rvs
  induction rvs with
  | nil => intro F G h hg; exact hg _ h
  | cons rv rvs ih =>
    intro F G h hg
    have one : ∀ {R R' : HV → Prop}, resOne P s rv R → (∀ v, R v → R' v) → resOne P s rv R' := by
      intro R R' h hr
      unfold resOne at h ⊢
      split at h
      · split at h
        · exact hr _ h
        · exact h.elim
      · split at h
        · exact loadK_mono h hr
        · split at h
          · exact ⟨h.1, loadK_mono h.2 hr⟩
          · exact h.elim
        · exact h.elim
    exact one h fun v hv => ih hv fun hs => hg _

theorem ret_to {rvs : List ResultVar} {hs : List HV} {q : HV} {e : Exit} {K : HV → Heap → Prop} (he : e = .normal ∨ e = .ret) (hr : resAll P s rvs fun hs' => hs' = hs) (hj : joinR hs = q) (h : K q s.heap) : retQ P rvs K e s := by
  refine ⟨he, resAll_mono hr fun hs' e => ?_⟩
  subst e
  exact ⟨q, s.heap, by rw [hj]; exact Conv.refl _ _, h⟩
end
end Go.AW

/- Maps: looking up with an answer whether there is an entry; deleting while the map is ranged over. -/
namespace Go.AW
open Go Go.MapKept
section
variable {P : Program} {ro : Option Nat} {N : Nat} {s : AS} {w w' : World} {μ : Mu} {H : Heap}

section
variable {o : Oper} {sl : List (Nat × HV)} {H : Heap} {all : Array Oper} {rest : List Oper} {K : AS → Prop} {β : Type}
end

end
end Go.AW

/- Regions that draw their order, by the sets of the operations that are done. -/
namespace Go.AW
open Go
section
variable {P : Program} {ro : Option Nat} {N : Nat} {s : AS} {ops : Array Oper} {o : Oper} {K : AS → Prop} {G : AS → Prop} {F : List Nat → AS → Prop} {L : List Nat}

def AnyL (P : Program) (ro : Option Nat) (N : Nat) (ops : Array Oper) (K : AS → Prop) (L : List Nat) (s : AS) : Prop :=
  ∀ (w0 : World) (μ0 : Mu) (fuel : Nat) (listed : Array Bool) (μ1 : Mu) (a1 : Act) (w1 : World), listed.size = ops.size → cnt listed ≤ fuel → (∀ i, i < ops.size → listed.getD i false = L.contains i) →
    SRel ro N w0.heap.size μ1 s a1 w1 → Evo w0 μ0 w1 μ1 → wpAnyIn (fence ro) 0 P .any ops (Post ro N (fun e s' => e = .normal ∧ K s') w0 μ0) fuel listed a1 w1

def readyL (ops : Array Oper) (L : List Nat) : List Nat := (List.range ops.size).filter fun i => !L.contains i && (da ops i).all L.contains
def allR : List Nat → (Nat → Prop) → Prop
  | [], _ => True
  | i :: l, f => f i ∧ allR l f
theorem allR_mem {f : Nat → Prop} : ∀ {l : List Nat}, allR l f → ∀ i ∈ l, f i
  | [], _, _, h => by cases h
  | j :: l, h, i, hi => by
    rcases List.mem_cons.1 hi with rfl | hi
    · exact h.1
    · exact allR_mem h.2 i hi

theorem l_step (hF : F = AnyL P ro N ops K) (hda : daOk ops = true) (rs : List Nat) (hr : readyL ops L = rs) (hne : rs.isEmpty = false) (h : allR rs fun i => AOpI P ro N ops i (F (i :: L)) s) : F L s := by
  subst hF
  intro w0 μ0 fuel listed μ1 a1 w1 hl hc hlist hs hE
  have hda' := daOk_spec hda
  obtain ⟨q, hq⟩ : ∃ q, q ∈ rs := by
    cases rs with
    | nil => cases hne
    | cons q l => exact ⟨q, List.mem_cons_self ..⟩
  have hq' := hq
  rw [← hr] at hq'
  simp only [readyL, List.mem_filter, List.mem_range, Bool.and_eq_true, Bool.not_eq_true', List.all_eq_true] at hq'
  obtain ⟨hqs, hqL, hqd⟩ := hq'
  have hqn : listed.getD q false = false := by rw [hlist q hqs]; exact hqL
  cases fuel with
  | zero =>
    have := cnt_pos (listed := listed) (i := q) (by rw [getD_tf (by omega)]; exact hqn)
    omega
  | succ fuel =>
    refine ⟨fun hr0 => ?_, fun i hi => ?_⟩
    · exfalso
      have : q ∈ Region.ready .any ops listed := by
        refine mem_ready.2 ⟨by rw [getD_tf (by omega)]; exact hqn, ops[q], by simp [hqs], fun e he hb => ?_⟩
        have hk : e.on ∈ da ops q := by
          simp only [da, Array.getElem?_eq_getElem hqs, List.mem_map, List.mem_filter]
          exact ⟨e, ⟨by simpa using he, hb⟩, rfl⟩
        rw [hlist _ (Nat.lt_trans (hda' q hqs _ hk) hqs)]
        exact hqd _ hk
      rw [hr0] at this
      cases this
    · have hdone := deps_done hi
      obtain ⟨h0, o, ho, _⟩ := mem_ready.1 hi
      have his := (Array.getElem?_eq_some_iff.1 ho).1
      have h0' := h0
      rw [getD_tf (by omega), hlist i his] at h0'
      have hir : i ∈ rs := by
        rw [← hr]
        simp only [readyL, List.mem_filter, List.mem_range, Bool.and_eq_true, Bool.not_eq_true', List.all_eq_true]
        refine ⟨his, h0', fun k hk => ?_⟩
        rw [← hlist k (Nat.lt_trans (hda' i his k hk) his)]
        exact hdone k hk
      refine allR_mem h i hir w0 μ0 μ1 a1 w1 _ _ hs hE fun μ2 s2 a2 w2 hk hs2 hE2 => hk w0 μ0 fuel _ μ2 a2 w2 (by simp [hl]) ?_ (fun k hk => ?_) hs2 hE2
      · have := cnt_set (listed := listed) (i := i) h0
        omega
      · by_cases hki : i = k
        · subst hki
          have : i < listed.size := by omega
          simp [this]
        · rw [getD_set_ne false hki, hlist k hk]
          simp only [List.contains_cons]
          have : (k == i) = false := by simpa using fun e => hki e.symm
          rw [this, Bool.false_or]

theorem l_done (hF : F = AnyL P ro N ops K) (hda : daOk ops = true) (hall : (List.range ops.size).all L.contains = true) (h : K s) : F L s := by
  subst hF
  intro w0 μ0 fuel listed μ1 a1 w1 hl hc hlist hs hE
  have ha : AnyAt P ro N ops (fun e s' => e = .normal ∧ K s') ops.size s := AnyAt.done hda ⟨rfl, h⟩
  refine ha w0 μ0 fuel listed μ1 a1 w1 hl hc (fun i hi => ?_) hs hE
  rw [hlist i hi, decide_eq_true hi]
  exact List.all_eq_true.1 hall i (List.mem_range.2 hi)

theorem l_go {L' : List Nat} {s' : AS} (hF : F = AnyL P ro N ops K) (hsame : (List.range ops.size).all (fun i => L.contains i == L'.contains i) = true) (h : F L' s') (hle : s.le s') : F L s := by
  subst hF
  intro w0 μ0 fuel listed μ1 a1 w1 hl hc hlist hs hE
  refine h w0 μ0 fuel listed (μ1.cut s'.heap) a1 w1 hl hc (fun i hi => ?_) (hs.weaken hle) (hE.trans (Evo.cut w1 μ1 s'.heap))
  rw [hlist i hi]
  exact eq_of_beq (List.all_eq_true.1 hsame i (List.mem_range.2 hi))

theorem l_one {fid : Nat} {mt : List Nat} (hN : okd N o.dst = true) (h : aop P fid mt o (fun s' => bops P ro N #[] [] G s') s) : AOp P ro N o G s := by
  have hk : AOp P ro N o _ s := aop_sound hN h
  intro w0 μ0 μ a w next Q hs hE hK
  refine hk w0 μ0 μ a w next Q hs hE fun μ' s' a' w' h' hs' hE' => ?_
  have hb := h' (by simp) 0 (fun k => by simp)
  have := hb w0 μ0 μ' a' w' (fun _ a w => next a w) hs' hE' (fun μ2 s2 a2 w2 hk2 hs2 hE2 => hK μ2 s2 a2 w2 hk2 hs2 hE2)
  simpa only [List.length_nil, List.range'_zero, wpOpsIn] using this
theorem l_op {i : Nat} {fid : Nat} {mt : List Nat} (ho : ops[i]? = some o) (hg : o.guard = none) (hN : okd N o.dst = true) (h : aop P fid mt o (fun s' => bops P ro N #[] [] G s') s) : AOpI P ro N ops i G s := AOpI.plain ho hg (l_one hN h)
theorem AW.dl {id : Nat} {Q : Exit → AS → Prop} (hm : P.follows .mixedOrders = true) (h : ∀ K : AS → Prop, (∀ s', Q .normal s' → K s') → ∀ F : List Nat → AS → Prop, F = AnyL P ro N ops K → F [] s) : AW P ro N (.region id ops true) Q s := by
  refine AW.conseq (Q' := fun e s' => e = .normal ∧ Q .normal s') (AW.any hm ?_) fun e s1 ⟨he, h⟩ => he ▸ ⟨s1, AS.le_refl s1, h⟩
  intro w0 μ0 fuel listed μ1 a1 w1 hl hc hlist hs hE
  exact h (Q .normal) (fun _ h => h) _ rfl w0 μ0 fuel listed μ1 a1 w1 hl hc (fun i hi => by rw [hlist i hi]; simp) hs hE
end
end Go.AW

/- Regions that draw their order: an operation that looks at no world may be taken first. -/
namespace Go.AW
open Go

def plainOp : Op → Bool
  | .move _ | .assign _ | .fieldAddr .. | .indexAddr .. => true
  | _ => false

section
variable {P : Program} {ro : Option Nat} {N B : Nat} {s : AS} {μ : Mu} {a : Act} {w : World}
theorem aval_free (hs : SRel ro N B μ s a w) (o : Oper) {R : HV → Prop} (hp : plainOp o.op = true) (h : aval P o.op s R) :
    ∃ v, ∀ w', (execOp a.eval o).run P w' = .ok (.value v) w' := by
  unfold aval at h
  split at h
  · rename_i x hop
    exact ⟨a.eval x, fun w' => by simp [execOp, hop]⟩
  · rename_i x hop
    exact ⟨a.eval x, fun w' => by simp [execOp, hop]⟩
  all_goals first
    | (rename_i hop; rw [hop] at hp; cases hp; done)
    | exact h.elim
    | skip
  · rename_i S x f hop
    split at h
    · rename_i o' T id ver off hf hx
      obtain ⟨fs, fd, hu, hfd, rfl, hT, h0⟩ := fieldOf_spec hf
      obtain ⟨hlive, h⟩ := h
      rcases hs.ev hx with ⟨b, hl, he⟩ | ⟨hd, ad, he⟩
      · exact ⟨.pointer (some ⟨b, off + fd.offset, none⟩), fun w' => by simp [execOp, hop, he, Instr.fieldAt, Instr.sureAddr, hu, hfd, fieldPlace, ty_sizeOf hT, h0, Addr.add_lit]⟩
      · exact absurd hd (hs.notDead hlive)
    · rename_i o' T cs off hf hx
      obtain ⟨fs, fd, hu, hfd, rfl, hT, h0⟩ := fieldOf_spec hf
      obtain ⟨h9, b, base, vs, he, ho, hsg, hl⟩ := hs.ev hx
      exact ⟨.pointer (some ⟨b, base + (off + fd.offset), none⟩), fun w' => by simp [execOp, hop, he, Instr.fieldAt, Instr.sureAddr, hu, hfd, fieldPlace, ty_sizeOf hT, h0, Addr.add_lit, Nat.add_assoc]⟩
    · exact h.elim
  · rename_i t x i hop
    split at h
    · rename_i e sz by' z k' k n cs ki j hT hk hx hi
      obtain ⟨rfl, h0, h1, h⟩ := h
      obtain ⟨hi', _⟩ := hs.ev hi
      obtain ⟨h9, hcl, _, ⟨hn0, _⟩ | ⟨b, off, cap, vs, he, hcap, ho, hsg, hl⟩⟩ := hs.ev hx
      · omega
      · have hu := ty_under hT
        have hz := fun w => elemSize_slice hT rfl hk w
        exact ⟨.pointer (some ⟨b, off + j.toNat * k, none⟩), fun w' => by simp [execOp, hop, he, hi', Instr.indexAt, asIntOf, hu, h0, h1, hz, Addr.add_lit]⟩
    · rename_i e sz by' z k' id ver k off n ki j hT hk hx hi
      obtain ⟨rfl, h0, h1, hlive, h⟩ := h
      obtain ⟨hi', _⟩ := hs.ev hi
      have hu := ty_under hT
      have hz := fun w => elemSize_slice hT rfl hk w
      rcases hs.ev hx with ⟨l, hl, ⟨_, _, hn, _⟩ | ⟨b, cap, cur, e', rfl, he, hnc, hcm, hrow, hsz⟩⟩ | ⟨hd, ad, m, c, he⟩
      · omega
      · exact ⟨.pointer (some ⟨b, off + j.toNat * k, none⟩), fun w' => by simp [execOp, hop, he, hi', Instr.indexAt, asIntOf, hu, h0, h1, hz, Addr.add_lit]⟩
      · exact absurd hd (hs.notDead hlive)
    · rename_i len e sz by' z k' id ver off ki j hT hk hx hi
      obtain ⟨h0, h1, hlive, h⟩ := h
      obtain ⟨hi', _⟩ := hs.ev hi
      have hu := ty_under hT
      have hz := fun w => elemSize_array hT rfl hk w
      rcases hs.ev hx with ⟨b, hl, he⟩ | ⟨hd, ad, he⟩
      · exact ⟨.pointer (some ⟨b, off + j.toNat * k', none⟩), fun w' => by simp [execOp, hop, he, hi', Instr.indexAt, Instr.sureAddr, asIntOf, hu, h0, h1, hz, Addr.add_lit]⟩
      · exact absurd hd (hs.notDead hlive)
    · rename_i len e sz by' z k' cs off ki j hT hk hx hi
      obtain ⟨h0, h1, h⟩ := h
      obtain ⟨hi', _⟩ := hs.ev hi
      have hu := ty_under hT
      have hz := fun w => elemSize_array hT rfl hk w
      obtain ⟨h9, b, base, vs, he, ho, hsg, hl⟩ := hs.ev hx
      exact ⟨.pointer (some ⟨b, base + (off + j.toNat * k'), none⟩), fun w' => by simp [execOp, hop, he, hi', Instr.indexAt, Instr.sureAddr, asIntOf, hu, h0, h1, hz, Addr.add_lit, Nat.add_assoc]⟩
    · exact h.elim
end

section
variable {P : Program} {N : Nat} {s : AS} {ops : Array Oper} {o : Oper} {K : AS → Prop} {F : List Nat → AS → Prop} {L : List Nat}
def freeL (ops : Array Oper) (L : List Nat) (i : Nat) : Bool := match ops[i]? with
  | some oi => (List.range ops.size).all fun j => j == i || L.contains j || (da ops j).contains i || match ops[j]? with
    | some oj => oi.apart ops oj
    | none => true
  | none => false
def noSel (ops : Array Oper) : Bool := ops.toList.all fun o => match o.op with | .select .. => false | _ => true
theorem noSel_spec (h : noSel ops = true) (j : Nat) (o : Oper) (cs : Array SelectCase) (b : Bool) (ho : ops[j]? = some o) : o.op ≠ .select cs b := by
  intro heq
  have hm : o ∈ ops.toList := List.mem_of_getElem? (i := j) (by rw [Array.getElem?_toList]; exact ho)
  have := List.all_eq_true.1 h o hm
  simp [heq] at this
def takeOk (N : Nat) (ops : Array Oper) (L : List Nat) (i : Nat) : Bool := match ops[i]? with
  | some o => o.guard.isNone && okd N o.dst && plainOp o.op && noSel ops && !L.contains i && (da ops i).all L.contains && freeL ops L i && daOk ops
  | none => false

theorem l_take {i d : Nat} {v : HV} {sl : List (Nat × HV)} {H : Heap} (hF : F = AnyL P none N ops K) (ho : ops[i]? = some o) (hc : takeOk N ops L i = true) (h0 : (o.dst, isVal o.op) = (some d, true)) (hv : aval P o.op ⟨sl, H⟩ (· = v)) (k : F (i :: L) ⟨(d, v) :: sl, H⟩) : F L ⟨sl, H⟩ := by
  subst hF
  intro w0 μ0 fuel listed μ1 a1 w1 hl hcn hlist hs hE
  unfold takeOk at hc
  rw [ho] at hc
  simp only [Bool.and_eq_true, Bool.not_eq_true', List.all_eq_true] at hc
  obtain ⟨⟨⟨⟨⟨⟨⟨hg, hN⟩, hp⟩, hsel⟩, hiL⟩, hready⟩, hfree⟩, hda⟩ := hc
  have hda' := daOk_spec hda
  have his : i < ops.size := (Array.getElem?_eq_some_iff.1 ho).1
  have hin : listed.getD i false = false := by rw [hlist i his]; exact hiL
  have hg' : o.guard = none := by
    cases h : o.guard with
    | none => rfl
    | some x => rw [h] at hg; cases hg
  cases fuel with
  | zero =>
    have := cnt_pos (listed := listed) (i := i) (by rw [getD_tf (by omega)]; exact hin)
    omega
  | succ fuel =>
    obtain ⟨u, hu⟩ := aval_free hs o hp hv
    have hop : AOp P none N o (AnyL P none N ops K (i :: L)) ⟨sl, H⟩ := l_one (fid := 0) (mt := []) hN (o_val h0 hv (b_nil k))
    have hwp := hop w0 μ0 μ1 a1 w1 (fun a w => wpAnyIn (fence none) 0 P .any ops (Post none N (fun e s' => e = .normal ∧ K s') w0 μ0) fuel (listed.setIfInBounds i true) a w) (fun _ _ _ => False) hs hE (fun μ2 s2 a2 w2 hk hs2 hE2 => hk w0 μ0 fuel _ μ2 a2 w2 (by simp [hl]) (by
      have := cnt_set (listed := listed) (i := i) (by rw [getD_tf (by omega)]; exact hin)
      omega) (fun k hk => by
      by_cases hki : i = k
      · subst hki
        have : i < listed.size := by omega
        simp [this]
      · rw [getD_set_ne false hki, hlist k hk]
        simp only [List.contains_cons]
        have : (k == i) = false := by simpa using fun e => hki e.symm
        rw [this, Bool.false_or]) hs2 hE2)
    have hnext := hwp.2
    rw [fence_round, Oper.semAt_none, hu w1] at hnext
    refine wpAnyIn_first (oi := o) (v := u) (fence_round none) ho (noSel_spec hsel) (fun c a w hq => absurd rfl (hq.1 c)) fuel listed a1 w1 (fun j oj hj hne hun hno => ?_) ?_ ⟨.inl ⟨?_, hu⟩, fun w => ?_⟩ hnext
    · unfold freeL at hfree
      rw [ho] at hfree
      have hjs := (Array.getElem?_eq_some_iff.1 hj).1
      have := List.all_eq_true.1 hfree j (List.mem_range.2 hjs)
      simp only [Bool.or_eq_true, beq_iff_eq, hj] at this
      rcases this with ((h | h) | h) | h
      · exact absurd h hne
      · have hx := hlist j hjs
        rw [getD_tf (by omega)] at hun
        rw [hun, h] at hx
        cases hx
      · exfalso
        have h : i ∈ da ops j := by simpa using h
        simp only [da, hj, List.mem_map, List.mem_filter] at h
        obtain ⟨e, ⟨he, hb⟩, hei⟩ := h
        exact hno e (by simpa using he) hb hei
      · exact h
    · refine mem_ready.2 ⟨by rw [getD_tf (by omega)]; exact hin, o, ho, fun e he hb => ?_⟩
      have hk : e.on ∈ da ops i := by
        simp only [da, ho, List.mem_map, List.mem_filter]
        exact ⟨e, ⟨by simpa using he, hb⟩, rfl⟩
      rw [hlist _ (Nat.lt_trans (hda' i his _ hk) his)]
      exact hready _ hk
    · unfold Region.wanted
      rw [hg']
    · unfold Oper.about
      cases hh : o.op <;> first | rfl | (rw [hh] at hp; cases hp)
end
end Go.AW

/- Arrays of arrays in lockstep: an owned array in a place of an owned array of frozen ones (a place that is filled later). -/
namespace Go.AW
open Go

theorem SR.frzH {w : World} {μ : Mu} {H D H' : Heap} (n : Nat) (h : SR w μ H) (hD : ∀ id x, hget D id = some x → hget H id = some x ∧ hget H' id = none)
    (hs : ∀ id ver o, hget H' id = some (ver, o) → hget H id = some (ver, o) ∨ ∃ k e cs, hget H id = some (ver, .arr k e cs) ∧ o = .arr k e (cs.map (frz n D))) : SR w (μ.cut H') H' where
  ok := fun id ver b hb => h.ok id ver b (Mu.cut_some hb)
  has := fun id ver o ho => by
    rcases hs id ver o ho with h1 | ⟨k, e, cs, h1, rfl⟩
    · obtain ⟨l, hl, hor⟩ := h.has id ver o h1
      exact ⟨l, by simp [Mu.cut, ho, hl], hor.evo (Evo.cut w μ H') h.ok (fun _ _ => rfl) (fun _ _ _ _ _ _ _ _ => rfl)⟩
    · obtain ⟨l, hl, hor⟩ := h.has id ver _ h1
      refine ⟨l, by simp [Mu.cut, ho, hl], ?_⟩
      cases l with
      | none =>
        have : cs = [] := hor
        subst this
        exact (rfl : ([] : List HV).map (frz n D) = [])
      | some b =>
        obtain ⟨h0, cur, vs, rest, hrow, hcl, hrl⟩ := hor
        exact ⟨ones_frz h0, cur, vs, rest, hrow, hcl, RepL.mapF (fun c x _ => frz_rep h hD n c x) hrl⟩
  only := fun id x hx => by
    simp only [Mu.cut] at hx
    split at hx
    · rename_i hi; exact Option.isSome_iff_exists.1 hi
    · cases hx
  inj := fun i j v u b hi hj => h.inj i j v u b (Mu.cut_some hi) (Mu.cut_some hj)
  held := fun b hb => ⟨(h.held b hb).1, fun ⟨id, ver, hl⟩ => (h.held b hb).2 ⟨id, ver, Mu.cut_some hl⟩⟩

def leO (n : Nat) (D : Heap) (l : Heap) : Heap → Prop
  | [] => True
  | (i, v, o) :: l' => (hget l i = some (v, o) ∨ ∃ k e cs, hget l i = some (v, .arr k e cs) ∧ o = .arr k e (cs.map (frz n D))) ∧ leO n D l l'
theorem leO_get {n : Nat} {D l : Heap} : ∀ {l' : Heap}, leO n D l l' → ∀ t v o, hget l' t = some (v, o) → hget l t = some (v, o) ∨ ∃ k e cs, hget l t = some (v, .arr k e cs) ∧ o = .arr k e (cs.map (frz n D))
  | [], _, _, _, _, h => by cases h
  | (i, g, u) :: l', h, t, v, o, ht => by
    simp only [hget] at ht
    split at ht
    · rename_i e; subst e; cases ht; exact h.1
    · exact leO_get h.2 t v o ht

theorem to_fill {s : AS} {G : AS → Prop} (n : Nat) (D : Heap) (s' : AS) (h1 : leF n D s.slots s'.slots) (h2 : leO n D s.heap s'.heap) (h3 : leH s.heap D) (h4 : noneH s'.heap D) (h : G s') : s.to G := by
  intro ro N B μ a w hs
  have hD : ∀ id x, hget D id = some x → hget s.heap id = some x ∧ hget s'.heap id = none := fun id x hx => ⟨leH_get h3 id x hx, noneH_get h4 id x hx⟩
  refine ⟨μ.cut s'.heap, s', h, ⟨hs.size, hs.sr.frzH n hD (leO_get h2), fun t hv ht => ?_, hs.marks.evo (Evo.cut w μ s'.heap), hs.ro.evo (Evo.cut w μ s'.heap)⟩, Evo.cut w μ s'.heap⟩
  obtain ⟨g, hg, rfl⟩ := leF_get h1 t hv ht
  exact ⟨(hs.slot t g hg).1, frz_rep hs.sr hD n g _ (hs.slot t g hg).2⟩

theorem LeL.ones : ∀ {aa bs : List HV} (_ : LeL aa bs), ones aa → ones bs
  | _, _, .nil, h => h
  | _, _, .cons h h', h0 => fun c hc => by
    rcases List.mem_cons.1 hc with rfl | hc
    · have := h0 _ (List.mem_cons_self ..)
      cases h with
      | refl => exact this
      | nil => rfl
      | empty => rfl
    · exact LeL.ones h' (fun d hd => h0 d (List.mem_cons_of_mem _ hd)) c hc

section
variable {P : Program} {ro : Option Nat} {N : Nat} {all : Array Oper} {s : AS} {rest : List Oper} {o : Oper} {K : AS → Prop} {fid : Nat} {sl : List (Nat × HV)} {H : Heap}

theorem AOps.to {is : List Nat} (h : s.to (AOps P ro N all is K)) : AOps P ro N all is K s := fun w0 μ0 μ a w Q hs hE hK => by
  obtain ⟨μ1, t, ht, hs1, E1⟩ := h ro N w0.heap.size μ a w hs
  exact ht w0 μ0 μ1 a w Q hs1 (hE.trans E1) hK
theorem b_to {l : List Oper} (h : s.to (bops P ro N all l K)) : bops P ro N all l K s := fun hok i hi => AOps.to (to_mono h fun t ht => ht hok i hi)

end
end Go.AW

namespace Go.AW
open Go Go.Proofs
set_option linter.unusedVariables false
set_option maxHeartbeats 1600000 in
set_option maxRecDepth 100000 in
theorem w_integer_trim {p0 : List (Int)} {r : (List (Int))} (h : m_integer_trim p0 = some r) : Pure Tryz.prog 124 [slE (encM (HV.int .u32)) p0] (· = slE (encM (HV.int .u32)) r) := by
 unfold m_integer_trim at h
 refine Pure.of_body Tryz.func124 rfl rfl (Nat.le_of_ble_eq_true rfl) fun hf => ?_
 unfold Tryz.f124
 dsimp only [enumS, Nat.reduceAdd]
 refine AW.rgs rfl fun K hK => ?_
 refine mv rfl rfl ?_
 refine b_fin hK (s' := ⟨[(0, slE (encM (HV.int .u32)) p0)], []⟩) (le_q rfl rfl) ?_
 clear hK K
 refine AW.seq (AW.lpX h up_then (S := (List Int)) (V := Unit) (fun a v => ⟨[(0, slE (encM (HV.int .u32)) a)], []⟩) ?_ (X := (List Int)) (W := Unit) (fun a v => ⟨[(0, slE (encM (HV.int .u32)) a)], []⟩) (fun a12 w13 h => ?_) (fun a1 w2 st3 h => ?_))
 ·exact to_le (s' := ⟨[(0, slE (encM (HV.int .u32)) p0)], []⟩) (AS.le_of ⟨rfl, trivial⟩ trivial) ⟨(), rfl⟩
 ·refine AW.rgs rfl fun K hK => ?_
  refine mv rfl rfl ?_
  refine mv rfl rfl ?_
  refine b_fin hK (s' := ⟨[(2, slE (encM (HV.int .u32)) a12)], []⟩) (le_q rfl rfl) ?_
  clear hK K
  refine AW.ret ?_
  have h := Option.some.inj h
  subst h
  exact ret_pure (hs := [slE (encM (HV.int .u32)) a12]) (q := slE (encM (HV.int .u32)) a12) (.inr rfl) (resT rfl rfl) rfl (clean_slE fun _ _ => ⟨trivial, trivial⟩)
 refine AW.seq ?_
 refine AW.seqJ h (S := Bool) (V := Unit) (fun a v => ⟨[(0, slE (encM (HV.int .u32)) a1), (14, HV.bool a)], []⟩) (fun a5 w6 h => ?_) (fun k7 h => ?_)
 ·refine AW.cond rfl (fun hc => ?_) (fun hc => ?_)
  ·have h := ifT hc h
   refine AW.skip ?_
   refine AW.block ?_
   refine AW.rg rfl fun K hK => ?_
   refine mv rfl rfl ?_
   refine mv rfl rfl ?_
   refine bv rfl (v_lenF rfl rfl ty107 rfl) ?_
   refine bv rfl (v_bin rfl rfl b_sub) ?_
   obtain ⟨h8, h⟩ := ifN h
   refine bv rfl (v_sliceF (encM (HV.int .u32)) ty107 es107 rfl rfl rfl h8) ?_
   refine mv rfl rfl ?_
   refine b_nil (hK _ ?_)
   clear hK K
   exact to_le (s' := ⟨[(0, slE (encM (HV.int .u32)) ((a1.take (IntKind.wrap .i64 (((a1).length : Int) - 1)).toNat).drop (0 : Int).toNat))], []⟩) (AS.le_of ⟨rfl, trivial⟩ trivial) ⟨(a1.take (IntKind.wrap .i64 (((a1).length : Int) - 1)).toNat).drop (0 : Int).toNat, (), h, rfl⟩
  have h := ifF (bF' hc) h
  refine AW.exit ?_
  exact to_le (s' := ⟨[(0, slE (encM (HV.int .u32)) a1)], []⟩) (AS.le_of ⟨rfl, trivial⟩ trivial) ⟨a1, (), h, rfl⟩
 refine AW.rg rfl fun K hK => ?_
 refine mv rfl rfl ?_
 refine bv rfl (v_lenF rfl rfl ty107 rfl) ?_
 refine bv rfl (v_bin rfl rfl b_gtr) ?_
 refine mv rfl rfl ?_
 by_cases hg11 : 0 < ((a1).length : Int)
 ·have h := ifT hg11 h
  refine b_T rfl rfl rfl rfl (decide_eq_true hg11) (o_val rfl (mv_val rfl rfl).2 ?_)
  refine b_T rfl rfl rfl rfl rfl (o_val rfl (mv_val rfl rfl).2 ?_)
  refine b_T rfl rfl rfl rfl rfl (o_val rfl (v_lenF rfl rfl ty107 rfl) ?_)
  refine b_T rfl rfl rfl rfl rfl (o_val rfl (v_bin rfl rfl b_sub) ?_)
  obtain ⟨x9, h10, h⟩ := bS h
  refine b_T rfl rfl rfl rfl rfl (o_val rfl (v_idxF ty107 es107 rfl rfl (idx_lt h10)) ?_)
  refine b_T rfl rfl rfl rfl rfl (o_val rfl (v_loadF ty105 rfl (l_cell (encM (HV.int .u32)) h10 (o := 0) rfl rfl)) ?_)
  refine b_T rfl rfl rfl rfl rfl (o_val rfl (v_bin rfl rfl b_eql) ?_)
  refine bv rfl (v_pickT rfl rfl rfl) ?_
  refine b_nil (hK _ ?_)
  clear hK K
  exact to_le (s' := ⟨[(0, slE (encM (HV.int .u32)) a1), (14, HV.bool (decide (x9 = 0)))], []⟩) (AS.le_of ⟨rfl, rfl, trivial⟩ trivial) ⟨decide (x9 = 0), (), h, rfl⟩
 have h := ifF hg11 h
 refine b_F rfl rfl rfl rfl rfl (decide_eq_false hg11) ?_
 refine b_F rfl rfl rfl rfl rfl rfl ?_
 refine b_F rfl rfl rfl rfl rfl rfl ?_
 refine b_F rfl rfl rfl rfl rfl rfl ?_
 refine b_F rfl rfl rfl rfl rfl rfl ?_
 refine b_F rfl rfl rfl rfl rfl rfl ?_
 refine b_F rfl rfl rfl rfl rfl rfl ?_
 refine bv rfl (v_pickF rfl rfl rfl) ?_
 refine b_nil (hK _ ?_)
 clear hK K
 exact to_le (s' := ⟨[(0, slE (encM (HV.int .u32)) a1), (14, HV.bool false)], []⟩) (AS.le_of ⟨rfl, rfl, trivial⟩ trivial) ⟨false, (), h, rfl⟩

set_option maxHeartbeats 1600000 in
set_option maxRecDepth 100000 in
theorem w_integer_number {p0 : Bool} {p1 : List (Int)} {r : TNegMag} (h : m_integer_number p0 p1 = some r) : Pure Tryz.prog 71 [HV.bool p0, slE (encM (HV.int .u32)) p1] (· = HV.agg [HV.bool r.1, HV.str r.2]) := by
 unfold m_integer_number at h
 refine Pure.of_body Tryz.func71 rfl rfl (Nat.le_of_ble_eq_true rfl) fun hf => ?_
 unfold Tryz.f71
 dsimp only [enumS, Nat.reduceAdd]
 refine AW.rgs rfl fun K hK => ?_
 refine b_op rfl (o_alloc (fid := 71) (zs := [HV.bool false, HV.str ([] : List UInt8)]) 71004 rfl rfl ty42 rfl (fun v1 => ?_))
 refine b_fin hK (s' := ⟨[(0, HV.bool p0), (1, slE (encM (HV.int .u32)) p1), (4, HV.ptr 71004 v1 0)], [(71004, v1, .arr 2 42 [HV.bool false, HV.str ([] : List UInt8)])]⟩) (le_q rfl rfl) ?_
 clear hK K
 refine AW.rgs rfl fun K hK => ?_
 refine mv rfl rfl ?_
 obtain ⟨x2, h3, h⟩ := bS h
 refine b_op rfl (o_call rfl rfl rfl rfl (ACallD.pure0 (w_integer_trim h3)) ?_)
 refine mv rfl rfl ?_
 refine b_fin hK (s' := ⟨[(0, HV.bool p0), (1, slE (encM (HV.int .u32)) x2), (4, HV.ptr 71004 v1 0)], [(71004, v1, .arr 2 42 [HV.bool false, HV.str ([] : List UInt8)])]⟩) (le_q rfl rfl) ?_
 clear hK K
 refine AW.seq ?_
 refine AW.rgs rfl fun K hK => ?_
 refine mv rfl rfl ?_
 refine bv rfl (v_lenF rfl rfl ty107 rfl) ?_
 refine bv rfl (v_bin rfl rfl b_eql) ?_
 refine b_fin hK (s' := ⟨[(0, HV.bool p0), (1, slE (encM (HV.int .u32)) x2), (4, HV.ptr 71004 v1 0), (13, HV.bool (decide (((x2).length : Int) = 0)))], [(71004, v1, .arr 2 42 [HV.bool false, HV.str ([] : List UInt8)])]⟩) (le_q rfl rfl) ?_
 clear hK K
 refine AW.cond rfl (fun hc => ?_) (fun hc => ?_)
 ·have hc := of_decide_eq_true hc
  have h := ifT hc h
  refine AW.rgs rfl fun K hK => ?_
  refine b_op rfl (o_build (cs := [HV.bool false, HV.str ([] : List UInt8)]) rfl (bl_of ty42 rfl rfl rfl rfl) ?_)
  refine b_op rfl (o_store (cs := [HV.bool false, HV.str ([] : List UInt8)]) (zs := [HV.bool false, HV.str ([] : List UInt8)]) rfl rfl rfl ty42 rfl rfl rfl rfl rfl ?_)
  refine b_fin hK (s' := ⟨[(4, HV.ptr 71004 v1 0)], [(71004, v1, .arr 2 42 [HV.bool false, HV.str ([] : List UInt8)])]⟩) (le_q rfl rfl) ?_
  clear hK K
  refine AW.ret ?_
  have h := Option.some.inj h
  subst h
  exact ret_pure (hs := [HV.agg [HV.bool false, HV.str ([] : List UInt8)]]) (q := HV.agg [HV.bool false, HV.str ([] : List UInt8)]) (.inr rfl) (resP ty42 rfl rfl (l_litA rfl (Nat.le_of_ble_eq_true rfl) rfl) rfl) rfl ⟨trivial, trivial, trivial⟩
 have hc := of_decide_eq_false hc
 have h := ifF hc h
 refine AW.skip ?_
 refine AW.rgs rfl fun K hK => ?_
 refine mv rfl rfl ?_
 refine bv rfl (v_lenF rfl rfl ty107 rfl) ?_
 refine bv rfl (v_bin rfl rfl b_mul) ?_
 obtain ⟨h5, h⟩ := ifN h
 refine b_op rfl (o_makeE (fid := 71) eU8 (0 : Int) 71018 rfl rfl ty28 rfl rfl ty5 rfl rfl h5 (fun v4 => ?_))
 refine mv rfl rfl ?_
 refine b_fin hK (s' := ⟨[(0, HV.bool p0), (1, slE (encM (HV.int .u32)) x2), (4, HV.ptr 71004 v1 0), (5, HV.ar 71018 v4 eU8.k 0 ((List.replicate (0 : Int).toNat (0 : Int)).length))], [(71004, v1, .arr 2 42 [HV.bool false, HV.str ([] : List UInt8)]), (71018, v4, .arr eU8.k 5 (eU8.E (List.replicate (0 : Int).toNat (0 : Int))))]⟩) (le_q rfl rfl) ?_
 clear hK K
 refine AW.seq ?_
 refine AW.rgs rfl fun K hK => ?_
 refine mv rfl rfl ?_
 refine bv rfl (v_lenF rfl rfl ty107 rfl) ?_
 refine bv rfl (v_bin rfl rfl b_sub) ?_
 refine mv rfl rfl ?_
 refine b_fin hK (s' := ⟨[(0, HV.bool p0), (1, slE (encM (HV.int .u32)) x2), (4, HV.ptr 71004 v1 0), (5, HV.ar 71018 v4 eU8.k 0 ((List.replicate (0 : Int).toNat (0 : Int)).length)), (6, HV.int .i64 (IntKind.wrap .i64 (((x2).length : Int) - 1)))], [(71004, v1, .arr 2 42 [HV.bool false, HV.str ([] : List UInt8)]), (71018, v4, .arr eU8.k 5 (eU8.E (List.replicate (0 : Int).toNat (0 : Int))))]⟩) (le_q rfl rfl) ?_
 clear hK K
 refine AW.lpX h (by first | exact up_then | exact up_to) (S := Int × (List Int)) (V := Nat) (fun a v => ⟨[(0, HV.bool p0), (1, slE (encM (HV.int .u32)) x2), (4, HV.ptr 71004 v1 0), (5, HV.ar 71018 v eU8.k 0 ((a.2).length)), (6, HV.int .i64 a.1)], [(71004, v1, .arr 2 42 [HV.bool false, HV.str ([] : List UInt8)]), (71018, v, .arr eU8.k 5 (eU8.E a.2))]⟩) ?_ (X := (List Int)) (W := Nat) (fun a v => ⟨[(0, HV.bool p0), (4, HV.ptr 71004 v1 0), (5, HV.ar 71018 v eU8.k 0 ((a).length))], [(71004, v1, .arr 2 42 [HV.bool false, HV.str ([] : List UInt8)]), (71018, v, .arr eU8.k 5 (eU8.E a))]⟩) (fun a28 w29 h => ?_) (fun a6 w7 st8 h => ?_)
 ·exact to_le (s' := ⟨[(0, HV.bool p0), (1, slE (encM (HV.int .u32)) x2), (4, HV.ptr 71004 v1 0), (5, HV.ar 71018 v4 eU8.k 0 ((List.replicate (0 : Int).toNat (0 : Int)).length)), (6, HV.int .i64 (IntKind.wrap .i64 (((x2).length : Int) - 1)))], [(71004, v1, .arr 2 42 [HV.bool false, HV.str ([] : List UInt8)]), (71018, v4, .arr eU8.k 5 (eU8.E (List.replicate (0 : Int).toNat (0 : Int))))]⟩) (AS.le_of ⟨rfl, rfl, rfl, rfl, rfl, trivial⟩ ⟨rfl, rfl, trivial⟩) ⟨v4, rfl⟩
 ·refine AW.to (to_frz 2 [(71018, w29, .arr eU8.k 5 (eU8.E a28))] ⟨[(0, HV.bool p0), (4, HV.ptr 71004 v1 0), (5, slE eU8 a28)], [(71004, v1, .arr 2 42 [HV.bool false, HV.str ([] : List UInt8)])]⟩ ⟨⟨_, rfl, rfl⟩, ⟨_, rfl, rfl⟩, ⟨_, rfl, frz_slE eU8 (l := a28) rfl fun _ _ => rfl⟩, trivial⟩ ⟨rfl, trivial⟩ ⟨rfl, trivial⟩ ⟨rfl, trivial⟩ ?_)
  refine AW.rgs rfl fun K hK => ?_
  refine mv rfl rfl ?_
  refine mv rfl rfl ?_
  refine bv rfl (v_convB (l := a28) ty28 ty5 ty9 rfl) ?_
  refine b_op rfl (o_build (cs := [HV.bool p0, HV.str (a28.map fun (n : Int) => UInt8.ofNat n.toNat)]) rfl (bl_of ty42 rfl rfl rfl rfl) ?_)
  refine b_op rfl (o_store (cs := [HV.bool p0, HV.str (a28.map fun (n : Int) => UInt8.ofNat n.toNat)]) (zs := [HV.bool p0, HV.str (a28.map fun (n : Int) => UInt8.ofNat n.toNat)]) rfl rfl rfl ty42 rfl rfl rfl rfl rfl ?_)
  refine b_fin hK (s' := ⟨[(4, HV.ptr 71004 v1 0)], [(71004, v1, .arr 2 42 [HV.bool p0, HV.str (a28.map fun (n : Int) => UInt8.ofNat n.toNat)])]⟩) (le_q rfl rfl) ?_
  clear hK K
  refine AW.ret ?_
  have h := Option.some.inj h
  subst h
  exact ret_pure (hs := [HV.agg [HV.bool p0, HV.str (a28.map fun (n : Int) => UInt8.ofNat n.toNat)]]) (q := HV.agg [HV.bool p0, HV.str (a28.map fun (n : Int) => UInt8.ofNat n.toNat)]) (.inr rfl) (resP ty42 rfl rfl (l_litA rfl (Nat.le_of_ble_eq_true rfl) rfl) rfl) rfl ⟨trivial, trivial, trivial⟩
 refine AW.seq ?_
 refine AW.rgs rfl fun K hK => ?_
 refine mv rfl rfl ?_
 refine bv rfl (v_bin rfl rfl b_geq) ?_
 refine b_fin hK (s' := ⟨[(0, HV.bool p0), (1, slE (encM (HV.int .u32)) x2), (4, HV.ptr 71004 v1 0), (5, HV.ar 71018 w7 eU8.k 0 ((a6.2).length)), (6, HV.int .i64 a6.1), (23, HV.bool (decide (0 ≤ a6.1)))], [(71004, v1, .arr 2 42 [HV.bool false, HV.str ([] : List UInt8)]), (71018, w7, .arr eU8.k 5 (eU8.E a6.2))]⟩) (le_q rfl rfl) ?_
 clear hK K
 refine AW.cond rfl (fun hc => ?_) (fun hc => ?_)
 ·have hc := of_decide_eq_true hc
  have h := ifT hc h
  refine AW.skip ?_
  refine AW.seq (AW.block ?_)
  refine AW.rgs rfl fun K hK => ?_
  refine mv rfl rfl ?_
  refine b_fin hK (s' := ⟨[(0, HV.bool p0), (1, slE (encM (HV.int .u32)) x2), (4, HV.ptr 71004 v1 0), (5, HV.ar 71018 w7 eU8.k 0 ((a6.2).length)), (6, HV.int .i64 a6.1), (7, HV.int .i64 3)], [(71004, v1, .arr 2 42 [HV.bool false, HV.str ([] : List UInt8)]), (71018, w7, .arr eU8.k 5 (eU8.E a6.2))]⟩) (le_q rfl rfl) ?_
  clear hK K
  refine AW.lpX h (by first | exact up_then | exact up_to) (S := Int × (List Int)) (V := Nat) (fun a v => ⟨[(0, HV.bool p0), (1, slE (encM (HV.int .u32)) x2), (4, HV.ptr 71004 v1 0), (5, HV.ar 71018 v eU8.k 0 ((a.2).length)), (6, HV.int .i64 a6.1), (7, HV.int .i64 a.1)], [(71004, v1, .arr 2 42 [HV.bool false, HV.str ([] : List UInt8)]), (71018, v, .arr eU8.k 5 (eU8.E a.2))]⟩) ?_ (X := (List Int)) (W := Nat) (fun a v => ⟨[(0, HV.bool p0), (1, slE (encM (HV.int .u32)) x2), (4, HV.ptr 71004 v1 0), (5, HV.ar 71018 v eU8.k 0 ((a).length)), (6, HV.int .i64 a6.1)], [(71004, v1, .arr 2 42 [HV.bool false, HV.str ([] : List UInt8)]), (71018, v, .arr eU8.k 5 (eU8.E a))]⟩) (fun a26 w27 h => ?_) (fun a10 w11 st12 h => ?_)
  ·exact to_le (s' := ⟨[(0, HV.bool p0), (1, slE (encM (HV.int .u32)) x2), (4, HV.ptr 71004 v1 0), (5, HV.ar 71018 w7 eU8.k 0 ((a6.2).length)), (6, HV.int .i64 a6.1), (7, HV.int .i64 3)], [(71004, v1, .arr 2 42 [HV.bool false, HV.str ([] : List UInt8)]), (71018, w7, .arr eU8.k 5 (eU8.E a6.2))]⟩) (AS.le_of ⟨rfl, rfl, rfl, rfl, rfl, rfl, trivial⟩ ⟨rfl, rfl, trivial⟩) ⟨w7, rfl⟩
  ·refine AW.rg rfl fun K hK => ?_
   refine mv rfl rfl ?_
   refine bv rfl (v_bin rfl rfl b_sub) ?_
   refine mv rfl rfl ?_
   refine b_nil (hK _ ?_)
   clear hK K
   exact to_le (s' := ⟨[(0, HV.bool p0), (1, slE (encM (HV.int .u32)) x2), (4, HV.ptr 71004 v1 0), (5, HV.ar 71018 w27 eU8.k 0 ((a26).length)), (6, HV.int .i64 (IntKind.wrap .i64 (a6.1 - 1)))], [(71004, v1, .arr 2 42 [HV.bool false, HV.str ([] : List UInt8)]), (71018, w27, .arr eU8.k 5 (eU8.E a26))]⟩) (AS.le_of ⟨rfl, rfl, rfl, rfl, rfl, trivial⟩ ⟨rfl, rfl, trivial⟩) ⟨(IntKind.wrap .i64 (a6.1 - 1), a26), w27, h, rfl⟩
  refine AW.seq ?_
  refine AW.rgs rfl fun K hK => ?_
  refine mv rfl rfl ?_
  refine bv rfl (v_bin rfl rfl b_geq) ?_
  refine b_fin hK (s' := ⟨[(0, HV.bool p0), (1, slE (encM (HV.int .u32)) x2), (4, HV.ptr 71004 v1 0), (5, HV.ar 71018 w11 eU8.k 0 ((a10.2).length)), (6, HV.int .i64 a6.1), (7, HV.int .i64 a10.1), (27, HV.bool (decide (0 ≤ a10.1)))], [(71004, v1, .arr 2 42 [HV.bool false, HV.str ([] : List UInt8)]), (71018, w11, .arr eU8.k 5 (eU8.E a10.2))]⟩) (le_q rfl rfl) ?_
  clear hK K
  refine AW.cond rfl (fun hc => ?_) (fun hc => ?_)
  ·have hc := of_decide_eq_true hc
   have h := ifT hc h
   refine AW.skip ?_
   refine AW.seqJ h (S := (List Int)) (V := Nat) (fun a v => ⟨[(0, HV.bool p0), (1, slE (encM (HV.int .u32)) x2), (4, HV.ptr 71004 v1 0), (5, HV.ar 71018 v eU8.k 0 ((a).length)), (6, HV.int .i64 a6.1), (7, HV.int .i64 a10.1)], [(71004, v1, .arr 2 42 [HV.bool false, HV.str ([] : List UInt8)]), (71018, v, .arr eU8.k 5 (eU8.E a))]⟩) (fun a14 w15 h => ?_) (fun k16 h => ?_)
   ·refine AW.rg rfl fun K hK => ?_
    refine mv rfl rfl ?_
    refine bv rfl (v_bin rfl rfl b_sub) ?_
    refine mv rfl rfl ?_
    refine b_nil (hK _ ?_)
    clear hK K
    exact to_le (s' := ⟨[(0, HV.bool p0), (1, slE (encM (HV.int .u32)) x2), (4, HV.ptr 71004 v1 0), (5, HV.ar 71018 w15 eU8.k 0 ((a14).length)), (6, HV.int .i64 a6.1), (7, HV.int .i64 (IntKind.wrap .i64 (a10.1 - 1)))], [(71004, v1, .arr 2 42 [HV.bool false, HV.str ([] : List UInt8)]), (71018, w15, .arr eU8.k 5 (eU8.E a14))]⟩) (AS.le_of ⟨rfl, rfl, rfl, rfl, rfl, rfl, trivial⟩ ⟨rfl, rfl, trivial⟩) ⟨(IntKind.wrap .i64 (a10.1 - 1), a14), w15, h, rfl⟩
   refine AW.block ?_
   refine AW.rgs rfl fun K hK => ?_
   refine mv rfl rfl ?_
   refine mv rfl rfl ?_
   obtain ⟨x17, h18, h⟩ := bS h
   refine bv rfl (v_idxF ty107 es107 rfl rfl (idx_lt h18)) ?_
   refine bv rfl (v_loadF ty105 rfl (l_cell (encM (HV.int .u32)) h18 (o := 0) rfl rfl)) ?_
   refine mv rfl rfl ?_
   refine bv rfl (v_bin rfl rfl b_mul) ?_
   obtain ⟨h19, h⟩ := ifN h
   refine bv rfl (v_bin rfl rfl (b_shr h19)) ?_
   refine bv rfl (v_convI ty105 ty5 rfl) ?_
   refine mv rfl rfl ?_
   refine b_fin hK (s' := ⟨[(0, HV.bool p0), (1, slE (encM (HV.int .u32)) x2), (4, HV.ptr 71004 v1 0), (5, HV.ar 71018 w11 eU8.k 0 ((a10.2).length)), (6, HV.int .i64 a6.1), (7, HV.int .i64 a10.1), (8, HV.int .u8 (IntKind.wrap .u8 (Int.fdiv x17 (2 ^ (min ((IntKind.wrap .i64 (8 * a10.1))).toNat (IntKind.bits .u32))))))], [(71004, v1, .arr 2 42 [HV.bool false, HV.str ([] : List UInt8)]), (71018, w11, .arr eU8.k 5 (eU8.E a10.2))]⟩) (le_q rfl rfl) ?_
   clear hK K
   refine AW.seqJ h (S := Bool) (V := Unit) (fun a v => ⟨[(0, HV.bool p0), (1, slE (encM (HV.int .u32)) x2), (4, HV.ptr 71004 v1 0), (5, HV.ar 71018 w11 eU8.k 0 ((a10.2).length)), (6, HV.int .i64 a6.1), (7, HV.int .i64 a10.1), (8, HV.int .u8 (IntKind.wrap .u8 (Int.fdiv x17 (2 ^ (min ((IntKind.wrap .i64 (8 * a10.1))).toNat (IntKind.bits .u32)))))), (44, HV.bool a)], [(71004, v1, .arr 2 42 [HV.bool false, HV.str ([] : List UInt8)]), (71018, w11, .arr eU8.k 5 (eU8.E a10.2))]⟩) (fun a20 w21 h => ?_) (fun k22 h => ?_)
   ·refine AW.cond rfl (fun hc => ?_) (fun hc => ?_)
    ·have h := ifT hc h
     refine AW.rg rfl fun K hK => ?_
     refine mv rfl rfl ?_
     refine mv rfl rfl ?_
     refine b_op rfl (o_bsl rfl rfl (as_of (cs := [HV.int .u8 (IntKind.wrap .u8 (Int.fdiv x17 (2 ^ (min ((IntKind.wrap .i64 (8 * a10.1))).toNat (IntKind.bits .u32)))))]) ty28 ty5 rfl rfl rfl rfl rfl) ?_)
     obtain ⟨h24, h⟩ := ifN h
     refine b_op rfl (o_appE eU8 (l := a10.2) (m := [IntKind.wrap .u8 (Int.fdiv x17 (2 ^ (min ((IntKind.wrap .i64 (8 * a10.1))).toNat (IntKind.bits .u32))))]) rfl rfl ty28 ty28 ty5 rfl rfl rfl rfl rfl h24 (fun v23 => ?_))
     refine mv rfl rfl ?_
     refine b_nil (hK _ ?_)
     clear hK K
     exact to_le (s' := ⟨[(0, HV.bool p0), (1, slE (encM (HV.int .u32)) x2), (4, HV.ptr 71004 v1 0), (5, HV.ar 71018 v23 eU8.k 0 ((a10.2 ++ [IntKind.wrap .u8 (Int.fdiv x17 (2 ^ (min ((IntKind.wrap .i64 (8 * a10.1))).toNat (IntKind.bits .u32))))]).length)), (6, HV.int .i64 a6.1), (7, HV.int .i64 a10.1)], [(71004, v1, .arr 2 42 [HV.bool false, HV.str ([] : List UInt8)]), (71018, v23, .arr eU8.k 5 (eU8.E (a10.2 ++ [IntKind.wrap .u8 (Int.fdiv x17 (2 ^ (min ((IntKind.wrap .i64 (8 * a10.1))).toNat (IntKind.bits .u32))))])))]⟩) (AS.le_of ⟨rfl, rfl, rfl, rfl, rfl, rfl, trivial⟩ ⟨rfl, rfl, trivial⟩) ⟨a10.2 ++ [IntKind.wrap .u8 (Int.fdiv x17 (2 ^ (min ((IntKind.wrap .i64 (8 * a10.1))).toNat (IntKind.bits .u32))))], v23, h, rfl⟩
    have h := ifF (bF' hc) h
    refine AW.skip ?_
    exact to_le (s' := ⟨[(0, HV.bool p0), (1, slE (encM (HV.int .u32)) x2), (4, HV.ptr 71004 v1 0), (5, HV.ar 71018 w11 eU8.k 0 ((a10.2).length)), (6, HV.int .i64 a6.1), (7, HV.int .i64 a10.1)], [(71004, v1, .arr 2 42 [HV.bool false, HV.str ([] : List UInt8)]), (71018, w11, .arr eU8.k 5 (eU8.E a10.2))]⟩) (AS.le_of ⟨rfl, rfl, rfl, rfl, rfl, rfl, trivial⟩ ⟨rfl, rfl, trivial⟩) ⟨a10.2, w11, h, rfl⟩
   refine AW.rg rfl fun K hK => ?_
   refine mv rfl rfl ?_
   refine bv rfl (v_bin rfl rfl b_neq) ?_
   refine mv rfl rfl ?_
   by_cases hg25 : (IntKind.wrap .u8 (Int.fdiv x17 (2 ^ (min ((IntKind.wrap .i64 (8 * a10.1))).toNat (IntKind.bits .u32))))) ≠ 0
   ·have h := ifT hg25 h
    refine b_F rfl rfl rfl rfl rfl (decide_eq_true hg25) ?_
    refine b_F rfl rfl rfl rfl rfl rfl ?_
    refine b_F rfl rfl rfl rfl rfl rfl ?_
    refine bv rfl (v_pickT rfl rfl rfl) ?_
    refine b_nil (hK _ ?_)
    clear hK K
    exact to_le (s' := ⟨[(0, HV.bool p0), (1, slE (encM (HV.int .u32)) x2), (4, HV.ptr 71004 v1 0), (5, HV.ar 71018 w11 eU8.k 0 ((a10.2).length)), (6, HV.int .i64 a6.1), (7, HV.int .i64 a10.1), (8, HV.int .u8 (IntKind.wrap .u8 (Int.fdiv x17 (2 ^ (min ((IntKind.wrap .i64 (8 * a10.1))).toNat (IntKind.bits .u32)))))), (44, HV.bool true)], [(71004, v1, .arr 2 42 [HV.bool false, HV.str ([] : List UInt8)]), (71018, w11, .arr eU8.k 5 (eU8.E a10.2))]⟩) (AS.le_of ⟨rfl, rfl, rfl, rfl, rfl, rfl, rfl, rfl, trivial⟩ ⟨rfl, rfl, trivial⟩) ⟨true, (), h, rfl⟩
   have h := ifF hg25 h
   refine b_T rfl rfl rfl rfl (decide_eq_false hg25) (o_val rfl (mv_val rfl rfl).2 ?_)
   refine b_T rfl rfl rfl rfl rfl (o_val rfl (v_lenA rfl rfl ty28 rfl rfl) ?_)
   refine b_T rfl rfl rfl rfl rfl (o_val rfl (v_bin rfl rfl b_gtr) ?_)
   refine bv rfl (v_pickF rfl rfl rfl) ?_
   refine b_nil (hK _ ?_)
   clear hK K
   exact to_le (s' := ⟨[(0, HV.bool p0), (1, slE (encM (HV.int .u32)) x2), (4, HV.ptr 71004 v1 0), (5, HV.ar 71018 w11 eU8.k 0 ((a10.2).length)), (6, HV.int .i64 a6.1), (7, HV.int .i64 a10.1), (8, HV.int .u8 (IntKind.wrap .u8 (Int.fdiv x17 (2 ^ (min ((IntKind.wrap .i64 (8 * a10.1))).toNat (IntKind.bits .u32)))))), (44, HV.bool (decide (0 < (((a10.2).length : Nat) : Int))))], [(71004, v1, .arr 2 42 [HV.bool false, HV.str ([] : List UInt8)]), (71018, w11, .arr eU8.k 5 (eU8.E a10.2))]⟩) (AS.le_of ⟨rfl, rfl, rfl, rfl, rfl, rfl, rfl, rfl, trivial⟩ ⟨rfl, rfl, trivial⟩) ⟨decide (0 < (((a10.2).length : Nat) : Int)), (), h, rfl⟩
  have hc := of_decide_eq_false hc
  have h := ifF hc h
  refine AW.exit ?_
  exact to_le (s' := ⟨[(0, HV.bool p0), (1, slE (encM (HV.int .u32)) x2), (4, HV.ptr 71004 v1 0), (5, HV.ar 71018 w11 eU8.k 0 ((a10.2).length)), (6, HV.int .i64 a6.1)], [(71004, v1, .arr 2 42 [HV.bool false, HV.str ([] : List UInt8)]), (71018, w11, .arr eU8.k 5 (eU8.E a10.2))]⟩) (AS.le_of ⟨rfl, rfl, rfl, rfl, rfl, trivial⟩ ⟨rfl, rfl, trivial⟩) ⟨a10.2, w11, h, rfl⟩
 have hc := of_decide_eq_false hc
 have h := ifF hc h
 refine AW.exit ?_
 exact to_le (s' := ⟨[(0, HV.bool p0), (4, HV.ptr 71004 v1 0), (5, HV.ar 71018 w7 eU8.k 0 ((a6.2).length))], [(71004, v1, .arr 2 42 [HV.bool false, HV.str ([] : List UInt8)]), (71018, w7, .arr eU8.k 5 (eU8.E a6.2))]⟩) (AS.le_of ⟨rfl, rfl, rfl, trivial⟩ ⟨rfl, rfl, trivial⟩) ⟨a6.2, w7, h, rfl⟩

set_option maxHeartbeats 1600000 in
set_option maxRecDepth 100000 in
theorem w_integer_short {p0 : List (Int)} {p1 : Int} {r : (List (Int)) × Int} (h : m_integer_short p0 p1 = some r) : Pure Tryz.prog 200 [slE (encM (HV.int .u32)) p0, HV.int .u32 p1] (· = HV.tup [slE (encM (HV.int .u32)) r.1, HV.int .u32 r.2]) := by
 unfold m_integer_short at h
 refine Pure.of_body Tryz.func200 rfl rfl (Nat.le_of_ble_eq_true rfl) fun hf => ?_
 unfold Tryz.f200
 dsimp only [enumS, Nat.reduceAdd]
 refine AW.rgs rfl fun K hK => ?_
 refine mv rfl rfl ?_
 refine mv rfl rfl ?_
 refine b_fin hK (s' := ⟨[(0, slE (encM (HV.int .u32)) p0), (1, HV.int .u32 p1)], []⟩) (le_q rfl rfl) ?_
 clear hK K
 refine AW.rgs rfl fun K hK => ?_
 refine mv rfl rfl ?_
 refine bv rfl (v_lenF rfl rfl ty107 rfl) ?_
 obtain ⟨h2, h⟩ := ifN h
 refine b_op rfl (o_makeE (fid := 200) (encM (HV.int .u32)) (0 : Int) 200012 rfl rfl ty107 rfl rfl ty105 rfl rfl h2 (fun v1 => ?_))
 refine mv rfl rfl ?_
 refine b_fin hK (s' := ⟨[(0, slE (encM (HV.int .u32)) p0), (1, HV.int .u32 p1), (6, HV.ar 200012 v1 (encM (HV.int .u32)).k 0 ((List.replicate (((p0).length : Int)).toNat (0 : Int)).length))], [(200012, v1, .arr (encM (HV.int .u32)).k 105 ((encM (HV.int .u32)).E (List.replicate (((p0).length : Int)).toNat (0 : Int))))]⟩) (le_q rfl rfl) ?_
 clear hK K
 refine AW.rgs rfl fun K hK => ?_
 refine mv rfl rfl ?_
 refine b_fin hK (s' := ⟨[(0, slE (encM (HV.int .u32)) p0), (1, HV.int .u32 p1), (6, HV.ar 200012 v1 (encM (HV.int .u32)).k 0 ((List.replicate (((p0).length : Int)).toNat (0 : Int)).length)), (7, HV.int .u64 0)], [(200012, v1, .arr (encM (HV.int .u32)).k 105 ((encM (HV.int .u32)).E (List.replicate (((p0).length : Int)).toNat (0 : Int))))]⟩) (le_q rfl rfl) ?_
 clear hK K
 refine AW.seq ?_
 refine AW.rgs rfl fun K hK => ?_
 refine mv rfl rfl ?_
 refine bv rfl (v_lenF rfl rfl ty107 rfl) ?_
 refine bv rfl (v_bin rfl rfl b_sub) ?_
 refine mv rfl rfl ?_
 refine b_fin hK (s' := ⟨[(0, slE (encM (HV.int .u32)) p0), (1, HV.int .u32 p1), (6, HV.ar 200012 v1 (encM (HV.int .u32)).k 0 ((List.replicate (((p0).length : Int)).toNat (0 : Int)).length)), (7, HV.int .u64 0), (8, HV.int .i64 (IntKind.wrap .i64 (((p0).length : Int) - 1)))], [(200012, v1, .arr (encM (HV.int .u32)).k 105 ((encM (HV.int .u32)).E (List.replicate (((p0).length : Int)).toNat (0 : Int))))]⟩) (le_q rfl rfl) ?_
 clear hK K
 refine AW.lpX h (by first | exact up_then | exact up_to) (S := Int × Int × (List Int)) (V := Unit) (fun a v => ⟨[(0, slE (encM (HV.int .u32)) p0), (1, HV.int .u32 p1), (6, HV.ar 200012 v1 (encM (HV.int .u32)).k 0 ((a.2.2).length)), (7, HV.int .u64 a.1), (8, HV.int .i64 a.2.1)], [(200012, v1, .arr (encM (HV.int .u32)).k 105 ((encM (HV.int .u32)).E a.2.2))]⟩) ?_ (X := (List Int) × Int) (W := Unit) (fun a v => ⟨[(6, HV.ar 200012 v1 (encM (HV.int .u32)).k 0 ((a.1).length)), (7, HV.int .u64 a.2)], [(200012, v1, .arr (encM (HV.int .u32)).k 105 ((encM (HV.int .u32)).E a.1))]⟩) (fun a10 w11 h => ?_) (fun a3 w4 st5 h => ?_)
 ·exact to_le (s' := ⟨[(0, slE (encM (HV.int .u32)) p0), (1, HV.int .u32 p1), (6, HV.ar 200012 v1 (encM (HV.int .u32)).k 0 ((List.replicate (((p0).length : Int)).toNat (0 : Int)).length)), (7, HV.int .u64 0), (8, HV.int .i64 (IntKind.wrap .i64 (((p0).length : Int) - 1)))], [(200012, v1, .arr (encM (HV.int .u32)).k 105 ((encM (HV.int .u32)).E (List.replicate (((p0).length : Int)).toNat (0 : Int))))]⟩) (AS.le_of ⟨rfl, rfl, rfl, rfl, rfl, trivial⟩ ⟨rfl, trivial⟩) ⟨(), rfl⟩
 ·refine AW.to (to_frz 2 [(200012, v1, .arr (encM (HV.int .u32)).k 105 ((encM (HV.int .u32)).E a10.1))] ⟨[(6, slE (encM (HV.int .u32)) a10.1), (7, HV.int .u64 a10.2)], []⟩ ⟨⟨_, rfl, frz_slE (encM (HV.int .u32)) (l := a10.1) rfl fun _ _ => rfl⟩, ⟨_, rfl, rfl⟩, trivial⟩ trivial ⟨rfl, trivial⟩ ⟨rfl, trivial⟩ ?_)
  refine AW.rgs rfl fun K hK => ?_
  refine mv rfl rfl ?_
  obtain ⟨x12, h13, h⟩ := bS h
  refine b_op rfl (o_call rfl rfl rfl rfl (ACallD.pure0 (w_integer_trim h13)) ?_)
  refine mv rfl rfl ?_
  refine bv rfl (v_convI ty103 ty105 rfl) ?_
  refine mv rfl rfl ?_
  refine mv rfl rfl ?_
  refine b_fin hK (s' := ⟨[(4, slE (encM (HV.int .u32)) x12), (5, HV.int .u32 (IntKind.wrap .u32 a10.2))], []⟩) (le_q rfl rfl) ?_
  clear hK K
  refine AW.ret ?_
  have h := Option.some.inj h
  subst h
  exact ret_pure (hs := [slE (encM (HV.int .u32)) x12, HV.int .u32 (IntKind.wrap .u32 a10.2)]) (q := HV.tup [slE (encM (HV.int .u32)) x12, HV.int .u32 (IntKind.wrap .u32 a10.2)]) (.inr rfl) (resT rfl (resT rfl rfl)) rfl ⟨(clean_slE fun _ _ => ⟨trivial, trivial⟩), trivial, trivial⟩
 refine AW.seq ?_
 refine AW.rgs rfl fun K hK => ?_
 refine mv rfl rfl ?_
 refine bv rfl (v_bin rfl rfl b_geq) ?_
 refine b_fin hK (s' := ⟨[(0, slE (encM (HV.int .u32)) p0), (1, HV.int .u32 p1), (6, HV.ar 200012 v1 (encM (HV.int .u32)).k 0 ((a3.2.2).length)), (7, HV.int .u64 a3.1), (8, HV.int .i64 a3.2.1), (17, HV.bool (decide (0 ≤ a3.2.1)))], [(200012, v1, .arr (encM (HV.int .u32)).k 105 ((encM (HV.int .u32)).E a3.2.2))]⟩) (le_q rfl rfl) ?_
 clear hK K
 refine AW.cond rfl (fun hc => ?_) (fun hc => ?_)
 ·have hc := of_decide_eq_true hc
  have h := ifT hc h
  refine AW.skip ?_
  refine AW.seq (AW.block ?_)
  refine AW.rgs rfl fun K hK => ?_
  refine mv rfl rfl ?_
  refine bv rfl (v_bin rfl rfl (b_shl (by decide))) ?_
  refine mv rfl rfl ?_
  refine mv rfl rfl ?_
  obtain ⟨x7, h8, h⟩ := bS h
  refine bv rfl (v_idxF ty107 es107 rfl rfl (idx_lt h8)) ?_
  refine bv rfl (v_loadF ty105 rfl (l_cell (encM (HV.int .u32)) h8 (o := 0) rfl rfl)) ?_
  refine bv rfl (v_convI ty105 ty103 rfl) ?_
  refine bv rfl (v_bin rfl rfl b_or) ?_
  refine mv rfl rfl ?_
  refine b_fin hK (s' := ⟨[(0, slE (encM (HV.int .u32)) p0), (1, HV.int .u32 p1), (6, HV.ar 200012 v1 (encM (HV.int .u32)).k 0 ((a3.2.2).length)), (8, HV.int .i64 a3.2.1), (9, HV.int .u64 (IntKind.wrap .u64 (BitVec.ofInt (IntKind.bits .u64) (IntKind.wrap .u64 (a3.1 * 2 ^ (min (32 : Int).toNat (IntKind.bits .u64)))) ||| BitVec.ofInt (IntKind.bits .u64) (IntKind.wrap .u64 x7)).toNat))], [(200012, v1, .arr (encM (HV.int .u32)).k 105 ((encM (HV.int .u32)).E a3.2.2))]⟩) (le_q rfl rfl) ?_
  clear hK K
  refine AW.dl follows fun K hK F hF => ?_
  obtain ⟨h90501, h⟩ := ifN h
  obtain ⟨h91001, h⟩ := ifN h
  obtain ⟨x91101, h91102, h⟩ := bS h
  refine l_go (L' := []) hF rfl (s' := ⟨[(0, slE (encM (HV.int .u32)) p0), (1, HV.int .u32 p1), (6, HV.ar 200012 v1 (encM (HV.int .u32)).k 0 ((a3.2.2).length)), (8, HV.int .i64 a3.2.1), (9, HV.int .u64 (IntKind.wrap .u64 (BitVec.ofInt (IntKind.bits .u64) (IntKind.wrap .u64 (a3.1 * 2 ^ (min (32 : Int).toNat (IntKind.bits .u64)))) ||| BitVec.ofInt (IntKind.bits .u64) (IntKind.wrap .u64 x7)).toNat))], [(200012, v1, .arr (encM (HV.int .u32)).k 105 ((encM (HV.int .u32)).E a3.2.2))]⟩) ?_ (le_q rfl rfl)
  have g9_16 : F [0, 1, 2, 3, 4, 5, 6, 7, 8, 9, 10, 11, 12, 13] ⟨[(0, slE (encM (HV.int .u32)) p0), (1, HV.int .u32 p1), (6, HV.ar 200012 v1 (encM (HV.int .u32)).k 0 ((a3.2.2).length)), (7, HV.int .u64 (Int.tmod (IntKind.wrap .u64 (BitVec.ofInt (IntKind.bits .u64) (IntKind.wrap .u64 (a3.1 * 2 ^ (min (32 : Int).toNat (IntKind.bits .u64)))) ||| BitVec.ofInt (IntKind.bits .u64) (IntKind.wrap .u64 x7)).toNat) (IntKind.wrap .u64 p1))), (8, HV.int .i64 a3.2.1)], [(200012, v1, .arr (encM (HV.int .u32)).k 105 ((encM (HV.int .u32)).E ((a3.2.2).set (a3.2.1).toNat (IntKind.wrap .u32 (IntKind.wrap .u64 (Int.tdiv (IntKind.wrap .u64 (BitVec.ofInt (IntKind.bits .u64) (IntKind.wrap .u64 (a3.1 * 2 ^ (min (32 : Int).toNat (IntKind.bits .u64)))) ||| BitVec.ofInt (IntKind.bits .u64) (IntKind.wrap .u64 x7)).toNat) (IntKind.wrap .u64 p1)))))))]⟩ := by
   refine l_done hF rfl rfl (hK _ (AW.to (to_le (s' := ⟨[(0, slE (encM (HV.int .u32)) p0), (1, HV.int .u32 p1), (6, HV.ar 200012 v1 (encM (HV.int .u32)).k 0 (((a3.2.2).set (a3.2.1).toNat (IntKind.wrap .u32 (IntKind.wrap .u64 (Int.tdiv (IntKind.wrap .u64 (BitVec.ofInt (IntKind.bits .u64) (IntKind.wrap .u64 (a3.1 * 2 ^ (min (32 : Int).toNat (IntKind.bits .u64)))) ||| BitVec.ofInt (IntKind.bits .u64) (IntKind.wrap .u64 x7)).toNat) (IntKind.wrap .u64 p1))))).length)), (7, HV.int .u64 (Int.tmod (IntKind.wrap .u64 (BitVec.ofInt (IntKind.bits .u64) (IntKind.wrap .u64 (a3.1 * 2 ^ (min (32 : Int).toNat (IntKind.bits .u64)))) ||| BitVec.ofInt (IntKind.bits .u64) (IntKind.wrap .u64 x7)).toNat) (IntKind.wrap .u64 p1))), (8, HV.int .i64 a3.2.1)], [(200012, v1, .arr (encM (HV.int .u32)).k 105 ((encM (HV.int .u32)).E ((a3.2.2).set (a3.2.1).toNat (IntKind.wrap .u32 (IntKind.wrap .u64 (Int.tdiv (IntKind.wrap .u64 (BitVec.ofInt (IntKind.bits .u64) (IntKind.wrap .u64 (a3.1 * 2 ^ (min (32 : Int).toNat (IntKind.bits .u64)))) ||| BitVec.ofInt (IntKind.bits .u64) (IntKind.wrap .u64 x7)).toNat) (IntKind.wrap .u64 p1)))))))]⟩) (AS.le_of ⟨rfl, rfl, arl (by first | rfl | simp only [List.length_set, sortI_len, sortS_len]), rfl, rfl, trivial⟩ ⟨rfl, trivial⟩) ?_)))
   first | clear hF F hK K | clear hK K
   refine AW.rg rfl fun K hK => ?_
   refine mv rfl rfl ?_
   refine bv rfl (v_bin rfl rfl b_sub) ?_
   refine mv rfl rfl ?_
   refine b_nil (hK _ ?_)
   first | clear hF F hK K | clear hK K
   exact to_le (s' := ⟨[(0, slE (encM (HV.int .u32)) p0), (1, HV.int .u32 p1), (6, HV.ar 200012 v1 (encM (HV.int .u32)).k 0 (((a3.2.2).set (a3.2.1).toNat (IntKind.wrap .u32 (IntKind.wrap .u64 (Int.tdiv (IntKind.wrap .u64 (BitVec.ofInt (IntKind.bits .u64) (IntKind.wrap .u64 (a3.1 * 2 ^ (min (32 : Int).toNat (IntKind.bits .u64)))) ||| BitVec.ofInt (IntKind.bits .u64) (IntKind.wrap .u64 x7)).toNat) (IntKind.wrap .u64 p1))))).length)), (7, HV.int .u64 (Int.tmod (IntKind.wrap .u64 (BitVec.ofInt (IntKind.bits .u64) (IntKind.wrap .u64 (a3.1 * 2 ^ (min (32 : Int).toNat (IntKind.bits .u64)))) ||| BitVec.ofInt (IntKind.bits .u64) (IntKind.wrap .u64 x7)).toNat) (IntKind.wrap .u64 p1))), (8, HV.int .i64 (IntKind.wrap .i64 (a3.2.1 - 1)))], [(200012, v1, .arr (encM (HV.int .u32)).k 105 ((encM (HV.int .u32)).E ((a3.2.2).set (a3.2.1).toNat (IntKind.wrap .u32 (IntKind.wrap .u64 (Int.tdiv (IntKind.wrap .u64 (BitVec.ofInt (IntKind.bits .u64) (IntKind.wrap .u64 (a3.1 * 2 ^ (min (32 : Int).toNat (IntKind.bits .u64)))) ||| BitVec.ofInt (IntKind.bits .u64) (IntKind.wrap .u64 x7)).toNat) (IntKind.wrap .u64 p1)))))))]⟩) (AS.le_of ⟨rfl, rfl, rfl, rfl, rfl, trivial⟩ ⟨rfl, trivial⟩) ⟨(Int.tmod (IntKind.wrap .u64 (BitVec.ofInt (IntKind.bits .u64) (IntKind.wrap .u64 (a3.1 * 2 ^ (min (32 : Int).toNat (IntKind.bits .u64)))) ||| BitVec.ofInt (IntKind.bits .u64) (IntKind.wrap .u64 x7)).toNat) (IntKind.wrap .u64 p1), IntKind.wrap .i64 (a3.2.1 - 1), (a3.2.2).set (a3.2.1).toNat (IntKind.wrap .u32 (IntKind.wrap .u64 (Int.tdiv (IntKind.wrap .u64 (BitVec.ofInt (IntKind.bits .u64) (IntKind.wrap .u64 (a3.1 * 2 ^ (min (32 : Int).toNat (IntKind.bits .u64)))) ||| BitVec.ofInt (IntKind.bits .u64) (IntKind.wrap .u64 x7)).toNat) (IntKind.wrap .u64 p1))))), (), h, rfl⟩
  have g9_15 : F [0, 1, 2, 3, 4, 5, 6, 7, 8, 9, 10, 11, 12] ⟨[(0, slE (encM (HV.int .u32)) p0), (1, HV.int .u32 p1), (6, HV.ar 200012 v1 (encM (HV.int .u32)).k 0 ((a3.2.2).length)), (8, HV.int .i64 a3.2.1), (38, HV.int .u64 (Int.tmod (IntKind.wrap .u64 (BitVec.ofInt (IntKind.bits .u64) (IntKind.wrap .u64 (a3.1 * 2 ^ (min (32 : Int).toNat (IntKind.bits .u64)))) ||| BitVec.ofInt (IntKind.bits .u64) (IntKind.wrap .u64 x7)).toNat) (IntKind.wrap .u64 p1)))], [(200012, v1, .arr (encM (HV.int .u32)).k 105 ((encM (HV.int .u32)).E ((a3.2.2).set (a3.2.1).toNat (IntKind.wrap .u32 (IntKind.wrap .u64 (Int.tdiv (IntKind.wrap .u64 (BitVec.ofInt (IntKind.bits .u64) (IntKind.wrap .u64 (a3.1 * 2 ^ (min (32 : Int).toNat (IntKind.bits .u64)))) ||| BitVec.ofInt (IntKind.bits .u64) (IntKind.wrap .u64 x7)).toNat) (IntKind.wrap .u64 p1)))))))]⟩ := by
   refine l_step hF rfl [13] rfl rfl ⟨?_, trivial⟩
   ·refine l_op rfl rfl rfl (o_val rfl (mv_val rfl rfl).2 ?_)
    exact b_nil (l_go hF rfl (g9_16) (le_q rfl rfl))
  have g9_14 : F [0, 1, 2, 3, 4, 5, 6, 7, 8, 9, 10, 11] ⟨[(0, slE (encM (HV.int .u32)) p0), (1, HV.int .u32 p1), (6, HV.ar 200012 v1 (encM (HV.int .u32)).k 0 ((a3.2.2).length)), (8, HV.int .i64 a3.2.1), (34, HV.int .u32 (IntKind.wrap .u32 (IntKind.wrap .u64 (Int.tdiv (IntKind.wrap .u64 (BitVec.ofInt (IntKind.bits .u64) (IntKind.wrap .u64 (a3.1 * 2 ^ (min (32 : Int).toNat (IntKind.bits .u64)))) ||| BitVec.ofInt (IntKind.bits .u64) (IntKind.wrap .u64 x7)).toNat) (IntKind.wrap .u64 p1))))), (38, HV.int .u64 (Int.tmod (IntKind.wrap .u64 (BitVec.ofInt (IntKind.bits .u64) (IntKind.wrap .u64 (a3.1 * 2 ^ (min (32 : Int).toNat (IntKind.bits .u64)))) ||| BitVec.ofInt (IntKind.bits .u64) (IntKind.wrap .u64 x7)).toNat) (IntKind.wrap .u64 p1))), (39, HV.ptr 200012 v1 ((a3.2.1).toNat * (encM (HV.int .u32)).k))], [(200012, v1, .arr (encM (HV.int .u32)).k 105 ((encM (HV.int .u32)).E a3.2.2))]⟩ := by
   refine l_step hF rfl [12] rfl rfl ⟨?_, trivial⟩
   ·refine l_op rfl rfl rfl (o_storeE (encM (HV.int .u32)) (l := a3.2.2) (j := a3.2.1) (v := IntKind.wrap .u32 (IntKind.wrap .u64 (Int.tdiv (IntKind.wrap .u64 (BitVec.ofInt (IntKind.bits .u64) (IntKind.wrap .u64 (a3.1 * 2 ^ (min (32 : Int).toNat (IntKind.bits .u64)))) ||| BitVec.ofInt (IntKind.bits .u64) (IntKind.wrap .u64 x7)).toNat) (IntKind.wrap .u64 p1)))) rfl rfl rfl ty105 rfl rfl rfl (idx_lt h91102) ?_)
    exact b_nil (l_go hF rfl (g9_15) (le_q rfl rfl))
  have g9_20 : F [0, 1, 2, 3, 4, 5, 6, 7, 8, 9, 11, 12] ⟨[(0, slE (encM (HV.int .u32)) p0), (1, HV.int .u32 p1), (6, HV.ar 200012 v1 (encM (HV.int .u32)).k 0 ((a3.2.2).length)), (8, HV.int .i64 a3.2.1), (35, HV.int .u64 (IntKind.wrap .u64 (BitVec.ofInt (IntKind.bits .u64) (IntKind.wrap .u64 (a3.1 * 2 ^ (min (32 : Int).toNat (IntKind.bits .u64)))) ||| BitVec.ofInt (IntKind.bits .u64) (IntKind.wrap .u64 x7)).toNat)), (37, HV.int .u64 (IntKind.wrap .u64 p1))], [(200012, v1, .arr (encM (HV.int .u32)).k 105 ((encM (HV.int .u32)).E ((a3.2.2).set (a3.2.1).toNat (IntKind.wrap .u32 (IntKind.wrap .u64 (Int.tdiv (IntKind.wrap .u64 (BitVec.ofInt (IntKind.bits .u64) (IntKind.wrap .u64 (a3.1 * 2 ^ (min (32 : Int).toNat (IntKind.bits .u64)))) ||| BitVec.ofInt (IntKind.bits .u64) (IntKind.wrap .u64 x7)).toNat) (IntKind.wrap .u64 p1)))))))]⟩ := by
   refine l_step hF rfl [10] rfl rfl ⟨?_, trivial⟩
   ·refine l_op rfl rfl rfl (o_val rfl (v_bin rfl rfl (b_rem h91001)) ?_)
    exact b_nil (l_go hF rfl (g9_15) (le_q rfl rfl))
  have g9_13 : F [0, 1, 2, 3, 4, 5, 6, 7, 8, 9, 10] ⟨[(0, slE (encM (HV.int .u32)) p0), (1, HV.int .u32 p1), (6, HV.ar 200012 v1 (encM (HV.int .u32)).k 0 ((a3.2.2).length)), (8, HV.int .i64 a3.2.1), (28, HV.ar 200012 v1 (encM (HV.int .u32)).k 0 ((a3.2.2).length)), (29, HV.int .i64 a3.2.1), (34, HV.int .u32 (IntKind.wrap .u32 (IntKind.wrap .u64 (Int.tdiv (IntKind.wrap .u64 (BitVec.ofInt (IntKind.bits .u64) (IntKind.wrap .u64 (a3.1 * 2 ^ (min (32 : Int).toNat (IntKind.bits .u64)))) ||| BitVec.ofInt (IntKind.bits .u64) (IntKind.wrap .u64 x7)).toNat) (IntKind.wrap .u64 p1))))), (38, HV.int .u64 (Int.tmod (IntKind.wrap .u64 (BitVec.ofInt (IntKind.bits .u64) (IntKind.wrap .u64 (a3.1 * 2 ^ (min (32 : Int).toNat (IntKind.bits .u64)))) ||| BitVec.ofInt (IntKind.bits .u64) (IntKind.wrap .u64 x7)).toNat) (IntKind.wrap .u64 p1)))], [(200012, v1, .arr (encM (HV.int .u32)).k 105 ((encM (HV.int .u32)).E a3.2.2))]⟩ := by
   refine l_take (i := 11) hF rfl rfl rfl (v_idxA ty107 es107 rfl rfl (idx_lt h91102) rfl) ?_
   exact l_go hF rfl (g9_14) (le_q rfl rfl)
  have g9_19 : F [0, 1, 2, 3, 4, 5, 6, 7, 8, 9, 11] ⟨[(0, slE (encM (HV.int .u32)) p0), (1, HV.int .u32 p1), (6, HV.ar 200012 v1 (encM (HV.int .u32)).k 0 ((a3.2.2).length)), (8, HV.int .i64 a3.2.1), (34, HV.int .u32 (IntKind.wrap .u32 (IntKind.wrap .u64 (Int.tdiv (IntKind.wrap .u64 (BitVec.ofInt (IntKind.bits .u64) (IntKind.wrap .u64 (a3.1 * 2 ^ (min (32 : Int).toNat (IntKind.bits .u64)))) ||| BitVec.ofInt (IntKind.bits .u64) (IntKind.wrap .u64 x7)).toNat) (IntKind.wrap .u64 p1))))), (35, HV.int .u64 (IntKind.wrap .u64 (BitVec.ofInt (IntKind.bits .u64) (IntKind.wrap .u64 (a3.1 * 2 ^ (min (32 : Int).toNat (IntKind.bits .u64)))) ||| BitVec.ofInt (IntKind.bits .u64) (IntKind.wrap .u64 x7)).toNat)), (37, HV.int .u64 (IntKind.wrap .u64 p1)), (39, HV.ptr 200012 v1 ((a3.2.1).toNat * (encM (HV.int .u32)).k))], [(200012, v1, .arr (encM (HV.int .u32)).k 105 ((encM (HV.int .u32)).E a3.2.2))]⟩ := by
   refine l_step hF rfl [10, 12] rfl rfl ⟨?_, ?_, trivial⟩
   ·refine l_op rfl rfl rfl (o_val rfl (v_bin rfl rfl (b_rem h91001)) ?_)
    exact b_nil (l_go hF rfl (g9_14) (le_q rfl rfl))
   ·refine l_op rfl rfl rfl (o_storeE (encM (HV.int .u32)) (l := a3.2.2) (j := a3.2.1) (v := IntKind.wrap .u32 (IntKind.wrap .u64 (Int.tdiv (IntKind.wrap .u64 (BitVec.ofInt (IntKind.bits .u64) (IntKind.wrap .u64 (a3.1 * 2 ^ (min (32 : Int).toNat (IntKind.bits .u64)))) ||| BitVec.ofInt (IntKind.bits .u64) (IntKind.wrap .u64 x7)).toNat) (IntKind.wrap .u64 p1)))) rfl rfl rfl ty105 rfl rfl rfl (idx_lt h91102) ?_)
    exact b_nil (l_go hF rfl (g9_20) (le_q rfl rfl))
  have g9_24 : F [0, 1, 2, 3, 4, 5, 6, 7, 8, 11, 12] ⟨[(0, slE (encM (HV.int .u32)) p0), (1, HV.int .u32 p1), (6, HV.ar 200012 v1 (encM (HV.int .u32)).k 0 ((a3.2.2).length)), (8, HV.int .i64 a3.2.1), (35, HV.int .u64 (IntKind.wrap .u64 (BitVec.ofInt (IntKind.bits .u64) (IntKind.wrap .u64 (a3.1 * 2 ^ (min (32 : Int).toNat (IntKind.bits .u64)))) ||| BitVec.ofInt (IntKind.bits .u64) (IntKind.wrap .u64 x7)).toNat)), (36, HV.int .u32 p1)], [(200012, v1, .arr (encM (HV.int .u32)).k 105 ((encM (HV.int .u32)).E ((a3.2.2).set (a3.2.1).toNat (IntKind.wrap .u32 (IntKind.wrap .u64 (Int.tdiv (IntKind.wrap .u64 (BitVec.ofInt (IntKind.bits .u64) (IntKind.wrap .u64 (a3.1 * 2 ^ (min (32 : Int).toNat (IntKind.bits .u64)))) ||| BitVec.ofInt (IntKind.bits .u64) (IntKind.wrap .u64 x7)).toNat) (IntKind.wrap .u64 p1)))))))]⟩ := by
   refine l_step hF rfl [9] rfl rfl ⟨?_, trivial⟩
   ·refine l_op rfl rfl rfl (o_val rfl (v_convI ty105 ty103 rfl) ?_)
    exact b_nil (l_go hF rfl (g9_20) (le_q rfl rfl))
  have g9_12 : F [0, 1, 2, 3, 4, 5, 7, 8, 9, 10] ⟨[(0, slE (encM (HV.int .u32)) p0), (1, HV.int .u32 p1), (6, HV.ar 200012 v1 (encM (HV.int .u32)).k 0 ((a3.2.2).length)), (8, HV.int .i64 a3.2.1), (28, HV.ar 200012 v1 (encM (HV.int .u32)).k 0 ((a3.2.2).length)), (29, HV.int .i64 a3.2.1), (33, HV.int .u64 (IntKind.wrap .u64 (Int.tdiv (IntKind.wrap .u64 (BitVec.ofInt (IntKind.bits .u64) (IntKind.wrap .u64 (a3.1 * 2 ^ (min (32 : Int).toNat (IntKind.bits .u64)))) ||| BitVec.ofInt (IntKind.bits .u64) (IntKind.wrap .u64 x7)).toNat) (IntKind.wrap .u64 p1)))), (38, HV.int .u64 (Int.tmod (IntKind.wrap .u64 (BitVec.ofInt (IntKind.bits .u64) (IntKind.wrap .u64 (a3.1 * 2 ^ (min (32 : Int).toNat (IntKind.bits .u64)))) ||| BitVec.ofInt (IntKind.bits .u64) (IntKind.wrap .u64 x7)).toNat) (IntKind.wrap .u64 p1)))], [(200012, v1, .arr (encM (HV.int .u32)).k 105 ((encM (HV.int .u32)).E a3.2.2))]⟩ := by
   refine l_step hF rfl [6] rfl rfl ⟨?_, trivial⟩
   ·refine l_op rfl rfl rfl (o_val rfl (v_convI ty103 ty105 rfl) ?_)
    exact b_nil (l_go hF rfl (g9_13) (le_q rfl rfl))
  have g9_18 : F [0, 1, 2, 3, 4, 5, 6, 7, 8, 9] ⟨[(0, slE (encM (HV.int .u32)) p0), (1, HV.int .u32 p1), (6, HV.ar 200012 v1 (encM (HV.int .u32)).k 0 ((a3.2.2).length)), (8, HV.int .i64 a3.2.1), (28, HV.ar 200012 v1 (encM (HV.int .u32)).k 0 ((a3.2.2).length)), (29, HV.int .i64 a3.2.1), (34, HV.int .u32 (IntKind.wrap .u32 (IntKind.wrap .u64 (Int.tdiv (IntKind.wrap .u64 (BitVec.ofInt (IntKind.bits .u64) (IntKind.wrap .u64 (a3.1 * 2 ^ (min (32 : Int).toNat (IntKind.bits .u64)))) ||| BitVec.ofInt (IntKind.bits .u64) (IntKind.wrap .u64 x7)).toNat) (IntKind.wrap .u64 p1))))), (35, HV.int .u64 (IntKind.wrap .u64 (BitVec.ofInt (IntKind.bits .u64) (IntKind.wrap .u64 (a3.1 * 2 ^ (min (32 : Int).toNat (IntKind.bits .u64)))) ||| BitVec.ofInt (IntKind.bits .u64) (IntKind.wrap .u64 x7)).toNat)), (37, HV.int .u64 (IntKind.wrap .u64 p1))], [(200012, v1, .arr (encM (HV.int .u32)).k 105 ((encM (HV.int .u32)).E a3.2.2))]⟩ := by
   refine l_take (i := 11) hF rfl rfl rfl (v_idxA ty107 es107 rfl rfl (idx_lt h91102) rfl) ?_
   exact l_go hF rfl (g9_19) (le_q rfl rfl)
  have g9_23 : F [0, 1, 2, 3, 4, 5, 6, 7, 8, 11] ⟨[(0, slE (encM (HV.int .u32)) p0), (1, HV.int .u32 p1), (6, HV.ar 200012 v1 (encM (HV.int .u32)).k 0 ((a3.2.2).length)), (8, HV.int .i64 a3.2.1), (34, HV.int .u32 (IntKind.wrap .u32 (IntKind.wrap .u64 (Int.tdiv (IntKind.wrap .u64 (BitVec.ofInt (IntKind.bits .u64) (IntKind.wrap .u64 (a3.1 * 2 ^ (min (32 : Int).toNat (IntKind.bits .u64)))) ||| BitVec.ofInt (IntKind.bits .u64) (IntKind.wrap .u64 x7)).toNat) (IntKind.wrap .u64 p1))))), (35, HV.int .u64 (IntKind.wrap .u64 (BitVec.ofInt (IntKind.bits .u64) (IntKind.wrap .u64 (a3.1 * 2 ^ (min (32 : Int).toNat (IntKind.bits .u64)))) ||| BitVec.ofInt (IntKind.bits .u64) (IntKind.wrap .u64 x7)).toNat)), (36, HV.int .u32 p1), (39, HV.ptr 200012 v1 ((a3.2.1).toNat * (encM (HV.int .u32)).k))], [(200012, v1, .arr (encM (HV.int .u32)).k 105 ((encM (HV.int .u32)).E a3.2.2))]⟩ := by
   refine l_step hF rfl [9, 12] rfl rfl ⟨?_, ?_, trivial⟩
   ·refine l_op rfl rfl rfl (o_val rfl (v_convI ty105 ty103 rfl) ?_)
    exact b_nil (l_go hF rfl (g9_19) (le_q rfl rfl))
   ·refine l_op rfl rfl rfl (o_storeE (encM (HV.int .u32)) (l := a3.2.2) (j := a3.2.1) (v := IntKind.wrap .u32 (IntKind.wrap .u64 (Int.tdiv (IntKind.wrap .u64 (BitVec.ofInt (IntKind.bits .u64) (IntKind.wrap .u64 (a3.1 * 2 ^ (min (32 : Int).toNat (IntKind.bits .u64)))) ||| BitVec.ofInt (IntKind.bits .u64) (IntKind.wrap .u64 x7)).toNat) (IntKind.wrap .u64 p1)))) rfl rfl rfl ty105 rfl rfl rfl (idx_lt h91102) ?_)
    exact b_nil (l_go hF rfl (g9_24) (le_q rfl rfl))
  have g9_11 : F [0, 1, 2, 3, 4, 7, 8, 9, 10] ⟨[(0, slE (encM (HV.int .u32)) p0), (1, HV.int .u32 p1), (6, HV.ar 200012 v1 (encM (HV.int .u32)).k 0 ((a3.2.2).length)), (8, HV.int .i64 a3.2.1), (28, HV.ar 200012 v1 (encM (HV.int .u32)).k 0 ((a3.2.2).length)), (29, HV.int .i64 a3.2.1), (30, HV.int .u64 (IntKind.wrap .u64 (BitVec.ofInt (IntKind.bits .u64) (IntKind.wrap .u64 (a3.1 * 2 ^ (min (32 : Int).toNat (IntKind.bits .u64)))) ||| BitVec.ofInt (IntKind.bits .u64) (IntKind.wrap .u64 x7)).toNat)), (32, HV.int .u64 (IntKind.wrap .u64 p1)), (38, HV.int .u64 (Int.tmod (IntKind.wrap .u64 (BitVec.ofInt (IntKind.bits .u64) (IntKind.wrap .u64 (a3.1 * 2 ^ (min (32 : Int).toNat (IntKind.bits .u64)))) ||| BitVec.ofInt (IntKind.bits .u64) (IntKind.wrap .u64 x7)).toNat) (IntKind.wrap .u64 p1)))], [(200012, v1, .arr (encM (HV.int .u32)).k 105 ((encM (HV.int .u32)).E a3.2.2))]⟩ := by
   refine l_step hF rfl [5] rfl rfl ⟨?_, trivial⟩
   ·refine l_op rfl rfl rfl (o_val rfl (v_bin rfl rfl (b_quo h90501)) ?_)
    exact b_nil (l_go hF rfl (g9_12) (le_q rfl rfl))
  have g9_17 : F [0, 1, 2, 3, 4, 5, 7, 8, 9] ⟨[(0, slE (encM (HV.int .u32)) p0), (1, HV.int .u32 p1), (6, HV.ar 200012 v1 (encM (HV.int .u32)).k 0 ((a3.2.2).length)), (8, HV.int .i64 a3.2.1), (28, HV.ar 200012 v1 (encM (HV.int .u32)).k 0 ((a3.2.2).length)), (29, HV.int .i64 a3.2.1), (33, HV.int .u64 (IntKind.wrap .u64 (Int.tdiv (IntKind.wrap .u64 (BitVec.ofInt (IntKind.bits .u64) (IntKind.wrap .u64 (a3.1 * 2 ^ (min (32 : Int).toNat (IntKind.bits .u64)))) ||| BitVec.ofInt (IntKind.bits .u64) (IntKind.wrap .u64 x7)).toNat) (IntKind.wrap .u64 p1)))), (35, HV.int .u64 (IntKind.wrap .u64 (BitVec.ofInt (IntKind.bits .u64) (IntKind.wrap .u64 (a3.1 * 2 ^ (min (32 : Int).toNat (IntKind.bits .u64)))) ||| BitVec.ofInt (IntKind.bits .u64) (IntKind.wrap .u64 x7)).toNat)), (37, HV.int .u64 (IntKind.wrap .u64 p1))], [(200012, v1, .arr (encM (HV.int .u32)).k 105 ((encM (HV.int .u32)).E a3.2.2))]⟩ := by
   refine l_step hF rfl [6, 10] rfl rfl ⟨?_, ?_, trivial⟩
   ·refine l_op rfl rfl rfl (o_val rfl (v_convI ty103 ty105 rfl) ?_)
    exact b_nil (l_go hF rfl (g9_18) (le_q rfl rfl))
   ·refine l_op rfl rfl rfl (o_val rfl (v_bin rfl rfl (b_rem h91001)) ?_)
    exact b_nil (l_go hF rfl (g9_12) (le_q rfl rfl))
  have g9_22 : F [0, 1, 2, 3, 4, 5, 6, 7, 8] ⟨[(0, slE (encM (HV.int .u32)) p0), (1, HV.int .u32 p1), (6, HV.ar 200012 v1 (encM (HV.int .u32)).k 0 ((a3.2.2).length)), (8, HV.int .i64 a3.2.1), (28, HV.ar 200012 v1 (encM (HV.int .u32)).k 0 ((a3.2.2).length)), (29, HV.int .i64 a3.2.1), (34, HV.int .u32 (IntKind.wrap .u32 (IntKind.wrap .u64 (Int.tdiv (IntKind.wrap .u64 (BitVec.ofInt (IntKind.bits .u64) (IntKind.wrap .u64 (a3.1 * 2 ^ (min (32 : Int).toNat (IntKind.bits .u64)))) ||| BitVec.ofInt (IntKind.bits .u64) (IntKind.wrap .u64 x7)).toNat) (IntKind.wrap .u64 p1))))), (35, HV.int .u64 (IntKind.wrap .u64 (BitVec.ofInt (IntKind.bits .u64) (IntKind.wrap .u64 (a3.1 * 2 ^ (min (32 : Int).toNat (IntKind.bits .u64)))) ||| BitVec.ofInt (IntKind.bits .u64) (IntKind.wrap .u64 x7)).toNat)), (36, HV.int .u32 p1)], [(200012, v1, .arr (encM (HV.int .u32)).k 105 ((encM (HV.int .u32)).E a3.2.2))]⟩ := by
   refine l_take (i := 11) hF rfl rfl rfl (v_idxA ty107 es107 rfl rfl (idx_lt h91102) rfl) ?_
   exact l_go hF rfl (g9_23) (le_q rfl rfl)
  have g9_9 : F [0, 1, 2, 3, 4, 7, 8, 9] ⟨[(0, slE (encM (HV.int .u32)) p0), (1, HV.int .u32 p1), (6, HV.ar 200012 v1 (encM (HV.int .u32)).k 0 ((a3.2.2).length)), (8, HV.int .i64 a3.2.1), (28, HV.ar 200012 v1 (encM (HV.int .u32)).k 0 ((a3.2.2).length)), (29, HV.int .i64 a3.2.1), (30, HV.int .u64 (IntKind.wrap .u64 (BitVec.ofInt (IntKind.bits .u64) (IntKind.wrap .u64 (a3.1 * 2 ^ (min (32 : Int).toNat (IntKind.bits .u64)))) ||| BitVec.ofInt (IntKind.bits .u64) (IntKind.wrap .u64 x7)).toNat)), (32, HV.int .u64 (IntKind.wrap .u64 p1)), (35, HV.int .u64 (IntKind.wrap .u64 (BitVec.ofInt (IntKind.bits .u64) (IntKind.wrap .u64 (a3.1 * 2 ^ (min (32 : Int).toNat (IntKind.bits .u64)))) ||| BitVec.ofInt (IntKind.bits .u64) (IntKind.wrap .u64 x7)).toNat)), (37, HV.int .u64 (IntKind.wrap .u64 p1))], [(200012, v1, .arr (encM (HV.int .u32)).k 105 ((encM (HV.int .u32)).E a3.2.2))]⟩ := by
   refine l_step hF rfl [5, 10] rfl rfl ⟨?_, ?_, trivial⟩
   ·refine l_op rfl rfl rfl (o_val rfl (v_bin rfl rfl (b_quo h90501)) ?_)
    exact b_nil (l_go hF rfl (g9_17) (le_q rfl rfl))
   ·refine l_op rfl rfl rfl (o_val rfl (v_bin rfl rfl (b_rem h91001)) ?_)
    exact b_nil (l_go hF rfl (g9_11) (le_q rfl rfl))
  have g9_10 : F [0, 1, 2, 3, 7, 8, 9, 10] ⟨[(0, slE (encM (HV.int .u32)) p0), (1, HV.int .u32 p1), (6, HV.ar 200012 v1 (encM (HV.int .u32)).k 0 ((a3.2.2).length)), (8, HV.int .i64 a3.2.1), (28, HV.ar 200012 v1 (encM (HV.int .u32)).k 0 ((a3.2.2).length)), (29, HV.int .i64 a3.2.1), (30, HV.int .u64 (IntKind.wrap .u64 (BitVec.ofInt (IntKind.bits .u64) (IntKind.wrap .u64 (a3.1 * 2 ^ (min (32 : Int).toNat (IntKind.bits .u64)))) ||| BitVec.ofInt (IntKind.bits .u64) (IntKind.wrap .u64 x7)).toNat)), (31, HV.int .u32 p1), (38, HV.int .u64 (Int.tmod (IntKind.wrap .u64 (BitVec.ofInt (IntKind.bits .u64) (IntKind.wrap .u64 (a3.1 * 2 ^ (min (32 : Int).toNat (IntKind.bits .u64)))) ||| BitVec.ofInt (IntKind.bits .u64) (IntKind.wrap .u64 x7)).toNat) (IntKind.wrap .u64 p1)))], [(200012, v1, .arr (encM (HV.int .u32)).k 105 ((encM (HV.int .u32)).E a3.2.2))]⟩ := by
   refine l_step hF rfl [4] rfl rfl ⟨?_, trivial⟩
   ·refine l_op rfl rfl rfl (o_val rfl (v_convI ty105 ty103 rfl) ?_)
    exact b_nil (l_go hF rfl (g9_11) (le_q rfl rfl))
  have g9_21 : F [0, 1, 2, 3, 4, 5, 7, 8] ⟨[(0, slE (encM (HV.int .u32)) p0), (1, HV.int .u32 p1), (6, HV.ar 200012 v1 (encM (HV.int .u32)).k 0 ((a3.2.2).length)), (8, HV.int .i64 a3.2.1), (28, HV.ar 200012 v1 (encM (HV.int .u32)).k 0 ((a3.2.2).length)), (29, HV.int .i64 a3.2.1), (33, HV.int .u64 (IntKind.wrap .u64 (Int.tdiv (IntKind.wrap .u64 (BitVec.ofInt (IntKind.bits .u64) (IntKind.wrap .u64 (a3.1 * 2 ^ (min (32 : Int).toNat (IntKind.bits .u64)))) ||| BitVec.ofInt (IntKind.bits .u64) (IntKind.wrap .u64 x7)).toNat) (IntKind.wrap .u64 p1)))), (35, HV.int .u64 (IntKind.wrap .u64 (BitVec.ofInt (IntKind.bits .u64) (IntKind.wrap .u64 (a3.1 * 2 ^ (min (32 : Int).toNat (IntKind.bits .u64)))) ||| BitVec.ofInt (IntKind.bits .u64) (IntKind.wrap .u64 x7)).toNat)), (36, HV.int .u32 p1)], [(200012, v1, .arr (encM (HV.int .u32)).k 105 ((encM (HV.int .u32)).E a3.2.2))]⟩ := by
   refine l_step hF rfl [6, 9] rfl rfl ⟨?_, ?_, trivial⟩
   ·refine l_op rfl rfl rfl (o_val rfl (v_convI ty103 ty105 rfl) ?_)
    exact b_nil (l_go hF rfl (g9_22) (le_q rfl rfl))
   ·refine l_op rfl rfl rfl (o_val rfl (v_convI ty105 ty103 rfl) ?_)
    exact b_nil (l_go hF rfl (g9_17) (le_q rfl rfl))
  have g9_7 : F [0, 1, 2, 3, 4, 7, 8] ⟨[(0, slE (encM (HV.int .u32)) p0), (1, HV.int .u32 p1), (6, HV.ar 200012 v1 (encM (HV.int .u32)).k 0 ((a3.2.2).length)), (8, HV.int .i64 a3.2.1), (28, HV.ar 200012 v1 (encM (HV.int .u32)).k 0 ((a3.2.2).length)), (29, HV.int .i64 a3.2.1), (30, HV.int .u64 (IntKind.wrap .u64 (BitVec.ofInt (IntKind.bits .u64) (IntKind.wrap .u64 (a3.1 * 2 ^ (min (32 : Int).toNat (IntKind.bits .u64)))) ||| BitVec.ofInt (IntKind.bits .u64) (IntKind.wrap .u64 x7)).toNat)), (32, HV.int .u64 (IntKind.wrap .u64 p1)), (35, HV.int .u64 (IntKind.wrap .u64 (BitVec.ofInt (IntKind.bits .u64) (IntKind.wrap .u64 (a3.1 * 2 ^ (min (32 : Int).toNat (IntKind.bits .u64)))) ||| BitVec.ofInt (IntKind.bits .u64) (IntKind.wrap .u64 x7)).toNat)), (36, HV.int .u32 p1)], [(200012, v1, .arr (encM (HV.int .u32)).k 105 ((encM (HV.int .u32)).E a3.2.2))]⟩ := by
   refine l_step hF rfl [5, 9] rfl rfl ⟨?_, ?_, trivial⟩
   ·refine l_op rfl rfl rfl (o_val rfl (v_bin rfl rfl (b_quo h90501)) ?_)
    exact b_nil (l_go hF rfl (g9_21) (le_q rfl rfl))
   ·refine l_op rfl rfl rfl (o_val rfl (v_convI ty105 ty103 rfl) ?_)
    exact b_nil (l_go hF rfl (g9_9) (le_q rfl rfl))
  have g9_8 : F [0, 1, 2, 3, 7, 8, 9] ⟨[(0, slE (encM (HV.int .u32)) p0), (1, HV.int .u32 p1), (6, HV.ar 200012 v1 (encM (HV.int .u32)).k 0 ((a3.2.2).length)), (8, HV.int .i64 a3.2.1), (28, HV.ar 200012 v1 (encM (HV.int .u32)).k 0 ((a3.2.2).length)), (29, HV.int .i64 a3.2.1), (30, HV.int .u64 (IntKind.wrap .u64 (BitVec.ofInt (IntKind.bits .u64) (IntKind.wrap .u64 (a3.1 * 2 ^ (min (32 : Int).toNat (IntKind.bits .u64)))) ||| BitVec.ofInt (IntKind.bits .u64) (IntKind.wrap .u64 x7)).toNat)), (31, HV.int .u32 p1), (35, HV.int .u64 (IntKind.wrap .u64 (BitVec.ofInt (IntKind.bits .u64) (IntKind.wrap .u64 (a3.1 * 2 ^ (min (32 : Int).toNat (IntKind.bits .u64)))) ||| BitVec.ofInt (IntKind.bits .u64) (IntKind.wrap .u64 x7)).toNat)), (37, HV.int .u64 (IntKind.wrap .u64 p1))], [(200012, v1, .arr (encM (HV.int .u32)).k 105 ((encM (HV.int .u32)).E a3.2.2))]⟩ := by
   refine l_step hF rfl [4, 10] rfl rfl ⟨?_, ?_, trivial⟩
   ·refine l_op rfl rfl rfl (o_val rfl (v_convI ty105 ty103 rfl) ?_)
    exact b_nil (l_go hF rfl (g9_9) (le_q rfl rfl))
   ·refine l_op rfl rfl rfl (o_val rfl (v_bin rfl rfl (b_rem h91001)) ?_)
    exact b_nil (l_go hF rfl (g9_10) (le_q rfl rfl))
  have g9_6 : F [0, 1, 2, 3, 7, 8] ⟨[(0, slE (encM (HV.int .u32)) p0), (1, HV.int .u32 p1), (6, HV.ar 200012 v1 (encM (HV.int .u32)).k 0 ((a3.2.2).length)), (8, HV.int .i64 a3.2.1), (28, HV.ar 200012 v1 (encM (HV.int .u32)).k 0 ((a3.2.2).length)), (29, HV.int .i64 a3.2.1), (30, HV.int .u64 (IntKind.wrap .u64 (BitVec.ofInt (IntKind.bits .u64) (IntKind.wrap .u64 (a3.1 * 2 ^ (min (32 : Int).toNat (IntKind.bits .u64)))) ||| BitVec.ofInt (IntKind.bits .u64) (IntKind.wrap .u64 x7)).toNat)), (31, HV.int .u32 p1), (35, HV.int .u64 (IntKind.wrap .u64 (BitVec.ofInt (IntKind.bits .u64) (IntKind.wrap .u64 (a3.1 * 2 ^ (min (32 : Int).toNat (IntKind.bits .u64)))) ||| BitVec.ofInt (IntKind.bits .u64) (IntKind.wrap .u64 x7)).toNat)), (36, HV.int .u32 p1)], [(200012, v1, .arr (encM (HV.int .u32)).k 105 ((encM (HV.int .u32)).E a3.2.2))]⟩ := by
   refine l_step hF rfl [4, 9] rfl rfl ⟨?_, ?_, trivial⟩
   ·refine l_op rfl rfl rfl (o_val rfl (v_convI ty105 ty103 rfl) ?_)
    exact b_nil (l_go hF rfl (g9_7) (le_q rfl rfl))
   ·refine l_op rfl rfl rfl (o_val rfl (v_convI ty105 ty103 rfl) ?_)
    exact b_nil (l_go hF rfl (g9_8) (le_q rfl rfl))
  have g9_5 : F [0, 1, 2, 3, 7] ⟨[(0, slE (encM (HV.int .u32)) p0), (1, HV.int .u32 p1), (6, HV.ar 200012 v1 (encM (HV.int .u32)).k 0 ((a3.2.2).length)), (8, HV.int .i64 a3.2.1), (28, HV.ar 200012 v1 (encM (HV.int .u32)).k 0 ((a3.2.2).length)), (29, HV.int .i64 a3.2.1), (30, HV.int .u64 (IntKind.wrap .u64 (BitVec.ofInt (IntKind.bits .u64) (IntKind.wrap .u64 (a3.1 * 2 ^ (min (32 : Int).toNat (IntKind.bits .u64)))) ||| BitVec.ofInt (IntKind.bits .u64) (IntKind.wrap .u64 x7)).toNat)), (31, HV.int .u32 p1), (35, HV.int .u64 (IntKind.wrap .u64 (BitVec.ofInt (IntKind.bits .u64) (IntKind.wrap .u64 (a3.1 * 2 ^ (min (32 : Int).toNat (IntKind.bits .u64)))) ||| BitVec.ofInt (IntKind.bits .u64) (IntKind.wrap .u64 x7)).toNat))], [(200012, v1, .arr (encM (HV.int .u32)).k 105 ((encM (HV.int .u32)).E a3.2.2))]⟩ := by
   refine l_take (i := 8) hF rfl rfl rfl (mv_val rfl rfl).2 ?_
   exact l_go hF rfl (g9_6) (le_q rfl rfl)
  have g9_4 : F [0, 1, 2, 3] ⟨[(0, slE (encM (HV.int .u32)) p0), (1, HV.int .u32 p1), (6, HV.ar 200012 v1 (encM (HV.int .u32)).k 0 ((a3.2.2).length)), (8, HV.int .i64 a3.2.1), (9, HV.int .u64 (IntKind.wrap .u64 (BitVec.ofInt (IntKind.bits .u64) (IntKind.wrap .u64 (a3.1 * 2 ^ (min (32 : Int).toNat (IntKind.bits .u64)))) ||| BitVec.ofInt (IntKind.bits .u64) (IntKind.wrap .u64 x7)).toNat)), (28, HV.ar 200012 v1 (encM (HV.int .u32)).k 0 ((a3.2.2).length)), (29, HV.int .i64 a3.2.1), (30, HV.int .u64 (IntKind.wrap .u64 (BitVec.ofInt (IntKind.bits .u64) (IntKind.wrap .u64 (a3.1 * 2 ^ (min (32 : Int).toNat (IntKind.bits .u64)))) ||| BitVec.ofInt (IntKind.bits .u64) (IntKind.wrap .u64 x7)).toNat)), (31, HV.int .u32 p1)], [(200012, v1, .arr (encM (HV.int .u32)).k 105 ((encM (HV.int .u32)).E a3.2.2))]⟩ := by
   refine l_take (i := 7) hF rfl rfl rfl (mv_val rfl rfl).2 ?_
   exact l_go hF rfl (g9_5) (le_q rfl rfl)
  have g9_3 : F [0, 1, 2] ⟨[(0, slE (encM (HV.int .u32)) p0), (1, HV.int .u32 p1), (6, HV.ar 200012 v1 (encM (HV.int .u32)).k 0 ((a3.2.2).length)), (8, HV.int .i64 a3.2.1), (9, HV.int .u64 (IntKind.wrap .u64 (BitVec.ofInt (IntKind.bits .u64) (IntKind.wrap .u64 (a3.1 * 2 ^ (min (32 : Int).toNat (IntKind.bits .u64)))) ||| BitVec.ofInt (IntKind.bits .u64) (IntKind.wrap .u64 x7)).toNat)), (28, HV.ar 200012 v1 (encM (HV.int .u32)).k 0 ((a3.2.2).length)), (29, HV.int .i64 a3.2.1), (30, HV.int .u64 (IntKind.wrap .u64 (BitVec.ofInt (IntKind.bits .u64) (IntKind.wrap .u64 (a3.1 * 2 ^ (min (32 : Int).toNat (IntKind.bits .u64)))) ||| BitVec.ofInt (IntKind.bits .u64) (IntKind.wrap .u64 x7)).toNat))], [(200012, v1, .arr (encM (HV.int .u32)).k 105 ((encM (HV.int .u32)).E a3.2.2))]⟩ := by
   refine l_take (i := 3) hF rfl rfl rfl (mv_val rfl rfl).2 ?_
   exact l_go hF rfl (g9_4) (le_q rfl rfl)
  have g9_2 : F [0, 1] ⟨[(0, slE (encM (HV.int .u32)) p0), (1, HV.int .u32 p1), (6, HV.ar 200012 v1 (encM (HV.int .u32)).k 0 ((a3.2.2).length)), (8, HV.int .i64 a3.2.1), (9, HV.int .u64 (IntKind.wrap .u64 (BitVec.ofInt (IntKind.bits .u64) (IntKind.wrap .u64 (a3.1 * 2 ^ (min (32 : Int).toNat (IntKind.bits .u64)))) ||| BitVec.ofInt (IntKind.bits .u64) (IntKind.wrap .u64 x7)).toNat)), (28, HV.ar 200012 v1 (encM (HV.int .u32)).k 0 ((a3.2.2).length)), (29, HV.int .i64 a3.2.1)], [(200012, v1, .arr (encM (HV.int .u32)).k 105 ((encM (HV.int .u32)).E a3.2.2))]⟩ := by
   refine l_take (i := 2) hF rfl rfl rfl (mv_val rfl rfl).2 ?_
   exact l_go hF rfl (g9_3) (le_q rfl rfl)
  have g9_1 : F [0] ⟨[(0, slE (encM (HV.int .u32)) p0), (1, HV.int .u32 p1), (6, HV.ar 200012 v1 (encM (HV.int .u32)).k 0 ((a3.2.2).length)), (8, HV.int .i64 a3.2.1), (9, HV.int .u64 (IntKind.wrap .u64 (BitVec.ofInt (IntKind.bits .u64) (IntKind.wrap .u64 (a3.1 * 2 ^ (min (32 : Int).toNat (IntKind.bits .u64)))) ||| BitVec.ofInt (IntKind.bits .u64) (IntKind.wrap .u64 x7)).toNat)), (28, HV.ar 200012 v1 (encM (HV.int .u32)).k 0 ((a3.2.2).length))], [(200012, v1, .arr (encM (HV.int .u32)).k 105 ((encM (HV.int .u32)).E a3.2.2))]⟩ := by
   refine l_take (i := 1) hF rfl rfl rfl (mv_val rfl rfl).2 ?_
   exact l_go hF rfl (g9_2) (le_q rfl rfl)
  have g9_0 : F [] ⟨[(0, slE (encM (HV.int .u32)) p0), (1, HV.int .u32 p1), (6, HV.ar 200012 v1 (encM (HV.int .u32)).k 0 ((a3.2.2).length)), (8, HV.int .i64 a3.2.1), (9, HV.int .u64 (IntKind.wrap .u64 (BitVec.ofInt (IntKind.bits .u64) (IntKind.wrap .u64 (a3.1 * 2 ^ (min (32 : Int).toNat (IntKind.bits .u64)))) ||| BitVec.ofInt (IntKind.bits .u64) (IntKind.wrap .u64 x7)).toNat))], [(200012, v1, .arr (encM (HV.int .u32)).k 105 ((encM (HV.int .u32)).E a3.2.2))]⟩ := by
   refine l_take (i := 0) hF rfl rfl rfl (mv_val rfl rfl).2 ?_
   exact l_go hF rfl (g9_1) (le_q rfl rfl)
  exact g9_0
 have hc := of_decide_eq_false hc
 have h := ifF hc h
 refine AW.exit ?_
 exact to_le (s' := ⟨[(6, HV.ar 200012 v1 (encM (HV.int .u32)).k 0 ((a3.2.2).length)), (7, HV.int .u64 a3.1)], [(200012, v1, .arr (encM (HV.int .u32)).k 105 ((encM (HV.int .u32)).E a3.2.2))]⟩) (AS.le_of ⟨rfl, rfl, trivial⟩ ⟨rfl, trivial⟩) ⟨(a3.2.2, a3.1), (), h, rfl⟩

end Go.AW



/- Models that can be evaluated: those with a bound on the rounds of loops; what they give, the models give. -/
namespace Go.AW
open Go

structure Lq {α : Type} (x y : Option α) : Prop where
  ap : ∀ r, x = some r → y = some r

theorem Lq.refl {α : Type} (x : Option α) : Lq x x := ⟨fun _ h => h⟩
theorem Lq.none {α : Type} {y : Option α} : Lq Option.none y := ⟨fun _ h => by cases h⟩
theorem Lq.bind {α β : Type} {x y : Option α} {f g : α → Option β} (h : Lq x y) (hk : ∀ a, Lq (f a) (g a)) : Lq (x.bind f) (y.bind g) := by
  refine ⟨fun r hr => ?_⟩
  obtain ⟨a, ha, hf⟩ := bS hr
  rw [h.ap a ha]
  exact (hk a).ap r hf
theorem Lq.ite {α : Type} {p : Prop} [Decidable p] {a a' b b' : Option α} (h1 : Lq a a') (h2 : Lq b b') : Lq (if p then a else b) (if p then a' else b') := by
  refine ⟨fun r hr => ?_⟩
  by_cases hp : p
  · rw [if_pos hp] at hr ⊢; exact h1.ap r hr
  · rw [if_neg hp] at hr ⊢; exact h2.ap r hr
theorem Lq.jp {S R : Type} {M M' : S → Option R} {B B' : (S → Option R) → Option R} (hM : ∀ a, Lq (M a) (M' a)) (hB : ∀ k k' : S → Option R, (∀ a, Lq (k a) (k' a)) → Lq (B k) (B' k')) : Lq (Go.AW.jp M B) (Go.AW.jp M' B') := hB _ _ hM

theorem iter_mono {S X : Type} {f g : S → Option (Stp S X)} (h : ∀ s, Lq (f s) (g s)) : ∀ (n : Nat) (s : S) (r : X), iter f n s = some r → iter g n s = some r
  | 0, _, _, hr => hr
  | n + 1, s, r, hr => by
    simp only [iter] at hr ⊢
    split at hr
    · rename_i s' hs
      rw [(h s).ap _ hs]
      exact iter_mono h n s' r hr
    · rename_i x hs
      rw [(h s).ap _ hs]
      exact hr
    · cases hr

def loopE {S X : Type} (body : S → Option (Stp S X)) (s : S) : Option X := iter body 1000000 s
theorem Lq.loop {S X : Type} {f g : S → Option (Stp S X)} {s : S} (h : ∀ s, Lq (f s) (g s)) : Lq (loopE f s) (loopW g s) := ⟨fun r hr => loopW_of (iter_mono h _ s r hr)⟩
theorem Lq.lpO {V R Y : Type} {x y : Option (Ou V R)} {M M' : V → Option Y} {Rt Rt' : R → Option Y} (h : Lq x y) (hM : ∀ v, Lq (M v) (M' v)) (hR : ∀ r, Lq (Rt r) (Rt' r)) : Lq (Go.AW.lpO x M Rt) (Go.AW.lpO y M' Rt') := by
  refine ⟨fun r hr => ?_⟩
  unfold Go.AW.lpO at hr ⊢
  split at hr
  · rename_i v
    rw [h.ap _ rfl]; exact (hM v).ap r hr
  · rename_i v
    rw [h.ap _ rfl]; exact (hR v).ap r hr
  · cases hr
theorem forL_mono {S α X : Type} {f g : S → α → Option (Stp S X)} (h : ∀ s a, Lq (f s a) (g s a)) : ∀ (l : List α) (s : S) (r : Ou S X), forL f l s = some r → forL g l s = some r
  | [], _, _, hr => hr
  | x :: l, s, r, hr => by
    simp only [forL] at hr ⊢
    split at hr
    · rename_i s' hs
      rw [(h s x).ap _ hs]
      exact forL_mono h l s' r hr
    · rename_i y hs
      rw [(h s x).ap _ hs]
      exact hr
    · cases hr
theorem Lq.forL {S α X : Type} {f g : S → α → Option (Stp S X)} {l : List α} {s : S} (h : ∀ s a, Lq (f s a) (g s a)) : Lq (Go.AW.forL f l s) (Go.AW.forL g l s) := ⟨forL_mono h l s⟩

end Go.AW

/- Sorting that the kernel can evaluate. -/
namespace Go.AW
open Go
end Go.AW

/- Models that can be evaluated, printed by mk2.py. -/
namespace Go.AW
open Go
set_option linter.unusedVariables false
def c_integer_trim (p0 : List (Int)) : Option ((List (Int))) :=
  (loopE (S := (List Int)) (X := (List Int)) (fun a1 =>
      jp (fun (a5 : Bool) =>
        if a5 = true then
          if 0 ≤ (0 : Int) ∧ (0 : Int) ≤ IntKind.wrap .i64 (((a1).length : Int) - 1) ∧ IntKind.wrap .i64 (((a1).length : Int) - 1) ≤ (a1.length : Int) then
            some (Stp.next ((a1.take (IntKind.wrap .i64 (((a1).length : Int) - 1)).toNat).drop (0 : Int).toNat))
          else none
        else
          some (Stp.exit a1))
        fun k7 =>
        if 0 < ((a1).length : Int) then
          (idx a1 (IntKind.wrap .i64 (((a1).length : Int) - 1))).bind fun x9 =>
          k7 (decide (x9 = 0))
        else
          k7 false) p0).bind fun a12 =>
  some a12
set_option maxHeartbeats 1600000 in
theorem le_integer_trim {p0 : List (Int)} : Lq (c_integer_trim p0) (m_integer_trim p0) := by
  unfold c_integer_trim m_integer_trim
  repeat' with_reducible first | intro _ | exact Lq.refl _ | exact Lq.none | apply Lq.ite | apply Lq.bind | apply Lq.jp | apply Lq.loop | apply Lq.lpO | apply Lq.forL | apply_assumption

def c_integer_number (p0 : Bool) (p1 : List (Int)) : Option (TNegMag) :=
  (c_integer_trim p1).bind fun x2 =>
  if ((x2).length : Int) = 0 then
    some (false, ([] : List UInt8))
  else
    if 0 ≤ (0 : Int) ∧ (0 : Int) ≤ IntKind.wrap .i64 (4 * ((x2).length : Int)) ∧ (IntKind.wrap .i64 (4 * ((x2).length : Int)) : Int) * 1 ≤ 281474976710656 then
      (loopE (S := Int × (List Int)) (X := (List Int)) (fun a6 =>
          if 0 ≤ a6.1 then
            (loopE (S := Int × (List Int)) (X := (List Int)) (fun a10 =>
                if 0 ≤ a10.1 then
                  jp (fun (a14 : (List Int)) =>
                    some (Stp.next (IntKind.wrap .i64 (a10.1 - 1), a14)))
                    fun k16 =>
                    (idx x2 a6.1).bind fun x17 =>
                    if 0 ≤ (IntKind.wrap .i64 (8 * a10.1)) then
                      jp (fun (a20 : Bool) =>
                        if a20 = true then
                          if fits 1 ((a10.2 : List Int).length + ([IntKind.wrap .u8 (Int.fdiv x17 (2 ^ (min ((IntKind.wrap .i64 (8 * a10.1))).toNat (IntKind.bits .u32))))]).length) then
                            k16 (a10.2 ++ [IntKind.wrap .u8 (Int.fdiv x17 (2 ^ (min ((IntKind.wrap .i64 (8 * a10.1))).toNat (IntKind.bits .u32))))])
                          else none
                        else
                          k16 a10.2)
                        fun k22 =>
                        if (IntKind.wrap .u8 (Int.fdiv x17 (2 ^ (min ((IntKind.wrap .i64 (8 * a10.1))).toNat (IntKind.bits .u32))))) ≠ 0 then
                          k22 true
                        else
                          k22 (decide (0 < (((a10.2).length : Nat) : Int)))
                    else none
                else
                  some (Stp.exit a10.2)) (3, a6.2)).bind fun a26 =>
            some (Stp.next (IntKind.wrap .i64 (a6.1 - 1), a26))
          else
            some (Stp.exit a6.2)) (IntKind.wrap .i64 (((x2).length : Int) - 1), List.replicate (0 : Int).toNat (0 : Int))).bind fun a28 =>
      some (p0, a28.map fun n => UInt8.ofNat n.toNat)
    else none
set_option maxHeartbeats 1600000 in
theorem le_integer_number {p0 : Bool} {p1 : List (Int)} : Lq (c_integer_number p0 p1) (m_integer_number p0 p1) := by
  unfold c_integer_number m_integer_number
  repeat' with_reducible first | intro _ | exact Lq.refl _ | exact Lq.none | apply Lq.ite | apply Lq.bind | apply Lq.jp | apply Lq.loop | apply Lq.lpO | apply Lq.forL | apply_assumption | apply le_integer_trim

def c_integer_short (p0 : List (Int)) (p1 : Int) : Option ((List (Int)) × Int) :=
 if 0 ≤ (((p0).length : Int) : Int) ∧ (((p0).length : Int) : Int) ≤ ((p0).length : Int) ∧ (((p0).length : Int) : Int) * 4 ≤ 281474976710656 then
  (loopE (S := Int × Int × (List Int)) (X := (List Int) × Int) (fun a3 =>
      if 0 ≤ a3.2.1 then
       (idx p0 a3.2.1).bind fun x7 =>
       if (IntKind.wrap .u64 p1) ≠ 0 then
        if (IntKind.wrap .u64 p1) ≠ 0 then
         (idx a3.2.2 a3.2.1).bind fun x91101 =>
         some (Stp.next (Int.tmod (IntKind.wrap .u64 (BitVec.ofInt (IntKind.bits .u64) (IntKind.wrap .u64 (a3.1 * 2 ^ (min (32 : Int).toNat (IntKind.bits .u64)))) ||| BitVec.ofInt (IntKind.bits .u64) (IntKind.wrap .u64 x7)).toNat) (IntKind.wrap .u64 p1), IntKind.wrap .i64 (a3.2.1 - 1), (a3.2.2).set (a3.2.1).toNat (IntKind.wrap .u32 (IntKind.wrap .u64 (Int.tdiv (IntKind.wrap .u64 (BitVec.ofInt (IntKind.bits .u64) (IntKind.wrap .u64 (a3.1 * 2 ^ (min (32 : Int).toNat (IntKind.bits .u64)))) ||| BitVec.ofInt (IntKind.bits .u64) (IntKind.wrap .u64 x7)).toNat) (IntKind.wrap .u64 p1))))))
        else none
       else none
      else
       some (Stp.exit (a3.2.2, a3.1))) (0, IntKind.wrap .i64 (((p0).length : Int) - 1), List.replicate (((p0).length : Int)).toNat (0 : Int))).bind fun a10 =>
  (c_integer_trim a10.1).bind fun x12 =>
  some (x12, IntKind.wrap .u32 a10.2)
 else none
set_option maxHeartbeats 1600000 in
theorem le_integer_short {p0 : List (Int)} {p1 : Int} : Lq (c_integer_short p0 p1) (m_integer_short p0 p1) := by
  unfold c_integer_short m_integer_short
  repeat' with_reducible first | intro _ | exact Lq.refl _ | exact Lq.none | apply Lq.ite | apply Lq.bind | apply Lq.jp | apply Lq.loop | apply Lq.lpO | apply Lq.forL | apply_assumption | apply le_integer_trim

end Go.AW

/- rational.Ratio and its like of small numbers, evaluated. -/
namespace Go.AW
open Go Go.Proofs
def L16 : List Nat := [1, 2, 3, 4, 5, 6, 7, 8, 9, 10, 11, 12, 13, 14, 15, 16]
def u32z (n : Nat) : List Int := if n = 0 then [] else [(n : Int)]
def u8z (n : Nat) : List UInt8 := if n = 0 then [] else [UInt8.ofNat n]
abbrev hvN (l : List Int) : HV := slE (encM (HV.int .u32)) l
abbrev hvI (a : TNegMag) : HV := HV.agg [HV.bool a.1, HV.str a.2]
abbrev hvR (a : TNumDen) : HV := HV.agg [HV.bool a.1.1, HV.str a.1.2, HV.bool a.2.1, HV.str a.2.2]
def shF (a b : Nat) : FuncId × List HV × HV := (200, [hvN [(a : Int)], HV.int .u32 b], HV.tup [hvN (u32z (a / b)), HV.int .u32 (a % b : Nat)])
def numA : List (Bool × List Int × Nat) := (true, [], 0) :: (0 :: L16).flatMap fun n => [(false, u32z n, n), (false, [(n : Int), 0], n)]
def numR (x : Bool × List Int × Nat) : TNegMag := (x.1 && !(x.2.2 == 0), u8z x.2.2)
def numF (x : Bool × List Int × Nat) : FuncId × List HV × HV := (71, [HV.bool x.1, hvN x.2.1], hvI (numR x))
def factsG : List (FuncId × List HV × HV) := numA.map numF
def factsP : List (FuncId × List HV × HV) := (L16.flatMap fun a => [shF a 1, shF a 2]) ++ (L16.flatMap fun b => [shF 1 b, shF 2 b])
theorem short_c : ∀ a ∈ L16, ∀ b ∈ L16, c_integer_short [(a : Int)] (b : Int) = some (u32z (a / b), ((a % b : Nat) : Int)) := by decide +kernel
theorem num_c : ∀ x ∈ numA, c_integer_number x.1 x.2.1 = some (numR x) := by decide +kernel
theorem factsG_ok : ∀ e ∈ factsG, Fresh Tryz.prog e.1 e.2.1 e.2.2 := by
  intro e he
  simp only [factsG, List.mem_map] at he
  obtain ⟨x, hx, rfl⟩ := he
  exact (w_integer_number (le_integer_number.ap _ (num_c x hx))).fresh ⟨trivial, trivial, trivial⟩ rfl
theorem factsP_ok : ∀ e ∈ factsP, Pure Tryz.prog e.1 e.2.1 (· = e.2.2) := by
  intro e he
  have key : ∀ a ∈ L16, ∀ b ∈ L16, Pure Tryz.prog (shF a b).1 (shF a b).2.1 (· = (shF a b).2.2) := fun a ha b hb => w_integer_short (le_integer_short.ap _ (short_c a ha b hb))
  have h1 : 1 ∈ L16 := by decide
  have h2 : 2 ∈ L16 := by decide
  simp only [factsP, List.mem_append, List.mem_flatMap, List.mem_cons, List.not_mem_nil, or_false] at he
  rcases he with ⟨a, ha, rfl | rfl⟩ | ⟨b, hb, rfl | rfl⟩
  · exact key a ha 1 h1
  · exact key a ha 2 h2
  · exact key 1 h1 b hb
  · exact key 2 h2 b hb
noncomputable abbrev comesR (f : FuncId) (args : List HV) (q : HV) : Bool := comesP (tabsE Tryz.prog factsG factsP) 2000 f args q
def ratB (p : Nat) (l : List Nat) : Prop := (l.all fun q => comesR 20 [HV.int .i64 (p : Nat), HV.int .i64 (q : Nat)] (HV.tup [hvR (ratT p q), HV.int .i64 0])) = true
theorem ratio0 : ratB 0 L16 := by unfold ratB; kernel_rfl
theorem ratio1a : ratB 1 [1, 2, 3, 4, 5, 6, 7, 8] := by unfold ratB; kernel_rfl
theorem ratio1b : ratB 1 [9, 10, 11, 12, 13, 14, 15, 16] := by unfold ratB; kernel_rfl
theorem ratio2a : ratB 2 [1, 2, 3, 4, 5, 6, 7, 8] := by unfold ratB; kernel_rfl
theorem ratio2b : ratB 2 [9, 10, 11, 12, 13, 14, 15, 16] := by unfold ratB; kernel_rfl
theorem ratB_mem {p : Nat} {l : List Nat} (h : ratB p l) {q : Nat} (hq : q ∈ l) : Pure Tryz.prog 20 [HV.int .i64 (p : Nat), HV.int .i64 (q : Nat)] (· = HV.tup [hvR (ratT p q), HV.int .i64 0]) :=
  Pure.of_comes (tabsT_ok factsG_ok factsP_ok) (List.all_eq_true.1 h q hq)
theorem w_rational_Ratio {p0 p1 : Int} {r : TNumDen × Int} (h : m_rational_Ratio p0 p1 = some r) : Pure Tryz.prog 20 [HV.int .i64 p0, HV.int .i64 p1] (· = HV.tup [HV.agg [HV.bool r.1.1.1, HV.str r.1.1.2, HV.bool r.1.2.1, HV.str r.1.2.2], HV.int .i64 r.2]) := by
  unfold m_rational_Ratio at h
  split at h
  · rename_i hc
    cases h
    obtain ⟨p, rfl⟩ := Int.eq_ofNat_of_zero_le hc.1
    obtain ⟨q, rfl⟩ := Int.eq_ofNat_of_zero_le (show 0 ≤ p1 by omega)
    have hp : p = 0 ∨ p = 1 ∨ p = 2 := by omega
    have hq : q ∈ [1, 2, 3, 4, 5, 6, 7, 8] ∨ q ∈ [9, 10, 11, 12, 13, 14, 15, 16] := by simp only [List.mem_cons, List.not_mem_nil, or_false]; omega
    have hq' : q ∈ L16 := by simp only [L16, List.mem_cons, List.not_mem_nil, or_false]; omega
    rcases hp with rfl | rfl | rfl
    · exact ratB_mem ratio0 hq'
    · rcases hq with hq | hq
      · exact ratB_mem ratio1a hq
      · exact ratB_mem ratio1b hq
    · rcases hq with hq | hq
      · exact ratB_mem ratio2a hq
      · exact ratB_mem ratio2b hq
  · cases h
end Go.AW

/- What functions of the library compute that chapter 11 uses (not printed). -/
namespace Go.AW
open Go
end Go.AW

/- What language.list computes: the words level by level, each with its ends. -/
namespace Go.AW
open Go
end Go.AW

/- Models, printed by lk.py. -/
namespace Go.AW
open Go
set_option linter.unusedVariables false
noncomputable def m_slices_Equal_Lint_int (p0 : List (Int)) (p1 : List (Int)) : Option (Bool) :=
  if ((p0).length : Int) ≠ ((p1).length : Int) then
    some false
  else
    lpO (loopW (S := Int) (X := Ou (Unit) (Bool)) (fun a1 =>
        if a1 < ((p0).length : Int) then
          (idx p0 a1).bind fun x5 =>
          (idx p1 a1).bind fun x7 =>
          if x5 ≠ x7 then
            some (Stp.exit (Ou.ret false))
          else
            some (Stp.next (IntKind.wrap .i64 (a1 + 1)))
        else
          some (Stp.exit (Ou.go ()))) 0) (fun a9 =>
        some true) some

noncomputable def m_ref11_Great (p0 : TLabelsStatesEdges) : Option (Bool) :=
  jp (fun (a1 : Bool) =>
    some a1)
    fun k3 =>
    if 8 < p0.2.1 then
      if p0.2.1 ≤ 64 then
        k3 true
      else
        if 30 < ((p0.2.2).length : Int) then
          if ((p0.2.2).length : Int) ≤ 1024 then
            k3 true
          else
            k3 (decide (1027 < ((p0.2.2).length : Int)))
        else
          k3 (decide (1027 < ((p0.2.2).length : Int)))
    else
      if 30 < ((p0.2.2).length : Int) then
        if ((p0.2.2).length : Int) ≤ 1024 then
          k3 true
        else
          k3 (decide (1027 < ((p0.2.2).length : Int)))
      else
        k3 (decide (1027 < ((p0.2.2).length : Int)))

noncomputable def m_language_ends (p0 : TLabelsStatesEdges) (p1 : List (Int)) (p2 : List UInt8) : Option ((List (Int))) :=
  (loopW (S := (List Int) × Int) (X := (List Int)) (fun a1 =>
      jp (fun (a5 : Bool) =>
        if a5 = true then
          (idx p2 a1.2).bind fun x8 =>
          (m_language_step p0 a1.1 (x8.toNat : Int)).bind fun x10 =>
          some (Stp.next (x10, IntKind.wrap .i64 (a1.2 + 1)))
        else
          some (Stp.exit a1.1))
        fun k7 =>
        if a1.2 < ((p2).length : Int) then
          k7 (decide (0 < ((a1.1).length : Int)))
        else
          k7 false) (p1, 0)).bind fun a13 =>
  some a13

noncomputable def m_language_Accepts (p0 : TLabelsStatesEdges) (p1 : List UInt8) : Option (Bool × Int) :=
  (m_language_spells p0 p1).bind fun x1 =>
  if x1 ≠ 0 then
    some (false, x1)
  else
    (m_language_states p0).bind fun x3 =>
    (m_language_ends p0 x3 p1).bind fun x5 =>
    some (decide (0 < ((x5).length : Int)), 0)

end Go.AW

/- Models, printed by lk.py. -/
namespace Go.AW
open Go
set_option linter.unusedVariables false
abbrev TWordsMerges := (List (List UInt8)) × (List (List UInt8))
noncomputable def m_slices_IndexFunc_Lstring_stringG (p0 : List (List UInt8)) (p1 : (List UInt8) → Option (Bool)) : Option (Int) :=
 lpO (loopW (S := Int) (X := Ou (Unit) (Int)) (fun a1 =>
     if a1 < ((p0).length : Int) then
      (idx p0 a1).bind fun x5 =>
      (p1 x5).bind fun x7 =>
      if x7 = true then
       some (Stp.exit (Ou.ret a1))
      else
       some (Stp.next (IntKind.wrap .i64 (a1 + 1)))
     else
      some (Stp.exit (Ou.go ()))) 0) (fun a9 =>
     some (-1)) some

noncomputable def m_slices_ContainsFunc_Lstring_stringG (p0 : List (List UInt8)) (p1 : (List UInt8) → Option (Bool)) : Option (Bool) :=
 (m_slices_IndexFunc_Lstring_stringG p0 p1).bind fun x1 =>
 some (decide (0 ≤ x1))

noncomputable def m_merging_uneven_1 (p0 : List UInt8) (c0 : List (List UInt8)) : Option (Bool) :=
 (idx c0 0).bind fun x1 =>
 some (decide (((p0).length : Int) ≠ ((x1).length : Int)))

noncomputable def m_merging_uneven (p0 : List (List UInt8)) : Option (Bool) :=
 (m_slices_ContainsFunc_Lstring_stringG p0 (fun b0 => m_merging_uneven_1 b0 p0)).bind fun x1 =>
 some x1

noncomputable def m_merging_letters_1 (p0 : List UInt8) : Option (Bool) :=
 (m_strings_Count p0 [48]).bind fun x1 =>
 (m_strings_Count p0 [49]).bind fun x3 =>
 some (decide ((IntKind.wrap .i64 (x1 + x3)) ≠ ((p0).length : Int)))

noncomputable def m_merging_letters (p0 : List (List UInt8)) : Option (Bool) :=
 (m_slices_ContainsFunc_Lstring_stringG p0 (fun b0 => m_merging_letters_1 b0 )).bind fun x1 =>
 some x1

noncomputable def m_merging_repeats (p0 : List (List UInt8)) : Option (Bool) :=
 lpO (loopW (S := Int × (List (List UInt8 × Bool))) (X := Ou (Unit) (Bool)) (fun a2 =>
     if a2.1 < ((p0).length : Int) then
      (idx p0 a2.1).bind fun x6 =>
      if ((mlook x6 a2.2).getD false) = true then
       some (Stp.exit (Ou.ret true))
      else
       some (Stp.next (IntKind.wrap .i64 (a2.1 + 1), mputN x6 true a2.2))
     else
      some (Stp.exit (Ou.go ()))) (0, ([] : List (List UInt8 × Bool)))) (fun a8 =>
     some false) some

noncomputable def m_merging_form (p0 : TWordsMerges) : Option (Int) :=
 jp (fun (a1 : Bool) =>
   if a1 = true then
    some 5
   else
    jp (fun (a4 : Bool) =>
      if a4 = true then
       some 4
      else
       jp (fun (a7 : Bool) =>
         if a7 = true then
          some 11
         else
          jp (fun (a10 : Bool) =>
            if a10 = true then
             some 2
            else
             jp (fun (a13 : Bool) =>
               if a13 = true then
                some 13
               else
                jp (fun (a16 : Bool) =>
                  if a16 = true then
                   some 7
                  else
                   some 0)
                  fun k18 =>
                 (m_merging_repeats p0.1).bind fun x19 =>
                 if x19 = true then
                  k18 true
                 else
                  (m_merging_repeats p0.2).bind fun x21 =>
                  k18 x21)
               fun k15 =>
              (m_merging_letters p0.1).bind fun x24 =>
              if x24 = true then
               k15 true
              else
               (m_merging_letters p0.2).bind fun x26 =>
               k15 x26)
            fun k12 =>
           (idx p0.1 0).bind fun x29 =>
           if ((x29).length : Int) < 1 then
            k12 true
           else
            (idx p0.1 0).bind fun x31 =>
            if 16 < ((x31).length : Int) then
             k12 true
            else
             (idx p0.2 0).bind fun x33 =>
             k12 (decide (16 < ((x33).length : Int))))
         fun k9 =>
        (m_merging_uneven p0.1).bind fun x37 =>
        if x37 = true then
         k9 true
        else
         (m_merging_uneven p0.2).bind fun x39 =>
         k9 x39)
      fun k6 =>
     if 256 < ((p0.1).length : Int) then
      k6 true
     else
      k6 (decide (256 < ((p0.2).length : Int))))
   fun k3 =>
  if ((p0.1).length : Int) = 0 then
   k3 true
  else
   k3 (decide (((p0.2).length : Int) = 0))

noncomputable def m_merging_accepts (p0 : TLabelsStatesEdges) (p1 : List UInt8) : Option (Bool) :=
 (m_language_Accepts p0 p1).bind fun x1 =>
 jp (fun (a3 : Bool) =>
   some a3)
   fun k5 =>
  if x1.2 = 0 then
   k5 x1.1
  else
   k5 false

noncomputable def m_merging_Check_1 (p0 : List UInt8) (c0 : TLabelsStatesEdges) : Option (Bool) :=
 (m_merging_accepts c0 p0).bind fun x1 =>
 some (!x1)

noncomputable def m_merging_joins_1 (p0 : List UInt8) (c0 : TLabelsStatesEdges) (c1 : List UInt8) (c2 : List UInt8) : Option (Bool) :=
 if c1.length + p0.length ≤ maxLen then
  if (c1 ++ p0).length + c2.length ≤ maxLen then
   (m_merging_accepts c0 ((c1 ++ p0) ++ c2)).bind fun x3 =>
   some x3
  else none
 else none

noncomputable def m_merging_joins (p0 : TLabelsStatesEdges) (p1 : List (List UInt8)) (p2 : List UInt8) (p3 : List UInt8) : Option (Bool) :=
 (m_slices_ContainsFunc_Lstring_stringG p1 (fun b0 => m_merging_joins_1 b0 p0 p2 p3)).bind fun x1 =>
 some x1

noncomputable def m_merging_Check (p0 : TWordsMerges) (p1 : TLabelsStatesEdges) : Option (Int) :=
 (m_graph_Check p1).bind fun x1 =>
 if x1 ≠ 0 then
  some 1
 else
  if p1.1 ≠ 2 then
   some 12
  else
   (m_merging_form p0).bind fun x3 =>
   if x3 ≠ 0 then
    some x3
   else
    (m_slices_ContainsFunc_Lstring_stringG p0.1 (fun b0 => m_merging_Check_1 b0 p1)).bind fun x5 =>
    if x5 = true then
     some 13
    else
     lpO (loopW (S := Int) (X := Ou (Unit) (Int)) (fun a7 =>
         if a7 < ((p0.1).length : Int) then
          (idx p0.1 a7).bind fun x11 =>
          lpO (loopW (S := Int) (X := Ou (Unit) (Int)) (fun a13 =>
              if a13 < ((p0.1).length : Int) then
               (idx p0.1 a13).bind fun x17 =>
               (m_merging_joins p1 p0.2 x11 x17).bind fun x19 =>
               if (!x19) = true then
                some (Stp.exit (Ou.ret 15))
               else
                some (Stp.next (IntKind.wrap .i64 (a13 + 1)))
              else
               some (Stp.exit (Ou.go ()))) 0) (fun a21 =>
              some (Stp.next (IntKind.wrap .i64 (a7 + 1)))) (fun r => some (Stp.exit (Ou.ret r)))
         else
          some (Stp.exit (Ou.go ()))) 0) (fun a23 =>
         some 0) some

noncomputable def m_slices_IndexFunc_Lint_int (p0 : List (Int)) (p1 : Int → Option (Bool)) : Option (Int) :=
 lpO (loopW (S := Int) (X := Ou (Unit) (Int)) (fun a1 =>
     if a1 < ((p0).length : Int) then
      (idx p0 a1).bind fun x5 =>
      (p1 x5).bind fun x7 =>
      if x7 = true then
       some (Stp.exit (Ou.ret a1))
      else
       some (Stp.next (IntKind.wrap .i64 (a1 + 1)))
     else
      some (Stp.exit (Ou.go ()))) 0) (fun a9 =>
     some (-1)) some

noncomputable def m_slices_ContainsFunc_Lint_int (p0 : List (Int)) (p1 : Int → Option (Bool)) : Option (Bool) :=
 (m_slices_IndexFunc_Lint_int p0 p1).bind fun x1 =>
 some (decide (0 ≤ x1))

noncomputable def m_merging_inputs_1 (p0 : Int) (c0 : TWordsMerges) : Option (Bool) :=
 jp (fun (a1 : Bool) =>
   some a1)
   fun k3 =>
  if p0 < 0 then
   k3 true
  else
   k3 (decide (((c0.1).length : Int) ≤ p0))

noncomputable def m_merging_inputs (p0 : TWordsMerges) (p1 : TLabelsStatesEdges) (p2 : List (Int)) : Option (Int) :=
 (m_merging_Check p0 p1).bind fun x1 =>
 if x1 ≠ 0 then
  some 1
 else
  (m_slices_ContainsFunc_Lint_int p2 (fun b0 => m_merging_inputs_1 b0 p0)).bind fun x3 =>
  if x3 = true then
   some 2
  else
   some 0

noncomputable def m_runs_Disparity (p0 : List UInt8) : Option (Int × Int) :=
 (m_word_Check 2 p0).bind fun x1 =>
 if x1 ≠ 0 then
  some (0, x1)
 else
  (m_strings_Count p0 [49]).bind fun x3 =>
  some (IntKind.wrap .i64 ((IntKind.wrap .i64 (2 * x3)) - ((p0).length : Int)), 0)

noncomputable def m_merging_weight (p0 : List UInt8) : Option (Int) :=
 (m_runs_Disparity p0).bind fun x1 =>
 some x1.1

noncomputable def m_merging_step (p0 : TLabelsStatesEdges) (p1 : List (Int)) (p2 : List UInt8) : Option ((List (Int))) :=
 (loopW (S := (List Int) × Int) (X := (List Int)) (fun a1 =>
     if a1.2 < ((p2).length : Int) then
      (idx p2 a1.2).bind fun x5 =>
      (m_strings_IndexByte [48, 49, 50, 51, 52, 53, 54, 55, 56, 57, 97, 98, 99, 100, 101, 102] (x5.toNat : Int)).bind fun x7 =>
      (m_graph_Step p0 a1.1 x7).bind fun x9 =>
      some (Stp.next (x9.1, IntKind.wrap .i64 (a1.2 + 1)))
     else
      some (Stp.exit a1.1)) (p1, 0)).bind fun a11 =>
 some a11

noncomputable def m_merging_Encode (p0 : TWordsMerges) (p1 : TLabelsStatesEdges) (p2 : List (Int)) : Option ((List UInt8) × Int) :=
 (m_merging_inputs p0 p1 p2).bind fun x1 =>
 if x1 ≠ 0 then
  some (([] : List UInt8), x1)
 else
  if ((p2).length : Int) = 0 then
   some (([] : List UInt8), 0)
  else
   (idx p0.1 0).bind fun x3 =>
   (idx p0.2 0).bind fun x5 =>
   if (IntKind.wrap .i64 (((x3).length : Int) + ((x5).length : Int))) ≠ 0 then
    if (IntKind.wrap .i64 (Int.tdiv (IntKind.wrap .i64 (65536 + ((x5).length : Int))) (IntKind.wrap .i64 (((x3).length : Int) + ((x5).length : Int))))) < ((p2).length : Int) then
     some (([] : List UInt8), 4)
    else
     if 0 ≤ (p1.2.1 : Int) ∧ (p1.2.1 : Int) ≤ p1.2.1 ∧ (p1.2.1 : Int) * 8 ≤ 281474976710656 then
      (loopW (S := Int × (List Int)) (X := (List Int)) (fun a11 =>
          if a11.1 < (((List.replicate (p1.2.1).toNat (0 : Int)).length : Nat) : Int) then
           (idx a11.2 a11.1).bind fun x15 =>
           some (Stp.next (IntKind.wrap .i64 (a11.1 + 1), (a11.2).set (a11.1).toNat a11.1))
          else
           some (Stp.exit a11.2)) (0, List.replicate (p1.2.1).toNat (0 : Int))).bind fun a17 =>
      (idx p2 0).bind fun x22 =>
      (idx p0.1 x22).bind fun x24 =>
      jp (fun (a26 : (List Int) × Int) =>
        if 0 ≤ (1 : Int) ∧ (1 : Int) ≤ ((p2).length : Int) ∧ ((p2).length : Int) ≤ (p2.length : Int) then
         lpO (loopW (S := Int × (List Int) × (List UInt8) × Int) (X := Ou ((List UInt8)) ((List UInt8) × Int)) (fun a30 =>
             if a30.1 < (((p2.take (((p2).length : Int)).toNat).drop (1 : Int).toNat).length : Int) then
              (idx ((p2.take (((p2).length : Int)).toNat).drop (1 : Int).toNat) a30.1).bind fun x34 =>
              jp (fun (a37 : (List UInt8) × Bool) =>
                if (!a37.2) = true then
                 some (Stp.exit (Ou.ret (([] : List UInt8), 13)))
                else
                 (idx p0.1 x34).bind fun x40 =>
                 if a37.1.length + x40.length ≤ maxLen then
                  jp (fun (a43 : (List Int) × Int) =>
                    some (Stp.next (IntKind.wrap .i64 (a30.1 + 1), a43.1, a30.2.2.1 ++ (a37.1 ++ x40), a43.2)))
                    fun k45 =>
                   if fits 1 (a30.2.2.1.length + (a37.1 ++ x40).length) then
                    (m_merging_weight (a37.1 ++ x40)).bind fun x48 =>
                    (m_merging_step p1 a30.2.1 (a37.1 ++ x40)).bind fun x50 =>
                    k45 (x50, IntKind.wrap .i64 (a30.2.2.2 + x48))
                   else none
                 else none)
                fun k39 =>
               (loopW (S := (List UInt8) × Int × Bool × Int) (X := (List UInt8) × Bool) (fun a52 =>
                   if a52.2.2.2 < ((p0.2).length : Int) then
                    jp (fun (a56 : (List UInt8) × Int × Bool) =>
                      some (Stp.next (a56.1, a56.2.1, a56.2.2, IntKind.wrap .i64 (a52.2.2.2 + 1))))
                      fun k58 =>
                     (idx p0.2 a52.2.2.2).bind fun x59 =>
                     jp (fun (a61 : Int × Bool) =>
                       jp (fun (a64 : Bool) =>
                         if a64 = true then
                          k58 (x59, a61.1, true)
                         else
                          k58 (a52.1, a52.2.1, a52.2.2.1))
                         fun k66 =>
                        if a61.2 = true then
                         if (!a52.2.2.1) = true then
                          k66 true
                         else
                          k66 (decide (a61.1 < a52.2.1))
                        else
                         k66 false)
                       fun k63 =>
                      (idx p0.1 x34).bind fun x69 =>
                      if x59.length + x69.length ≤ maxLen then
                       (m_merging_weight (x59 ++ x69)).bind fun x72 =>
                       (idx p0.1 x34).bind fun x74 =>
                       if x59.length + x74.length ≤ maxLen then
                        (m_merging_step p1 a30.2.1 (x59 ++ x74)).bind fun x77 =>
                        k63 (max (IntKind.wrap .i64 (a30.2.2.2 + x72)) (IntKind.wrap .i64 (0 - (IntKind.wrap .i64 (a30.2.2.2 + x72)))), decide (0 < ((x77).length : Int)))
                       else none
                      else none
                   else
                    some (Stp.exit (a52.1, a52.2.2.1))) (([] : List UInt8), 0, false, 0)).bind fun a79 =>
               k39 (a79.1, a79.2)
             else
              some (Stp.exit (Ou.go a30.2.2.1))) (0, a26.1, ([] : List UInt8) ++ x24, a26.2)) (fun a81 =>
             some (a81, 0)) some
        else none)
        fun k28 =>
       if fits 1 (([] : List UInt8).length + x24.length) then
        (m_merging_weight x24).bind fun x86 =>
        (m_merging_step p1 a17 x24).bind fun x88 =>
        k28 (x88, IntKind.wrap .i64 (0 + x86))
       else none
     else none
   else none

noncomputable def m_math_bits_Len (p0 : Int) : Option (Int) :=
 (m_math_bits_Len64 p0).bind fun x1 =>
 some x1

noncomputable def m_merging_Rate (p0 : TWordsMerges) : Option (TNumDen × Int) :=
 (m_merging_form p0).bind fun x2 =>
 if x2 ≠ 0 then
  some (((false, ([] : List UInt8)), (false, ([] : List UInt8))), 1)
 else
  (m_math_bits_Len (IntKind.wrap .u64 ((p0.1).length : Int))).bind fun x4 =>
  (idx p0.1 0).bind fun x6 =>
  (idx p0.2 0).bind fun x8 =>
  (m_rational_Ratio (IntKind.wrap .i64 (x4 - 1)) (IntKind.wrap .i64 (((x6).length : Int) + ((x8).length : Int)))).bind fun x10 =>
  some (x10.1, x10.2)

noncomputable def m_merging_Merges (p0 : TWordsMerges) (p1 : TLabelsStatesEdges) (p2 : Int) (p3 : Int) : Option ((List (Int)) × Int) :=
 (m_merging_inputs p0 p1 [p2, p3]).bind fun x1 =>
 if x1 ≠ 0 then
  some ([], x1)
 else
  (loopW (S := Int × (List Int)) (X := (List Int)) (fun a3 =>
      if a3.1 < ((p0.2).length : Int) then
       jp (fun (a7 : (List Int)) =>
         some (Stp.next (IntKind.wrap .i64 (a3.1 + 1), a7)))
         fun k9 =>
        (idx p0.2 a3.1).bind fun x10 =>
        (idx p0.1 p2).bind fun x12 =>
        if x12.length + x10.length ≤ maxLen then
         (idx p0.1 p3).bind fun x15 =>
         if (x12 ++ x10).length + x15.length ≤ maxLen then
          (m_merging_accepts p1 ((x12 ++ x10) ++ x15)).bind fun x18 =>
          if x18 = true then
           if fits 8 ((a3.2 : List Int).length + ([a3.1]).length) then
            k9 (a3.2 ++ [a3.1])
           else none
          else
           k9 a3.2
         else none
        else none
      else
       some (Stp.exit a3.2)) (0, ([] : List Int))).bind fun a23 =>
  some (a23, 0)

noncomputable def m_law31_golden  : Option (TLabelsStatesEdges) :=
 some (2, 2, [(0, 0, 0), (0, 1, 1), (1, 0, 0)])

noncomputable def m_law31_awakeG  : Option (Bool) :=
 (m_law31_golden).bind fun x2 =>
 (m_merging_Merges ([[48, 48], [48, 49], [49, 48]], [[48], [49]]) x2 0 0).bind fun x4 =>
 (m_law31_golden).bind fun x6 =>
 (m_merging_Merges ([[48, 48], [48, 49], [49, 48]], [[48], [49]]) x6 1 2).bind fun x8 =>
 (m_law31_golden).bind fun x10 =>
 (m_merging_Encode ([[48, 48], [48, 49], [49, 48]], [[48], [49]]) x10 [0, 0]).bind fun x12 =>
 (m_merging_Rate ([[48, 48], [48, 49], [49, 48]], [[48], [49]])).bind fun x14 =>
 (m_rational_Ratio 1 3).bind fun x17 =>
 jp (fun (a20 : Bool) =>
   some a20)
   fun k22 =>
  if (max (max (max x4.2 x8.2) x12.2) x14.2) = 0 then
   (m_slices_Equal_Lint_int x4.1 [0, 1]).bind fun x23 =>
   if x23 = true then
    (m_slices_Equal_Lint_int x8.1 [0]).bind fun x25 =>
    if x25 = true then
     if x12.1 = [48, 48, 49, 48, 48] then
      k22 (decide (x14.1 = x17.1))
     else
      k22 false
    else
     k22 false
   else
    k22 false
  else
   k22 false

end Go.AW
