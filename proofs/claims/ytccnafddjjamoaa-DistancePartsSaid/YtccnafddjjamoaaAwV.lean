/- The evaluation of closed code: one operation, a region, control, calls; and that what it gives is so. -/
import Derived.Test.YtccnafddjjamoaaAwU
namespace Go.AW
open Go

/-- what is known of the program: its types, functions, and functions that are known to change nothing, with their results -/
structure Tabs where
  ty : TypeId → Option TyI
  fn : FuncId → Option Func
  ext : FuncId → List HV → Option HV
  /-- functions that sort in place: texts (true), numbers (false) -/
  sort : FuncId → Option Bool

structure Tabs.Ok (P : Program) (T : Tabs) : Prop where
  ty : TabOk P T.ty
  fn : ∀ f x, T.fn f = some x → P.funcs[f]? = some x ∧ (x.name == "runtime.NumGoroutine") = false
  ext : ∀ f args r, T.ext f args = some r → Fresh P f args r
  sortS : ∀ f, T.sort f = some true → SortsS P f
  sortI : ∀ f, T.sort f = some false → SortsI P f
  draw : P.follows .mixedOrders = true

def noIterB (id : Nat) : Heap → Bool
  | [] => true
  | (_, _, .iter m _ _ _) :: H => (!Nat.beq m id) && noIterB id H
  | _ :: H => noIterB id H

def unseen (seen : List (List UInt8)) : List (List UInt8 × HV) → List (List UInt8 × HV)
  | [] => []
  | (k, v) :: es => if k ∈ seen then unseen seen es else (k, v) :: unseen seen es

def sop (r : Task → Option Out) (T : Tabs) (o : Oper) (s : AS) (n : Nat) : Option (AS × Nat) :=
  match o.op with
  | .box e x => match s.ev x with
    | some hv => match hv.cells? with
      | some cs => new s n o.dst n (.arr cs.length e cs) (.ptr n n 0)
      | none => none
    | none => none
  | .alloc e => match T.ty e with
    | some U => match zcells U.zero with
      | some zs => new s n o.dst n (.arr zs.length e zs) (.ptr n n 0)
      | none => none
    | none => none
  | .store t x y => match s.ev x, s.ev y, T.ty t with
    | some (.ptr id ver off), some hv, some U => match hv.cells?, hget s.heap id with
      | some cs, some (ver', .arr k e xs) => guardO (Nat.beq ver ver' && (Nat.beq U.size cs.length && Nat.ble (off + cs.length) xs.length))
          (guardO (scL n (splice xs off cs)) (some (({ s with heap := hset s.heap id ver (.arr k e (splice xs off cs)) } : AS).put o.dst (.v undef), n)))
      | _, _ => none
    | _, _, _ => none
  | .buildSlice t m ps => guardO (Nat.ble m 16777216) (match sslice T.ty s t m ps.toList with
    | some (k, e, cs) => new s n o.dst n (.arr k e cs) (.ar n n k 0 m)
    | none => none)
  | .makeSlice t x y => match T.ty t, s.ev x, s.ev y with
    | some ⟨.slice e, _, _, _⟩, some (.int .i64 l), some (.int .i64 c) => match T.ty e with
      | some Te => match zcells Te.zero with
        | some zs => guardO (Nat.beq zs.length Te.size && decide (0 ≤ l ∧ l ≤ c ∧ c * Te.bytes ≤ 281474976710656)) (new s n o.dst n (.arr Te.size e (zrep zs l.toNat)) (.ar n n Te.size 0 l.toNat))
        | none => none
      | none => none
    | _, _, _ => none
  | .call ⟨.builtin .append, as, ts⟩ => match as.toList, ts.toList with
    | [x, y], [t, xt] => match T.ty t, s.ev x, s.ev y with
      | some ⟨.slice e, _, _, _⟩, some hx, some hy => match T.ty e with
        | some Te => match sbase s Te.size e hx, ssrc T.ty s xt Te.size hy with
          | some (m, cs), some (m', ds) => guardO ((zcells Te.zero).any (fun zs => zs.length == Te.size) && (Nat.ble ((m + m') * Te.bytes) 140737488355328 && Nat.ble (m + m') maxLen))
              (new s n o.dst (baseId hx n) (.arr Te.size e (cs ++ ds)) (.ar (baseId hx n) n Te.size 0 (m + m')))
          | _, _ => none
        | none => none
      | _, _, _ => none
    | _, _ => none
  | .call ⟨.builtin .clear, as, ts⟩ => match as.toList, ts.toList with
    | [x], [t] => match T.ty t, s.ev x with
      | some ⟨.slice e, _, _, _⟩, some (.ar id ver _ off n') => match T.ty e, hget s.heap id with
        | some Te, some (ver', .arr k' e' xs) => match zcells Te.zero with
          | some [z] => guardO (Nat.beq ver ver' && Nat.ble (off + n') xs.length) (guardO (scL n (xs.take off ++ List.replicate n' z ++ xs.drop (off + n')))
              (some (({ s with heap := hset s.heap id ver (.arr k' e' (xs.take off ++ List.replicate n' z ++ xs.drop (off + n'))) } : AS).put o.dst (.tup []), n)))
          | _ => none
        | _, _ => none
      | _, _ => none
    | _, _ => none
  | .call ⟨.value f, as, _⟩ => match s.ev f, as.toList.mapM s.ev with
    | some (.fn (.func g) fs cs), some hs => guardO (scL n (fs ++ hs ++ cs)) (match r (.call g (fs ++ hs ++ cs) s.heap n) with
      | some (.call rv H n') => some (({ s with heap := H } : AS).put o.dst rv, n')
      | _ => none)
    | some (.yl id ver), some hs => match hget s.heap id with
      | some (ver', .loop .ready none f m snap ps assign body) => guardO (Nat.beq ver ver' && (Nat.beq ps.size hs.length && (ps.toList.all fun p => Nat.blt p m))) (guardO (scS n (setPs snap ps.toList hs))
          (match r (.code false m assign ⟨setPs snap ps.toList hs, s.heap⟩ n) with
          | some (.code .normal s1 n1) => match hget s1.heap id with
            | some (_, .loop .ready none _ _ _ _ _ _) => match r (.code false m body { s1 with heap := hset s1.heap id ver (.loop .busy none f m snap ps assign body) } n1) with
              | some (.code e s2 n2) => match hget s2.heap id with
                | some (_, .loop .busy none _ _ _ _ _ _) => match e with
                  | .normal => some (({ s with heap := hset s2.heap id ver (.loop .ready none f m snap ps assign body) } : AS).put o.dst (.bool true), n2)
                  | .ret => some (({ s with heap := hset s2.heap id ver (.loop .done (some .ret) f m snap ps assign body) } : AS).put o.dst (.bool false), n2)
                  | .exit i => some (({ s with heap := hset s2.heap id ver (.loop .done (some (.exit i)) f m snap ps assign body) } : AS).put o.dst (.bool false), n2)
                  | _ => none
                | _ => none
              | _ => none
            | _ => none
          | _ => none))
      | _ => none
    | _, _ => none
  | .build t ps => match sbuild T.ty s t ps.toList with
    | some r => fin s n o.dst r
    | none => none
  | .makeMap _ none => new s n o.dst n (.map []) (.mp n n)
  | .mapUpdate t m x y => match T.ty t, s.ev m, s.ev x, s.ev y with
    | some ⟨.map kt _, _, _, _⟩, some (.mp id ver), some (.str k), some hv => match T.ty kt, hget s.heap id with
      | some ⟨.string, _, _, _⟩, some (ver', .map es) => guardO (Nat.beq ver ver' && noIterB id s.heap) (guardO (scE n (mput k hv es))
          (some (({ s with heap := hset s.heap id ver (.map (mput k hv es)) } : AS).put o.dst (.v undef), n)))
      | _, _ => none
    | _, _, _, _ => none
  | .lookup t m x false => match T.ty t, s.ev m, s.ev x with
    | some ⟨.map kt et, _, _, _⟩, some (.mp id ver), some (.str k) => match T.ty kt, T.ty et, hget s.heap id with
      | some ⟨.string, _, _, _⟩, some Te, some (ver', .map es) => match constHV Te.zero with
        | some z => guardO (Nat.beq ver ver') (fin s n o.dst ((alook k es).getD z))
        | none => none
      | _, _, _ => none
    | _, _, _ => none
  | .range t m => match T.ty t, s.ev m with
    | some ⟨.map _ _, _, _, _⟩, some (.mp mid mver) => match hget s.heap mid with
      | some (mver', .map _) => guardO (Nat.beq mver mver') (new s n o.dst n (.iter mid mver [] false) (.it n n))
      | _ => none
    | _, _ => none
  | .next x false => match s.ev x with
    | some (.it id ver) => match hget s.heap id with
      | some (ver', .iter mid mver seen _) => match hget s.heap mid with
        | some (mver', .map es) => guardO (Nat.beq ver ver' && Nat.beq mver mver') (match unseen seen es with
          | [] => fin s n o.dst (.tup [.bool false])
          | [(k, v)] => guardO (v.sc n) (some (({ s with heap := hset s.heap id ver (.iter mid mver (k :: seen) true) } : AS).put o.dst (.tup [.bool true, .str k, v]), n))
          | _ => none)
        | _ => none
      | _ => none
    | _ => none
  | .entry x => match s.ev x with
    | some (.it id ver) => match hget s.heap id with
      | some (ver', .iter mid mver (k :: _) true) => match hget s.heap mid with
        | some (mver', .map es) => guardO (Nat.beq ver ver' && Nat.beq mver mver') (match alook k es with
          | some v => fin s n o.dst (.tup [.str k, v])
          | none => none)
        | _ => none
      | _ => none
    | _ => none
  | op => match sval T.ty op s with
    | some h => fin s n o.dst h
    | none => none

theorem alook_ren (ρ : Nat → Nat) (k : List UInt8) : ∀ es, alook k (renE ρ es) = (alook k es).map (HV.ren ρ)
  | [] => rfl
  | (q, h) :: es => by
    simp only [renE, alook]
    split
    · rfl
    · exact alook_ren ρ k es

theorem mput_ren (ρ : Nat → Nat) (k : List UInt8) (h : HV) : ∀ es, renE ρ (mput k h es) = mput k (h.ren ρ) (renE ρ es)
  | [] => rfl
  | (q, g) :: es => by
    simp only [renE, mput]
    split
    · rfl
    · simp only [renE, mput_ren ρ k h es]

theorem noIterB_sound {id : Nat} {ρ : Nat → Nat} : ∀ {H : Heap}, noIterB id H = true → noIter id (renH ρ H)
  | [], _ => trivial
  | (i, v, .iter m mv seen cur) :: H, h => by
    simp only [noIterB, Bool.and_eq_true] at h
    refine ⟨fun e => ?_, noIterB_sound h.2⟩
    subst e
    simp at h
  | (i, v, .arr _ _ _) :: H, h => noIterB_sound (H := H) h
  | (i, v, .map _) :: H, h => noIterB_sound (H := H) h
  | (i, v, .loop _ _ _ _ _ _ _ _) :: H, h => noIterB_sound (H := H) h

theorem mem_renE {ρ : Nat → Nat} {k : List UInt8} {v : HV} : ∀ {es : List (List UInt8 × HV)}, (k, v) ∈ renE ρ es → ∃ u, (k, u) ∈ es ∧ v = u.ren ρ
  | [], h => by cases h
  | (q, g) :: es, h => by
    simp only [renE, List.mem_cons] at h
    rcases h with h | h
    · cases h; exact ⟨g, List.mem_cons_self .., rfl⟩
    · obtain ⟨u, h1, h2⟩ := mem_renE h
      exact ⟨u, List.mem_cons_of_mem _ h1, h2⟩

theorem mem_renE' {ρ : Nat → Nat} {k : List UInt8} {u : HV} : ∀ {es : List (List UInt8 × HV)}, (k, u) ∈ es → (k, u.ren ρ) ∈ renE ρ es
  | [], h => by cases h
  | (q, g) :: es, h => by
    simp only [renE, List.mem_cons] at h ⊢
    rcases h with h | h
    · cases h; exact .inl rfl
    · exact .inr (mem_renE' h)

theorem mem_unseen {seen : List (List UInt8)} {k : List UInt8} {v : HV} : ∀ {es : List (List UInt8 × HV)}, (k, v) ∈ unseen seen es ↔ (k, v) ∈ es ∧ k ∉ seen
  | [] => by simp [unseen]
  | (q, g) :: es => by
    simp only [unseen]
    split
    · rename_i hq
      rw [mem_unseen (es := es)]
      simp only [List.mem_cons]
      constructor
      · exact fun h => ⟨.inr h.1, h.2⟩
      · rintro ⟨h | h, h2⟩
        · cases h; exact absurd hq h2
        · exact ⟨h, h2⟩
    · rename_i hq
      simp only [List.mem_cons, mem_unseen (es := es)]
      constructor
      · rintro (h | h)
        · cases h; exact ⟨.inl rfl, hq⟩
        · exact ⟨.inr h.1, h.2⟩
      · rintro ⟨h | h, h2⟩
        · exact .inl h
        · exact .inr ⟨h, h2⟩

section
variable {P : Program} {T : Tabs} {N n n' : Nat} {o : Oper} {s s' : AS} {r : Task → Option Out}

/-- an object in place changes -/
theorem set_ok {id ver : Nat} {x ob : AObj} {h : HV} (hs : s.sc n = true) (hg : hget s.heap id = some (ver, x)) (hx : ∀ st pend f n snap ps a b, x ≠ .loop st pend f n snap ps a b) (ho : ob.sc n = true) (hh : h.sc n = true)
    (hk : ∀ (ρ : Nat → Nat) (ro : Option Nat) (K : AS → Prop), K ((⟨(s.ren ρ).slots, hset (s.ren ρ).heap id (ρ ver) (ob.ren ρ)⟩ : AS).put o.dst (h.ren ρ)) → AOp P ro N o K (s.ren ρ)) :
    OpOk P N o s n (({ s with heap := hset s.heap id ver ob } : AS).put o.dst h) n := by
  have hl := sch_get (sc_heap_of hs) hg
  refine ⟨sc_put (sc_heap hs hl.1.1 hl.1.2 ho) hh, ?_, fun ρ ro K hK => hk ρ ro K ?_⟩
  · rw [put_heap']
    exact ⟨Nat.le_refl _, LoopKeep.set fun v st pend f n snap ps a b e => by rw [hg] at e; cases e; exact hx _ _ _ _ _ _ _ _ rfl, Back.set (.inr ⟨_, hg⟩)⟩
  · have := hK ρ (Agree.refl _ _)
    rw [ren_put] at this
    simpa only [AS.ren, renH_set] using this

theorem evL_sc {xs : List Operand} {hs : List HV} (h : xs.mapM s.ev = some hs) (ρ : Nat → Nat) : xs.mapM (s.ren ρ).ev = some (renL ρ hs) := by rw [evL_ren, h]; rfl

theorem setPs_ren (ρ : Nat → Nat) : ∀ (ps : List Tmp) (snap : List (Nat × HV)) (hs : List HV), renS ρ (setPs snap ps hs) = setPs (renS ρ snap) ps (renL ρ hs)
  | [], snap, hs => by simp [setPs]
  | p :: ps, snap, [] => by simp [setPs, renL]
  | p :: ps, snap, h :: hs => by simp only [setPs, renL, setPs_ren ρ ps, renS_set]

theorem sval_ok (hT : T.Ok P) (hN : okd N o.dst = true) (hs : s.sc n = true) (h : (match sval T.ty o.op s with
    | some h => fin s n o.dst h
    | none => none) = some (s', n')) : OpOk P N o s n s' n' := by
  split at h
  · rename_i hv hev
    exact fin_ok hs h fun ρ ro K hK => AOp.pure hN (sval_sound hT.ty hev hK)
  · cases h

theorem yield_ok (hr : Good P r) (hN : okd N o.dst = true) (hs : s.sc n = true) {c : Call} {g : Operand} {id ver : Nat} {hs' : List HV} (hop : o.op = .call c) (hc : c.callee = .value g) (hg : s.ev g = some (.yl id ver)) (ha : c.args.toList.mapM s.ev = some hs')
    (h : (match hget s.heap id with
      | some (ver', .loop .ready none f m snap ps assign body) => guardO (Nat.beq ver ver' && (Nat.beq ps.size hs'.length && (ps.toList.all fun p => Nat.blt p m))) (guardO (scS n (setPs snap ps.toList hs'))
          (match r (.code false m assign ⟨setPs snap ps.toList hs', s.heap⟩ n) with
          | some (.code .normal s1 n1) => match hget s1.heap id with
            | some (_, .loop .ready none _ _ _ _ _ _) => match r (.code false m body { s1 with heap := hset s1.heap id ver (.loop .busy none f m snap ps assign body) } n1) with
              | some (.code e s2 n2) => match hget s2.heap id with
                | some (_, .loop .busy none _ _ _ _ _ _) => match e with
                  | .normal => some (({ s with heap := hset s2.heap id ver (.loop .ready none f m snap ps assign body) } : AS).put o.dst (.bool true), n2)
                  | .ret => some (({ s with heap := hset s2.heap id ver (.loop .done (some .ret) f m snap ps assign body) } : AS).put o.dst (.bool false), n2)
                  | .exit i => some (({ s with heap := hset s2.heap id ver (.loop .done (some (.exit i)) f m snap ps assign body) } : AS).put o.dst (.bool false), n2)
                  | _ => none
                | _ => none
              | _ => none
            | _ => none
          | _ => none))
      | _ => none) = some (s', n')) : OpOk P N o s n s' n' := by
  have hsh := sc_heap_of hs
  split at h
  · rename_i ver' f m snap ps assign body hgl
    replace h := guardO_some h
    obtain ⟨h1, h⟩ := h
    replace h := guardO_some h
    obtain ⟨h2, h⟩ := h
    simp only [Bool.and_eq_true, List.all_eq_true] at h1
    have hv := Nat.eq_of_beq_eq_true h1.1
    subst hv
    have hps := Nat.eq_of_beq_eq_true h1.2.1
    have hpm : ∀ p ∈ ps.toList, p < m := fun p hp => blt_lt (h1.2.2 p hp)
    have hlsc := sch_get hsh hgl
    split at h
    · rename_i s1 n1 hr1
      obtain ⟨hs1, st1, hw1⟩ := hr _ _ hr1 (by simp only [AS.sc, h2, hsh, Bool.and_self])
      split at h
      · rename_i v1 f1 m1 snap1 ps1 as1 bd1 hg1
        obtain ⟨_, _, he1⟩ := st1.loop _ _ _ _ _ _ _ _ _ _ hgl _ hg1
        cases he1
        have hlsc1 := sch_get (sc_heap_of hs1) hg1
        have hsb : ({ s1 with heap := hset s1.heap id ver (.loop .busy none f m snap ps assign body) } : AS).sc n1 = true := sc_heap hs1 hlsc1.1.1 hlsc1.1.2 hlsc1.2
        split at h
        · rename_i e s2 n2 hr2
          obtain ⟨hs2, st2, hw2⟩ := hr _ _ hr2 hsb
          have stb : Step n1 n1 s1.heap (hset s1.heap id ver (.loop .busy none f m snap ps assign body)) := ⟨Nat.le_refl _, LoopKeep.setL hg1, Back.set (.inr ⟨_, hg1⟩)⟩
          have st12 := (st1.trans hsh stb).trans hsh st2
          split at h
          · rename_i v2 f2 m2 snap2 ps2 as2 bd2 hg2
            obtain ⟨_, _, he2⟩ := st12.loop _ _ _ _ _ _ _ _ _ _ hgl _ hg2
            cases he2
            have hlsc2 := sch_get (sc_heap_of hs2) hg2
            -- what a round comes to
            have done : ∀ (st : LoopState) (pend : Option Code) (b : Bool), (∀ (ρ' : Nat → Nat) (K : HV → Heap → Prop) (e' : Exit), e' = e →
                  K (.bool b) (hset (s2.ren ρ').heap id (ρ' ver) (.loop st pend (ρ' f) m (renS ρ' snap) ps assign body)) → rndQ id (ρ' ver) (ρ' f) m (renS ρ' snap) ps assign body K e' (s2.ren ρ')) →
                OpOk P N o s n (({ s with heap := hset s2.heap id ver (.loop st pend f m snap ps assign body) } : AS).put o.dst (.bool b)) n2 := by
              intro st pend b hq
              have hsn : ({ s with heap := hset s2.heap id ver (.loop st pend f m snap ps assign body) } : AS).sc n2 = true := by
                have := scS_mono st12.le _ (sc_slots_of hs)
                have h3 := scH_set _ id ver (.loop st pend f m snap ps assign body) (sc_heap_of hs2) hlsc2.1.1 hlsc2.1.2 hlsc2.2
                simp only [AS.sc, this, h3, Bool.and_self]
              refine ⟨sc_put hsn rfl, ?_, fun ρ ro K hK => ?_⟩
              · rw [put_heap']
                exact st12.trans hsh ⟨Nat.le_refl _, LoopKeep.setL hg2, Back.set (.inr ⟨_, hg2⟩)⟩
              · have hg' : (s.ren ρ).ev g = some (.yl id (ρ ver)) := by rw [ev_ren, hg]; rfl
                refine AOp.yield hop hc hN hg' (evL_sc ha ρ) ?_
                refine ⟨ρ f, m, renS ρ snap, ps, assign, body, hget_s ρ hgl, by rw [renL_len]; exact hps, hpm, fun l => ?_⟩
                have e0 : (⟨setPs (renS ρ snap) ps.toList (renL ρ hs'), (s.ren ρ).heap⟩ : AS) = (⟨setPs snap ps.toList hs', s.heap⟩ : AS).ren ρ := by simp only [AS.ren, setPs_ren]
                rw [e0]
                refine hw1 ρ (some l) _ (fun h => by cases h) fun ρ1 ha1 => ⟨rfl, ?_, ?_⟩
                · have := hget_s ρ1 hg1
                  simp only [AObj.ren] at this
                  rw [this, ha1 ver hlsc.1.2]
                  have h4 := hlsc.2
                  simp only [AObj.sc, Bool.and_eq_true] at h4
                  rw [ha1 f (blt_lt h4.1), renS_agree ha1 _ h4.2]
                · have h4 := hlsc.2
                  simp only [AObj.sc, Bool.and_eq_true] at h4
                  have e1 : ({ s1.ren ρ1 with heap := hset (s1.ren ρ1).heap id (ρ ver) (.loop .busy none (ρ f) m (renS ρ snap) ps assign body) } : AS) = ({ s1 with heap := hset s1.heap id ver (.loop .busy none f m snap ps assign body) } : AS).ren ρ1 := by
                    simp only [AS.ren, renH_set, AObj.ren]
                    rw [ha1 ver hlsc.1.2, ha1 f (blt_lt h4.1), renS_agree ha1 _ h4.2]
                  rw [e1]
                  refine hw2 ρ1 (some l) _ (fun h => by cases h) fun ρ2 ha2 => ?_
                  have ha02 : Agree n ρ ρ2 := ha1.trans st1.le ha2
                  rw [ha02 ver hlsc.1.2, ha02 f (blt_lt h4.1), renS_agree ha02 _ h4.2]
                  refine hq ρ2 _ e rfl ?_
                  have := hK ρ2 ha02
                  rw [ren_put] at this
                  have e2 : ({ s with heap := hset s2.heap id ver (.loop st pend f m snap ps assign body) } : AS).ren ρ2 = { s.ren ρ with heap := hset (s2.ren ρ2).heap id (ρ2 ver) (.loop st pend (ρ2 f) m (renS ρ2 snap) ps assign body) } := by
                    simp only [AS.ren, renH_set, AObj.ren]
                    rw [renS_agree ha02 _ (sc_slots_of hs)]
                  rw [e2] at this
                  exact this
            have hgb : ∀ ρ' : Nat → Nat, hget (s2.ren ρ').heap id = some (ρ' ver, .loop .busy none (ρ' f) m (renS ρ' snap) ps assign body) := fun ρ' => hget_s ρ' hg2
            split at h
            · cases h
              exact done _ _ _ fun ρ' K e' he hK => by subst he; exact ⟨hgb ρ', hK⟩
            · cases h
              exact done _ _ _ fun ρ' K e' he hK => by subst he; exact ⟨hgb ρ', hK⟩
            · cases h
              exact done _ _ _ fun ρ' K e' he hK => by subst he; exact ⟨hgb ρ', hK⟩
            · cases h
          · cases h
        · cases h
      · cases h
    · cases h
  · cases h

theorem sop_ok (hT : T.Ok P) (hr : Good P r) (hN : okd N o.dst = true) (hs : s.sc n = true) (h : sop r T o s n = some (s', n')) : OpOk P N o s n s' n' := by
  have hsh := sc_heap_of hs
  have self : ∀ m, Nat.blt m (m + 1) = true := fun m => by simp [Nat.blt_eq]
  unfold sop at h
  split at h
  · -- box
    rename_i e x hop
    split at h
    · rename_i hv hx
      split at h
      · rename_i cs hcs
        refine new_ok (ob := .arr cs.length e cs) (h := .ptr n n 0) hs (.inl rfl) (self n) h fun ρ ro K hK => ?_
        have h1 : (s.ren ρ).ev x = some (hv.ren ρ) := by rw [ev_ren, hx]; rfl
        have h2 : (hv.ren ρ).cells? = some (renL ρ cs) := by rw [cells_ren, hcs]; rfl
        refine AOp.boxM n hop hN h1 h2 fun ver => ?_
        have := hK ver
        simp only [HV.ren, upd_at, AObj.ren] at this
        rw [renL_len]
        exact this
      · cases h
    · cases h
  · -- alloc
    rename_i e hop
    split at h
    · rename_i U hU
      split at h
      · rename_i zs hz
        refine new_ok (ob := .arr zs.length e zs) (h := .ptr n n 0) hs (.inl rfl) (self n) h fun ρ ro K hK => ?_
        refine AOp.alloc n hop hN (hT.ty _ _ hU) hz fun ver => ?_
        have := hK ver
        simp only [HV.ren, upd_at, AObj.ren, zcells_ren ρ hz] at this
        exact this
      · cases h
    · cases h
  · -- store
    rename_i t x y hop
    split at h
    · rename_i id ver off hv U hx hy hU
      split at h
      · rename_i cs ver' k e xs hcs hg
        replace h := guardO_some h
        obtain ⟨h1, h⟩ := h
        replace h := guardO_some h
        obtain ⟨h2, h⟩ := h
        cases h
        simp only [Bool.and_eq_true] at h1
        have hv' := Nat.eq_of_beq_eq_true h1.1
        subst hv'
        refine set_ok (x := .arr k e xs) hs hg (by intros; simp) h2 rfl fun ρ ro K hK => ?_
        have e1 : (s.ren ρ).ev x = some (.ptr id (ρ ver) off) := by rw [ev_ren, hx]; rfl
        have e2 : (s.ren ρ).ev y = some (hv.ren ρ) := by rw [ev_ren, hy]; rfl
        have e3 : (hv.ren ρ).cells? = some (renL ρ cs) := by rw [cells_ren, hcs]; rfl
        refine AOp.store hop hN e1 e2 e3 (hget_s ρ hg) (hT.ty _ _ hU) (by rw [renL_len]; exact Nat.eq_of_beq_eq_true h1.2.1) (by rw [renL_len, renL_len]; exact Nat.le_of_ble_eq_true h1.2.2) ?_
        simp only [AObj.ren, renL_splice] at hK
        exact hK
      · cases h
    · cases h
  · -- buildSlice
    rename_i t m ps hop
    replace h := guardO_some h
    obtain ⟨h1, h⟩ := h
    split at h
    · rename_i k e cs hsl
      refine new_ok (ob := .arr k e cs) (h := .ar n n k 0 m) hs (.inl rfl) (self n) h fun ρ ro K hK => ?_
      refine AOp.buildSliceM n hop hN (Nat.le_of_ble_eq_true h1) (sslice_sound hT.ty hsl fun ver => ?_)
      have := hK ver
      simp only [HV.ren, upd_at, AObj.ren] at this
      exact this
    · cases h
  · -- makeSlice
    rename_i t x y hop
    split at h
    · rename_i e sz by' z l c hU hx hy
      split at h
      · rename_i Te hTe
        split at h
        · rename_i zs hz
          replace h := guardO_some h
          obtain ⟨h1, h⟩ := h
          simp only [Bool.and_eq_true] at h1
          obtain ⟨h2, h3, h4⟩ := of_decide_eq_true h1.2
          refine new_ok (ob := .arr Te.size e (zrep zs l.toNat)) (h := .ar n n Te.size 0 l.toNat) hs (.inl rfl) (self n) h fun ρ ro K hK => ?_
          have e1 : (s.ren ρ).ev x = some (.int .i64 l) := by rw [ev_ren, hx]; rfl
          have e2 : (s.ren ρ).ev y = some (.int .i64 c) := by rw [ev_ren, hy]; rfl
          refine AOp.makeSlice (k1 := .i64) (k2 := .i64) n hop hN (hT.ty _ _ hU) rfl (hT.ty _ _ hTe) hz (Nat.eq_of_beq_eq_true h1.1) e1 e2 h2 h3 h4 fun ver => ?_
          have := hK ver
          simp only [HV.ren, upd_at, AObj.ren, zrep_ren ρ (zcells_ren ρ hz)] at this
          exact this
        · cases h
      · cases h
    · cases h
  · -- append
    rename_i as ts hop
    split at h
    · rename_i x y t xt ha ht
      split at h
      · rename_i e sz by' z hx hy hU hex hey
        split at h
        · rename_i Te hTe
          split at h
          · rename_i m cs m' ds hb hsr
            replace h := guardO_some h
            obtain ⟨h1, h⟩ := h
            simp only [Bool.and_eq_true] at h1
            have has : as = #[x, y] := Array.toList_inj.1 (by simpa using ha)
            have hts : ts = #[t, xt] := Array.toList_inj.1 (by simpa using ht)
            subst has hts
            have hid : baseId hx n = n ∨ ∃ v k e' cs', hget s.heap (baseId hx n) = some (v, .arr k e' cs') := by
              unfold sbase at hb
              split at hb
              · exact .inl rfl
              · rename_i id ver k' off n2
                split at hb
                · rename_i ver' k2 e2 cs2 hg
                  exact .inr ⟨_, _, _, _, hg⟩
                · cases hb
              · cases hb
            refine new_ok (ob := .arr Te.size e (cs ++ ds)) (h := .ar (baseId hx n) n Te.size 0 (m + m')) hs hid (self n) h fun ρ ro K hK => ?_
            have e1 : (s.ren ρ).ev x = some (hx.ren ρ) := by rw [ev_ren, hex]; rfl
            have e2 : (s.ren ρ).ev y = some (hy.ren ρ) := by rw [ev_ren, hey]; rfl
            have e3 : baseId (hx.ren ρ) n = baseId hx n := by cases hx <;> rfl
            refine AOp.append n hop hN (hT.ty _ _ hU) rfl (hT.ty _ _ hTe) h1.1 e1 e2 (sbase_sound hb) (ssrc_sound hT.ty hsr) (Nat.le_of_ble_eq_true h1.2.1) (Nat.le_of_ble_eq_true h1.2.2) fun ver => ?_
            rw [e3]
            have := hK ver
            simp only [HV.ren, upd_at, AObj.ren, renL_append] at this
            exact this
          · cases h
        · cases h
      · cases h
    · cases h
  · -- clear
    rename_i as ts hop
    split at h
    · rename_i x t ha ht
      split at h
      · rename_i e sz by' z id ver k off m hU hx
        split at h
        · rename_i Te ver' k' e' xs hTe hg
          split at h
          · rename_i z' hz
            replace h := guardO_some h
            obtain ⟨h1, h⟩ := h
            replace h := guardO_some h
            obtain ⟨h2, h⟩ := h
            cases h
            simp only [Bool.and_eq_true] at h1
            have hv' := Nat.eq_of_beq_eq_true h1.1
            subst hv'
            have has : as = #[x] := Array.toList_inj.1 (by simpa using ha)
            have hts : ts = #[t] := Array.toList_inj.1 (by simpa using ht)
            subst has hts
            refine set_ok (x := .arr k' e' xs) hs hg (by intros; simp) h2 rfl fun ρ ro K hK => ?_
            have e1 : (s.ren ρ).ev x = some (.ar id (ρ ver) k off m) := by rw [ev_ren, hx]; rfl
            refine AOp.clear hop hN (hT.ty _ _ hU) rfl (hT.ty _ _ hTe) hz e1 (hget_s ρ hg) (by rw [renL_len]; exact Nat.le_of_ble_eq_true h1.2) ?_
            have hzr : z'.ren ρ = z' := by
              have := zcells_ren ρ hz
              simp only [renL, List.cons.injEq, and_true] at this
              exact this
            have hrr : renL ρ (List.replicate m z') = List.replicate m z' := by rw [renL_map, List.map_replicate, hzr]
            simp only [AObj.ren, renL_append, renL_take, renL_drop, hrr] at hK
            exact hK
          · cases h
        · cases h
      · cases h
    · cases h
  · -- call
    rename_i f as ts hop
    split at h
    · rename_i g fs cs hs' hf ha
      replace h := guardO_some h
      obtain ⟨h1, h⟩ := h
      split at h
      · rename_i rv H n1 hr1
        cases h
        obtain ⟨h2, h3, st, hc⟩ := hr _ _ hr1 h1 hsh
        have hsl := sc_slots_of hs
        refine ⟨sc_put (by simp only [AS.sc, scS_mono st.le _ hsl, h3, Bool.and_self]) h2, by rw [put_heap']; exact st, fun ρ ro K hK => ?_⟩
        have e1 : (s.ren ρ).ev f = some (.fn (.func g) (renL ρ fs) (renL ρ cs)) := by rw [ev_ren, hf]; rfl
        refine AOp.call hop rfl hN e1 (evL_sc ha ρ) ?_
        rw [← renL_append, ← renL_append]
        refine hc ρ _ fun ρ' hag => ?_
        have := hK ρ' hag
        rw [ren_put] at this
        have e2 : ({ s with heap := H } : AS).ren ρ' = { s.ren ρ with heap := renH ρ' H } := by
          simp only [AS.ren]
          rw [renS_agree hag _ hsl]
        rw [e2] at this
        exact this
      · cases h
    · rename_i id ver hs' hf ha
      exact yield_ok hr hN hs hop rfl hf ha h
    · cases h
  · -- build
    rename_i t ps hop
    split at h
    · rename_i rv hb
      exact fin_ok hs h fun ρ ro K hK => AOp.build hop hN (sbuild_sound hT.ty hb hK)
    · cases h
  · -- makeMap
    rename_i t hop
    refine new_ok (ob := .map []) (h := .mp n n) hs (.inl rfl) (self n) h fun ρ ro K hK => ?_
    refine AOp.makeMap n hop hN fun ver => ?_
    have := hK ver
    simp only [HV.ren, upd_at, AObj.ren, renE] at this
    exact this
  · -- mapUpdate
    rename_i t m x y hop
    split at h
    · rename_i kt et sz by' z id ver k hv hU hm hx hy
      split at h
      · rename_i sz2 by2 z2 ver' es hTk hg
        replace h := guardO_some h
        obtain ⟨h1, h⟩ := h
        replace h := guardO_some h
        obtain ⟨h2, h⟩ := h
        cases h
        simp only [Bool.and_eq_true] at h1
        have hv' := Nat.eq_of_beq_eq_true h1.1
        subst hv'
        refine set_ok (x := .map es) hs hg (by intros; simp) h2 rfl fun ρ ro K hK => ?_
        have e1 : (s.ren ρ).ev m = some (.mp id (ρ ver)) := by rw [ev_ren, hm]; rfl
        have e2 : (s.ren ρ).ev x = some (.str k) := by rw [ev_ren, hx]; rfl
        have e3 : (s.ren ρ).ev y = some (hv.ren ρ) := by rw [ev_ren, hy]; rfl
        refine AOp.mapUpdate hop hN (hT.ty _ _ hU) rfl (hT.ty _ _ hTk) rfl e1 e2 e3 (hget_s ρ hg) (noIterB_sound h1.2) ?_
        simp only [AObj.ren, mput_ren] at hK
        exact hK
      · cases h
    · cases h
  · -- lookup
    rename_i t m x hop
    split at h
    · rename_i kt et sz by' z id ver k hU hm hx
      split at h
      · rename_i sz2 by2 z2 Te ver' es hTk hTe hg
        split at h
        · rename_i z3 hz
          replace h := guardO_some h
          obtain ⟨h1, h⟩ := h
          have hv' := Nat.eq_of_beq_eq_true h1
          subst hv'
          refine fin_ok hs h fun ρ ro K hK => ?_
          have e1 : (s.ren ρ).ev m = some (.mp id (ρ ver)) := by rw [ev_ren, hm]; rfl
          have e2 : (s.ren ρ).ev x = some (.str k) := by rw [ev_ren, hx]; rfl
          refine AOp.lookup hop hN (hT.ty _ _ hU) rfl (hT.ty _ _ hTk) rfl (hT.ty _ _ hTe) hz e1 e2 (hget_s ρ hg) ?_
          rw [alook_ren]
          have h5 := constHV_ren ρ Te.zero
          rw [hz] at h5
          simp only [Option.map_some, Option.some.injEq] at h5
          cases hl : alook k es with
          | none => rw [hl] at hK; simp only [Option.getD_none, h5, Option.map_none] at hK ⊢; exact hK
          | some q => rw [hl] at hK; exact hK
        · cases h
      · cases h
    · cases h
  · -- range
    rename_i t m hop
    split at h
    · rename_i kt et sz by' z mid mver hU hm
      split at h
      · rename_i mver' es hg
        replace h := guardO_some h
        obtain ⟨h1, h⟩ := h
        have hv' := Nat.eq_of_beq_eq_true h1
        subst hv'
        have hlt := sch_get hsh hg
        refine new_ok (ob := .iter mid mver [] false) (h := .it n n) hs (.inl rfl) (self n) h fun ρ ro K hK => ?_
        have e1 : (s.ren ρ).ev m = some (.mp mid (ρ mver)) := by rw [ev_ren, hm]; rfl
        refine AOp.range n hop hN (hT.ty _ _ hU) rfl e1 (hget_s ρ hg) (by have := hlt.1.1; omega) fun ver => ?_
        have := hK ver
        simp only [HV.ren, upd_at, AObj.ren] at this
        exact this
      · cases h
    · cases h
  · -- next
    rename_i x hop
    split at h
    · rename_i id ver hx
      split at h
      · rename_i ver' mid mver seen cur hg
        split at h
        · rename_i mver' es hgm
          replace h := guardO_some h
          obtain ⟨h1, h⟩ := h
          simp only [Bool.and_eq_true] at h1
          have hv' := Nat.eq_of_beq_eq_true h1.1
          subst hv'
          have hv' := Nat.eq_of_beq_eq_true h1.2
          subst hv'
          split at h
          · rename_i hu
            refine fin_ok hs h fun ρ ro K hK => ?_
            have e1 : (s.ren ρ).ev x = some (.it id (ρ ver)) := by rw [ev_ren, hx]; rfl
            refine AOp.next hop hN e1 (hget_s ρ hg) (hget_s ρ hgm) (fun _ => hK) fun k v hkv hks => ?_
            obtain ⟨u, hu1, _⟩ := mem_renE hkv
            have := mem_unseen.2 ⟨hu1, hks⟩
            rw [hu] at this
            cases this
          · rename_i k v hu
            replace h := guardO_some h
            obtain ⟨h2, h⟩ := h
            cases h
            have hlm := sch_get hsh hgm
            refine set_ok (x := .iter mid mver seen cur) hs hg (by intros; simp) (by simp only [AObj.sc]; simpa [Nat.blt_eq] using hlm.1.2) (by simp only [HV.sc, scL, h2, Bool.and_self]) fun ρ ro K hK => ?_
            have e1 : (s.ren ρ).ev x = some (.it id (ρ ver)) := by rw [ev_ren, hx]; rfl
            refine AOp.next hop hN e1 (hget_s ρ hg) (hget_s ρ hgm) (fun hall => ?_) fun k' v' hkv hks => ?_
            · have hm : (k, v) ∈ unseen seen es := by rw [hu]; exact List.mem_cons_self ..
              obtain ⟨h3, h4⟩ := mem_unseen.1 hm
              exact absurd (hall _ (mem_renE' h3)) h4
            · obtain ⟨u, hu1, rfl⟩ := mem_renE hkv
              have := mem_unseen.2 ⟨hu1, hks⟩
              rw [hu] at this
              simp only [List.mem_singleton] at this
              cases this
              exact hK
          · cases h
        · cases h
      · cases h
    · cases h
  · -- entry
    rename_i x hop
    split at h
    · rename_i id ver hx
      split at h
      · rename_i ver' mid mver k seen hg
        split at h
        · rename_i mver' es hgm
          replace h := guardO_some h
          obtain ⟨h1, h⟩ := h
          simp only [Bool.and_eq_true] at h1
          have hv' := Nat.eq_of_beq_eq_true h1.1
          subst hv'
          have hv' := Nat.eq_of_beq_eq_true h1.2
          subst hv'
          split at h
          · rename_i v hl
            refine fin_ok hs h fun ρ ro K hK => ?_
            have e1 : (s.ren ρ).ev x = some (.it id (ρ ver)) := by rw [ev_ren, hx]; rfl
            have e2 : alook k (renE ρ es) = some (v.ren ρ) := by rw [alook_ren, hl]; rfl
            exact AOp.entry hop hN e1 (hget_s ρ hg) (hget_s ρ hgm) e2 hK
          · cases h
        · cases h
      · cases h
    · cases h
  · exact sval_ok hT hN hs h

end
end Go.AW
