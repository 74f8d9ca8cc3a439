/- make and append on owned arrays. -/
import Derived.Test.YtccnafddjjamoaaAwG
import Derived.Laws.Tables
namespace Go.AW
open Go

section
variable {P : Program} {ro : Option Nat} {N B : Nat} {s : AS} {μ μ' : Mu} {a : Act} {w w' : World}

theorem RepL.takeN {cs : List HV} {vs : List Value} (h : RepL w μ cs vs) {n : Nat} (hn : n ≤ cs.length) : ∃ rest, vs = vs.take n ++ rest ∧ RepL w μ (cs.take n) (vs.take n) :=
  ⟨vs.drop n, (List.take_append_drop n vs).symm, h.take n⟩

theorem zrep_take (zs : List HV) (n m : Nat) (h : n ≤ m) : (zrep zs m).take (n * zs.length) = zrep zs n := by
  obtain ⟨d, rfl⟩ : ∃ d, m = n + d := ⟨m - n, by omega⟩
  have : zrep zs (n + d) = zrep zs n ++ zrep zs d := by simp [zrep, ← List.replicate_append_replicate]
  rw [this, ← zrep_len, List.take_left]

theorem AOp.makeSlice {o : Oper} {K : AS → Prop} {t e : TypeId} {T Te : TyI} {x y : Operand} {k1 k2 : IntKind} {l c : Int} {zs : List HV} (id : Nat) (hop : o.op = .makeSlice t x y) (hN : okd N o.dst = true)
    (hT : ty P t = some T) (hd : T.desc = .slice e) (hTe : ty P e = some Te) (hz : zcells Te.zero = some zs) (hzl : zs.length = Te.size) (hx : s.ev x = some (.int .i64 l)) (hy : s.ev y = some (.int .i64 c))
    (h0 : 0 ≤ l) (h1 : l ≤ c) (h2 : c * Te.bytes ≤ 281474976710656)
    (h : ∀ ver, K (({ s with heap := hset s.heap id ver (.arr Te.size e (zrep zs l.toNat)) } : AS).put o.dst (.ar id ver Te.size 0 l.toNat))) : AOp P ro N o K s := by
  refine AOp.value (fun c e => by rw [hop] at e; cases e) hN fun B μ a w hs => ?_
  obtain ⟨hx1, _⟩ := hs.ev hx
  obtain ⟨hy1, hyw⟩ := hs.ev hy
  have hc : c ≤ 9223372036854775807 := by
    simp only [Lit.wf, Bool.and_eq_true, decide_eq_true_eq, IntKind.min, IntKind.max, IntKind.signed, IntKind.bits] at hyw
    simp at hyw
    omega
  have hzr := zcells_rep (w := w) (μ := μ) hz
  have hzlen : Te.zero.cells.size = Te.size := by rw [← Array.length_toList, hzr.length, hzl]
  obtain ⟨cells, hrun, hcells⟩ := run_makeSlice (P := P) hT hd hTe h0 h1 h2 hc w
  have hcl := hcells hzlen
  have hfull := hzr.rep c.toNat
  rw [← hcl] at hfull
  have hle : l.toNat ≤ c.toNat := by omega
  have htake := hfull.take (l.toNat * zs.length)
  rw [zrep_take zs _ _ hle] at htake
  have hsz : cells.size = c.toNat * Te.size := by rw [← Array.length_toList, hfull.length, zrep_len, hzl]
  obtain ⟨hsr, hE⟩ := hs.sr.alloc id Te.size e (rest := cells.toList.drop (l.toNat * zs.length)) (ones_zrep (zcells_ones hz) l.toNat) htake
  rw [List.take_append_drop, Array.toArray_toList] at hsr hE
  refine ⟨_, .ar id μ.nx Te.size 0 l.toNat, _, _, _, by simp only [execOp, hop, hx1, hy1, Sem.run_bind, hrun, Result.andThen_ok, Sem.run_pure], hsr, hE, .inl ⟨some w.heap.size, by simp [Mu.set], .inr ⟨w.heap.size, c.toNat, cells, e, rfl, rfl, hle, by simp only [maxLen]; omega, Row.alloc w cells e, by omega⟩⟩, h μ.nx⟩

/-- what is appended -/
structure Src (P : Program) (w : World) (xt : TypeId) (x : Value) (size m : Nat) (news : List Value) : Prop where
  int : (∃ e, ∀ w', (underlying xt).run P w' = .ok (.slice e) w') ∨ ∀ w', (underlying xt).run P w' = .ok .string w'
  len : ∀ w', (Builtin.lenOf x).run P w' = .ok m w'
  cells : ∀ w' : World, w'.heap = w.heap → (Builtin.firstCells size m x).run P w' = .ok news.toArray w'
  hl : news.length = m * size

theorem run_append_in {t xt ty' e : TypeId} {T Te : TyI} (hT : ty P t = some T) (hd : T.desc = .slice e) (hTe : ty P e = some Te) {b n cap m : Nat} {cur : Array Value} {x : Value} {news : List Value}
    (hr : Row w b cur e) (hsrc : Src P w xt x Te.size m news) (h1 : ∀ v ∈ news, v.oneCell' = true) (hcap : cur.size = cap * Te.size) (hroom : n + m ≤ cap) :
    ∃ w' cur', (Builtin.append_ #[t, xt] ty' #[.slice (some ⟨b, 0, none⟩) n cap, x]).run P w = .ok (.slice (some ⟨b, 0, none⟩) (n + m) cap) w' ∧ Row w' b cur' e ∧
      cur'.toList = cur.toList.take (n * Te.size) ++ news ++ cur.toList.drop (n * Te.size + news.length) ∧ Same w w' ∧ w'.heap.size = w.heap.size ∧ ∀ b', b' ≠ b → w'.heap[b']? = w.heap[b']? := by
  have hfit : n * Te.size + 0 + news.length ≤ cur.size := by
    rw [hsrc.hl, hcap, Nat.add_zero, ← Nat.add_mul]; exact Nat.mul_le_mul_right _ hroom
  obtain ⟨w', cur', h2, h3, h4, h5, h6, h7⟩ := storeCells_row (P := P) b (n * Te.size) e news 0 cur w hr hfit h1
  refine ⟨w', cur', ?_, h3, by simpa using h4, h5, h6, h7⟩
  have hu := ty_under hT
  rw [hd] at hu
  have hadd : (⟨b, 0, none⟩ : Addr).add (n * Te.size) = ⟨b, n * Te.size, none⟩ := by rw [Addr.add_lit, Nat.zero_add]
  rcases hsrc.int with ⟨e', hx⟩ | hx
  · simp [Builtin.append_, hu, hx, ty_sizeOf hTe, hsrc.len, hroom, hsrc.cells w rfl, h2, hadd]
  · simp [Builtin.append_, hu, hx, ty_sizeOf hTe, hsrc.len, hroom, hsrc.cells w rfl, h2, hadd]

theorem run_append_out {t xt ty' e : TypeId} {T Te : TyI} (hT : ty P t = some T) (hd : T.desc = .slice e) (hTe : ty P e = some Te) {base : Option Addr} {n cap m : Nat} {x : Value} {olds news : List Value}
    (hold : ∀ w' : World, w'.heap = w.heap → (Builtin.firstCells Te.size n (.slice base n cap)).run P w' = .ok olds.toArray w') (hol : olds.length = n * Te.size) (hsrc : Src P w xt x Te.size m news)
    (hz : Te.zero.cells.size = Te.size) (hroom : cap < n + m) (hbytes : (n + m) * Te.bytes ≤ 140737488355328) (h63 : n + m ≤ maxLen) :
    ∃ w' newCap rest, (Builtin.append_ #[t, xt] ty' #[.slice base n cap, x]).run P w = .ok (.slice (some ⟨w.heap.size, 0, none⟩) (n + m) newCap) w' ∧
      Row w' w.heap.size (olds ++ news ++ rest).toArray e ∧ (olds ++ news ++ rest).length = newCap * Te.size ∧ n + m ≤ newCap ∧ newCap ≤ maxLen ∧ Grow w w' := by
  have hu := ty_under hT
  rw [hd] at hu
  have hge := grownCap_ge w (n + m) cap e
  have hlem := grownCap_le_maxLen w (n + m) cap e h63
  have hgc : (Question.appendCap (n + m) cap e).cut (w.tape w.drawn (.appendCap (n + m) cap e)) = grownCap w (n + m) cap e := rfl
  refine ⟨w.drew.alloc (.cells (olds ++ news ++ (Builtin.zeroCells Te.zero.cells (grownCap w (n + m) cap e - (n + m))).toList).toArray e), grownCap w (n + m) cap e, (Builtin.zeroCells Te.zero.cells (grownCap w (n + m) cap e - (n + m))).toList, ?_,
    Row.alloc w.drew _ e, ?_, hge, hlem, (Grow.drawn w (w.drawn + 1)).trans (Grow.alloc w.drew _)⟩
  · obtain ⟨i, hi, hi1, hi2, hi3⟩ := ty_info hTe w
    obtain ⟨i', hi', hi1', hi2', hi3'⟩ := ty_info hTe w.drew
    have hn : ¬ (n + m ≤ cap) := by omega
    have h63' : ¬ (9223372036854775807 < ((n : Int) + (m : Int))) := by simp only [maxLen] at h63; omega
    have h48 : ¬ (281474976710656 < Builtin.nextslicecap (n + m) cap * Te.bytes) := by
      have := growslice_fits hroom hbytes
      omega
    have ho := hold w.drew rfl
    have hs := hsrc.cells w.drew rfl
    rcases hsrc.int with ⟨e', hx⟩ | hx
    · simp [Builtin.append_, hu, hx, ty_sizeOf hTe, ty_zero hTe, hsrc.len, hn, hi, hi2, hi', h63', h48, Question.forced, ho, hs, newRow, grownCap]
      congr 2
      apply Array.ext'
      simp [List.append_assoc]
    · simp [Builtin.append_, hu, hx, ty_sizeOf hTe, ty_zero hTe, hsrc.len, hn, hi, hi2, hi', h63', h48, Question.forced, ho, hs, newRow, grownCap]
      congr 2
      apply Array.ext'
      simp [List.append_assoc]
  · simp only [List.length_append, Array.length_toList, size_zeroCells, hz, hol, hsrc.hl, ← Nat.add_mul]
    congr 1
    omega

/-- what an operand of append stands for: how many elements, their cells -/
def asrc (P : Program) (s : AS) (xt : TypeId) (k : Nat) (x : HV) (R : Nat → List HV → Prop) : Prop :=
  match ty P xt, x with
  | some ⟨.slice _, _, _, _⟩, .sl k' m cs => k' = k ∧ R m cs
  | some ⟨.slice _, _, _, _⟩, .ar id ver k' off m => match hget s.heap id with
    | some (ver', .arr _ _ cs) => ver = ver' ∧ k' = k ∧ off + m * k ≤ cs.length ∧ R m ((cs.drop off).take (m * k))
    | _ => False
  | some ⟨.slice _, _, _, _⟩, .v (.slice none 0 0) => R 0 []
  | some ⟨.string, _, _, _⟩, .str l => k = 1 ∧ R l.length (l.map fun b => .int .u8 b.toNat)
  | _, _ => False

theorem Seg.heap {w w' : World} (h : w'.heap = w.heap) {b off : Nat} {vs : List Value} (hs : Seg w b off vs) : Seg w' b off vs := by
  obtain ⟨cur, e, fr, pre, post, h1, h2, h3⟩ := hs
  exact ⟨cur, e, fr, pre, post, by rw [h]; exact h1, h2, h3⟩

theorem first_seg {b off n cap k : Nat} {vs : List Value} (hs : Seg w b off vs) (hl : vs.length = n * k) (w' : World) (hh : w'.heap = w.heap) :
    (Builtin.firstCells k n (.slice (some ⟨b, off, none⟩) n cap)).run P w' = .ok vs.toArray w' := by
  have := run_loadCells_seg (P := P) (hs.heap hh) 0 (n * k) (by omega)
  rw [Nat.add_zero, List.drop_zero, List.take_of_length_le (by omega)] at this
  simpa [Builtin.firstCells] using this

theorem ones_bytes (l : List UInt8) : ones (l.map fun b => HV.int .u8 b.toNat) := fun c hc => by
  obtain ⟨b, _, rfl⟩ := List.mem_map.1 hc; rfl

theorem repL_bytes (l : List UInt8) : RepL w μ (l.map fun b => HV.int .u8 b.toNat) (l.map fun b => Value.int .u8 b.toNat) := by
  induction l with
  | nil => rfl
  | cons b l ih =>
    refine ⟨_, _, rfl, ⟨rfl, ?_⟩, ih⟩
    have := b.toNat_lt
    simp [Lit.wf, IntKind.min, IntKind.max, IntKind.signed, IntKind.bits]
    omega

theorem asrc_spec (hs : SRel ro N B μ s a w) {xt : TypeId} {k : Nat} {x : HV} {v : Value} {R : Nat → List HV → Prop} (hx : Rep w μ x v) (h : asrc P s xt k x R) :
    ∃ m cs vs, R m cs ∧ ones cs ∧ RepL w μ cs vs ∧ Src P w xt v k m vs := by
  unfold asrc at h
  split at h
  · rename_i e sz by' z k' m cs hT
    obtain ⟨rfl, hR⟩ := h
    have hu : ∀ w', (underlying xt).run P w' = .ok (.slice e) w' := ty_under hT
    obtain ⟨h1, hl, _, ⟨rfl, rfl⟩ | ⟨b, off, cap, vs, rfl, _, _, hseg, hr⟩⟩ := hx
    · have hcs : cs = [] := List.eq_nil_of_length_eq_zero (by simpa using hl)
      subst hcs
      exact ⟨0, [], [], hR, ones.nil, rfl, .inl ⟨e, hu⟩, fun _ => rfl, fun _ _ => rfl, by simp⟩
    · have hvl : vs.length = m * k' := by rw [hr.length, hl]
      exact ⟨m, cs, vs, hR, h1, hr, .inl ⟨e, hu⟩, fun _ => rfl, fun w' hw' => first_seg hseg hvl w' hw', hvl⟩
  · rename_i e sz by' z id ver k' off m hT
    have hu : ∀ w', (underlying xt).run P w' = .ok (.slice e) w' := ty_under hT
    split at h
    · rename_i ver' k2 e2 cs hg
      obtain ⟨rfl, rfl, hlen, hR⟩ := h
      obtain ⟨l, hl, hor⟩ := hs.sr.has id _ _ hg
      rcases hx with ⟨l', hl', hx⟩ | ⟨hd, _⟩
      · rw [hl] at hl'
        cases hl'
        rcases hx with ⟨rfl, rfl, rfl, rfl⟩ | ⟨b, cap, cur, e3, rfl, rfl, _⟩
        · refine ⟨0, [], [], by simpa using hR, ones.nil, rfl, .inl ⟨e, hu⟩, fun _ => rfl, fun _ _ => rfl, by simp⟩
        · obtain ⟨h1, vs, hseg, hr⟩ := hor.seg
          have hvl := hr.length
          have hseg' := (hseg.drop off (by omega)).take (m * k')
          rw [Nat.zero_add] at hseg'
          have hl2 : ((vs.drop off).take (m * k')).length = m * k' := by simp; omega
          exact ⟨m, _, (vs.drop off).take (m * k'), hR, (h1.drop off).take _, (hr.drop off).take _, .inl ⟨e, hu⟩, fun _ => rfl, fun w' hw' => first_seg hseg' hl2 w' hw', hl2⟩
      · exact absurd hl (hd.2 l)
    · exact h.elim
  · rename_i e sz by' z hT
    have hu : ∀ w', (underlying xt).run P w' = .ok (.slice e) w' := ty_under hT
    obtain rfl : v = .slice none 0 0 := hx
    exact ⟨0, [], [], h, ones.nil, rfl, .inl ⟨e, hu⟩, fun _ => rfl, fun _ _ => rfl, by simp⟩
  · rename_i sz by' z l hT
    have hu : ∀ w', (underlying xt).run P w' = .ok .string w' := ty_under hT
    obtain ⟨rfl, hR⟩ := h
    obtain ⟨rfl, hlen⟩ := hx
    refine ⟨l.length, _, _, hR, ones_bytes l, repL_bytes l, .inr hu, fun _ => ?_, fun w' _ => ?_, by simp⟩
    · show Result.ok (⟨l.toArray⟩ : ByteArray).size _ = _
      congr 1
    · simp only [Builtin.firstCells, Sem.run_pure]
      congr 1
      have : (⟨l.toArray⟩ : ByteArray).extract 0 l.length = ⟨l.toArray⟩ := by
        apply WideShapes.bytes_inj
        simp
      rw [this]
      simp
  · exact h.elim

/-- append: the base is a nil slice or the whole of an owned array -/
def abase (s : AS) (k : Nat) (e : TypeId) (x : HV) (R : Nat → List HV → Prop) : Prop :=
  match x with
  | .v (.slice none 0 0) => R 0 []
  | .ar id ver k' off n => match hget s.heap id with
    | some (ver', .arr _ e' cs) => ver = ver' ∧ k' = k ∧ e' = e ∧ off = 0 ∧ n * k ≤ cs.length ∧ R n (cs.take (n * k))
    | _ => False
  | _ => False

def baseId (x : HV) (id : Nat) : Nat := match x with
  | .ar i _ _ _ _ => i
  | _ => id

theorem AOp.append {o : Oper} {K : AS → Prop} {t xt e : TypeId} {T Te : TyI} {x y : Operand} {hx hy : HV} {n m : Nat} {cs ds : List HV} (id : Nat)
    (hop : o.op = .call { callee := .builtin .append, args := #[x, y], argTypes := #[t, xt] }) (hN : okd N o.dst = true) (hT : ty P t = some T) (hd : T.desc = .slice e) (hTe : ty P e = some Te)
    (hz : (zcells Te.zero).any (fun zs => zs.length == Te.size) = true) (hex : s.ev x = some hx) (hey : s.ev y = some hy)
    (hb : abase s Te.size e hx fun n' cs' => n' = n ∧ cs' = cs) (hsrc : asrc P s xt Te.size hy fun m' ds' => m' = m ∧ ds' = ds)
    (hbytes : (n + m) * Te.bytes ≤ 140737488355328) (h63 : n + m ≤ maxLen)
    (h : ∀ ver, K (({ s with heap := hset s.heap (baseId hx id) ver (.arr Te.size e (cs ++ ds)) } : AS).put o.dst (.ar (baseId hx id) ver Te.size 0 (n + m)))) : AOp P ro N o K s := by
  refine AOp.value (fun c e => by rw [hop] at e; cases e) hN fun B μ a w hs => ?_
  obtain ⟨m', ds', vs, ⟨rfl, rfl⟩, hdone, hdr, hS⟩ := asrc_spec hs (hs.ev hey) hsrc
  have hzs : Te.zero.cells.size = Te.size := by
    cases hzz : zcells Te.zero with
    | none => rw [hzz] at hz; simp at hz
    | some zs =>
      rw [hzz] at hz
      have := (zcells_rep (w := w) (μ := μ) hzz).length
      simp at hz
      rw [← Array.length_toList, this, hz]
  have hrunC : ∀ v' w', (Builtin.append_ #[t, xt] o.type #[a.eval x, a.eval y]).run P w = .ok v' w' → (execOp a.eval o).run P w = .ok (.value v') w' := fun v' w' hv => by
    simp only [execOp, hop, resolve, invoke, builtin, Sem.run_bind, Sem.run_pure, Result.andThen_ok, List.map_toArray, List.map_cons, List.map_nil, hv]
  -- what the base is
  have hbase : ∃ base cap us, a.eval x = .slice base n cap ∧ RepL w μ cs us ∧ ones cs ∧ us.length = n * Te.size ∧
      ((base = none ∧ n = 0 ∧ cap = 0 ∧ ∀ b, b < w.heap.size → (∀ ver, μ.loc (baseId hx id) ≠ some (ver, some b)) ∨ hx = .v (.slice none 0 0)) ∨
        ∃ b cur, base = some ⟨b, 0, none⟩ ∧ n ≤ cap ∧ cap ≤ maxLen ∧ Row w b cur e ∧ cur.size = cap * Te.size ∧ cur.toList.take (n * Te.size) = us ∧ ∃ ver, μ.loc (baseId hx id) = some (ver, some b)) := by
    unfold abase at hb
    split at hb
    · obtain ⟨rfl, rfl⟩ := hb
      exact ⟨none, 0, [], hs.ev hex, rfl, ones.nil, by simp, .inl ⟨rfl, rfl, rfl, fun _ _ => .inr rfl⟩⟩
    · rename_i i ver k' off n'
      split at hb
      · rename_i ver' k2 e' xs hg
        obtain ⟨rfl, rfl, rfl, rfl, hlen, rfl, rfl⟩ := hb
        obtain ⟨l, hl, hor⟩ := hs.sr.has i _ _ hg
        rcases hs.ev hex with ⟨l', hl', hx⟩ | ⟨hdd, _⟩
        · rw [hl] at hl'
          cases hl'
          rcases hx with ⟨rfl, he, rfl, _⟩ | ⟨b, cap, cur, e3, rfl, he, hnc, hcm, hrow, hsz⟩
          · have hxs : xs = [] := hor
            refine ⟨none, 0, [], he, by simp [hxs, RepL], by rw [hxs]; simp [ones], by simp, .inl ⟨rfl, rfl, rfl, fun b _ => .inl fun v hv => ?_⟩⟩
            have hv' : μ.loc i = some (v, some b) := hv
            rw [hl] at hv'
            cases hv'
          · obtain ⟨h1, cur', us, rest, hrow', hcl, hrl⟩ := hor
            obtain ⟨rfl, rfl⟩ := hrow.inj hrow'
            have hul := hrl.length
            refine ⟨some ⟨b, 0, none⟩, cap, us.take (n' * Te.size), he, hrl.take _, h1.take _, by simp; omega, .inr ⟨b, cur, rfl, hnc, hcm, hrow, by omega, ?_, ver, hl⟩⟩
            rw [hcl, List.take_append_of_le_length (by omega)]
        · exact absurd hl (hdd.2 l)
      · exact hb.elim
    · exact hb.elim
  obtain ⟨base, cap, us, hex', hur, hcone, hul, hcase⟩ := hbase
  by_cases hroom : n + m' ≤ cap
  · -- it fits
    rcases hcase with ⟨rfl, rfl, rfl, hnone⟩ | ⟨b, cur, rfl, hnc, hcm, hrow, hsz, htake, ver0, hloc⟩
    · -- nothing is appended to a nil slice
      have hm0 : m' = 0 := by omega
      subst hm0
      have hrun : (Builtin.append_ #[t, xt] o.type #[a.eval x, a.eval y]).run P w = .ok (.slice none 0 0) w := by
        have hu := ty_under hT
        rw [hd] at hu
        have hv0 : vs = [] := List.eq_nil_of_length_eq_zero (by rw [hS.hl]; simp)
        have hc := hS.cells w rfl
        rw [hex']
        rcases hS.int with ⟨e', hx'⟩ | hx'
        · simp [Builtin.append_, hu, hx', ty_sizeOf hTe, hS.len, hc]
        · simp [Builtin.append_, hu, hx', ty_sizeOf hTe, hS.len, hc]
      have hcs0 : cs = [] := List.eq_nil_of_length_eq_zero (by rw [← hur.length, hul]; simp)
      have hds0 : ds' = [] := List.eq_nil_of_length_eq_zero (by rw [← hdr.length, hS.hl]; simp)
      have hsame : ∀ b, b < w.heap.size → (∀ ver, μ.loc (baseId hx id) ≠ some (ver, some b)) → w.heap[b]? = w.heap[b]? := fun _ _ _ => rfl
      refine ⟨_, .ar (baseId hx id) μ.nx Te.size 0 (0 + 0), μ.set (baseId hx id) none, w, _, hrunC _ _ hrun, hs.sr.repl (baseId hx id) none (.arr Te.size e (cs ++ ds')) (Same.refl w) (Nat.le_refl _) hsame (fun b hb => by cases hb) ?_,
        Evo.repl hs.sr (baseId hx id) none (Same.refl w) (Nat.le_refl _) hsame (fun b hb => by cases hb), .inl ⟨none, by simp [Mu.set], .inl ⟨rfl, rfl, rfl, rfl⟩⟩, h μ.nx⟩
      show cs ++ ds' = []
      rw [hcs0, hds0]; rfl
    · obtain ⟨w', cur', h1, h2, h3, h4, h5, h6⟩ := run_append_in (P := P) (ty' := o.type) hT hd hTe hrow hS (RepL.oneCells hdone hdr) hsz hroom
      have hold : ∀ b', b' < w.heap.size → (∀ ver, μ.loc (baseId hx id) ≠ some (ver, some b')) → w'.heap[b']? = w.heap[b']? := fun b' _ hno => h6 b' fun e => hno ver0 (e ▸ hloc)
      have hl' : ∀ b', some b = some b' → w.heap.size ≤ b' ∨ ∃ ver, μ.loc (baseId hx id) = some (ver, some b') := fun b' e => by cases e; exact .inr ⟨ver0, hloc⟩
      have hE := Evo.repl hs.sr (baseId hx id) (some b) h4 (by omega) hold hl'
      have hcsz : cur'.size = cur.size := by
        have hfit : n * Te.size + vs.length ≤ cur.size := by rw [hS.hl, hsz, ← Nat.add_mul]; exact Nat.mul_le_mul_right _ hroom
        rw [← Array.length_toList, h3]
        simp only [List.length_append, List.length_take, List.length_drop, Array.length_toList]
        omega
      refine ⟨_, .ar (baseId hx id) μ.nx Te.size 0 (n + m'), μ.set (baseId hx id) (some b), w', _, hrunC _ _ (by rw [hex']; exact h1), hs.sr.repl (baseId hx id) (some b) (.arr Te.size e (cs ++ ds')) h4 (by omega) hold hl' ?_, hE,
        .inl ⟨some b, by simp [Mu.set], .inr ⟨b, cap, cur', e, rfl, rfl, hroom, hcm, h2, by omega⟩⟩, h μ.nx⟩
      refine ⟨hcone.append hdone, cur', us ++ vs, cur.toList.drop (n * Te.size + vs.length), h2, ?_, (RepL.evo hE hs.sr.ok _ _ hur).append (RepL.evo hE hs.sr.ok _ _ hdr)⟩
      rw [h3, htake]
  · -- a new row
    have hold0 : ∀ w' : World, w'.heap = w.heap → (Builtin.firstCells Te.size n (.slice base n cap)).run P w' = .ok us.toArray w' := by
      intro w' hw'
      rcases hcase with ⟨rfl, rfl, rfl, _⟩ | ⟨b, cur, rfl, hnc, hcm, ⟨lo, hi, hh, _⟩, hsz, htake, _⟩
      · have : us = [] := List.eq_nil_of_length_eq_zero (by rw [hul]; simp)
        subst this
        rfl
      · have hseg : Seg w b 0 us := ⟨cur, e, (lo, hi), [], cur.toList.drop (n * Te.size), hh, by rw [List.nil_append, ← htake, List.take_append_drop], rfl⟩
        exact first_seg hseg hul w' hw'
    obtain ⟨w', newCap, rest, h1, h2, h3, h4, h5, g⟩ := run_append_out (P := P) (ty' := o.type) hT hd hTe hold0 hul hS hzs (by omega) hbytes h63
    have hold : ∀ b', b' < w.heap.size → (∀ ver, μ.loc (baseId hx id) ≠ some (ver, some b')) → w'.heap[b']? = w.heap[b']? := fun b' hb' _ => g.old b' hb'
    have hl' : ∀ b', some w.heap.size = some b' → w.heap.size ≤ b' ∨ ∃ ver, μ.loc (baseId hx id) = some (ver, some b') := fun b' e => by cases e; exact .inl (Nat.le_refl _)
    have hE := Evo.repl hs.sr (baseId hx id) (some w.heap.size) g.toSame g.size hold hl'
    refine ⟨_, .ar (baseId hx id) μ.nx Te.size 0 (n + m'), μ.set (baseId hx id) (some w.heap.size), w', _, hrunC _ _ (by rw [hex']; exact h1), hs.sr.repl (baseId hx id) (some w.heap.size) (.arr Te.size e (cs ++ ds')) g.toSame g.size hold hl' ?_, hE,
      .inl ⟨some w.heap.size, by simp [Mu.set], .inr ⟨w.heap.size, newCap, _, e, rfl, rfl, h4, h5, h2, by simp only [List.size_toArray]; omega⟩⟩, h μ.nx⟩
    exact ⟨hcone.append hdone, _, us ++ vs, rest, h2, rfl, (RepL.evo hE hs.sr.ok _ _ hur).append (RepL.evo hE hs.sr.ok _ _ hdr)⟩
end

def placesOf (P : Program) : List Field → Option (List (Nat × Nat))
  | [] => some []
  | f :: fs => match ty P f.type, placesOf P fs with
    | some T, some l => some ((f.offset, T.size) :: l)
    | _, _ => none

theorem placesOf_spec {P : Program} : ∀ {fs : List Field} {l : List (Nat × Nat)}, placesOf P fs = some l → fs.mapM (fun f => (P.info? f.type).map fun i => (f.offset, i.size)) = some l
  | [], l, h => by simp [placesOf] at h; subst h; rfl
  | f :: fs, l, h => by
    simp only [placesOf] at h
    split at h
    · rename_i T l' hT hl
      cases h
      obtain ⟨_, i, hi, hsz, _⟩ := ty_spec hT
      simp [List.mapM_cons, hi, placesOf_spec hl, hsz]
    · cases h

/-- a struct's value out of its parts -/
def abuild (P : Program) (s : AS) (t : TypeId) (ps : List (Nat × Operand)) (R : HV → Prop) : Prop :=
  match ty P t with
  | some ⟨.struct fs, _, _, z⟩ => match placesOf P fs.toList, zcells z, aparts s ps with
    | some pl, some zs, some qs => match afill (fun i => pl[i]?) qs zs with
      | some cs => R (.agg cs)
      | none => False
    | _, _, _ => False
  | _ => False

section
variable {P : Program} {ro : Option Nat} {N B : Nat} {s : AS} {μ μ' : Mu} {a : Act} {w w' : World}

theorem AOp.build {o : Oper} {K : AS → Prop} {t : TypeId} {ps : Array (Nat × Operand)} (hop : o.op = .build t ps) (hN : okd N o.dst = true) (h : abuild P s t ps.toList fun r => K (s.put o.dst r)) : AOp P ro N o K s := by
  refine AOp.value (fun c e => by rw [hop] at e; cases e) hN fun B μ a w hs => ?_
  unfold abuild at h
  split at h
  · rename_i fs sz by' z hT
    split at h
    · rename_i pl zs qs hpl hzs hqs
      split at h
      · rename_i cs hcs
        obtain ⟨hu, it, hit, _, _, hz⟩ := ty_spec hT
        obtain ⟨hl, hp⟩ := aparts_spec hs hqs
        have hz0 := zcells_rep (w := w) (μ := μ) hzs
        obtain ⟨cells, h1, h2, h3⟩ := fill_rep (fun i => pl[i]?) hl hp (zcells_ones hzs) hz0 hcs
        have hb : P.built t (ps.map fun (i, x) => (i, a.eval x)).toList = some cells := by
          simp only [Program.built, hit, hu, hz, placesOf_spec hpl]
          rw [← h1]
          congr 1
          · funext i; simp
          · simp
        refine ⟨.agg cells, .agg cs, μ, w, s.heap, ?_, hs.sr, Evo.refl w μ, ⟨h2, cells.toList, rfl, h3⟩, h⟩
        simp only [execOp, hop, Sem.run_bind, run_build w t _ cells hb, Result.andThen_ok]
        rfl
      · exact h.elim
    · exact h.elim
  · exact h.elim
end

section
variable {P : Program} {ro : Option Nat} {N B : Nat} {s : AS} {μ μ' : Mu} {a : Act} {w w' : World}

theorem zeroCells_one (v : Value) (n : Nat) : (Builtin.zeroCells #[v] n).toList = List.replicate n v := by
  apply List.ext_getElem
  · simp [Builtin.zeroCells]
  · intro i h1 h2
    simp [Builtin.zeroCells, Nat.mod_one]

theorem SR.same {H : Heap} (h : SR w μ H) {id ver : Nat} {o : AObj} (hg : hget H id = some (ver, o)) : SR w μ (hset H id ver o) := by
  refine ⟨h.ok, fun j v o' ho => ?_, fun j x hx => ?_, h.inj, h.held⟩
  · rw [hget_hset] at ho
    split at ho
    · rename_i e; subst e; cases ho; exact h.has _ _ _ hg
    · exact h.has _ _ _ ho
  · rw [hget_hset]
    split
    · exact ⟨_, rfl⟩
    · exact h.only _ _ hx

theorem repL_replicate {z : HV} {v : Value} (h : Rep w μ z v) : ∀ n, RepL w μ (List.replicate n z) (List.replicate n v)
  | 0 => rfl
  | n + 1 => ⟨v, List.replicate n v, rfl, h, repL_replicate h n⟩

/-- clear of a slice of an owned array (of elements of one cell) -/
theorem AOp.clear {o : Oper} {K : AS → Prop} {t e e' : TypeId} {T Te : TyI} {x : Operand} {id ver k k' off n : Nat} {xs : List HV} {z : HV} (hop : o.op = .call { callee := .builtin .clear, args := #[x], argTypes := #[t] }) (hN : okd N o.dst = true)
    (hT : ty P t = some T) (hd : T.desc = .slice e) (hTe : ty P e = some Te) (hz : zcells Te.zero = some [z]) (hx : s.ev x = some (.ar id ver k off n)) (hg : hget s.heap id = some (ver, .arr k' e' xs))
    (hfit : off + n ≤ xs.length) (h : K (({ s with heap := hset s.heap id ver (.arr k' e' (xs.take off ++ List.replicate n z ++ xs.drop (off + n))) } : AS).put o.dst (.tup []))) : AOp P ro N o K s := by
  refine AOp.value (fun c e => by rw [hop] at e; cases e) hN fun B μ a w hs => ?_
  have hu : (underlying t).run P w = .ok (.slice e) w := by rw [ty_under hT, hd]
  have hzr := zcells_rep (w := w) (μ := μ) hz
  obtain ⟨lo, hl, hor⟩ := hs.sr.has id _ _ hg
  have hrun : ∀ w', (Builtin.clear_ #[t] o.type #[a.eval x]).run P w = .ok (.tuple #[]) w' → (execOp a.eval o).run P w = .ok (.value (.tuple #[])) w' := fun w' hv => by
    simp [execOp, hop, resolve, invoke, builtin, hv]
  have hz0 := ty_zero hTe w
  have hz1 : ∃ v, Te.zero.cells = #[v] ∧ Rep w μ z v := by
    obtain ⟨v, vs, e1, h1, h2⟩ := hzr
    cases h2
    exact ⟨v, Array.toList_inj.1 (by simpa using e1), h1⟩
  obtain ⟨v, hv, hvr⟩ := hz1
  have hzone : z.one = true := zcells_ones hz z (List.mem_singleton.2 rfl)
  by_cases hn0 : n = 0
  · subst hn0
    have hsame : xs.take off ++ List.replicate 0 z ++ xs.drop (off + 0) = xs := by simp
    rw [hsame] at h
    refine ⟨.tuple #[], .tup [], μ, w, _, hrun w ?_, hs.sr.same hg, Evo.refl w μ, ⟨[], rfl, rfl⟩, h⟩
    rcases hs.ev hx with ⟨l, hl', ⟨rfl, he, hn, hoff⟩ | ⟨b, cap, cur, ec, rfl, he, hnc, hcm, hrow, hsz⟩⟩ | ⟨hd', _⟩
    · simp [Builtin.clear_, hu, he]
    · simp [Builtin.clear_, hu, he]
    · exact absurd hl (hd'.2 lo)
  · rcases hs.ev hx with ⟨l, hl', ⟨rfl, he, hn, hoff⟩ | ⟨b, cap, cur, ec, rfl, he, hnc, hcm, hrow, hsz⟩⟩ | ⟨hd', _⟩
    · exact absurd hn hn0
    · rw [hl] at hl'
      cases hl'
      obtain ⟨h0, cur', vs, rest, hrow', hcl, hrl⟩ := hor
      have hvl := hrl.length
      have hcurl : cur'.toList.length = vs.length + rest.length := by rw [hcl, List.length_append]
      have hrep : RepL w μ (List.replicate n z) (List.replicate n v) := repL_replicate hvr n
      obtain ⟨w', cur2, h1, h2, h3, h4, h5, h6⟩ := storeCells_row (P := P) b off e' (List.replicate n v) 0 cur' w hrow' (by rw [Array.length_toList] at hcurl; simp only [List.length_replicate]; omega) (RepL.oneCells (fun c hc => by rw [List.eq_of_mem_replicate hc]; exact hzone) hrep)
      have hclen : cur2.size = cur'.size := by
        rw [← Array.length_toList, h3]
        simp only [List.length_append, List.length_take, List.length_drop, Nat.add_zero, ← Array.length_toList, List.length_replicate]
        omega
      obtain ⟨hsr, hE⟩ := hs.sr.updArr (cs' := xs.take off ++ List.replicate n z ++ xs.drop (off + n)) hg hl h4 h5 h6 hrow' h2 hclen fun E => by
        have hrep' := RepL.evo E hs.sr.ok _ _ hrep
        have hrl' := RepL.evo E hs.sr.ok _ _ hrl
        refine ⟨((h0.take _).append (fun c hc => by rw [List.eq_of_mem_replicate hc]; exact hzone)).append (h0.drop _), cur2, vs.take off ++ List.replicate n v ++ vs.drop (off + n), rest, h2, ?_, ((hrl'.take off).append hrep').append (hrl'.drop _)⟩
        rw [h3, hcl, Nat.add_zero, List.length_replicate, List.take_append_of_le_length (by omega), List.drop_append_of_le_length (by omega)]
        simp
      refine ⟨.tuple #[], .tup [], μ, w', _, hrun w' ?_, hsr, hE, ⟨[], rfl, rfl⟩, h⟩
      obtain ⟨n', rfl⟩ : ∃ n', n = n' + 1 := ⟨n - 1, by omega⟩
      simp [Builtin.clear_, hu, he, hz0, hv, zeroCells_one, h1]
    · exact absurd hl (hd'.2 lo)
end
end Go.AW
