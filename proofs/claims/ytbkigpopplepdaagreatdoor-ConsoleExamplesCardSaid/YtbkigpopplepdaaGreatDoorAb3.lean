/- A deterministic evaluator of the model, part 3 of 5: whatever it answers, every run of the model answers the same; its conditions stand in each theorem. -/
import Derived.Test.YtbkigpopplepdaaGreatDoorAb2
import Derived.Lib.ConvBytes
import Derived.Laws.BytesArg
import Derived.RangeFuncIn
import Derived.RangeFuncLeaves
import Derived.OrdersIn
namespace Go.Ab

section
variable {E : Env} {P : Program} {ρ : Ren} {st : St} {w : World} {t : Tr Value} {a : Act} {c : Ctx} {r : Out} {o : Oper}

theorem rowAt_self {e : TypeId} {fits : TypeId → Bool} (hc : P.cellsOf e = 1) (hf : fits e = true) (d count off n : Nat) (hn : off + n ≤ count) : rowAt P fits (d + 1) e count off n = true := by
  simp [rowAt, hc, hf, hn, Nat.mod_one]

theorem liesAt_off {e : TypeId} (hc : P.cellsOf e = 1) (count off n : Nat) (hn : off + n ≤ count) : liesAt P P.depth e count off e n = true := by
  have hd : P.depth = (2 * (P.types.size + Made.depth) + 1) + 1 := rfl
  rw [hd]
  simp only [liesAt, Bool.or_eq_true]
  left
  rw [hd]
  exact rowAt_self hc (by simp [sameLayout]) _ _ _ _ hn

theorem liesAt_one {e : TypeId} (hc : P.cellsOf e ≠ 0) : liesAt P P.depth e 1 0 e 1 = true := by
  have hd : P.depth = (2 * (P.types.size + Made.depth) + 1) + 1 := rfl
  rw [hd]
  simp only [liesAt, Bool.or_eq_true]
  left
  rw [hd]
  simp [rowAt, hc, sameLayout]

theorem bytesOf_cons (v : Value) (vs : List Value) : bytesOf (v :: vs) = bnd (asU8 v) fun b => bnd (bytesOf vs) fun r => some (b :: r) := rfl
theorem asU8_V {v v' : Value} {b : UInt8} (h : asU8 v = some b) (hv : V ρ v v') : ∃ n : Int, v' = .int .u8 n ∧ b = UInt8.ofNat n.toNat := by
  unfold asU8 at h
  split at h
  · injection h with h
    exact ⟨_, hv.int_inv, h.symm⟩
  · cases h

theorem loadBytes_run (P : Program) (w : World) : ∀ (vs vs' : List Value) (bs : List UInt8) (g off : Nat) (acc : ByteArray), VL ρ vs vs' → bytesOf vs = some bs → (∀ j v', vs'[j]? = some v' → w.cell? ⟨g, off + j, none⟩ = some v') →
    (loadBytes ⟨g, off, none⟩ acc vs.length).run P w = .ok ⟨acc.data ++ bs.toArray⟩ w := by
  intro vs
  induction vs with
  | nil => intro vs' bs g off acc hv hb hc; cases hv; injection hb with hb; subst hb; simp [loadBytes]
  | cons v vs ih =>
    intro vs' bs g off acc hv hb hc
    cases hv with
    | cons h1 h2 =>
      rename_i v' l'
      rw [bytesOf_cons] at hb
      simp only [bnd_eq] at hb
      obtain ⟨b, hb1, rs, hrs, hb⟩ := hb
      injection hb with hb
      subst hb
      obtain ⟨n, hn, hbn⟩ := asU8_V hb1 h1
      have h0 := hc 0 v' rfl
      simp only [Nat.add_zero] at h0
      have hrec := ih l' rs g (off + 1) (acc.push n.toNat.toUInt8) h2 hrs (fun j x hj => by
        have := hc (j + 1) x (by simpa using hj)
        rwa [show off + 1 + j = off + (j + 1) by omega])
      simp only [List.length_cons, loadBytes, Sem.run_bind, run_load, h0, hn, Result.andThen, add_none]
      rw [hrec]
      congr 1
      apply ByteArray.ext
      simp [ByteArray.push, hbn]

theorem bytesOf_length {vs : List Value} {bs : List UInt8} (h : bytesOf vs = some bs) : bs.length = vs.length := by
  induction vs generalizing bs with
  | nil => injection h with h; subst h; rfl
  | cons v vs ih =>
    rw [bytesOf_cons] at h
    simp only [bnd_eq] at h
    obtain ⟨b, _, r, hr, h⟩ := h
    injection h with h
    subst h
    simp [ih hr]

theorem uns_none (T : Array TypeId) (ty : TypeId) (x : Value) : ∃ (X C : Sem Value) (A B : Sem Unit), Builtin.unsafeString_ T ty #[.pointer none, x] = (do
    let n ← Go.asInt x
    let some _ := T[0]? | X
    if n < 0 then A
    if n > IntKind.i64.max then B
    if n = 0 then pure (.string .empty) else C) := ⟨_, _, _, _, rfl⟩
theorem uns_some (T : Array TypeId) (ty : TypeId) (a : Addr) (x : Value) : ∃ (X C : Sem Value) (A B : Sem Unit), Builtin.unsafeString_ T ty #[.pointer (some a), x] = (do
    let n ← Go.asInt x
    let some pt := T[0]? | X
    if n < 0 then A
    if n > IntKind.i64.max then B
    if n = 0 then pure (.string .empty)
    else if ← variablesAt a (← elemOf pt) n.toNat then do
      let s ← loadBytes a .empty n.toNat
      freeze a n.toNat
      pure (.string s)
    else C) := ⟨_, _, _, _, rfl⟩

theorem V.pnil_inv {v' : Value} (h : V ρ (.pointer none) v') : v' = .pointer none := by cases h; rfl

theorem hUnsafeString_sound (ok : E.Ok P) (hE : c.E = E) (ht : TR ρ c.t a.tmps) (hr : HRel ρ c.st w) {args : Array Operand} {tys : Array TypeId} (h : hUnsafeString args.toList tys.toList c = some r)
    (ho : o.op = .call { callee := .builtin .unsafeString, args := args, argTypes := tys }) :
    EffOK P ρ c.st w (execOp a.eval o) r.v r.st ∧ r.ds = c.ds := by
  unfold hUnsafeString at h
  split at h
  case h_2 => cases h
  rename_i p n hargs
  simp only [bnd_eq] at h
  obtain ⟨pt, hpt, d, hd, u, hu, pv, hpv, nv, hnv, k, hk, h⟩ := h
  subst hE
  have : d = .pointer u := by cases d <;> simp [tdPtr] at hu; subst hu; rfl
  subst this
  have hargs' : args = #[p, n] := by apply Array.toList_inj.1; simpa using hargs
  subst hargs'
  have ht0 : tys[0]? = some pt := by simpa using hpt
  have ep := opv_sound ht hpv
  obtain ⟨kk, hkk⟩ := asNat_some hk
  subst hkk
  have en := (opv_sound ht hnv).int_inv
  have hexec : ∀ po, a.eval p = .pointer po → (execOp a.eval o).run P w = ((Builtin.unsafeString_ tys o.type #[.pointer po, .int kk (k : Int)]).run P w).andThen fun v w' => .ok (.value v) w' := by
    intro po hpo
    simp [execOp, ho, resolve, invoke, builtin, hpo, en]
  have hmax : IntKind.i64.max = 9223372036854775807 := rfl
  have empty : ∀ po, a.eval p = .pointer po → k = 0 → c.val (.string .empty) = some r → EffOK P ρ c.st w (execOp a.eval o) r.v r.st ∧ r.ds = c.ds := by
    intro po hpo hk0 hv
    obtain ⟨h1, h2, h3⟩ := val_some hv
    refine ⟨?_, h2⟩
    rw [h1, h3]
    refine PureOK.eff hr ⟨.string .empty, ?_, .string _⟩
    rw [hexec po hpo, hk0]
    cases po with
    | none => obtain ⟨_, _, _, _, hx⟩ := uns_none tys o.type (.int kk ((0 : Nat) : Int)); rw [hx]; simp [ht0, run_int, hmax]
    | some a => obtain ⟨_, _, _, _, hx⟩ := uns_some tys o.type a (.int kk ((0 : Nat) : Int)); rw [hx]; simp [ht0, run_int, hmax]
  unfold unsafeStr at h
  split at h
  · simp only [grd_eq] at h
    exact empty _ ep.pnil_inv (Nat.eq_of_beq_eq_true h.1) h.2
  · rename_i b off
    obtain ⟨l, hl, e2⟩ := ep.ptr_inv
    rw [cnd_of] at h
    split at h
    · rename_i hk0
      exact empty _ e2 (Nat.eq_of_beq_eq_true hk0) h
    · rename_i hk0
      have hk0 : k ≠ 0 := fun hh => hk0 (by subst hh; rfl)
      simp only [bnd_eq, grd_eq, Bool.and_eq_true] at h
      obtain ⟨cs, hcs, z, hz, ⟨⟨⟨c1, c2⟩, c3⟩, c4⟩, bs, hbs, h⟩ := h
      obtain ⟨h1, h2, h3⟩ := out_some h
      have c1 : cs.1.1 = u := by simpa using c1
      have c2 : z = 1 := by simpa using c2
      have c3 : off + k ≤ cs.2.1 := by simpa using c3
      have c4 : k ≤ 1099511627776 := by simpa using c4
      simp only [cellBytes, bnd_eq] at hbs
      obtain ⟨cs', hcs', vs, hvs, hbs⟩ := hbs
      rw [hcs] at hcs'
      injection hcs' with hcs'
      subst hcs'
      obtain ⟨vs', v1, v2, v3⟩ := hr.cells hcs hl hvs
      obtain ⟨kv, hk1⟩ := cellsOf_some hcs
      obtain ⟨ob, hob, arr, te, fr, rfl, q2, q3, q4, q5, q6, q7⟩ := hr.obj _ _ _ hk1 hl
      have hlen : vs.length = k := by rw [v2.length, v1]
      have hcell : P.cellsOf u = 1 := by
        have := ok.info_size hz
        unfold Program.cellsOf
        rw [c2] at this
        simpa using congrArg (fun x => x.getD 0) this
      have hload := loadBytes_run P w vs vs' bs l.blk (l.off + off) .empty v2 hbs v3
      rw [hlen] at hload
      have hsh : w.shape? l.blk = some (u, arr.size) := by simp [World.shape?, hob, q6, c1]
      have hlies := liesAt_off (P := P) hcell (arr.size / P.cellsOf u) (l.off + off) k (by rw [hcell, Nat.div_one]; omega)
      have hrun : (execOp a.eval o).run P w = .ok (.value (.string ⟨bs.toArray⟩)) (w.freeze ⟨l.blk, l.off + off, none⟩ k) := by
        obtain ⟨_, _, _, _, hx⟩ := uns_some tys o.type ⟨l.blk, l.off + off, none⟩ (.int kk (k : Int))
        rw [hexec _ e2, hx]
        have hneg : ¬ (k : Int) < 0 := by omega
        have h63 : ¬ (9223372036854775807 : Int) < (k : Int) := by omega
        simp [ht0, run_int, hmax, hneg, h63, hk0, variablesAt, hsh, elemOf, ok.runUnd hd w, hlies, hload]
      have hkill := hr.killed (b := b) hl (w' := w.freeze ⟨l.blk, l.off + off, none⟩ k) (fun c hc => by
          unfold World.freeze
          rw [if_neg hk0]
          simp only [Array.getElem?_modify]
          rw [if_neg (fun hh => hc hh.symm)]) (by unfold World.freeze; rw [if_neg hk0]; simp) ⟨_, hk1⟩ (by unfold World.freeze; rw [if_neg hk0]) (by unfold World.freeze; rw [if_neg hk0]) (by unfold World.freeze; rw [if_neg hk0])
      refine ⟨⟨_, .string ⟨bs.toArray⟩, _, ρ, hrun, .inl rfl, by rw [h1]; exact .string _, by rw [h3]; exact hkill⟩, h2⟩
  · cases h
end
end Go.Ab

namespace Go.Ab

section
variable {E : Env} {P : Program} {ρ : Ren} {st : St} {w : World} {t : Tr Value} {a : Act} {c : Ctx} {r : Out} {o : Oper}

theorem isU8_eq {d : TypeDesc} (h : isU8 d = true) : d = .int .u8 := by
  unfold isU8 at h
  split at h
  · rfl
  · cases h

theorem bytesOf_ints {vs vs' : List Value} {bs : List UInt8} (hv : VL ρ vs vs') (h : bytesOf vs = some bs) : ∃ ns : List Int, vs' = ns.map (Value.int .u8) ∧ bs = ns.map fun n => UInt8.ofNat n.toNat := by
  induction vs generalizing vs' bs with
  | nil => cases hv; injection h with h; subst h; exact ⟨[], rfl, rfl⟩
  | cons v vs ih =>
    cases hv with
    | cons h1 h2 =>
      rw [bytesOf_cons] at h
      simp only [bnd_eq] at h
      obtain ⟨b, hb, rs, hrs, h⟩ := h
      injection h with h
      subst h
      obtain ⟨n, hn, hbn⟩ := asU8_V hb h1
      obtain ⟨ns, e1, e2⟩ := ih h2 hrs
      exact ⟨n :: ns, by rw [hn, e1]; rfl, by rw [hbn, e2]; rfl⟩

theorem bytesWorld_heap (w : World) (e : TypeId) (s : ByteArray) : (Go.Lib.bytesWorld w e s).heap = w.heap.push (.cells (Go.Lib.bytesCells w e s) e ((Go.Lib.bytesCells w e s).size, (Go.Lib.bytesCells w e s).size + 1)) := by
  apply Array.ext_getElem?
  intro j
  rw [Array.getElem?_push]
  split
  · rename_i h; subst h; exact Go.Lib.bytesWorld_at_new w e s
  · rename_i h
    by_cases hj : j < w.heap.size
    · exact Go.Lib.bytesWorld_at_old w e s j hj
    · rw [Array.getElem?_eq_none (by rw [Go.Lib.bytesWorld_size]; omega), Array.getElem?_eq_none (by omega)]

theorem bytesWorld_rest (w : World) (e : TypeId) (s : ByteArray) : (Go.Lib.bytesWorld w e s).os = w.os ∧ (Go.Lib.bytesWorld w e s).tape = w.tape ∧ (Go.Lib.bytesWorld w e s).output = w.output := by
  unfold Go.Lib.bytesWorld World.freeze
  rw [if_neg (by omega)]
  exact ⟨rfl, rfl, rfl⟩

theorem hConvert_sound (ok : E.Ok P) (hE : c.E = E) (ht : TR ρ c.t a.tmps) (hr : HRel ρ c.st w) (hid : c.id = none) {src dst : TypeId} {x : Operand} (h : hConvert src dst x c = some r) (ho : o.op = .convert src dst x) :
    EffOK P ρ c.st w (execOp a.eval o) r.v r.st ∧ r.ds = c.ds := by
  simp only [hConvert, bnd_eq] at h
  obtain ⟨s, hs, d, hd, xv, hxv, h⟩ := h
  subst hE
  have ex := opv_sound ht hxv
  have hexec : (execOp a.eval o).run P w = ((convert src dst (a.eval x)).run P w).andThen fun v w' => .ok (.value v) w' := by
    simp [execOp, ho]
  have pure : ∀ {v v' : Value}, c.val v = some r → (convert src dst (a.eval x)).run P w = .ok v' w → V ρ v v' → EffOK P ρ c.st w (execOp a.eval o) r.v r.st ∧ r.ds = c.ds := by
    intro v v' hv hrun hvv
    obtain ⟨h1, h2, h3⟩ := val_some hv
    refine ⟨?_, h2⟩
    rw [h1, h3]
    exact PureOK.eff hr ⟨v', by rw [hexec, hrun]; rfl, hvv⟩
  have ps := ok.und hs
  have pd := ok.und hd
  split at h
  · have := ex.int_inv
    refine pure h ?_ (.int _ _)
    simp [convert, run_underlying ps, run_underlying pd, this, Conv.intToInt]
  · have := ex.string_inv
    refine pure h ?_ (.string _)
    simp [convert, run_underlying ps, run_underlying pd, this]
  · rename_i e a' n k
    simp only [bnd_eq, grd_eq] at h
    obtain ⟨ed, hed, hu8, h⟩ := h
    have := isU8_eq hu8
    subst this
    have pe := ok.und hed
    split at h
    · obtain ⟨i1, i2, i3⟩ := ex.snil_inv
      refine pure h ?_ (.string _)
      rw [i3]
      exact run_convert_bytes_nil w src e ps pe 0 0 dst pd
    · rename_i b off
      obtain ⟨l, a1, c', i1, i2, i3, i4, i5, i6⟩ := ex.slice_inv
      simp only [bnd_eq, cellBytes] at h
      obtain ⟨bs, ⟨cs, hcs, vs, hvs, hbs⟩, h⟩ := h
      obtain ⟨vs', v1, v2, v3⟩ := hr.cells hcs i2 hvs
      obtain ⟨ns, n1, n2⟩ := bytesOf_ints v2 hbs
      refine pure h ?_ (.string _)
      rw [i1, run_convert_bytes_string w src dst e _ n c' ps pe pd]
      have hl : (loadCells a1 n).run P w = .ok (ns.map (Value.int .u8)).toArray w := by
        by_cases hn0 : n = 0
        · subst hn0
          have : vs' = [] := List.eq_nil_of_length_eq_zero v1
          rw [← n1, this]
          rfl
        · rw [i6 (by omega)]
          have hload := run_loadCells_list (P := P) w ⟨l.blk, l.off + off, none⟩ vs' (fun j v hj => by rw [add_none]; exact v3 j v hj)
          rw [v1, n1] at hload
          exact hload
      rw [run_bytesToString w a1 n c' ns hl, foldl_push_bytes]
      congr 2
      apply ByteArray.ext
      simp [n2]
    · cases h
  · rename_i e b off
    simp only [bnd_eq, grd_eq, Bool.and_eq_true] at h
    obtain ⟨z, hz, cs, hcs, ⟨c1, c2⟩, h⟩ := h
    obtain ⟨l, hl, e2⟩ := ex.ptr_inv
    obtain ⟨kv, hk1⟩ := cellsOf_some hcs
    obtain ⟨ob, hob, arr, te, fr, rfl, q2, q3, q4, q5, q6, q7⟩ := hr.obj _ _ _ hk1 hl
    have hz0 : z ≠ 0 := by intro hh; subst hh; simp at c1
    have c2 : off + 1 ≤ cs.2.1 := by simpa using c2
    refine pure h ?_ (.ptr hl)
    have hsh : w.shape? l.blk = some (te, arr.size) := by simp [World.shape?, hob]
    have hge : ¬ arr.size ≤ l.off + off := by omega
    simp [convert, run_underlying ps, run_underlying pd, e2, Conv.unsafePointer, Conv.seenAt, viewAt, cellsIn, hsh, ok.size hz w, hz0, hge]
  · rename_i u b off
    simp only [bnd_eq, grd_eq, Bool.and_eq_true] at h
    obtain ⟨z, hz, cs, hcs, ⟨⟨⟨⟨c1, c2⟩, c3⟩, c4⟩, c5⟩, h⟩ := h
    obtain ⟨l, hl, e2⟩ := ex.ptr_inv
    obtain ⟨kv, hk1⟩ := cellsOf_some hcs
    obtain ⟨ob, hob, arr, te, fr, rfl, q2, q3, q4, q5, q6, q7⟩ := hr.obj _ _ _ hk1 hl
    have hz0 : z ≠ 0 := by intro hh; subst hh; simp at c4
    have c2 : off = 0 := by simpa using c2
    have c3 : cs.1.1 = u := by simpa using c3
    have c5 : cs.2.1 = z := by simpa using c5
    obtain ⟨q8, q9⟩ := q7 c1
    refine pure h ?_ (.ptr hl)
    have hcell : P.cellsOf u = z := by
      have := ok.info_size hz
      unfold Program.cellsOf
      simpa using congrArg (fun x => x.getD 0) this
    have hsh : w.shape? l.blk = some (u, z) := by simp [World.shape?, hob, q6, c3, q9, c5]
    have hdiv : z / P.cellsOf u = 1 := by rw [hcell]; exact Nat.div_self (by omega)
    have hlies := liesAt_one (P := P) (e := u) (by rw [hcell]; exact hz0)
    simp [convert, run_underlying ps, run_underlying pd, e2, Conv.unsafePointer, Conv.seenAt, viewAt, hsh, ok.size hz w, hz0, variablesAt, q8, c2, hdiv, hlies]
  · rename_i e sb
    simp only [bnd_eq, grd_eq, Bool.and_eq_true] at h
    obtain ⟨ed, hed, ⟨hu8, hsz⟩, h⟩ := h
    have := isU8_eq hu8
    subst this
    have pe := ok.und hed
    have es := ex.string_inv
    have hsz : sb.size ≤ 1048576 := by simpa using hsz
    rcases new_some h with ⟨_, h⟩ | ⟨id, hid2, _⟩
    · subst h
      have hge := grownCap_ge w sb.size 0 e
      obtain ⟨b1, b2, b3⟩ := bytesWorld_rest w e sb
      have hbs : (Go.Lib.bytesCells w e sb).size = grownCap w sb.size 0 e := by
        unfold Go.Lib.bytesCells
        simp only [Array.size_append, Array.size_map, Array.size_replicate]
        have : sb.data.size = sb.size := rfl
        omega
      have hst := hr.new (n := grownCap w sb.size 0 e) (o := .cells (e, false) sb.size (writeCells (sb.data.toList.map fun b => .int .u8 b.toNat) 0 .leaf)) (fun ρ' hle => ?_) (Go.Lib.bytesWorld w e sb) (bytesWorld_heap w e sb) b1 b2 b3
      · refine ⟨⟨_, .slice (some ⟨w.heap.size, 0, none⟩) sb.size (grownCap w sb.size 0 e), _, _, ?_, .inl rfl, ?_, hst⟩, rfl⟩
        · rw [hexec, es, Go.Lib.run_convert_string_bytes w src dst e sb ps pd pe]
          rfl
        · exact open_V (by omega) hge (l' := ⟨w.heap.size, 0, grownCap w sb.size 0 e⟩) (by simp) (by simp) rfl
      · have hx := cells_new (ρ := ρ') (bytes_rel sb.data.toList) (extra := List.replicate (grownCap w sb.size 0 e - sb.size) (.int .u8 0)) (e := e) (fr := ((Go.Lib.bytesCells w e sb).size, (Go.Lib.bytesCells w e sb).size + 1)) (ex := false) (fun h => by cases h)
          (fun i hi => by
            have : sb.data.toList.length = sb.size := by simp
            simp only [List.length_map, List.length_replicate] at hi
            rw [hbs]
            omega) w.heap.size
        have hl1 : (sb.data.toList.map fun b => Value.int .u8 b.toNat).length = sb.size := by simp
        have hl2 : (List.replicate (grownCap w sb.size 0 e - sb.size) (Value.int .u8 0)).length = grownCap w sb.size 0 e - sb.size := by simp
        rw [hl1, hl2, show sb.size + (grownCap w sb.size 0 e - sb.size) = grownCap w sb.size 0 e by omega] at hx
        have harr : ((sb.data.toList.map fun b => Value.int .u8 b.toNat) ++ List.replicate (grownCap w sb.size 0 e - sb.size) (Value.int .u8 0)).toArray = Go.Lib.bytesCells w e sb := by
          apply Array.toList_inj.1
          simp [Go.Lib.bytesCells]
        rw [harr] at hx
        exact hx
    · rw [hid] at hid2; cases hid2
  · cases h
end
end Go.Ab

namespace Go.Ab

section
variable {E : Env} {P : Program} {ρ : Ren} {st : St} {w : World} {t : Tr Value} {a : Act} {c : Ctx} {r : Out} {o : Oper}

/-- values alone -/
theorem exec_pure (ok : E.Ok P) (hE : c.E = E) (ht : TR ρ c.t a.tmps) (hc : cls o.op = 0) (h : exec o.op c = some r) :
    PureOK P ρ w (execOp a.eval o) r.v ∧ r.ds = c.ds ∧ r.st = c.st := by
  cases ho : o.op <;> rw [ho] at h hc <;> try (simp [cls] at hc; done)
  case move x => exact hMove_sound ht (show hMove x c = some r from h) (.inl ho)
  case pick b x y => exact hPick_sound ht (show hPick b x y c = some r from h) ho
  case build ty ps => exact hBuild_sound ok hE ht (show hBuild ty ps c = some r from h) ho
  case nilCheck x => exact hNilCheck_sound ht (show hNilCheck x c = some r from h) ho
  case binOp op ty x y yt => exact hBin_sound ok hE ht (show hBin op ty x y yt c = some r from h) ho
  case unOp op ty x => exact hUn_sound ht (show hUn op ty x c = some r from h) ho
  case makeInterface ty x => exact hMakeInterface_sound ok hE ht (show hMakeInterface ty x c = some r from h) ho
  case makeFunc fn x y => exact hMakeFunc_sound ht (show hMakeFunc fn x y c = some r from h) ho
  case slice ty x lo hi mx => exact hSlice_sound ok hE ht (show hSlice ty x lo hi mx c = some r from h) ho
  case fieldAddr s x f => exact hFieldAddr_sound ok hE ht (show hFieldAddr s x f c = some r from h) ho
  case field s x f => exact hField_sound ok hE ht (show hField s x f c = some r from h) ho
  case indexAddr ty x i => exact hIndexAddr_sound ok hE ht (show hIndexAddr ty x i c = some r from h) ho
  case index ty x i => exact hIndex_sound ok hE ht (show hIndex ty x i c = some r from h) ho
  case extract x i => exact hExtract_sound ht (show hExtract x i c = some r from h) ho
  case call k =>
    obtain ⟨callee, args, tys⟩ := k
    cases callee with
    | value f => simp [cls] at hc
    | invoke x m => simp [cls] at hc
    | builtin b =>
      cases b <;> try (simp [cls] at hc; done)
      case cap => exact hCap_sound ok hE ht (show hCap args.toList tys.toList c = some r from h) ho
      case min => exact hMinMax_run ht (mn := true) (tys := tys) (show hMinMax true args.toList c = some r from h) ho
      case max => exact hMinMax_run ht (mn := false) (tys := tys) (show hMinMax false args.toList c = some r from h) ho
      case unsafeSliceData => exact hUnsafeSliceData_sound ht (tys := tys) (show hUnsafeSliceData args.toList c = some r from h) ho

/-- reading -/
theorem exec_read (ok : E.Ok P) (hE : c.E = E) (ht : TR ρ c.t a.tmps) (hr : HRel ρ c.st w) (hc : cls o.op = 1) (h : exec o.op c = some r) :
    PureOK P ρ w (execOp a.eval o) r.v ∧ r.ds = c.ds ∧ r.st = c.st := by
  cases ho : o.op <;> rw [ho] at h hc <;> try (simp [cls] at hc; done)
  case load ty x => exact hLoad_sound ok hE ht hr (show hLoad ty x c = some r from h) ho
  case call k =>
    obtain ⟨callee, args, tys⟩ := k
    cases callee with
    | value f => simp [cls] at hc
    | invoke x m => simp [cls] at hc
    | builtin b =>
      cases b <;> try (simp [cls] at hc; done)
      case len => exact hLen_sound ok hE ht hr (show hLen args.toList tys.toList c = some r from h) ho

/-- making -/
theorem exec_new (ok : E.Ok P) (hE : c.E = E) (ht : TR ρ c.t a.tmps) (hc : cls o.op = 2) (h : exec o.op c = some r) :
    ∃ ob vf, c.new ob vf = some r ∧ NewOK P ρ w (execOp a.eval o) ob vf := by
  cases ho : o.op <;> rw [ho] at h hc <;> try (simp [cls] at hc; done)
  case alloc ty => exact hAlloc_sound ok hE (show hAlloc ty c = some r from h) ho
  case box ty x => exact hBox_sound ht (show hBox ty x c = some r from h) ho
  case buildSlice ty n ps => exact hBuildSlice_sound ok hE ht (show hBuildSlice ty n ps c = some r from h) ho
  case makeSlice ty l k => exact hMakeSlice_sound ok hE ht (show hMakeSlice ty l k c = some r from h) ho
  case makeMap ty rs => exact hMakeMap_sound ok hE ht (show hMakeMap ty rs c = some r from h) ho
  case call k =>
    obtain ⟨callee, args, tys⟩ := k
    cases callee with
    | value f => simp [cls] at hc
    | invoke x m => simp [cls] at hc
    | builtin b => cases b <;> simp [cls] at hc

def isCallV (o : Op) : Bool := match o with | .call { callee := .value _, .. } => true | _ => false

/-- anything else but a call -/
theorem exec_eff (ok : E.Ok P) (hE : c.E = E) (ht : TR ρ c.t a.tmps) (hr : HRel ρ c.st w) (hid : c.id = none) (hc : cls o.op = 3) (hv : isCallV o.op = false) (h : exec o.op c = some r) :
    EffOK P ρ c.st w (execOp a.eval o) r.v r.st ∧ r.ds = c.ds := by
  cases ho : o.op <;> rw [ho] at h hc hv <;> try (simp [cls] at hc; done)
  case assign x =>
    obtain ⟨h1, h2, h3⟩ := hMove_sound (P := P) (w := w) ht (show hMove x c = some r from h) (.inr ho)
    exact ⟨by rw [h3]; exact PureOK.eff hr h1, h2⟩
  case insert ty m k x => exact hMapPut_sound ok hE ht hr (show hMapPut ty m k x c = some r from h) (.inr ho)
  case store ty x y => exact hStore_sound ok hE ht hr (show hStore ty x y c = some r from h) ho
  case convert s d x => exact hConvert_sound ok hE ht hr hid (show hConvert s d x c = some r from h) ho
  case lookup ty x i k =>
    obtain ⟨h1, h2, h3⟩ := hLookup_sound ok hE ht hr (show hLookup ty x i k c = some r from h) ho
    exact ⟨by rw [h3]; exact PureOK.eff hr h1, h2⟩
  case mapUpdate ty m k x => exact hMapPut_sound ok hE ht hr (show hMapPut ty m k x c = some r from h) (.inl ho)
  case mapEntry ty m k => exact hMapEntry_sound ok hE ht hr (show hMapEntry ty m k c = some r from h) ho
  case entryStore ty m k x => exact hEntryStore_sound ht hr (show hEntryStore ty m k x c = some r from h) ho
  case range ty x =>
    obtain ⟨ob, vf, h1, h2⟩ := hRange_sound ok hE ht hr (show hRange ty x c = some r from h) ho
    rcases new_some h1 with ⟨_, h3⟩ | ⟨id, h3, _⟩
    · subst h3; exact ⟨NewOK.eff hr h2, rfl⟩
    · rw [hid] at h3; cases h3
  case next x s => exact hNext_sound ht hr (show hNext x s c = some r from h) ho
  case entry x =>
    obtain ⟨h1, h2, h3⟩ := hEntry_sound (P := P) ht hr (show hEntry x c = some r from h) ho
    exact ⟨by rw [h3]; exact PureOK.eff hr h1, h2⟩
  case call k =>
    obtain ⟨callee, args, tys⟩ := k
    cases callee with
    | value f => simp [isCallV] at hv
    | invoke x m => exact nomatch (show (none : Option Out) = some r from h)
    | builtin b =>
      cases b <;> try (simp [cls] at hc; done)
      case append => exact hAppend_sound ok hE ht hr (show hAppend args.toList tys.toList c = some r from h) ho
      case copy => exact hCopy_sound ok hE ht hr (show hCopy args.toList tys.toList c = some r from h) ho
      case delete => exact hDelete_sound ok hE ht hr (show hDelete args.toList tys.toList c = some r from h) ho
      case unsafeString => exact hUnsafeString_sound ok hE ht hr (show hUnsafeString args.toList tys.toList c = some r from h) ho
      all_goals exact nomatch (show (none : Option Out) = some r from h)
  all_goals exact nomatch (show (none : Option Out) = some r from h)
end
end Go.Ab

namespace Go.Ab

/-- a call that comes back -/
def Ret (R : Value → World → Prop) : Ending → World → Prop
  | .returned v, w => R v w
  | _, _ => False
theorem Ret.mono {R R' : Value → World → Prop} (h : ∀ v w, R v w → R' v w) {e : Ending} {w : World} (he : Ret R e w) : Ret R' e w := by cases e <;> first | exact h _ _ he | exact he

def CallRun (P : Program) (f : FuncId) (args : Array Value) (w : World) (R : Value → World → Prop) : Prop :=
  (∃ v' w', (callFunc f args).run P w = .ok (.value v') w' ∧ R v' w') ∨ ((callFunc f args).run P w = .ok (.enter f args) w ∧ CallsIn Fence.wide 0 P f args w (Ret R))
theorem CallRun.mono {P : Program} {f : FuncId} {args : Array Value} {w : World} {R R' : Value → World → Prop} (h : CallRun P f args w R) (hr : ∀ v w, R v w → R' v w) : CallRun P f args w R' := by
  rcases h with ⟨v', w', h1, h2⟩ | ⟨h1, h2⟩
  · exact .inl ⟨v', w', h1, hr _ _ h2⟩
  · exact .inr ⟨h1, h2.mono fun _ _ he => he.mono hr⟩

def CallOK (P : Program) (S : Self) : Prop :=
  ∀ f args st v st', S.call f args st = some (v, st') → ∀ (ρ : Ren) (w : World) (args' : Array Value), VL ρ args args'.toList → HRel ρ st w →
    CallRun P f args' w fun v' w' => ∃ ρ', V ρ' v v' ∧ Step ρ st w ρ' st' w'

/-- the fence of an activation, or of a round -/
def fen (ro : Option Nat) : Fence := match ro with | none => Fence.wide | some l => Fence.wide.inRound l
theorem fen_fn (ro : Option Nat) (f : FuncId) : (fen ro).fn f := by cases ro <;> trivial
theorem fen_depth (ro : Option Nat) : (fen ro).depth = none := by cases ro <;> rfl
theorem fen_round (ro : Option Nat) : (fen ro).round = ro := by cases ro <;> rfl
theorem fen_in (ro : Option Nat) (l : Nat) : (fen ro).inRound l = fen (some l) := by cases ro <;> rfl
theorem fen_n (ro : Option Nat) : (fen ro).depth.isSome = true → 1 ≤ 0 := by rw [fen_depth]; intro h; cases h
theorem fen_calls {ro : Option Nat} {P : Program} {f : FuncId} {args : Array Value} {w : World} {R : Ending → World → Prop} (h : CallsIn Fence.wide 0 P f args w R) : CallsIn (fen ro) 0 P f args w R := by
  cases ro with
  | none => exact h
  | some l => exact h

def RdR (ρ : Ren) (rd ro : Option Nat) : Prop := (rd = none ∧ ro = none) ∨ ∃ l loc, rd = some l ∧ ρ l = some loc ∧ ro = some loc.blk
theorem RdR.mono {ρ ρ' : Ren} (h : ρ.le ρ') {rd ro : Option Nat} (hr : RdR ρ rd ro) : RdR ρ' rd ro := by
  rcases hr with h1 | ⟨l, loc, h1, h2, h3⟩
  · exact .inl h1
  · exact .inr ⟨l, loc, h1, h _ _ h2, h3⟩

def exitOf : Nat → Exit
  | 0 => .normal
  | 1 => .ret
  | n + 2 => .exit n

def Post (ρ : Ren) (st : St) (w : World) (n : Nat) (x : Nat × Tr Value × List Deferred × St) : Exit → Act → World → Prop := fun e a' w' =>
  e = exitOf x.1 ∧ ∃ ρ', Step ρ st w ρ' x.2.2.2 w' ∧ TR ρ' x.2.1 a'.tmps ∧ DsR ρ' x.2.2.1 a'.defers ∧ a'.tmps.size = n

def CodeOK (P : Program) (S : Self) : Prop :=
  ∀ rd fn c t ds st x, S.code rd fn c t ds st = some x → ∀ (ρ : Ren) (w : World) (a : Act) (ro : Option Nat), RdR ρ rd ro → codeOk a.tmps.size c = true → TR ρ t a.tmps → DsR ρ ds a.defers → HRel ρ st w →
    c.wpIn (fen ro) 0 P (Post ρ st w a.tmps.size x) a w

section
variable {E : Env} {P : Program} {ρ : Ren} {st : St} {w : World} {t : Tr Value} {a : Act} {c : Ctx} {r : Out} {o : Oper}

/-- an operation, taken -/
def OpOK (P : Program) (ρ : Ren) (st : St) (w : World) (a : Act) (o : Oper) (r : Out) (ro : Option Nat) : Prop :=
  ∀ (next : Act → World → Prop) (Q : Exit → Act → World → Prop),
    (∀ ρ' v' ds' w', Step ρ st w ρ' r.st w' → V ρ' r.v v' → DsR ρ' r.ds ds' → next (({ a with defers := ds' } : Act).put o.dst v') w') → o.wpIn (fen ro) 0 P a w next Q

theorem EffOK.op {ro : Option Nat} (hr : HRel ρ c.st w) (hd : DsR ρ c.ds a.defers) (hnd : ∀ k, o.op ≠ .defer k) (h : EffOK P ρ c.st w (execOp a.eval o) r.v r.st) (hds : r.ds = c.ds) : OpOK P ρ c.st w a o r ro := by
  intro next Q hn
  refine ⟨fun f _ => fen_fn ro f, ?_⟩
  rw [Oper.semAt_eq _ _ _ hnd]
  obtain ⟨x, v', w', ρ', h1, h2, h3, h4⟩ := h
  rw [h1]
  have hle := h4.le hr
  have := hn ρ' v' a.defers w' h4 h3 (by rw [hds]; exact hd.mono hle)
  rcases h2 with h2 | ⟨h2, h5⟩
  · subst h2; exact this
  · subst h2 h5; exact this

theorem putAll_cons (p : Tmp) (ps : List Tmp) (v : Value) (vs : List Value) (t : Tr Value) : putAll (p :: ps) (v :: vs) t = putAll ps vs (t.put (some v) (pos p)) := rfl
theorem putAll_nil (vs : List Value) (t : Tr Value) : putAll [] vs t = t := rfl
theorem putAll_none (ps : List Tmp) (t : Tr Value) : putAll ps [] t = t := by cases ps <;> rfl
theorem putAll_sound : ∀ (ps : List Tmp) (vs vs' : List Value) (t : Tr Value) (tm : Array Value), TR ρ t tm → VL ρ vs vs' → (∀ q ∈ ps, q < tm.size) →
    TR ρ (putAll ps vs t) ((ps.zip vs').foldl (fun tmps (q, a) => tmps.setIfInBounds q a) tm) ∧ ((ps.zip vs').foldl (fun tmps (q, a) => tmps.setIfInBounds q a) tm).size = tm.size := by
  intro ps
  induction ps with
  | nil => intro vs vs' t tm ht _ _; exact ⟨ht, rfl⟩
  | cons p ps ih =>
    intro vs vs' t tm ht hv hq
    cases hv with
    | nil => rw [putAll_none]; exact ⟨ht, rfl⟩
    | cons h1 h2 =>
      rw [putAll_cons]
      simp only [List.zip_cons_cons, List.foldl_cons]
      have hp := ht.put (hq p (by simp)) h1
      obtain ⟨e1, e2⟩ := ih _ _ _ _ hp h2 (fun q hq' => by rw [Array.size_setIfInBounds]; exact hq q (by simp [hq']))
      exact ⟨e1, by rw [e2, Array.size_setIfInBounds]⟩

theorem loopOf_some {l : Nat} {q : LoopState × Option Code × FuncId × Tr Value × Array Tmp × Code × Code × Nat} (h : loopOf st l = some q) :
    ∃ k, blkOf st l = some k ∧ k.o = .loop q.1 q.2.1 q.2.2.1 q.2.2.2.1 q.2.2.2.2.1 q.2.2.2.2.2.1 q.2.2.2.2.2.2.1 q.2.2.2.2.2.2.2 := by
  simp only [loopOf, bnd_eq] at h
  obtain ⟨k, hk, h⟩ := h
  refine ⟨k, hk, ?_⟩
  cases ho : k.o <;> rw [ho] at h <;> simp [AObj.asLoop] at h
  subst h
  rfl

theorem HRel.loop (hr : HRel ρ st w) {l : Nat} {q : LoopState × Option Code × FuncId × Tr Value × Array Tmp × Code × Code × Nat} (h : loopOf st l = some q) {loc : Loc} (hl : ρ l = some loc) :
    ∃ fn' tm ld, w.heap[loc.blk]? = some (.loop { state := q.1, pending := q.2.1, fn := fn', tmps := tm, params := q.2.2.2.2.1, assign := q.2.2.2.2.2.1, body := q.2.2.2.2.2.2.1, defers := ld.blk }) ∧
      TR ρ q.2.2.2.1 tm ∧ ρ q.2.2.2.2.2.2.2 = some ld ∧ codeOk tm.size q.2.2.2.2.2.1 = true ∧ codeOk tm.size q.2.2.2.2.2.2.1 = true ∧ (∀ p ∈ q.2.2.2.2.1.toList, p < tm.size) := by
  obtain ⟨k, hk, ho⟩ := loopOf_some h
  obtain ⟨x, hx, hx2⟩ := hr.obj _ _ _ hk hl
  rw [ho] at hx2
  obtain ⟨fn', tm, ld, rfl, h2⟩ := hx2
  exact ⟨fn', tm, ld, hx, h2⟩

theorem run_getLoop {b : Nat} {x : Loop} (h : w.heap[b]? = some (.loop x)) : (Instr.getLoop b).run P w = .ok x w := by
  simp only [Instr.getLoop, Sem.run_bind, run_getObj_of h rfl, Result.andThen_ok, Sem.run_pure]
end
end Go.Ab

namespace Go.Ab

section
variable {E : Env} {P : Program} {ρ : Ren} {st : St} {w : World} {t : Tr Value} {a : Act} {c : Ctx} {r : Out} {o : Oper}

theorem run_beginRound_ready {l : Nat} {x : Loop} (h : w.heap[l]? = some (.loop x)) (hs : x.state = .ready) :
    (Instr.beginRound l).run P w = ((setObj l (.loop { x with state := .busy })).run P w).andThen fun _ w' => .ok () w' := by
  simp only [Instr.beginRound, Sem.run_bind, run_getLoop h, Result.andThen_ok, hs]
  cases (setObj l (.loop { x with state := .busy })).run P w <;> rfl

theorem ORel_state {l : Loc} {s' : LoopState} {p' : Option Code} {f : FuncId} {tt : Tr Value} {ps : Array Tmp} {ca cb : Code} {d : Nat} {fn' : FuncId} {tm : Array Value} {ld : Loc}
    (h1 : TR ρ tt tm) (h2 : ρ d = some ld) (h3 : codeOk tm.size ca = true) (h4 : codeOk tm.size cb = true) (h5 : ∀ q ∈ ps.toList, q < tm.size) :
    ORel ρ l (.loop s' p' f tt ps ca cb d) (.loop { state := s', pending := p', fn := fn', tmps := tm, params := ps, assign := ca, body := cb, defers := ld.blk }) :=
  ⟨fn', tm, ld, rfl, h1, h2, h3, h4, h5⟩

theorem isReady_eq {s : LoopState} (h : isReady s = true) : s = .ready := by cases s <;> simp [isReady] at h; rfl
theorem isBusy_ne {s : LoopState} (h : (!isBusy s) = true) : (s == .busy) = false := by cases s <;> simp [isBusy] at h <;> rfl

theorem jump_zero (n : Nat) : (jumpOf n).isNone = Nat.beq n 0 := by
  match n with
  | 0 => rfl
  | 1 => rfl
  | n + 2 => rfl

/-- a round -/
theorem hRound_sound {S : Self} (hS : CodeOK P S) (hr : HRel ρ st w) {l : Nat} {loc : Loc} (hl : ρ l = some loc) {args : List Value} {args' : Array Value} (ha : VL ρ args args'.toList) {v : Value} {st' : St}
    (h : hRound l args S st = some (v, st')) :
    ∃ f tmps assign body, (Instr.yield loc.blk args').run P w = .ok (.round loc.blk f tmps assign body) w ∧
      ∀ ro, RoundIn (fen ro) 0 P loc.blk f tmps assign body w (Ret fun v' w' => ∃ ρ', V ρ' v v' ∧ Step ρ st w ρ' st' w') := by
  simp only [hRound, bnd_eq, grd_eq] at h
  obtain ⟨p, hp, hlen, r1, h1, hz, q, hq, hrdy, st2, hst2, r2, h2, hds, q2, hq2, st3, hst3, h⟩ := h
  have hv : v = .bool (Nat.beq r2.1 0) ∧ st' = st3 := by injection h with h; injection h with e1 e2; exact ⟨e1.symm, e2.symm⟩
  obtain ⟨rfl, rfl⟩ := hv
  obtain ⟨fn', tm, ld, g1, g2, g3, g4, g5, g6⟩ := hr.loop hp hl
  have hlen' : args'.size = p.2.2.2.2.1.size := by
    have := ha.length
    have h0 := Nat.eq_of_beq_eq_true hlen
    simp only [Array.length_toList] at this
    omega
  obtain ⟨e1, e2⟩ := putAll_sound p.2.2.2.2.1.toList args args'.toList p.2.2.2.1 tm g2 ha g6
  have htm : ((p.2.2.2.2.1.zip args').foldl (fun tmps (t, a) => tmps.setIfInBounds t a) tm) = ((p.2.2.2.2.1.toList.zip args'.toList).foldl (fun tmps (q, a) => tmps.setIfInBounds q a) tm) := by
    rw [← Array.foldl_toList, Array.toList_zip]
  refine ⟨fn', (p.2.2.2.2.1.zip args').foldl (fun tmps (t, a) => tmps.setIfInBounds t a) tm, p.2.2.2.2.2.1, p.2.2.2.2.2.2.1, ?_, fun ro => ?_⟩
  · simp only [Instr.yield, Sem.run_bind, run_getLoop g1, Result.andThen_ok]
    rw [if_neg (by simp [hlen'])]
    rfl
  · rw [htm]
    refine roundIn_of_wpIn (fen_fn ro _) ?_
    rw [fen_in]
    have hrd : RdR ρ (some l) (some loc.blk) := .inr ⟨l, loc, rfl, hl, rfl⟩
    have w1 := hS _ _ _ _ _ _ _ h1 ρ w { tmps := (p.2.2.2.2.1.toList.zip args'.toList).foldl (fun tmps (q, a) => tmps.setIfInBounds q a) tm, defers := [] } (some loc.blk) hrd (by rw [e2]; exact g4) e1 .nil hr
    refine wpIn_mono w1 fun ex a1 wa hpost => ?_
    obtain ⟨hex, ρ1, s1, t1, d1, n1⟩ := hpost
    have hz0 : r1.1 = 0 := Nat.eq_of_beq_eq_true hz
    rw [hz0] at hex
    subst hex
    have hl1 : ρ1 l = some loc := s1.le hr _ _ hl
    obtain ⟨fn2, tm2, ld2, k1, k2, k3, k4, k5, k6⟩ := s1.hrel.loop hq hl1
    have hstate := isReady_eq hrdy
    obtain ⟨m1, m2⟩ := s1.hrel.setObj (P := P) hst2 hl1 (ORel_state k2 k3 k4 k5 k6) k1 rfl
    refine ⟨_, by rw [run_beginRound_ready k1 hstate, m1]; rfl, ?_⟩
    have hle2 := m2.le s1.hrel
    have w2 := hS _ _ _ _ _ _ _ h2 ρ1 _ a1 (some loc.blk) (.inr ⟨l, loc, rfl, hl1, rfl⟩) (by rw [n1, e2]; exact g5) t1 d1 m2.hrel
    refine wpIn_mono w2 fun ex2 a2 wb hpost2 => ?_
    obtain ⟨hex2, ρ2, s2, t2, d2, n2⟩ := hpost2
    have hl2 : ρ2 l = some loc := s2.le m2.hrel _ _ hl1
    obtain ⟨fn3, tm3, ld3, j1, j2, j3, j4, j5, j6⟩ := s2.hrel.loop hq2 hl2
    have hor : ORel ρ2 loc (.loop (cnd (Nat.beq r2.1 0) .ready .done) (jumpOf r2.1) q2.2.2.1 q2.2.2.2.1 q2.2.2.2.2.1 q2.2.2.2.2.2.1 q2.2.2.2.2.2.2.1 q2.2.2.2.2.2.2.2)
        (.loop { state := if (jumpOf r2.1).isNone then .ready else .done, pending := jumpOf r2.1, fn := fn3, tmps := tm3, params := q2.2.2.2.2.1, assign := q2.2.2.2.2.2.1, body := q2.2.2.2.2.2.2.1, defers := ld3.blk }) := by
      rw [jump_zero, cnd_of]
      exact ORel_state j2 j3 j4 j5 j6
    obtain ⟨i1, i2⟩ := s2.hrel.setObj (P := P) hst3 hl2 hor j1 rfl
    have hstep : Step ρ st w ρ2 st' _ := Step.trans hr s1 (Step.trans s1.hrel m2 (Step.trans m2.hrel s2 i2))
    have hend : (Instr.endRound loc.blk (jumpOf r2.1)).run P wb = .ok (.bool (Nat.beq r2.1 0)) { wb with heap := wb.heap.setIfInBounds loc.blk (.loop { state := if (jumpOf r2.1).isNone then .ready else .done, pending := jumpOf r2.1, fn := fn3, tmps := tm3, params := q2.2.2.2.2.1, assign := q2.2.2.2.2.2.1, body := q2.2.2.2.2.2.2.1, defers := ld3.blk }) } := by
      simp only [Instr.endRound, Sem.run_bind, run_getLoop j1, Result.andThen_ok]
      rw [i1, jump_zero]
      rfl
    rw [hex2]
    have fin : ∃ v' w', (Instr.endRound loc.blk (jumpOf r2.1)).run P wb = .ok v' w' ∧ Ret (fun v' w' => ∃ ρ', V ρ' (.bool (Nat.beq r2.1 0)) v' ∧ Step ρ st w ρ' st' w') (.returned v') w' :=
      ⟨_, _, hend, ρ2, V.bool _, hstep⟩
    match hr21 : r2.1 with
    | 0 => rw [hr21] at fin; exact fin
    | 1 => rw [hr21] at fin; exact fin
    | n + 2 => rw [hr21] at fin; exact fin
end
end Go.Ab

namespace Go.Ab

section
variable {E : Env} {P : Program} {ρ : Ren} {st : St} {w : World} {t : Tr Value} {a : Act} {c : Ctx} {r : Out} {o : Oper}

theorem V.func_inv {f : Fn} {x y : Array Value} {v' : Value} (h : V ρ (.func f x y) v') : ∃ f' x' y', v' = .func f' x' y' ∧ FnR ρ f f' ∧ VL ρ x.toList x'.toList ∧ VL ρ y.toList y'.toList := by
  cases h with
  | func h1 h2 h3 => exact ⟨_, _, _, rfl, h1, h2, h3⟩

theorem exec_call (a : Act) {o : Oper} {f : Operand} {args : Array Operand} {tys : Array TypeId} (ho : o.op = .call { callee := .value f, args := args, argTypes := tys }) {fn : Fn} {x y : Array Value} (hf : a.eval f = .func fn x y) :
    (execOp a.eval o).run P w = (invoke (.fn fn y) (x ++ args.map a.eval)).run P w := by
  simp only [execOp, ho, resolve, Deferred.ofValue, hf, Sem.run_bind, Sem.run_pure, Result.andThen_ok]

theorem hCallV_sound (hC : CallOK P c.S) (hS : CodeOK P c.S) (ht : TR ρ c.t a.tmps) (hr : HRel ρ c.st w) (hd : DsR ρ c.ds a.defers) {f : Operand} {args : Array Operand} {tys : Array TypeId}
    (h : hCallV f args.toList c = some r) (ho : o.op = .call { callee := .value f, args := args, argTypes := tys }) (ro : Option Nat) : OpOK P ρ c.st w a o r ro := by
  simp only [hCallV, bnd_eq] at h
  obtain ⟨fv, hfv, g, hg, vs, hvs, p, hp, h⟩ := h
  obtain ⟨h1, h2, h3⟩ := out_some h
  obtain ⟨x, y, hfe, hx, hy⟩ := asFunc_some hg
  have ef := opv_sound ht hfv
  rw [hfe] at ef
  obtain ⟨fn', x', y', e1, e2, e3, e4⟩ := ef.func_inv
  have eargs : VL ρ vs (args.map a.eval).toList := by rw [Array.toList_map]; exact opvs_sound ht hvs
  have efirst : VL ρ (g.2.1 ++ vs) (x' ++ args.map a.eval).toList := by rw [Array.toList_append, ← hx]; exact e3.append eargs
  have hall : VL ρ (g.2.1 ++ vs ++ g.2.2) (x' ++ args.map a.eval ++ y').toList := by rw [Array.toList_append, ← hy]; exact efirst.append e4
  intro next Q hn
  refine ⟨fun f _ => fen_fn ro f, ?_⟩
  rw [Oper.semAt_eq _ _ _ (fun k hk => by rw [ho] at hk; cases hk), exec_call a ho e1]
  have fin : ∀ v' w', (∃ ρ', V ρ' p.1 v' ∧ Step ρ c.st w ρ' p.2 w') → next (a.put o.dst v') w' := by
    intro v' w' ⟨ρ', g1, g2⟩
    have := hn ρ' v' a.defers w' (by rw [h3]; exact g2) (by rw [h1]; exact g1) (by rw [h2]; exact hd.mono (g2.le hr))
    exact this
  generalize hgf : g.1 = gf at hp e2
  unfold callFn at hp
  split at hp
  · rename_i fid
    cases e2 with
    | func =>
      rcases hC _ _ _ _ _ hp ρ w _ hall hr with ⟨v', w', r1, r2⟩ | ⟨r1, r2⟩
      · show Oper.uponIn _ _ _ _ _ _ _ ((callFunc fid (x' ++ args.map a.eval ++ y')).run P w)
        rw [r1]
        exact fin _ _ r2
      · show Oper.uponIn _ _ _ _ _ _ _ ((callFunc fid (x' ++ args.map a.eval ++ y')).run P w)
        rw [r1]
        refine ⟨fen_n ro, (fen_calls r2).mono fun e w' he => ?_⟩
        cases e with
        | returned v' => exact fin _ _ he
        | panicked ch => exact he.elim
        | outgrown => exact he.elim
  · rename_i l
    cases e2 with
    | yield hl =>
      rename_i loc
      obtain ⟨f0, tmps, assign, body, r1, r2⟩ := hRound_sound hS hr hl efirst hp
      show Oper.uponIn _ _ _ _ _ _ _ ((Instr.yield loc.blk (x' ++ args.map a.eval)).run P w)
      rw [r1]
      refine ⟨fen_n ro, (r2 ro).mono fun e w' he => ?_⟩
      cases e with
      | returned v' => exact fin _ _ he
      | panicked ch => exact he.elim
      | outgrown => exact he.elim
  · cases hp

theorem hDefer_sound (ht : TR ρ c.t a.tmps) (hr : HRel ρ c.st w) (hd : DsR ρ c.ds a.defers) {k : Call} (h : hDefer k c = some r) (ho : o.op = .defer k) {ro : Option Nat} (hrd : RdR ρ c.rd ro) : OpOK P ρ c.st w a o r ro := by
  obtain ⟨callee, args, tys⟩ := k
  simp only [hDefer, grd_eq] at h
  obtain ⟨hnone, h⟩ := h
  have hro : ro = none := by
    rcases hrd with ⟨_, h2⟩ | ⟨l, loc, h1, _, _⟩
    · exact h2
    · rw [h1] at hnone; cases hnone
  subst hro
  cases callee with
  | invoke x m => exact nomatch h
  | builtin b => exact nomatch h
  | value f =>
    simp only [bnd_eq] at h
    obtain ⟨fv, hfv, g, hg, vs, hvs, h⟩ := h
    obtain ⟨x, y, hfe, hx, hy⟩ := asFunc_some hg
    have ef := opv_sound ht hfv
    rw [hfe] at ef
    obtain ⟨fn', x', y', e1, e2, e3, e4⟩ := ef.func_inv
    have eargs : VL ρ vs (args.map a.eval).toList := by rw [Array.toList_map]; exact opvs_sound ht hvs
    have efirst : VL ρ (g.2.1 ++ vs) (x' ++ args.map a.eval).toList := by rw [Array.toList_append, ← hx]; exact e3.append eargs
    generalize hgf : g.1 = gf at h e2
    unfold deferV at h
    split at h
    · rename_i fid
      injection h with h
      subst h
      cases e2 with
      | func =>
        intro next Q hn
        refine ⟨fun f _ => trivial, ?_⟩
        have hrun : (Oper.semAt (fen none).round a.eval o).run P w = .ok (.defer { target := .fn (.func fid) y', args := x' ++ args.map a.eval }) w := by
          show (execOp a.eval o).run P w = _
          simp only [execOp, ho, resolve, Deferred.ofValue, e1, Sem.run_bind, Sem.run_pure, Result.andThen_ok]
        rw [hrun]
        refine hn ρ undef _ w (Step.refl hr) (V.undef ρ) (.cons ⟨?_, ?_⟩ hd)
        · exact .fn (by rw [← hy]; simpa using e4)
        · simpa using efirst
    · cases h
end
end Go.Ab

namespace Go.Ab

section
variable {E : Env} {P : Program} {ρ : Ren} {st : St} {w : World} {t : Tr Value} {a : Act} {c : Ctx} {r : Out} {o : Oper}

/-- one operation, whatever it is, at its place in the text -/
theorem oper_sound (ok : E.Ok P) (hE : c.E = E) (hC : CallOK P c.S) (hS : CodeOK P c.S) (ht : TR ρ c.t a.tmps) (hr : HRel ρ c.st w) (hd : DsR ρ c.ds a.defers) (hid : c.id = none) {ro : Option Nat} (hrd : RdR ρ c.rd ro)
    (h : exec o.op c = some r) : OpOK P ρ c.st w a o r ro := by
  by_cases hdef : ∃ k, o.op = .defer k
  · obtain ⟨k, ho⟩ := hdef
    rw [ho] at h
    exact hDefer_sound ht hr hd (show hDefer k c = some r from h) ho hrd
  have hnd : ∀ k, o.op ≠ .defer k := fun k hk => hdef ⟨k, hk⟩
  by_cases hv : isCallV o.op = true
  · cases ho : o.op <;> rw [ho] at hv <;> try (simp [isCallV] at hv; done)
    case call k =>
      obtain ⟨callee, args, tys⟩ := k
      cases callee with
      | invoke x m => simp [isCallV] at hv
      | builtin b => simp [isCallV] at hv
      | value f =>
        rw [ho] at h
        exact hCallV_sound hC hS ht hr hd (show hCallV f args.toList c = some r from h) ho ro
  have hv : isCallV o.op = false := by simpa using hv
  have hcls : cls o.op = 0 ∨ cls o.op = 1 ∨ cls o.op = 2 ∨ cls o.op = 3 ∨ cls o.op = 4 := by
    unfold cls; split <;> simp
  rcases hcls with hc | hc | hc | hc | hc
  · obtain ⟨h1, h2, h3⟩ := exec_pure (P := P) (w := w) ok hE ht hc h
    exact EffOK.op hr hd hnd (by rw [h3]; exact PureOK.eff hr h1) h2
  · obtain ⟨h1, h2, h3⟩ := exec_read ok hE ht hr hc h
    exact EffOK.op hr hd hnd (by rw [h3]; exact PureOK.eff hr h1) h2
  · obtain ⟨ob, vf, h1, h2⟩ := exec_new (P := P) (w := w) ok hE ht hc h
    rcases new_some h1 with ⟨_, h3⟩ | ⟨id, h3, _⟩
    · subst h3; exact EffOK.op hr hd hnd (NewOK.eff hr h2) rfl
    · rw [hid] at h3; cases h3
  · obtain ⟨h1, h2⟩ := exec_eff ok hE ht hr hid hc hv h
    exact EffOK.op hr hd hnd h1 h2
  · exfalso
    cases ho : o.op <;> rw [ho] at hc <;> try (simp [cls] at hc; done)
    case defer k => exact hdef ⟨k, ho⟩
    case select cs b => rw [ho] at h; exact nomatch (show (none : Option Out) = some r from h)
    case call k =>
      obtain ⟨callee, args, tys⟩ := k
      cases callee with
      | value f => simp [cls] at hc
      | invoke x m => simp [cls] at hc
      | builtin b => cases b <;> simp [cls] at hc

theorem Act.put_size (a : Act) (d : Option Tmp) (v : Value) : (a.put d v).tmps.size = a.tmps.size := by cases d <;> simp [Act.put]
theorem TR.dst (ht : TR ρ t a.tmps) {d : Option Tmp} (hd : ∀ i, d = some i → i < a.tmps.size) {v v' : Value} (hv : V ρ v v') : TR ρ (putDst t d v) (a.put d v').tmps := by
  cases d with
  | none => exact ht
  | some i => exact ht.put (hd i rfl) hv
theorem Act.put_ds (a : Act) (d : Option Tmp) (v : Value) : (a.put d v).defers = a.defers := by cases d <;> rfl

theorem isBool_eq {b : Bool} {v : Value} : isBool b v = true ↔ v = .bool b := by
  cases v <;> simp [isBool]

/-- the guard -/
theorem wanted_eq {ops : Array Oper} (ht : TR ρ t a.tmps) (o : Oper) : wanted ops.toList t o = Region.wanted o (yielded ops a.tmps) := by
  unfold wanted Region.wanted
  cases hg : o.guard with
  | none => rfl
  | some g =>
    obtain ⟨j, b⟩ := g
    have hops : ops.toList[j]? = ops[j]? := by simp
    simp only [hops]
    unfold yielded
    cases hj : ops[j]? with
    | none => simp
    | some o' =>
      simp only [Option.bind_some]
      cases hd : o'.dst with
      | none => simp
      | some d =>
        simp only
        have hv := ht d
        have hgd : (Option.rec false (fun v => isBool b v) (t.get (pos d)) : Bool) = isBool b (getD t d) := by
          unfold getD
          cases t.get (pos d) <;> rfl
        rw [hgd]
        rw [Bool.eq_iff_iff, isBool_eq]
        simp only [Array.getD_eq_getD_getElem?] at hv
        show _ ↔ ((match a.tmps[d]? with
          | some (.bool b) => some b
          | _ => none) == some b) = true
        constructor
        · intro hb
          rw [hb] at hv
          have := hv.bool_inv
          cases hx : a.tmps[d]? with
          | none => rw [hx] at this; cases this
          | some x => rw [hx] at this; simp only [Option.getD_some] at this; rw [this]; simp
        · intro hb
          cases hx : a.tmps[d]? with
          | none => rw [hx] at hb; simp at hb
          | some x =>
            rw [hx] at hb hv
            simp only [Option.getD_some] at hv
            cases x <;> simp at hb
            subst hb
            generalize getD t d = y at hv
            cases hv
            rfl

/-! ### a region in the order of the text -/
theorem operList_cons {E : Env} {S : Self} {rd : Option Nat} {ops : List Oper} (o : Oper) (l : List Oper) (t : Tr Value) (ds : List Deferred) (st : St) :
    operList E S rd ops (o :: l) t ds st = cnd (wanted ops t o)
        (bnd (exec o.op ⟨E, S, rd, none, t, ds, st⟩) fun r => operList E S rd ops l (putDst t o.dst r.v) r.ds r.st)
        (operList E S rd ops l (putDst t o.dst undef) ds st) := rfl

theorem dstFits_lt {n : Nat} {o : Oper} (h : dstFits n o = true) : ∀ i, o.dst = some i → i < n := by
  intro i hi
  unfold dstFits at h
  rw [hi] at h
  simpa using h

theorem operList_sound (ok : E.Ok P) {S : Self} (hC : CallOK P S) (hS : CodeOK P S) {rd ro : Option Nat} {ops : Array Oper} {n : Nat} (hfit : ops.toList.all (dstFits n) = true) {R : Exit → Act → World → Prop} : ∀ (k : Nat) (ρ : Ren) (t : Tr Value) (ds : List Deferred) (st : St) (w : World) (a : Act)
    (x : Tr Value × List Deferred × St), operList E S rd ops.toList (ops.toList.drop k) t ds st = some x → RdR ρ rd ro → TR ρ t a.tmps → DsR ρ ds a.defers → HRel ρ st w → a.tmps.size = n →
    (∀ ρ' a' w', Step ρ st w ρ' x.2.2 w' → TR ρ' x.1 a'.tmps → DsR ρ' x.2.1 a'.defers → a'.tmps.size = n → R .normal a' w') →
    wpOpsIn (fen ro) 0 P ops R ((List.range ops.size).drop k) a w := by
  intro k
  induction hk : ops.size - k generalizing k with
  | zero =>
    intro ρ t ds st w a x h hrd ht hd hr hn hR
    have h1 : ops.toList.drop k = [] := List.drop_eq_nil_of_le (by simp; omega)
    have h2 : (List.range ops.size).drop k = [] := List.drop_eq_nil_of_le (by simp; omega)
    rw [h1] at h
    rw [h2]
    injection h with h
    subst h
    exact hR ρ a w (Step.refl hr) ht hd hn
  | succ m ih =>
    intro ρ t ds st w a x h hrd ht hd hr hn hR
    have hlt : k < ops.size := by omega
    have h1 : ops.toList.drop k = ops[k] :: ops.toList.drop (k + 1) := by
      rw [List.drop_eq_getElem_cons (by simpa using hlt)]
      simp
    have h2 : (List.range ops.size).drop k = k :: (List.range ops.size).drop (k + 1) := by
      rw [List.drop_eq_getElem_cons (by simpa using hlt)]
      simp
    have hok : ops[k]? = some ops[k] := by simp [hlt]
    have hdst : ∀ i, ops[k].dst = some i → i < a.tmps.size := by
      rw [hn]
      refine dstFits_lt (List.all_eq_true.1 hfit _ ?_)
      exact Array.mem_toList_iff.2 (Array.getElem_mem hlt)
    rw [h1, operList_cons, cnd_of, wanted_eq (ops := ops) ht] at h
    rw [h2]
    simp only [wpOpsIn, hok]
    split at h
    · rename_i hw
      rw [if_pos hw]
      simp only [bnd_eq] at h
      obtain ⟨r, hr1, h⟩ := h
      refine oper_sound (c := ⟨E, S, rd, none, t, ds, st⟩) ok rfl hC hS ht hr hd rfl hrd hr1 _ _ fun ρ' v' ds' w' s1 hv hd' => ?_
      have hle := s1.le hr
      refine ih (k + 1) (by omega) ρ' _ _ _ _ _ x h (hrd.mono hle) (TR.dst (a := { a with defers := ds' }) (ht.mono hle) hdst hv) (by rw [Act.put_ds]; exact hd') s1.hrel (by rw [Act.put_size]; exact hn) fun ρ2 a2 w2 s2 ht2 hd2 hn2 => hR ρ2 a2 w2 (s1.trans hr s2) ht2 hd2 hn2
    · rename_i hw
      rw [if_neg hw]
      refine ⟨fun f _ => fen_fn ro f, ?_⟩
      exact ih (k + 1) (by omega) ρ _ _ _ _ _ x h hrd (TR.dst ht hdst (V.undef ρ)) (by rw [Act.put_ds]; exact hd) hr (by rw [Act.put_size]; exact hn) hR
end
end Go.Ab

namespace Go.Ab

section
variable {E : Env} {P : Program} {S : Self} {ρ : Ren} {st : St} {w : World} {t : Tr Value} {a : Act} {ds : List Deferred} {rd ro : Option Nat} {fn : FuncId}

theorem Post.trans (hr : HRel ρ st w) {ρ1 : Ren} {st1 : St} {w1 : World} (hs : Step ρ st w ρ1 st1 w1) {n : Nat} {x : Nat × Tr Value × List Deferred × St} {e : Exit} {a' : Act} {w' : World} (h : Post ρ1 st1 w1 n x e a' w') : Post ρ st w n x e a' w' := by
  obtain ⟨h1, ρ2, h2, h3⟩ := h
  exact ⟨h1, ρ2, hs.trans hr h2, h3⟩

theorem exitOf_normal {n : Nat} (h : exitOf n = .normal) : n = 0 := by
  match n with
  | 0 => rfl
  | 1 => cases h
  | n + 2 => cases h

theorem stepR_scope {b : Frame} {k : List Item} {cs : List Frame} {c : Code} : step P (lone (b.atR a (.code (.scope c) :: k)) cs w) = .next (lone (b.atR a (.code c :: .inScope c :: k)) cs w) :=
  step_lone_go (by simp [stepG, stepG.exec, Frame.atR])
theorem stepR_inScope {b : Frame} {k : List Item} {cs : List Frame} {c : Code} : step P (lone (b.atR a (.inScope c :: k)) cs w) = .next (lone (b.atR a k) cs w) :=
  step_lone_go (by simp [stepG, stepG.exec, Frame.atR])
theorem wpIn_scope {F : Fence} {n : Nat} {Q : Exit → Act → World → Prop} {c : Code} (h : c.wpIn F n P Q a w) (hg : ∀ l a w, ¬ Q (.goto l) a w) : (Code.scope c).wpIn F n P Q a w := by
  intro b k cs hro hb hr
  have h0 : (lone (b.atR a (.code (.scope c) :: k)) cs w).fenced P F := fenced_calm hb hr rfl
  obtain ⟨e, a₁, w₁, hq, harr⟩ := h b (.inScope c :: k) cs hro hb hr
  cases e with
  | normal => exact ⟨.normal, a₁, w₁, hq, .head h0 stepR_scope (StepsIn.trans harr (.one (fenced_calm hb hr rfl) stepR_inScope))⟩
  | exit id =>
    have hx : exitTo id (.inScope c :: k) = exitTo id k := by simp [exitTo]
    exact ⟨.exit id, a₁, w₁, hq, fun k' hk => .head h0 stepR_scope (harr.1 k' (by rw [hx]; exact hk)),
      fun hr' hk => let ⟨k₁, h1, h2⟩ := harr.2 hr' (by rw [hx]; exact hk); ⟨k₁, h1, .head h0 stepR_scope h2⟩⟩
  | goto l => exact absurd hq (hg _ _ _)
  | ret => exact ⟨_, a₁, w₁, hq, .of_steps (.one h0 stepR_scope) harr⟩
  | panic ch => exact ⟨_, a₁, w₁, hq, .of_steps (.one h0 stepR_scope) harr⟩
  | outgrown => exact ⟨_, a₁, w₁, hq, .of_steps (.one h0 stepR_scope) harr⟩

theorem kSeq_sound (hS : CodeOK P S) {x y : Code} {z : Nat × Tr Value × List Deferred × St} (h : kSeq S rd fn x y t ds st = some z) (hrd : RdR ρ rd ro) (hc : codeOk a.tmps.size (.seq x y) = true) (ht : TR ρ t a.tmps)
    (hd : DsR ρ ds a.defers) (hr : HRel ρ st w) : (Code.seq x y).wpIn (fen ro) 0 P (Post ρ st w a.tmps.size z) a w := by
  simp only [codeOk, Bool.and_eq_true] at hc
  simp only [kSeq, bnd_eq] at h
  obtain ⟨r, h1, h⟩ := h
  refine wpIn_seq (wpIn_mono (hS _ _ _ _ _ _ _ h1 ρ w a ro hrd hc.1 ht hd hr) fun e a1 w1 hp => ?_)
  have hp0 := hp
  obtain ⟨he, ρ1, s1, t1, d1, n1⟩ := hp
  rw [cnd_of] at h
  split at h
  · rename_i hz
    have hz : r.1 = 0 := Nat.eq_of_beq_eq_true hz
    rw [hz] at he
    subst he
    have := hS _ _ _ _ _ _ _ h ρ1 w1 a1 ro (hrd.mono (s1.le hr)) (by rw [n1]; exact hc.2) t1 d1 s1.hrel
    exact wpIn_mono this fun e2 a2 w2 hp2 => by rw [n1] at hp2; exact Post.trans hr s1 hp2
  · rename_i hz
    injection h with h
    subst h
    have : e ≠ .normal := fun hh => by
      rw [hh] at he
      have := exitOf_normal he.symm
      rw [this] at hz
      exact hz rfl
    cases e <;> first | exact absurd rfl this | exact hp0

theorem kCond_sound (hS : CodeOK P S) {q : Operand} {x y : Code} {z : Nat × Tr Value × List Deferred × St} (h : kCond S rd fn q x y t ds st = some z) (hrd : RdR ρ rd ro) (hc : codeOk a.tmps.size (.cond q x y) = true) (ht : TR ρ t a.tmps)
    (hd : DsR ρ ds a.defers) (hr : HRel ρ st w) : (Code.cond q x y).wpIn (fen ro) 0 P (Post ρ st w a.tmps.size z) a w := by
  simp only [codeOk, Bool.and_eq_true] at hc
  simp only [kCond, bnd_eq] at h
  obtain ⟨v, hv, b, hb, h⟩ := h
  have e1 := opv_sound ht hv
  rw [asBool_some hb] at e1
  refine wpIn_cond e1.bool_inv ?_
  rw [cnd_of] at h
  split at h
  · rename_i hb; subst hb; exact hS _ _ _ _ _ _ _ h ρ w a ro hrd hc.1 ht hd hr
  · rename_i hb
    have hb : b = false := by simpa using hb
    subst hb
    exact hS _ _ _ _ _ _ _ h ρ w a ro hrd hc.2 ht hd hr

theorem kBlock_sound (hS : CodeOK P S) {id : Nat} {x : Code} {z : Nat × Tr Value × List Deferred × St} (h : kBlock S rd fn id x t ds st = some z) (hrd : RdR ρ rd ro) (hc : codeOk a.tmps.size (.block id x) = true) (ht : TR ρ t a.tmps)
    (hd : DsR ρ ds a.defers) (hr : HRel ρ st w) : (Code.block id x).wpIn (fen ro) 0 P (Post ρ st w a.tmps.size z) a w := by
  simp only [codeOk] at hc
  simp only [kBlock, bnd_eq] at h
  obtain ⟨r, h1, h⟩ := h
  refine wpIn_block (wpIn_mono (hS _ _ _ _ _ _ _ h1 ρ w a ro hrd hc ht hd hr) fun e a1 w1 hp => ?_)
  have hp0 := hp
  obtain ⟨he, ρ1, s1, t1, d1, n1⟩ := hp
  rw [cnd_of] at h
  split at h
  · rename_i hz
    have hz : r.1 = id + 2 := Nat.eq_of_beq_eq_true hz
    rw [hz] at he
    subst he
    injection h with h
    subst h
    show Exit.inBlock id _ (.exit id) a1 w1
    simp only [Exit.inBlock, if_true]
    exact ⟨rfl, ρ1, s1, t1, d1, n1⟩
  · rename_i hz
    injection h with h
    subst h
    have hne : e ≠ .exit id := fun hh => by
      rw [hh] at he
      apply hz
      revert he
      match r.1 with
      | 0 => intro he; cases he
      | 1 => intro he; cases he
      | n + 2 => intro he; injection he with he; subst he; simp
    cases e <;> first
      | exact hp0
      | (rename_i id'
         simp only [Exit.inBlock]
         rw [if_neg (fun hh => hne (by rw [hh]))]
         exact hp0)

theorem roundsIn_mono {F : Fence} {n : Nat} {c : Code} {Q Q' : Exit → Act → World → Prop} (hq : ∀ e a w, Q e a w → Q' e a w) : ∀ (m : Nat) (a : Act) (w : World), Code.roundsIn F n P c Q m a w → Code.roundsIn F n P c Q' m a w := by
  intro m
  induction m with
  | zero => intro a w h; exact h
  | succ m ih =>
    intro a w h
    rw [roundsIn_succ] at h ⊢
    exact wpIn_mono h fun e a' w' he => by cases e <;> first | exact ih _ _ he | exact hq _ _ _ he

def LoopOK (P : Program) (S : Self) (n : Nat) : Prop :=
  ∀ rd fn b t ds st x, S.code rd fn (.loop b) t ds st = some x → ∀ (ρ : Ren) (w : World) (a : Act) (ro : Option Nat), RdR ρ rd ro → codeOk a.tmps.size b = true → TR ρ t a.tmps → DsR ρ ds a.defers → HRel ρ st w →
    Code.roundsIn (fen ro) 0 P b (Post ρ st w a.tmps.size x) n a w

theorem kLoop_sound (hS : CodeOK P S) {n : Nat} (hL : LoopOK P S n) {x : Code} {z : Nat × Tr Value × List Deferred × St} (h : kLoop S rd fn x t ds st = some z) (hrd : RdR ρ rd ro) (hc : codeOk a.tmps.size x = true) (ht : TR ρ t a.tmps)
    (hd : DsR ρ ds a.defers) (hr : HRel ρ st w) : Code.roundsIn (fen ro) 0 P x (Post ρ st w a.tmps.size z) (n + 1) a w := by
  simp only [kLoop, bnd_eq] at h
  obtain ⟨r, h1, h⟩ := h
  rw [roundsIn_succ]
  refine wpIn_mono (hS _ _ _ _ _ _ _ h1 ρ w a ro hrd hc ht hd hr) fun e a1 w1 hp => ?_
  have hp0 := hp
  obtain ⟨he, ρ1, s1, t1, d1, n1⟩ := hp
  rw [cnd_of] at h
  split at h
  · rename_i hz
    have hz : r.1 = 0 := Nat.eq_of_beq_eq_true hz
    rw [hz] at he
    subst he
    have := hL _ _ _ _ _ _ _ h ρ1 w1 a1 ro (hrd.mono (s1.le hr)) (by rw [n1]; exact hc) t1 d1 s1.hrel
    exact roundsIn_mono (fun e2 a2 w2 hp2 => by rw [n1] at hp2; exact Post.trans hr s1 hp2) _ _ _ this
  · rename_i hz
    injection h with h
    subst h
    have : e ≠ .normal := fun hh => by
      rw [hh] at he
      have := exitOf_normal he.symm
      rw [this] at hz
      exact hz rfl
    cases e <;> first | exact absurd rfl this | exact hp0
end
end Go.Ab

namespace Go.Ab

section
variable {E : Env} {P : Program} {S : Self} {ρ : Ren} {st : St} {w : World} {t : Tr Value} {a : Act} {ds : List Deferred} {rd ro : Option Nat} {fn : FuncId}

theorem fnFunc_some {g : Fn} {f : FuncId} (h : fnFunc g = some f) : g = .func f := by cases g <;> simp [fnFunc] at h; subst h; rfl

theorem rangeBody_sound (ok : E.Ok P) (hC : CallOK P S) (hr0 : HRel ρ st w) {ρ2 : Ren} {st2 : St} {w2 : World} (s02 : Step ρ st w ρ2 st2 w2) {l : Nat} {loc : Loc} (hl : ρ2 l = some loc) {g : Operand} {gf : Fn} {first captured : List Value}
    {x y : Array Value} (hg : V ρ2 (.func gf x y) (a.eval g)) (hx : x.toList = first) (hy : y.toList = captured) {mark : List Deferred} (ht : TR ρ2 t a.tmps) (hd : DsR ρ2 ds (mark ++ a.defers)) {z : Nat × Tr Value × List Deferred × St}
    (h : rangeBody E S gf first captured l t ds st2 = some z) (ro : Option Nat) :
    ∃ d fid args, (resolve a.eval (rangeCall g loc.blk) 0).run P w2 = .ok d w2 ∧ (invoke d.target d.args).run P w2 = .ok (.enter fid args) w2 ∧
      CallsIn (fen ro) 0 P fid args w2 (rangePost (fen ro) 0 P loc.blk (Post ρ st w a.tmps.size z) { a with defers := mark ++ a.defers }) := by
  simp only [rangeBody, bnd_eq, grd_eq] at h
  obtain ⟨fid, hfid, fn, hfn, body, hbody, r, hcall, q, hq, hbusy, st3, hst3, e, he, h⟩ := h
  have := fnFunc_some hfid
  subst this
  injection h with h
  subst h
  obtain ⟨fn', x', y', e1, e2, e3, e4⟩ := hg.func_inv
  cases e2
  have hargs : VL ρ2 (first ++ [Value.func (.yield l) #[] #[]] ++ captured) (x' ++ #[Value.func (.yield loc.blk) #[] #[]] ++ y').toList := by
    rw [Array.toList_append, Array.toList_append, ← hx, ← hy]
    have hy1 : VL ρ2 [.func (.yield l) #[] #[]] [.func (.yield loc.blk) #[] #[]] := VL.cons (V.func (FnR.yield hl) VL.nil VL.nil) VL.nil
    exact (e3.append hy1).append e4
  refine ⟨{ target := .fn (.func fid) y', args := x' ++ #[Value.func (.yield loc.blk) #[] #[]] }, fid, _, ?_, ok.enter fid fn body hfn hbody _ w2, ?_⟩
  · simp only [resolve, Deferred.ofValue, e1, Sem.run_bind, Sem.run_pure, Result.andThen_ok]
    simp [Act.eval]
  · rcases hC _ _ _ _ _ hcall ρ2 w2 _ hargs s02.hrel with ⟨v', w', h1, _⟩ | ⟨_, h2⟩
    · rw [ok.enter fid fn body hfn hbody _ w2] at h1
      cases h1
    · refine (fen_calls h2).mono fun en w3 hen => ?_
      cases en with
      | panicked ch => exact hen.elim
      | outgrown => exact hen.elim
      | returned v =>
        obtain ⟨ρ3, _, s3⟩ := hen
        have hl3 := s3.le s02.hrel _ _ hl
        obtain ⟨fn3, tm3, ld3, j1, j2, j3, j4, j5, j6⟩ := s3.hrel.loop hq hl3
        obtain ⟨i1, i2⟩ := s3.hrel.setObj (P := P) hst3 hl3 (ORel_state (s' := .exhausted) (p' := q.2.1) j2 j3 j4 j5 j6) j1 rfl
        have hend : (Instr.endLoop loc.blk).run P w3 = .ok q.2.1 { w3 with heap := w3.heap.setIfInBounds loc.blk (.loop { state := .exhausted, pending := q.2.1, fn := fn3, tmps := tm3, params := q.2.2.2.2.1, assign := q.2.2.2.2.2.1, body := q.2.2.2.2.2.2.1, defers := ld3.blk }) } := by
          simp only [Instr.endLoop, Sem.run_bind, run_getLoop j1, Result.andThen_ok, isBusy_ne hbusy]
          simp only [Bool.false_eq_true, if_false, Sem.run_bind, Result.andThen_ok, Sem.run_pure]
          rw [i1]
          rfl
        refine ⟨_, _, hend, ?_⟩
        have hall := s02.trans hr0 (s3.trans s02.hrel i2)
        have hle := (s3.trans s02.hrel i2).le s02.hrel
        have post : ∀ {ex : Exit}, ex = exitOf e → Post ρ st w a.tmps.size (e, t, ds, st3) ex { a with defers := mark ++ a.defers } { w3 with heap := w3.heap.setIfInBounds loc.blk (.loop { state := .exhausted, pending := q.2.1, fn := fn3, tmps := tm3, params := q.2.2.2.2.1, assign := q.2.2.2.2.2.1, body := q.2.2.2.2.2.2.1, defers := ld3.blk }) } :=
          fun hex => ⟨hex, _, hall, ht.mono hle, hd.mono hle, rfl⟩
        generalize hj : q.2.1 = j at he post ⊢
        cases j with
        | none => injection he with he; subst he; exact post rfl
        | some cd =>
          cases cd <;> simp [exOf] at he
          · subst he; exact wpIn_exit (post rfl)
          · subst he; exact wpIn_ret (post rfl)

theorem kRangeFunc_sound (ok : E.Ok P) (hC : CallOK P S) {g : Operand} {ps : Array Tmp} {ca cb : Code} {z : Nat × Tr Value × List Deferred × St} (h : kRangeFunc E S rd fn g ps ca cb t ds st = some z) (hrd : RdR ρ rd ro)
    (hc : codeOk a.tmps.size (.rangeFunc g ps ca cb) = true) (ht : TR ρ t a.tmps) (hd : DsR ρ ds a.defers) (hr : HRel ρ st w) : (Code.rangeFunc g ps ca cb).wpIn (fen ro) 0 P (Post ρ st w a.tmps.size z) a w := by
  simp only [codeOk, Bool.and_eq_true] at hc
  obtain ⟨⟨hc1, hc2⟩, hc3⟩ := hc
  have hps : ∀ q ∈ ps.toList, q < a.tmps.size := fun q hq => by
    have := List.all_eq_true.1 hc1 q hq
    simpa using this
  simp only [kRangeFunc, bnd_eq] at h
  obtain ⟨fv, hfv, p, hp, h⟩ := h
  obtain ⟨x, y, hfe, hx, hy⟩ := asFunc_some hp
  have ef := opv_sound ht hfv
  rw [hfe] at ef
  refine wpIn_rangeFunc fun fn0 _ => ?_
  rcases hrd with ⟨h1, h2⟩ | ⟨l0, loc0, h1, h2, h3⟩
  · subst h1 h2
    have s1 := hr.new (n := 0) (o := .defd (some [])) (o' := .deferred (some [])) (fun ρ' _ => ⟨[], rfl, .nil⟩) { w with heap := w.heap.push (.deferred (some [])) } rfl rfl rfl rfl
    have hle1 := s1.le hr
    generalize hρ1 : (fun b => if b = st.nx then some (⟨w.heap.size, 0, 0⟩ : Loc) else ρ b) = ρ1 at s1 hle1
    have hk1 : ρ1 st.nx = some ⟨w.heap.size, 0, 0⟩ := by rw [← hρ1]; simp
    have s2 := s1.hrel.new (n := 0) (o := .loop .ready none fn t ps ca cb st.nx)
      (o' := .loop { state := .ready, pending := none, fn := fn0, tmps := a.tmps, params := ps, assign := ca, body := cb, defers := w.heap.size })
      (fun ρ' hle => ⟨fn0, a.tmps, ⟨w.heap.size, 0, 0⟩, rfl, ht.mono (Ren.le_trans hle1 hle), hle _ _ hk1, hc2, hc3, hps⟩)
      { w with heap := (w.heap.push (.deferred (some []))).push (.loop { state := .ready, pending := none, fn := fn0, tmps := a.tmps, params := ps, assign := ca, body := cb, defers := w.heap.size }) } rfl rfl rfl rfl
    have hle2 := s2.le s1.hrel
    have hl2 : (fun b => if b = (Go.Ab.alloc st (.defd (some []))).nx then some (⟨(w.heap.push (.deferred (some []))).size, 0, 0⟩ : Loc) else ρ1 b) (Nat.add st.nx 1) = some ⟨(w.heap.push (.deferred (some []))).size, 0, 0⟩ := by
      have : (Go.Ab.alloc st (.defd (some []))).nx = Nat.add st.nx 1 := rfl
      simp [this]
    obtain ⟨d, fid, args, r1, r2, r3⟩ := rangeBody_sound (ρ := ρ) (st := st) (w := w) ok hC hr (s1.trans hr s2) hl2 (ef.mono (Ren.le_trans hle1 hle2)) hx hy (mark := [{ target := .collected w.heap.size, args := #[] }])
      (ht.mono (Ren.le_trans hle1 hle2)) (.cons ⟨TgR.collected (l := ⟨w.heap.size, 0, 0⟩) (hle2 _ _ hk1), .nil⟩ (hd.mono (Ren.le_trans hle1 hle2))) h none
    exact ⟨_, _, _, d, _, fid, args, _, rfl, r1, fun _ _ => trivial, r2, fen_n none, r3⟩
  · subst h1 h3
    simp only [bnd_eq] at h
    obtain ⟨q, hq, h⟩ := h
    obtain ⟨fn3, tm3, ld3, j1, j2, j3, j4, j5, j6⟩ := hr.loop hq h2
    have s2 := hr.new (n := 0) (o := .loop .ready none fn t ps ca cb q.2.2.2.2.2.2.2)
      (o' := .loop { state := .ready, pending := none, fn := fn0, tmps := a.tmps, params := ps, assign := ca, body := cb, defers := ld3.blk })
      (fun ρ' hle => ⟨fn0, a.tmps, ld3, rfl, ht.mono hle, hle _ _ j3, hc2, hc3, hps⟩)
      { w with heap := w.heap.push (.loop { state := .ready, pending := none, fn := fn0, tmps := a.tmps, params := ps, assign := ca, body := cb, defers := ld3.blk }) } rfl rfl rfl rfl
    have hle2 := s2.le hr
    have hl2 : (fun b => if b = st.nx then some (⟨w.heap.size, 0, 0⟩ : Loc) else ρ b) st.nx = some ⟨w.heap.size, 0, 0⟩ := by simp
    obtain ⟨d, fid, args, r1, r2, r3⟩ := rangeBody_sound (ρ := ρ) (st := st) (w := w) ok hC hr s2 hl2 (ef.mono hle2) hx hy (mark := [])
      (ht.mono hle2) (hd.mono hle2) h (some loc0.blk)
    refine ⟨_, [], _, d, _, fid, args, _, ?_, r1, fun _ _ => trivial, r2, fen_n (some loc0.blk), r3⟩
    show (Instr.enterLoop fn0 a.tmps ps ca cb (some loc0.blk)).run P w = _
    simp only [Instr.enterLoop, Sem.run_bind, run_getLoop j1, Result.andThen_ok, Sem.run_pure, run_newObj]
end
end Go.Ab

namespace Go.Ab

section
variable {t t' : Tr Value}

theorem bnd_congr {α β : Type} {x : Option α} {f g : α → Option β} (h : ∀ a, x = some a → f a = g a) : bnd x f = bnd x g := by
  cases x with
  | none => rfl
  | some a => exact h a rfl

theorem opvs_congr {xs : List Operand} (h : ∀ x ∈ xs, opv t x = opv t' x) : opvs t xs = opvs t' xs := by
  induction xs with
  | nil => rfl
  | cons x xs ih => rw [opvs_cons, opvs_cons, h x (by simp), ih fun y hy => h y (by simp [hy])]
theorem opvo_congr {x : Option Operand} (h : ∀ y, x = some y → opv t y = opv t' y) : opvo t x = opvo t' x := by
  cases x with
  | none => rfl
  | some y => simp only [opvo, h y rfl]
theorem partVals_congr {ps : List (Nat × Operand)} (h : ∀ x ∈ ps.map (·.2), opv t x = opv t' x) : partVals t ps = partVals t' ps := by
  induction ps with
  | nil => rfl
  | cons p ps ih => rw [partVals_cons, partVals_cons, h p.2 (by simp), ih fun y hy => h y (by simp at hy ⊢; exact .inr hy)]

theorem mem_of_get {xs : List Operand} {i : Nat} {x : Operand} (h : xs[i]? = some x) : x ∈ xs := List.mem_of_getElem? h

theorem hBuiltin_congr {E : Env} {S : Self} {rd id : Option Nat} {ds : List Deferred} {st : St} {b : Builtin} {args : List Operand} {tys : List TypeId} (h : ∀ x ∈ args, opv t x = opv t' x) :
    hBuiltin b args tys ⟨E, S, rd, id, t, ds, st⟩ = hBuiltin b args tys ⟨E, S, rd, id, t', ds, st⟩ := by
  cases b <;> try rfl
  case append =>
    simp only [hBuiltin, hAppend]
    refine bnd_congr fun _ _ => bnd_congr fun _ _ => bnd_congr fun s hs => bnd_congr fun x hx => ?_
    simp only [Ctx.ev, h s (mem_of_get hs), h x (mem_of_get hx)]
    rfl
  case cap =>
    simp only [hBuiltin, hCap]
    refine bnd_congr fun _ _ => bnd_congr fun x hx => ?_
    simp only [Ctx.ev, h x (mem_of_get hx)]
    rfl
  case copy =>
    simp only [hBuiltin, hCopy]
    refine bnd_congr fun _ _ => bnd_congr fun s hs => bnd_congr fun x hx => ?_
    simp only [Ctx.ev, h s (mem_of_get hs), h x (mem_of_get hx)]
    rfl
  case delete =>
    simp only [hBuiltin, hDelete]
    refine bnd_congr fun _ _ => bnd_congr fun s hs => bnd_congr fun x hx => ?_
    simp only [Ctx.ev, h s (mem_of_get hs), h x (mem_of_get hx)]
    rfl
  case len =>
    simp only [hBuiltin, hLen]
    refine bnd_congr fun _ _ => bnd_congr fun x hx => ?_
    simp only [Ctx.ev, h x (mem_of_get hx)]
    rfl
  case min =>
    simp only [hBuiltin, hMinMax]
    split
    · rename_i x y
      simp only [Ctx.ev, h x (by simp), h y (by simp)]
      rfl
    · rfl
  case max =>
    simp only [hBuiltin, hMinMax]
    split
    · rename_i x y
      simp only [Ctx.ev, h x (by simp), h y (by simp)]
      rfl
    · rfl
  case unsafeSliceData =>
    simp only [hBuiltin, hUnsafeSliceData]
    split
    · rename_i x
      simp only [Ctx.ev, h x (by simp)]
      rfl
    · rfl
  case unsafeString =>
    simp only [hBuiltin, hUnsafeString]
    split
    · rename_i x y
      simp only [Ctx.ev, h x (by simp), h y (by simp)]
      rfl
    · rfl

theorem exec_congr {E : Env} {S : Self} {rd id : Option Nat} {ds : List Deferred} {st : St} (o : Op) (hnd : ∀ k, o ≠ .defer k) (h : ∀ x ∈ o.operands, opv t x = opv t' x) :
    exec o ⟨E, S, rd, id, t, ds, st⟩ = exec o ⟨E, S, rd, id, t', ds, st⟩ := by
  cases o <;> simp only [Op.operands] at h <;> try rfl
  case move x => show hMove x _ = hMove x _; simp only [hMove, Ctx.ev, h x (by simp)]; rfl
  case assign x => show hMove x _ = hMove x _; simp only [hMove, Ctx.ev, h x (by simp)]; rfl
  case pick b x y => show hPick b x y _ = hPick b x y _; simp only [hPick, Ctx.ev, h b (by simp), h x (by simp), h y (by simp)]; rfl
  case box ty x => show hBox ty x _ = hBox ty x _; simp only [hBox, Ctx.ev, h x (by simp)]; rfl
  case build ty ps => show hBuild ty ps _ = hBuild ty ps _; simp only [hBuild]; rw [partVals_congr (t := t) (t' := t') (fun x hx => h x (by simpa using hx))]; rfl
  case buildSlice ty n ps => show hBuildSlice ty n ps _ = hBuildSlice ty n ps _; simp only [hBuildSlice]; rw [partVals_congr (t := t) (t' := t') (fun x hx => h x (by simpa using hx))]; rfl
  case insert ty m k x => show hMapPut ty m k x _ = hMapPut ty m k x _; simp only [hMapPut, Ctx.ev, h m (by simp), h k (by simp), h x (by simp)]; rfl
  case load ty x => show hLoad ty x _ = hLoad ty x _; simp only [hLoad, Ctx.ev, h x (by simp)]; rfl
  case store ty x y => show hStore ty x y _ = hStore ty x y _; simp only [hStore, Ctx.ev, h x (by simp), h y (by simp)]; rfl
  case nilCheck x => show hNilCheck x _ = hNilCheck x _; simp only [hNilCheck, Ctx.ev, h x (by simp)]; rfl
  case binOp op ty x y yt => show hBin op ty x y yt _ = hBin op ty x y yt _; simp only [hBin, Ctx.ev, h x (by simp), h y (by simp)]; rfl
  case unOp op ty x => show hUn op ty x _ = hUn op ty x _; simp only [hUn, Ctx.ev, h x (by simp)]; rfl
  case convert s d x => show hConvert s d x _ = hConvert s d x _; simp only [hConvert, Ctx.ev, h x (by simp)]; rfl
  case makeInterface ty x => show hMakeInterface ty x _ = hMakeInterface ty x _; simp only [hMakeInterface, Ctx.ev, h x (by simp)]; rfl
  case makeFunc fn x y =>
    show hMakeFunc fn x y _ = hMakeFunc fn x y _
    simp only [hMakeFunc]
    rw [opvs_congr (t := t) (t' := t') (xs := x.toList) (fun z hz => h z (by simp; exact .inl (by simpa using hz))), opvs_congr (t := t) (t' := t') (xs := y.toList) (fun z hz => h z (by simp; exact .inr (by simpa using hz)))]
    rfl
  case makeMap ty r =>
    show hMakeMap ty r _ = hMakeMap ty r _
    simp only [hMakeMap]
    rw [opvo_congr (t := t) (t' := t') (fun y hy => h y (by subst hy; simp))]
    rfl
  case makeSlice ty l k => show hMakeSlice ty l k _ = hMakeSlice ty l k _; simp only [hMakeSlice, Ctx.ev, h l (by simp), h k (by simp)]; rfl
  case slice ty x lo hi mx =>
    show hSlice ty x lo hi mx _ = hSlice ty x lo hi mx _
    simp only [hSlice, Ctx.ev, h x (by simp)]
    rw [opvo_congr (t := t) (t' := t') (x := lo) (fun y hy => h y (by subst hy; simp)), opvo_congr (t := t) (t' := t') (x := hi) (fun y hy => h y (by subst hy; simp)), opvo_congr (t := t) (t' := t') (x := mx) (fun y hy => h y (by subst hy; simp))]
    rfl
  case fieldAddr s x f => show hFieldAddr s x f _ = hFieldAddr s x f _; simp only [hFieldAddr, Ctx.ev, h x (by simp)]; rfl
  case field s x f => show hField s x f _ = hField s x f _; simp only [hField, Ctx.ev, h x (by simp)]; rfl
  case indexAddr ty x i => show hIndexAddr ty x i _ = hIndexAddr ty x i _; simp only [hIndexAddr, Ctx.ev, h x (by simp), h i (by simp)]; rfl
  case index ty x i => show hIndex ty x i _ = hIndex ty x i _; simp only [hIndex, Ctx.ev, h x (by simp), h i (by simp)]; rfl
  case lookup ty x i k => show hLookup ty x i k _ = hLookup ty x i k _; simp only [hLookup, Ctx.ev, h x (by simp), h i (by simp)]; rfl
  case mapUpdate ty m k x => show hMapPut ty m k x _ = hMapPut ty m k x _; simp only [hMapPut, Ctx.ev, h m (by simp), h k (by simp), h x (by simp)]; rfl
  case mapEntry ty m k => show hMapEntry ty m k _ = hMapEntry ty m k _; simp only [hMapEntry, Ctx.ev, h m (by simp), h k (by simp)]; rfl
  case entryStore ty m k x => show hEntryStore ty m k x _ = hEntryStore ty m k x _; simp only [hEntryStore, Ctx.ev, h m (by simp), h k (by simp), h x (by simp)]; rfl
  case range ty x => show hRange ty x _ = hRange ty x _; simp only [hRange, Ctx.ev, h x (by simp)]; rfl
  case entry x => show hEntry x _ = hEntry x _; simp only [hEntry, Ctx.ev, h x (by simp)]; rfl
  case next x s => show hNext x s _ = hNext x s _; simp only [hNext, Ctx.ev, h x (by simp)]; rfl
  case extract x i => show hExtract x i _ = hExtract x i _; simp only [hExtract, Ctx.ev, h x (by simp)]; rfl
  case call k =>
    obtain ⟨callee, args, tys⟩ := k
    simp only [Call.operands] at h
    cases callee with
    | invoke x m => rfl
    | builtin b => exact hBuiltin_congr (fun x hx => h x (by simp; simpa using hx))
    | value f =>
      show hCallV f args.toList _ = hCallV f args.toList _
      simp only [hCallV, Ctx.ev, h f (by simp)]
      rw [opvs_congr (t := t) (t' := t') (xs := args.toList) (fun z hz => h z (by simp; exact .inr (by simpa using hz)))]
      rfl
  case defer k => exact absurd rfl (hnd k)

theorem veqL_cons (ih : Value → Value → Bool) (x y : Value) (xs ys : List Value) : veqL ih (x :: xs) (y :: ys) = (ih x y && veqL ih xs ys) := rfl
theorem veqL_eq {ih : Value → Value → Bool} (h : ∀ x y, ih x y = true → x = y) : ∀ (xs ys : List Value), veqL ih xs ys = true → xs = ys := by
  intro xs
  induction xs with
  | nil => intro ys hh; cases ys with
    | nil => rfl
    | cons y ys => exact nomatch hh
  | cons x xs ihx => intro ys hh; cases ys with
    | nil => exact nomatch hh
    | cons y ys =>
      rw [veqL_cons, Bool.and_eq_true] at hh
      rw [h _ _ hh.1, ihx _ hh.2]
theorem veqStep_eq {ih : Value → Value → Bool} (h : ∀ x y, ih x y = true → x = y) (x y : Value) (hh : veqStep ih x y = true) : x = y := by
  have hl : ∀ (a b : Array Value), veqL ih a.toList b.toList = true → a = b := fun a b hab => Array.toList_inj.1 (veqL_eq h _ _ hab)
  unfold veqStep at hh
  split at hh <;> try simp only [Bool.and_eq_true, Nat.beq_eq, beq_iff_eq] at hh
  · rw [hh]
  · obtain ⟨h1, h2⟩ := hh
    have : ikEq _ _ = true := h1
    simp only [ikEq, beq_iff_eq] at this
    rw [this, h2]
  · congr 1
    apply ByteArray.ext
    exact Array.toList_inj.1 hh
  · rfl
  · rw [hh.1, hh.2]
  · rw [hh.1, hh.2]
  · obtain ⟨⟨⟨h1, h2⟩, h3⟩, h4⟩ := hh; rw [h1, h2, h3, h4]
  · rfl
  · rw [hh]
  · obtain ⟨⟨h1, h2⟩, h3⟩ := hh; rw [h1, hl _ _ h2, hl _ _ h3]
  · rfl
  · rfl
  · rw [hh.1, h _ _ hh.2]
  · rw [hl _ _ hh]
  · rw [hl _ _ hh]
  · cases hh
theorem veqN_eq : ∀ (n : Nat) (x y : Value), veqN n x y = true → x = y := by
  intro n
  induction n with
  | zero => intro x y h; exact nomatch h
  | succ n ih => intro x y h; exact veqStep_eq ih x y h
end
end Go.Ab

namespace Go.Ab

/-! ### what comes before what -/
inductive Bef (ops : Array Oper) : Nat → Nat → Prop where
  | base {j : Nat} {o : Oper} {e : Edge} : ops[j]? = some o → e ∈ o.after → Region.binds .any e = true → Bef ops e.on j
  | step {i j : Nat} {o : Oper} {e : Edge} : ops[j]? = some o → e ∈ o.after → Region.binds .any e = true → Bef ops i e.on → Bef ops i j

noncomputable def optNat (x : Option Nat) : Nat := Option.rec 0 (fun x => x) x
theorem befr_eq (m : Tr Nat) (i j : Nat) : befr m i j = Nat.testBit (optNat (m.get (pos j))) i := rfl

theorem maskOf_cons (m : Tr Nat) (e : Edge) (es : List Edge) : maskOf m (e :: es) = cnd (Region.binds .any e) (Nat.lor (Nat.lor (maskOf m es) (Nat.shiftLeft 1 e.on)) (optNat (m.get (pos e.on)))) (maskOf m es) := rfl
theorem maskOf_bit {m : Tr Nat} {es : List Edge} {i : Nat} (h : Nat.testBit (maskOf m es) i = true) : ∃ e ∈ es, Region.binds .any e = true ∧ (i = e.on ∨ Nat.testBit (optNat (m.get (pos e.on))) i = true) := by
  induction es with
  | nil => simp [maskOf] at h
  | cons e es ih =>
    rw [maskOf_cons, cnd_of] at h
    split at h
    · rename_i hb
      have h : Nat.testBit ((maskOf m es ||| (1 <<< e.on)) ||| optNat (m.get (pos e.on))) i = true := h
      rw [Nat.testBit_or, Nat.testBit_or, Bool.or_eq_true, Bool.or_eq_true] at h
      rcases h with (h | h) | h
      · obtain ⟨e', h1, h2⟩ := ih h
        exact ⟨e', by simp [h1], h2⟩
      · rw [Nat.testBit_shiftLeft] at h
        simp only [Bool.and_eq_true, decide_eq_true_eq] at h
        have hi : i = e.on := by
          by_cases hh : i - e.on = 0
          · omega
          · have h2 := h.2
            rw [Nat.testBit_lt_two_pow (Nat.one_lt_two_pow hh)] at h2
            cases h2
        exact ⟨e, by simp, hb, .inl hi⟩
      · exact ⟨e, by simp, hb, .inr h⟩
    · obtain ⟨e', h1, h2⟩ := ih h
      exact ⟨e', by simp [h1], h2⟩

theorem masksFrom_cons (o : Oper) (l : List Oper) (i : Nat) (m : Tr Nat) : masksFrom (o :: l) i m = masksFrom l (i + 1) (m.put (some (maskOf m o.after.toList)) (pos i)) := rfl
theorem masksFrom_bef (ops : Array Oper) : ∀ (l : List Oper) (i : Nat) (m : Tr Nat), ops.toList.drop i = l → (∀ j k, Nat.testBit (optNat (m.get (pos j))) k = true → Bef ops k j) →
    ∀ j k, Nat.testBit (optNat ((masksFrom l i m).get (pos j))) k = true → Bef ops k j := by
  intro l
  induction l with
  | nil => intro i m _ hm; exact hm
  | cons o l ih =>
    intro i m hl hm
    rw [masksFrom_cons]
    have ho : ops[i]? = some o := by
      have : (ops.toList.drop i)[0]? = some o := by rw [hl]; rfl
      simpa using this
    refine ih (i + 1) _ (by rw [← List.drop_drop, hl]; rfl) fun j k h => ?_
    rw [Tr.get_put_pos] at h
    split at h
    · rename_i hij
      subst hij
      obtain ⟨e, h1, h2, h3⟩ := maskOf_bit h
      have he : e ∈ o.after := by simpa using h1
      rcases h3 with h3 | h3
      · subst h3; exact .base ho he h2
      · exact .step ho he h2 (hm _ _ h3)
    · exact hm _ _ h

theorem befr_bef {ops : Array Oper} {i j : Nat} (h : befr (masks ops.toList) i j = true) : Bef ops i j :=
  masksFrom_bef ops ops.toList 0 .leaf rfl (fun j k h => by rw [Tr.get_leaf] at h; simp [optNat] at h) j i h

theorem backOk_cons (o : Oper) (l : List Oper) (i : Nat) : backOk (o :: l) i = cnd (o.after.toList.all fun e => !Region.binds .any e || Nat.blt e.on i) (backOk l (i + 1)) false := rfl
theorem backOk_spec (ops : Array Oper) : ∀ (l : List Oper) (i : Nat), ops.toList.drop i = l → backOk l i = true → ∀ j o e, i ≤ j → ops[j]? = some o → e ∈ o.after → Region.binds .any e = true → e.on < j := by
  intro l
  induction l with
  | nil =>
    intro i hl _ j o e hij ho
    have := (Array.getElem?_eq_some_iff.1 ho).1
    have hlen : (ops.toList.drop i).length = 0 := by rw [hl]; rfl
    simp at hlen
    omega
  | cons o' l ih =>
    intro i hl hb j o e hij ho he hbind
    rw [backOk_cons, cnd_of] at hb
    split at hb
    · rename_i hall
      by_cases hj : i = j
      · subst hj
        have ho' : ops[i]? = some o' := by
          have : (ops.toList.drop i)[0]? = some o' := by rw [hl]; rfl
          simpa using this
        rw [ho] at ho'
        injection ho' with ho'
        subst ho'
        have := List.all_eq_true.1 hall e (by simpa using he)
        rw [hbind] at this
        simpa using this
      · exact ih (i + 1) (by rw [← List.drop_drop, hl]; rfl) hb j o e (by omega) ho he hbind
    · cases hb
theorem Bef.lt {ops : Array Oper} (hb : backOk ops.toList 0 = true) {i j : Nat} (h : Bef ops i j) : i < j := by
  induction h with
  | base h1 h2 h3 => exact backOk_spec ops ops.toList 0 rfl hb _ _ _ (Nat.zero_le _) h1 h2 h3
  | step h1 h2 h3 _ ih => exact Nat.lt_trans ih (backOk_spec ops ops.toList 0 rfl hb _ _ _ (Nat.zero_le _) h1 h2 h3)

theorem pairsOf_cons (ops : Array Oper) (m : Tr Nat) (i : Nat) (oi oj : Oper) (l : List Oper) (j : Nat) : pairsOf ops m i oi (oj :: l) j = cnd (pairOk ops m i oi j oj) (pairsOf ops m i oi l (j + 1)) false := rfl
theorem pairsOf_spec {ops : Array Oper} {m : Tr Nat} {i : Nat} {oi : Oper} : ∀ (l : List Oper) (j : Nat), pairsOf ops m i oi l j = true → ∀ k oj, l[k]? = some oj → pairOk ops m i oi (j + k) oj = true := by
  intro l
  induction l with
  | nil => intro j _ k oj h; simp at h
  | cons o l ih =>
    intro j h k oj hk
    rw [pairsOf_cons, cnd_of] at h
    split at h
    · rename_i h1
      cases k with
      | zero => simp at hk; subst hk; exact h1
      | succ k => have := ih (j + 1) h k oj (by simpa using hk); rwa [show j + 1 + k = j + (k + 1) by omega] at this
    · cases h
theorem allPairs_cons (ops : Array Oper) (m : Tr Nat) (oi : Oper) (l : List Oper) (i : Nat) : allPairs ops m (oi :: l) i = cnd (pairsOf ops m i oi l (i + 1)) (allPairs ops m l (i + 1)) false := rfl
theorem allPairs_spec {ops : Array Oper} {m : Tr Nat} : ∀ (l : List Oper) (i : Nat), allPairs ops m l i = true → ∀ k k' oi oj, k < k' → l[k]? = some oi → l[k']? = some oj → pairOk ops m (i + k) oi (i + k') oj = true := by
  intro l
  induction l with
  | nil => intro i _ k k' oi oj _ h; simp at h
  | cons o l ih =>
    intro i h k k' oi oj hlt hk hk'
    rw [allPairs_cons, cnd_of] at h
    split at h
    · rename_i h1
      cases k' with
      | zero => omega
      | succ k' =>
        cases k with
        | zero =>
          simp at hk
          subst hk
          have := pairsOf_spec _ _ h1 k' oj (by simpa using hk')
          rwa [show i + 1 + k' = i + (k' + 1) by omega] at this
        | succ k =>
          have := ih (i + 1) h k k' oi oj (by omega) (by simpa using hk) (by simpa using hk')
          rwa [show i + 1 + k = i + (k + 1) by omega, show i + 1 + k' = i + (k' + 1) by omega] at this
    · cases h

/-- two operations of a region, by the checks -/
structure Drawn (ops : Array Oper) : Prop where
  le3 : ∀ (i : Nat) (o : Oper), ops[i]? = some o → cls o.op ≤ 3
  back : ∀ i j, Bef ops i j → i < j
  pair : ∀ (i j : Nat) (oi oj : Oper), i < j → ops[i]? = some oi → ops[j]? = some oj → Bef ops i j ∨ (oi.apart ops oj = true ∧ ¬ (3 ≤ cls oi.op ∧ 3 ≤ cls oj.op))
  on : ∀ (j : Nat) (o : Oper) (e : Edge), ops[j]? = some o → e ∈ o.after → Region.binds .any e = true → e.on < j

theorem drawnOk_spec {ops : Array Oper} (h : drawnOk ops = true) : Drawn ops := by
  simp only [drawnOk, Bool.and_eq_true] at h
  obtain ⟨⟨h1, h2⟩, h3⟩ := h
  refine ⟨fun i o ho => ?_, fun i j hb => hb.lt h2, fun i j oi oj hlt hi hj => ?_, fun j o e ho he hb => backOk_spec ops ops.toList 0 rfl h2 j o e (Nat.zero_le _) ho he hb⟩
  · have := List.all_eq_true.1 h1 o (Array.mem_toList_iff.2 (Array.mem_of_getElem? ho))
    simpa using this
  · have := allPairs_spec _ _ h3 i j oi oj hlt (by simpa using hi) (by simpa using hj)
    simp only [Nat.zero_add, pairOk, Bool.or_eq_true, Bool.and_eq_true, Bool.not_eq_true'] at this
    rcases this with h | ⟨h4, h5⟩
    · exact .inl (befr_bef h)
    · refine .inr ⟨h4, fun hh => ?_⟩
      have e1 : Nat.ble 3 (cls oi.op) = true := by simpa using hh.1
      have e2 : Nat.ble 3 (cls oj.op) = true := by simpa using hh.2
      rw [e1, e2] at h5
      cases h5
end Go.Ab

namespace Go.Ab

section
variable {E : Env} {S : Self} {rd : Option Nat} {base : Nat} {ops : Array Oper} {ds : List Deferred}

def TraceAt (E : Env) (S : Self) (rd : Option Nat) (base : Nat) (ops : Array Oper) (ds : List Deferred) (tt : Nat → Tr Value) (ss : Nat → St) (vv : Nat → Value) (recs : List Rec) (j : Nat) (o : Oper) : Prop :=
  tt (j + 1) = putDst (tt j) o.dst (vv j) ∧
  ((wanted ops.toList (tt j) o = true ∧ (∃ r, exec o.op ⟨E, S, rd, cnd (Nat.beq (cls o.op) 2) (some (Nat.add base j)) none, tt j, ds, ss j⟩ = some r ∧ r.v = vv j ∧ r.st = ss (j + 1)) ∧ (⟨j, o, tt j, vv j, ss j, ss (j + 1), true⟩ : Rec) ∈ recs) ∨
   (wanted ops.toList (tt j) o = false ∧ vv j = undef ∧ ss (j + 1) = ss j ∧ (⟨j, o, tt j, undef, ss j, ss j, false⟩ : Rec) ∈ recs))

theorem drawList_cons (o : Oper) (l : List Oper) (i : Nat) (t : Tr Value) (st : St) : drawList E S rd base ops.toList ds (o :: l) i t st = cnd (wanted ops.toList t o)
    (bnd (exec o.op ⟨E, S, rd, cnd (Nat.beq (cls o.op) 2) (some (Nat.add base i)) none, t, ds, st⟩) fun r => bnd (drawList E S rd base ops.toList ds l (i + 1) (putDst t o.dst r.v) r.st) fun x =>
      some (⟨i, o, t, r.v, st, r.st, true⟩ :: x.1, x.2))
    (bnd (drawList E S rd base ops.toList ds l (i + 1) (putDst t o.dst undef) st) fun x => some (⟨i, o, t, undef, st, st, false⟩ :: x.1, x.2)) := rfl

theorem drawList_trace : ∀ (l : List Oper) (i : Nat) (t : Tr Value) (st : St) (x : List Rec × Tr Value × St), ops.toList.drop i = l → i ≤ ops.size → drawList E S rd base ops.toList ds l i t st = some x →
    ∃ tt ss vv, tt i = t ∧ ss i = st ∧ tt ops.size = x.2.1 ∧ ss ops.size = x.2.2 ∧ ∀ j o, i ≤ j → ops[j]? = some o → TraceAt E S rd base ops ds tt ss vv x.1 j o := by
  intro l
  induction l with
  | nil =>
    intro i t st x hl hi h
    injection h with h
    subst h
    have hlen : (ops.toList.drop i).length = 0 := by rw [hl]; rfl
    simp at hlen
    have : i = ops.size := by omega
    subst this
    refine ⟨fun _ => t, fun _ => st, fun _ => undef, rfl, rfl, rfl, rfl, fun j o hj ho => ?_⟩
    have := (Array.getElem?_eq_some_iff.1 ho).1
    omega
  | cons o l ih =>
    intro i t st x hl hi h
    have hlt : i < ops.size := by
      have hlen : (ops.toList.drop i).length = (o :: l).length := by rw [hl]
      simp at hlen
      omega
    have ho : ops[i]? = some o := by
      have : (ops.toList.drop i)[0]? = some o := by rw [hl]; rfl
      simpa using this
    have hl' : ops.toList.drop (i + 1) = l := by rw [← List.drop_drop, hl]; rfl
    have glue : ∀ (v : Value) (st1 : St) (y : List Rec × Tr Value × St) (recs : List Rec), drawList E S rd base ops.toList ds l (i + 1) (putDst t o.dst v) st1 = some y → (∀ r ∈ y.1, r ∈ recs) →
        (∀ tt ss vv, tt i = t → ss i = st → tt (i + 1) = putDst t o.dst v → ss (i + 1) = st1 → vv i = v → TraceAt E S rd base ops ds tt ss vv recs i o) →
        ∃ tt ss vv, tt i = t ∧ ss i = st ∧ tt ops.size = y.2.1 ∧ ss ops.size = y.2.2 ∧ ∀ j o, i ≤ j → ops[j]? = some o → TraceAt E S rd base ops ds tt ss vv recs j o := by
      intro v st1 y recs hy hsub hat
      obtain ⟨tt, ss, vv, h1, h2, h3, h4, h5⟩ := ih (i + 1) _ _ y hl' (by omega) hy
      refine ⟨fun k => if k = i then t else tt k, fun k => if k = i then st else ss k, fun k => if k = i then v else vv k, by simp, by simp, ?_, ?_, fun j o' hj ho' => ?_⟩
      · simp only; rw [if_neg (by omega)]; exact h3
      · simp only; rw [if_neg (by omega)]; exact h4
      · by_cases hji : j = i
        · subst hji
          rw [ho] at ho'
          injection ho' with ho'
          subst ho'
          exact hat _ _ _ (by simp) (by simp) (by simp [h1]) (by simp [h2]) (by simp)
        · have := h5 j o' (by omega) ho'
          unfold TraceAt at this ⊢
          simp only [if_neg hji, if_neg (show ¬ j + 1 = i by omega)]
          refine ⟨this.1, ?_⟩
          rcases this.2 with ⟨a1, a2, a3⟩ | hb
          · exact .inl ⟨a1, a2, hsub _ a3⟩
          · exact .inr ⟨hb.1, hb.2.1, hb.2.2.1, hsub _ hb.2.2.2⟩
    rw [drawList_cons, cnd_of] at h
    split at h
    · rename_i hw
      simp only [bnd_eq] at h
      obtain ⟨r, hr, y, hy, h⟩ := h
      injection h with h
      subst h
      refine glue r.v r.st y _ hy (fun r' hr' => List.mem_cons_of_mem _ hr') fun tt ss vv e1 e2 e3 e4 e5 => ?_
      refine ⟨by rw [e3, e1, e5], .inl ⟨by rw [e1]; exact hw, ⟨r, by rw [e1, e2]; exact hr, e5.symm, e4.symm⟩, ?_⟩⟩
      rw [e1, e2, e4, e5]
      exact List.mem_cons_self
    · rename_i hw
      simp only [bnd_eq] at h
      obtain ⟨y, hy, h⟩ := h
      injection h with h
      subst h
      refine glue undef st y _ hy (fun r' hr' => List.mem_cons_of_mem _ hr') fun tt ss vv e1 e2 e3 e4 e5 => ?_
      refine ⟨by rw [e3, e1, e5], .inr ⟨by rw [e1]; simpa using hw, e5, by rw [e4, e2], ?_⟩⟩
      rw [e1, e2]
      exact List.mem_cons_self

theorem readOk_cons (m : Tr Nat) (j r : Rec) (l : List Rec) : readOk E S rd ds m j (r :: l) = cnd (Nat.ble 3 (cls r.o.op)) (cnd (befr m j.i r.i) (readOk E S rd ds m j l) (cnd (befr m r.i j.i) (readOk E S rd ds m j l)
    (cnd (sameRead E S rd ds j r.s) (cnd (sameRead E S rd ds j r.s') (readOk E S rd ds m j l) false) false))) (readOk E S rd ds m j l) := rfl
theorem readOk_spec {m : Tr Nat} {j : Rec} : ∀ (l : List Rec), readOk E S rd ds m j l = true → ∀ r ∈ l, 3 ≤ cls r.o.op → befr m j.i r.i = false → befr m r.i j.i = false → sameRead E S rd ds j r.s = true ∧ sameRead E S rd ds j r.s' = true := by
  intro l
  induction l with
  | nil => intro _ r hr; cases hr
  | cons r0 l ih =>
    intro h r hr hc hb1 hb2
    rw [readOk_cons] at h
    have htail : readOk E S rd ds m j l = true := by
      revert h
      cases Nat.ble 3 (cls r0.o.op) <;> cases befr m j.i r0.i <;> cases befr m r0.i j.i <;> cases sameRead E S rd ds j r0.s <;> cases sameRead E S rd ds j r0.s' <;> intro h <;> first | exact h | exact nomatch h
    rcases List.mem_cons.1 hr with hr | hr
    · subst hr
      have hc' : Nat.ble 3 (cls r.o.op) = true := by simpa using hc
      rw [hc', hb1, hb2] at h
      revert h
      cases sameRead E S rd ds j r.s <;> cases sameRead E S rd ds j r.s' <;> intro h <;> first | exact ⟨rfl, rfl⟩ | exact nomatch h
    · exact ih htail r hr hc hb1 hb2
theorem readsOk_cons (m : Tr Nat) (all : List Rec) (r : Rec) (l : List Rec) : readsOk E S rd ds m all (r :: l) = cnd (r.wd && Nat.beq (cls r.o.op) 1) (cnd (readOk E S rd ds m r all) (readsOk E S rd ds m all l) false) (readsOk E S rd ds m all l) := rfl
theorem readsOk_spec {m : Tr Nat} {all : List Rec} : ∀ (l : List Rec), readsOk E S rd ds m all l = true → ∀ r ∈ l, r.wd = true → cls r.o.op = 1 → readOk E S rd ds m r all = true := by
  intro l
  induction l with
  | nil => intro _ r hr; cases hr
  | cons r0 l ih =>
    intro h r hr hwd hc
    rw [readsOk_cons] at h
    have htail : readsOk E S rd ds m all l = true := by
      revert h
      cases r0.wd && Nat.beq (cls r0.o.op) 1 <;> cases readOk E S rd ds m r0 all <;> intro h <;> first | exact h | exact nomatch h
    rcases List.mem_cons.1 hr with hr | hr
    · subst hr
      have hc' : (r.wd && Nat.beq (cls r.o.op) 1) = true := by rw [hwd, hc]; rfl
      rw [hc'] at h
      revert h
      cases readOk E S rd ds m r all <;> intro h <;> first | rfl | exact nomatch h
    · exact ih htail r hr hwd hc

theorem sameRead_spec {r : Rec} {s : St} (h : sameRead E S rd ds r s = true) : ∃ x, exec r.o.op ⟨E, S, rd, none, r.t, ds, s⟩ = some x ∧ x.v = r.v := by
  unfold sameRead at h
  cases hx : exec r.o.op ⟨E, S, rd, none, r.t, ds, s⟩ with
  | none => rw [hx] at h; exact nomatch h
  | some x => rw [hx] at h; exact ⟨x, rfl, veqN_eq 6 _ _ h⟩

/-! ### the frame after a set of operations -/
noncomputable def TL (ops : Array Oper) (vv : Nat → Value) (t0 : Tr Value) (L : Nat → Bool) : Nat → Tr Value
  | 0 => t0
  | m + 1 => if L m then (match ops[m]? with | some o => putDst (TL ops vv t0 L m) o.dst (vv m) | none => TL ops vv t0 L m) else TL ops vv t0 L m

theorem putDst_get (t : Tr Value) (d : Option Tmp) (v : Value) (x : Nat) : (putDst t d v).get (pos x) = if d = some x then some v else t.get (pos x) := by
  cases d with
  | none => rfl
  | some d =>
    show (t.put (some v) (pos d)).get (pos x) = _
    rw [Tr.get_put_pos]
    by_cases h : d = x
    · subst h; simp
    · rw [if_neg h, if_neg (fun hh => h (by injection hh))]

theorem TL_agree {vv : Nat → Value} {t0 : Tr Value} {L L' : Nat → Bool} {x : Nat} : ∀ (m : Nat), (∀ i o, i < m → ops[i]? = some o → o.dst = some x → L i = L' i) → (TL ops vv t0 L m).get (pos x) = (TL ops vv t0 L' m).get (pos x) := by
  intro m
  induction m with
  | zero => intro _; rfl
  | succ m ih =>
    intro h
    have hih := ih fun i o hi => h i o (by omega)
    simp only [TL]
    cases ho : ops[m]? with
    | none => simp only [ite_self]; exact hih
    | some o =>
      simp only
      by_cases hd : o.dst = some x
      · rw [h m o (by omega) ho hd]
        split
        · rw [putDst_get, putDst_get, hih]
        · exact hih
      · have e1 : ∀ (b : Bool) (t : Tr Value), (if b = true then putDst t o.dst (vv m) else t).get (pos x) = t.get (pos x) := by
          intro b t
          split
          · rw [putDst_get, if_neg hd]
          · rfl
        rw [e1, e1]
        exact hih

theorem TL_text {tt : Nat → Tr Value} {vv : Nat → Value} {t0 : Tr Value} (h0 : tt 0 = t0) (hs : ∀ j o, ops[j]? = some o → tt (j + 1) = putDst (tt j) o.dst (vv j)) (j : Nat) (hj : j ≤ ops.size) :
    ∀ m, TL ops vv t0 (fun i => decide (i < j)) m = tt (min m j) := by
  intro m
  induction m with
  | zero => simp [TL, h0]
  | succ m ih =>
    simp only [TL]
    by_cases h : m < j
    · rw [if_pos (by simpa using h)]
      have ho : ops[m]? = some (ops[m]'(by omega)) := by simp
      rw [ho]
      simp only
      rw [ih, show min m j = m by omega, show min (m + 1) j = m + 1 by omega, hs m _ ho]
    · rw [if_neg (by simpa using h), ih]
      congr 1
      omega
end
end Go.Ab

namespace Go.Ab

section
variable {c : Ctx} {r : Out} {Q : Prop}
def Keep (c : Ctx) (r : Out) : Prop := r.st = c.st ∧ r.ds = c.ds
theorem bnd_keep {α : Type} {x : Option α} {f : α → Option Out} (h : ∀ a, f a = some r → Q) : bnd x f = some r → Q := fun hh => let ⟨a, _, h2⟩ := bnd_some hh; h a h2
theorem grd_keep {b : Bool} {x : Option Out} (h : x = some r → Q) : grd b x = some r → Q := fun hh => h (grd_some hh).2
theorem val_keep {v : Value} : c.val v = some r → Keep c r := fun h => let ⟨_, h2, h3⟩ := val_some h; ⟨h3, h2⟩
theorem none_keep : (none : Option Out) = some r → Q := fun h => nomatch h
theorem opt_keep {α : Type} {x : Option α} {y : Option Out} {f : α → Option Out} (h1 : y = some r → Q) (h2 : ∀ a, f a = some r → Q) : (Option.rec y f x : Option Out) = some r → Q := by
  cases x with
  | none => exact h1
  | some a => exact h2 a

theorem exec_keep (o : Op) (hc : cls o ≤ 1) : exec o c = some r → Keep c r := by
  cases o <;> try (simp [cls] at hc; done)
  case move x => show hMove x c = some r → _; unfold hMove; exact bnd_keep fun _ => val_keep
  case pick b x y => show hPick b x y c = some r → _; unfold hPick; exact bnd_keep fun _ => bnd_keep fun _ => bnd_keep fun _ => bnd_keep fun _ => val_keep
  case build ty ps => show hBuild ty ps c = some r → _; unfold hBuild; exact bnd_keep fun _ => bnd_keep fun _ => bnd_keep fun _ => bnd_keep fun _ => val_keep
  case load ty x => show hLoad ty x c = some r → _; unfold hLoad; exact bnd_keep fun _ => bnd_keep fun _ => bnd_keep fun _ => val_keep
  case nilCheck x => show hNilCheck x c = some r → _; unfold hNilCheck; exact bnd_keep fun _ => grd_keep val_keep
  case binOp op ty x y yt => show hBin op ty x y yt c = some r → _; unfold hBin; exact bnd_keep fun _ => bnd_keep fun _ => bnd_keep fun _ => val_keep
  case unOp op ty x => show hUn op ty x c = some r → _; unfold hUn; exact bnd_keep fun _ => bnd_keep fun _ => val_keep
  case makeInterface ty x => show hMakeInterface ty x c = some r → _; unfold hMakeInterface; exact bnd_keep fun _ => grd_keep (bnd_keep fun _ => val_keep)
  case makeFunc fn x y => show hMakeFunc fn x y c = some r → _; unfold hMakeFunc; exact bnd_keep fun _ => bnd_keep fun _ => bnd_keep fun _ => val_keep
  case slice ty x lo hi mx =>
    show hSlice ty x lo hi mx c = some r → _
    unfold hSlice
    refine bnd_keep fun d => bnd_keep fun x => bnd_keep fun _ => bnd_keep fun lo => bnd_keep fun _ => bnd_keep fun hi => bnd_keep fun _ => bnd_keep fun mx => grd_keep ?_
    split
    · exact grd_keep val_keep
    · exact bnd_keep fun _ => grd_keep val_keep
    · exact bnd_keep fun _ => bnd_keep fun _ => val_keep
    · exact bnd_keep fun _ => bnd_keep fun _ => val_keep
    · exact none_keep
  case fieldAddr s x f => show hFieldAddr s x f c = some r → _; unfold hFieldAddr; exact bnd_keep fun _ => bnd_keep fun _ => bnd_keep fun _ => bnd_keep fun _ => bnd_keep fun _ => bnd_keep fun _ => grd_keep val_keep
  case field s x f => show hField s x f c = some r → _; unfold hField; exact bnd_keep fun _ => bnd_keep fun _ => bnd_keep fun _ => bnd_keep fun _ => bnd_keep fun _ => bnd_keep fun _ => val_keep
  case indexAddr ty x i =>
    show hIndexAddr ty x i c = some r → _
    unfold hIndexAddr
    refine bnd_keep fun d => bnd_keep fun x => bnd_keep fun _ => bnd_keep fun i => ?_
    split
    · exact bnd_keep fun _ => grd_keep val_keep
    · exact bnd_keep fun _ => grd_keep val_keep
    · exact none_keep
  case index ty x i =>
    show hIndex ty x i c = some r → _
    unfold hIndex
    refine bnd_keep fun d => bnd_keep fun x => bnd_keep fun _ => bnd_keep fun i => ?_
    split
    · exact bnd_keep fun _ => val_keep
    · exact bnd_keep fun _ => grd_keep (bnd_keep fun _ => val_keep)
    · exact none_keep
  case extract x i => show hExtract x i c = some r → _; unfold hExtract; exact bnd_keep fun _ => bnd_keep fun _ => bnd_keep fun _ => val_keep
  case call k =>
    obtain ⟨callee, args, tys⟩ := k
    cases callee with
    | value f => simp [cls] at hc
    | invoke x m => simp [cls] at hc
    | builtin b =>
      cases b <;> try (simp [cls] at hc; done)
      case cap => show hCap args.toList tys.toList c = some r → _; unfold hCap; exact bnd_keep fun _ => bnd_keep fun _ => bnd_keep fun _ => bnd_keep fun _ => bnd_keep fun _ => bnd_keep fun _ => grd_keep val_keep
      case len => show hLen args.toList tys.toList c = some r → _; unfold hLen; exact bnd_keep fun _ => bnd_keep fun _ => bnd_keep fun _ => bnd_keep fun _ => bnd_keep fun _ => val_keep
      case min =>
        show hMinMax true args.toList c = some r → _
        unfold hMinMax
        split
        · exact bnd_keep fun _ => bnd_keep fun _ => bnd_keep fun _ => val_keep
        · exact none_keep
      case max =>
        show hMinMax false args.toList c = some r → _
        unfold hMinMax
        split
        · exact bnd_keep fun _ => bnd_keep fun _ => bnd_keep fun _ => val_keep
        · exact none_keep
      case unsafeSliceData =>
        show hUnsafeSliceData args.toList c = some r → _
        unfold hUnsafeSliceData
        split
        · exact bnd_keep fun _ => bnd_keep fun _ => opt_keep val_keep fun _ => grd_keep val_keep
        · exact none_keep

theorem exec_made (o : Op) (hc : cls o = 2) : exec o c = some r → ∃ ob vf, c.new ob vf = some r := by
  cases o <;> try (simp [cls] at hc; done)
  case alloc ty => show hAlloc ty c = some r → _; unfold hAlloc; exact bnd_keep fun _ h => ⟨_, _, h⟩
  case box ty x => show hBox ty x c = some r → _; unfold hBox; exact bnd_keep fun _ h => ⟨_, _, h⟩
  case buildSlice ty n ps => show hBuildSlice ty n ps c = some r → _; unfold hBuildSlice; exact bnd_keep fun _ => bnd_keep fun _ => bnd_keep fun _ => bnd_keep fun _ => grd_keep (bnd_keep fun _ => bnd_keep fun _ h => ⟨_, _, h⟩)
  case makeSlice ty l k => show hMakeSlice ty l k c = some r → _; unfold hMakeSlice; exact bnd_keep fun _ => bnd_keep fun _ => bnd_keep fun _ => bnd_keep fun _ => bnd_keep fun _ => bnd_keep fun _ => bnd_keep fun _ => bnd_keep fun _ => bnd_keep fun _ => grd_keep fun h => ⟨_, _, h⟩
  case makeMap ty rs => show hMakeMap ty rs c = some r → _; unfold hMakeMap; exact bnd_keep fun _ => bnd_keep fun _ => bnd_keep fun _ => grd_keep fun h => ⟨_, _, h⟩
  case call k =>
    obtain ⟨callee, args, tys⟩ := k
    cases callee with
    | value f => simp [cls] at hc
    | invoke x m => simp [cls] at hc
    | builtin b => cases b <;> simp [cls] at hc
end
end Go.Ab

namespace Go.Ab

section
variable {ρ : Ren} {st : St} {w : World} {base n : Nat} {ss : Nat → St} {A : Nat → Prop} {L : Nat → Bool}

/-- how things stand before the operation of place k, when the operations of L have been taken: 'A': those that make a block -/
structure Mid (ρ : Ren) (st : St) (w : World) (base n : Nat) (ss : Nat → St) (A : Nat → Prop) (L : Nat → Bool) (k : Nat) (ρ' : Ren) (w' : World) : Prop where
  hr : HRel ρ' (ss k) w'
  step : Step ρ st w ρ' (ss k) w'
  nxb : base + n ≤ (ss k).nx
  fre : ∀ i, k ≤ i → i < n → blkOf (ss k) (base + i) = none
  unl : ∀ i, i < n → L i = false → ρ' (base + i) = none
  ext : ∀ i, k ≤ i → i < n → A i → L i = true → ∃ l o' b, ρ' (base + i) = some l ∧ blkOf (ss (i + 1)) (base + i) = some b ∧ w'.heap[l.blk]? = some o' ∧ ORel ρ' l b.o o' ∧
    (∀ b lb kb, ρ' b = some lb → blkOf (ss k) b = some kb → lb.blk ≠ l.blk)
  inj : ∀ i i' l l', k ≤ i → k ≤ i' → i < n → i' < n → A i → A i' → ρ' (base + i) = some l → ρ' (base + i') = some l' → l.blk = l'.blk → i = i'
  his : ∀ i, i < k → i < n → blkOf (ss i) (base + i) = none
  unt : ∀ i, i < k → i < n → A i → L i = false → blkOf (ss k) (base + i) = blkOf (ss (i + 1)) (base + i)

theorem allocAt_blk (s : St) (id : Nat) (ob : AObj) (b : Nat) : blkOf (allocAt s id ob) b = if id = b then some ⟨0, ob⟩ else blkOf s b := blkOf_put _ _ _ _ _

/-- past an operation that makes no block and has no effect -/
theorem Mid.same {k : Nat} {ρ' : Ren} {w' : World} (h : Mid ρ st w base n ss A L k ρ' w') (hs : ss (k + 1) = ss k) (hA : ¬ A k) : Mid ρ st w base n ss A L (k + 1) ρ' w' where
  hr := by rw [hs]; exact h.hr
  step := by rw [hs]; exact h.step
  nxb := by rw [hs]; exact h.nxb
  fre := fun i hi hn => by rw [hs]; exact h.fre i (by omega) hn
  unl := h.unl
  ext := fun i hi hn ha hl => by rw [hs]; exact h.ext i (by omega) hn ha hl
  inj := fun i i' l l' h1 h2 => h.inj i i' l l' (by omega) (by omega)
  his := fun i hi hn => by
    by_cases he : i = k
    · subst he; exact h.fre i (Nat.le_refl _) hn
    · exact h.his i (by omega) hn
  unt := fun i hi hn ha hl => by
    rw [hs]
    by_cases he : i = k
    · subst he; exact absurd ha hA
    · exact h.unt i (by omega) hn ha hl

/-- a block that lies there already is let in -/
theorem HRel.letIn (hr : HRel ρ st w) {id : Nat} {ob : AObj} (hid : id < st.nx) (hn : blkOf st id = none) (hl : ∀ l, ρ id = some l → ∃ o', w.heap[l.blk]? = some o' ∧ ORel ρ l ob o' ∧ (∀ b lb kb, ρ b = some lb → blkOf st b = some kb → lb.blk ≠ l.blk)) :
    HRel ρ (allocAt st id ob) w where
  ren := hr.ren
  live := fun b k h => by
    rw [allocAt_blk] at h
    split at h
    · rename_i he; subst he; exact hid
    · exact hr.live _ _ h
  inj := fun b b' k k' l l' e1 e2 f1 f2 heq => by
    rw [allocAt_blk] at e1 e2
    by_cases g1 : id = b
    · by_cases g2 : id = b'
      · rw [← g1, ← g2]
      · rw [if_neg g2] at e2
        subst g1
        obtain ⟨_, _, _, h3⟩ := hl _ f1
        exact absurd heq.symm (h3 _ _ _ f2 e2)
    · rw [if_neg g1] at e1
      by_cases g2 : id = b'
      · subst g2
        obtain ⟨_, _, _, h3⟩ := hl _ f2
        exact absurd heq (h3 _ _ _ f1 e1)
      · rw [if_neg g2] at e2
        exact hr.inj _ _ _ _ _ _ e1 e2 f1 f2 heq
  obj := fun b k l e f => by
    rw [allocAt_blk] at e
    split at e
    · rename_i he
      subst he
      injection e with e
      subst e
      obtain ⟨o', h1, h2, _⟩ := hl _ f
      exact ⟨o', h1, h2⟩
    · exact hr.obj _ _ _ e f

theorem Step.letIn {ρ' : Ren} {s : St} {w' : World} (h : Step ρ st w ρ' s w') (hr0 : HRel ρ st w) {id : Nat} {ob : AObj} (hid : st.nx ≤ id) (hr : HRel ρ' (allocAt s id ob) w') : Step ρ st w ρ' (allocAt s id ob) w' where
  nx := h.nx
  old := h.old
  hrel := hr
  abs := fun b hb hn => by rw [allocAt_blk, if_neg (by omega)]; exact h.abs b hb hn
  dead := fun b hb hn => by rw [allocAt_blk, if_neg (by omega)]; exact h.dead b hb hn
  ver := fun b k k' e e' => by
    have := hr0.live _ _ e
    rw [allocAt_blk, if_neg (by omega)] at e'
    exact h.ver b k k' e e'
  conc := h.conc
  size := h.size
  fresh := h.fresh
  os := h.os
  tape := h.tape
  output := h.output

/-- past an operation that makes a block -/
theorem Mid.made {k : Nat} {ρ' : Ren} {w' : World} (h : Mid ρ st w base n ss A L k ρ' w') (hr0 : HRel ρ st w) (hb : st.nx = base) (hk : k < n) {ob : AObj} (hs : ss (k + 1) = allocAt (ss k) (base + k) ob) (hA : A k) : Mid ρ st w base n ss A L (k + 1) ρ' w' := by
  have hnone := h.fre k (Nat.le_refl _) hk
  have hin : HRel ρ' (allocAt (ss k) (base + k) ob) w' := by
    refine h.hr.letIn (by have := h.nxb; omega) hnone fun l hl => ?_
    have hLk : L k = true := by
      cases hL : L k with
      | true => rfl
      | false => rw [h.unl k hk hL] at hl; cases hl
    obtain ⟨l', o', b, e1, e2, e3, e4, e5⟩ := h.ext k (Nat.le_refl _) hk hA hLk
    rw [hl] at e1
    injection e1 with e1
    subst e1
    rw [hs, allocAt_blk, if_pos rfl] at e2
    injection e2 with e2
    subst e2
    exact ⟨o', e3, e4, e5⟩
  exact {
    hr := by rw [hs]; exact hin
    step := by rw [hs]; exact h.step.letIn hr0 (by omega) hin
    nxb := by rw [hs]; exact h.nxb
    fre := fun i hi hn => by rw [hs, allocAt_blk, if_neg (by omega)]; exact h.fre i (by omega) hn
    unl := h.unl
    ext := fun i hi hn ha hl => by
      obtain ⟨l, o', b, e1, e2, e3, e4, e5⟩ := h.ext i (by omega) hn ha hl
      refine ⟨l, o', b, e1, e2, e3, e4, fun b' lb kb f1 f2 => ?_⟩
      rw [hs, allocAt_blk] at f2
      split at f2
      · rename_i he
        subst he
        intro heq
        have := h.inj k i lb l (Nat.le_refl _) (by omega) hk hn hA ha f1 e1 heq
        omega
      · exact e5 _ _ _ f1 f2
    inj := fun i i' l l' h1 h2 => h.inj i i' l l' (by omega) (by omega)
    his := fun i hi hn => by
      by_cases he : i = k
      · subst he; exact h.fre i (Nat.le_refl _) hn
      · exact h.his i (by omega) hn
    unt := fun i hi hn ha hl => by
      rw [hs]
      by_cases he : i = k
      · subst he; rw [hs]
      · rw [allocAt_blk, if_neg (by omega)]; exact h.unt i (by omega) hn ha hl }

/-- an effect: the operation of place k itself -/
theorem Mid.effect {k : Nat} {ρ' ρ2 : Ren} {w' w2 : World} (h : Mid ρ st w base n ss A L k ρ' w') (hr0 : HRel ρ st w) (hb : st.nx = base) (hk : k < n) (hs : Step ρ' (ss k) w' ρ2 (ss (k + 1)) w2) (hA : ¬ A k) (L' : Nat → Bool)
    (hL : ∀ i, i ≠ k → L' i = L i) (hLk : L' k = true) : Mid ρ st w base n ss A L' (k + 1) ρ2 w2 := by
  have hle := hs.le h.hr
  have hnx := h.nxb
  exact {
    hr := hs.hrel
    step := h.step.trans hr0 hs
    nxb := Nat.le_trans hnx hs.nx
    fre := fun i hi hn => hs.dead _ (by omega) (h.fre i (by omega) hn)
    unl := fun i hn hl => by
      have hne : i ≠ k := fun he => by subst he; rw [hLk] at hl; cases hl
      rw [hs.old _ (by omega)]
      exact h.unl i hn (by rw [← hL i hne]; exact hl)
    ext := fun i hi hn ha hl => by
      obtain ⟨l, o', b, e1, e2, e3, e4, e5⟩ := h.ext i (by omega) hn ha (by rw [← hL i (by omega)]; exact hl)
      have hlt := (h.hr.ren _ _ e1).2
      refine ⟨l, o', b, hle _ _ e1, e2, ?_, e4.mono hle, fun b' lb kb f1 f2 => ?_⟩
      · rw [hs.conc _ hlt (fun b' lb kb f1 f2 => e5 b' lb kb f1 f2)]
        exact e3
      · by_cases hb' : b' < (ss k).nx
        · have f1' : ρ' b' = some lb := by rw [← hs.old b' hb']; exact f1
          cases hd : blkOf (ss k) b' with
          | none => rw [hs.dead _ hb' hd] at f2; cases f2
          | some kb' => exact e5 _ _ _ f1' hd
        · have hnone : ρ' b' = none := by
            cases hx : ρ' b' with
            | none => rfl
            | some lx => exact absurd (h.hr.ren _ _ hx).1 hb'
          rcases hs.fresh _ _ f1 hnone with h1 | ⟨b0, l0, k0, g1, g2, g3⟩
          · omega
          · rw [← g3]; exact e5 _ _ _ g1 g2
    inj := fun i i' l l' h1 h2 h3 h4 h5 h6 h7 h8 => by
      rw [hs.old _ (by omega)] at h7 h8
      exact h.inj i i' l l' (by omega) (by omega) h3 h4 h5 h6 h7 h8
    his := fun i hi hn => by
      by_cases he : i = k
      · subst he; exact h.fre i (Nat.le_refl _) hn
      · exact h.his i (by omega) hn
    unt := fun i hi hn ha hl => by
      have hne : i ≠ k := fun he => by subst he; exact hA ha
      have hl' : L i = false := by rw [← hL i hne]; exact hl
      rw [hs.abs _ (by omega) (h.unl i hn hl')]
      exact h.unt i (by omega) hn ha hl' }

/-- a value alone: one operation more has been taken -/
theorem Mid.more {k : Nat} {ρ' : Ren} {w' : World} (h : Mid ρ st w base n ss A L k ρ' w') {j : Nat} (hA : ¬ A j) (L' : Nat → Bool) (hL : ∀ i, i ≠ j → L' i = L i) (hLj : L' j = true) : Mid ρ st w base n ss A L' k ρ' w' where
  hr := h.hr
  step := h.step
  nxb := h.nxb
  fre := h.fre
  unl := fun i hn hl => h.unl i hn (by
    have hne : i ≠ j := fun he => by subst he; rw [hLj] at hl; cases hl
    rw [← hL i hne]; exact hl)
  ext := fun i hi hn ha hl => h.ext i hi hn ha (by
    have hne : i ≠ j := fun he => by subst he; exact hA ha
    rw [← hL i hne]; exact hl)
  inj := h.inj
  his := h.his
  unt := fun i hi hn ha hl => h.unt i hi hn ha (by
    have hne : i ≠ j := fun he => by subst he; rw [hLj] at hl; cases hl
    rw [← hL i hne]; exact hl)
end
end Go.Ab

namespace Go.Ab

section
variable {ρ : Ren} {st : St} {w : World} {base n : Nat} {ss : Nat → St} {A : Nat → Prop} {L : Nat → Bool}

/-- a block is made: the operation of place j -/
theorem Mid.alloc {e : Nat} {ρ' : Ren} {w' w2 : World} (h : Mid ρ st w base n ss A L e ρ' w') (hb : st.nx = base) {j : Nat} (hj : j < n) (hA : A j) (hLj : L j = false) {b : Blk} (hblk : blkOf (ss (j + 1)) (base + j) = some b) {o' : Obj} {nn : Nat}
    (ho : ∀ ρ'', ρ'.le ρ'' → ORel ρ'' ⟨w'.heap.size, 0, nn⟩ b.o o') (hw : w2.heap = w'.heap.push o') (h1 : w2.os = w'.os) (h2 : w2.tape = w'.tape) (h3 : w2.output = w'.output) (L' : Nat → Bool)
    (hL : ∀ i, i ≠ j → L' i = L i) (hL' : L' j = true) :
    ρ'.le (fun x => if x = base + j then some ⟨w'.heap.size, 0, nn⟩ else ρ' x) ∧ Mid ρ st w base n ss A L' e (fun x => if x = base + j then some ⟨w'.heap.size, 0, nn⟩ else ρ' x) w2 := by
  have hnone := h.unl j hj hLj
  generalize hρ : (fun x => if x = base + j then some (⟨w'.heap.size, 0, nn⟩ : Loc) else ρ' x) = ρ2
  have hat : ρ2 (base + j) = some ⟨w'.heap.size, 0, nn⟩ := by rw [← hρ]; simp
  have hne : ∀ x, x ≠ base + j → ρ2 x = ρ' x := fun x hx => by rw [← hρ]; simp only; rw [if_neg hx]
  have hle : ρ'.le ρ2 := fun x l hx => by
    have : x ≠ base + j := fun he => by subst he; rw [hnone] at hx; cases hx
    rw [hne _ this]; exact hx
  have hold : ∀ c, c < w'.heap.size → w2.heap[c]? = w'.heap[c]? := fun c hc => by rw [hw, Array.getElem?_push, if_neg (by omega)]
  have hsz : w2.heap.size = w'.heap.size + 1 := by rw [hw]; simp
  have hnew : w2.heap[w'.heap.size]? = some o' := by rw [hw]; simp
  have hnx := h.nxb
  have hin : HRel ρ2 (ss e) w2 := {
    ren := fun x l hx => by
      by_cases he : x = base + j
      · subst he
        rw [hat] at hx
        injection hx with hx
        subst hx
        exact ⟨by omega, by rw [hsz]; exact Nat.lt_succ_self _⟩
      · rw [hne _ he] at hx
        have := h.hr.ren _ _ hx
        exact ⟨this.1, by omega⟩
    live := h.hr.live
    inj := fun x x' k k' l l' e1 e2 f1 f2 heq => by
      by_cases g1 : x = base + j
      · by_cases g2 : x' = base + j
        · rw [g1, g2]
        · subst g1
          rw [hat] at f1
          injection f1 with f1
          rw [hne _ g2] at f2
          have := (h.hr.ren _ _ f2).2
          rw [← heq, ← f1] at this
          exact absurd this (Nat.lt_irrefl _)
      · by_cases g2 : x' = base + j
        · subst g2
          rw [hat] at f2
          injection f2 with f2
          rw [hne _ g1] at f1
          have := (h.hr.ren _ _ f1).2
          rw [heq, ← f2] at this
          exact absurd this (Nat.lt_irrefl _)
        · rw [hne _ g1] at f1
          rw [hne _ g2] at f2
          exact h.hr.inj _ _ _ _ _ _ e1 e2 f1 f2 heq
    obj := fun x k l e1 f1 => by
      by_cases g1 : x = base + j
      · subst g1
        rw [hat] at f1
        injection f1 with f1
        subst f1
        have hjk : k = b := by
          rcases Nat.lt_or_ge j e with hje | hje
          · rw [h.unt j hje hj hA hLj, hblk] at e1
            injection e1 with e1
            exact e1.symm
          · rw [h.fre j hje hj] at e1; cases e1
        subst hjk
        exact ⟨o', hnew, ho _ hle⟩
      · rw [hne _ g1] at f1
        obtain ⟨y, hy, hy2⟩ := h.hr.obj _ _ _ e1 f1
        exact ⟨y, by rw [hold _ (h.hr.ren _ _ f1).2]; exact hy, hy2.mono hle⟩ }
  refine ⟨hle, ?_⟩
  exact {
    hr := hin
    step := {
      nx := h.step.nx
      old := fun x hx => by rw [hne _ (by omega)]; exact h.step.old x hx
      hrel := hin
      abs := h.step.abs
      dead := h.step.dead
      ver := h.step.ver
      conc := fun c hc hn => by rw [hold c (Nat.lt_of_lt_of_le hc h.step.size)]; exact h.step.conc c hc hn
      size := by have := h.step.size; omega
      fresh := fun x l hx hn => by
        by_cases he : x = base + j
        · subst he
          rw [hat] at hx
          injection hx with hx
          subst hx
          exact .inl h.step.size
        · rw [hne _ he] at hx
          exact h.step.fresh x l hx hn
      os := h1.trans h.step.os
      tape := h2.trans h.step.tape
      output := h3.trans h.step.output }
    nxb := hnx
    fre := h.fre
    unl := fun i hn hl => by
      have hij : i ≠ j := fun he => by subst he; rw [hL'] at hl; cases hl
      rw [hne _ (by omega)]
      exact h.unl i hn (by rw [← hL i hij]; exact hl)
    ext := fun i hi hn ha hl => by
      by_cases hij : i = j
      · subst hij
        refine ⟨_, o', b, hat, hblk, hnew, ho _ hle, fun x lb kb f1 f2 => ?_⟩
        by_cases g1 : x = base + i
        · subst g1
          rw [h.fre i hi hn] at f2; cases f2
        · rw [hne _ g1] at f1
          have := (h.hr.ren _ _ f1).2
          simp only
          omega
      · obtain ⟨l, o2, b2, e1, e2, e3, e4, e5⟩ := h.ext i hi hn ha (by rw [← hL i hij]; exact hl)
        have hlt := (h.hr.ren _ _ e1).2
        refine ⟨l, o2, b2, hle _ _ e1, e2, by rw [hold _ hlt]; exact e3, e4.mono hle, fun x lb kb f1 f2 => ?_⟩
        by_cases g1 : x = base + j
        · subst g1
          rw [hat] at f1
          injection f1 with f1
          subst f1
          simp only
          omega
        · rw [hne _ g1] at f1
          exact e5 _ _ _ f1 f2
    inj := fun i i' l l' a1 a2 a3 a4 a5 a6 f1 f2 heq => by
      by_cases g1 : i = j
      · by_cases g2 : i' = j
        · rw [g1, g2]
        · subst g1
          rw [hat] at f1
          injection f1 with f1
          rw [hne _ (by omega)] at f2
          have := (h.hr.ren _ _ f2).2
          rw [← heq, ← f1] at this
          exact absurd this (Nat.lt_irrefl _)
      · by_cases g2 : i' = j
        · subst g2
          rw [hat] at f2
          injection f2 with f2
          rw [hne _ (by omega)] at f1
          have := (h.hr.ren _ _ f1).2
          rw [heq, ← f2] at this
          exact absurd this (Nat.lt_irrefl _)
        · rw [hne _ (by omega)] at f1
          rw [hne _ (by omega)] at f2
          exact h.inj i i' l l' a1 a2 a3 a4 a5 a6 f1 f2 heq
    his := h.his
    unt := fun i hi hn ha hl => h.unt i hi hn ha (by
      have hij : i ≠ j := fun he => by subst he; rw [hL'] at hl; cases hl
      rw [← hL i hij]; exact hl) }

/-- at the start -/
theorem Mid.start (hr : HRel ρ st w) {w0 : World} (hw : w0.heap = w.heap) (h1 : w0.os = w.os) (h2 : w0.tape = w.tape) (h3 : w0.output = w.output) (hb : st.nx = base) (hs : ss 0 = { st with nx := base + n }) (hL : ∀ i, L i = false) : Mid ρ st w base n ss A L 0 ρ w0 := by
  have hblk : ∀ b, blkOf (ss 0) b = blkOf st b := fun b => by rw [hs]; rfl
  have hnx : (ss 0).nx = base + n := by rw [hs]
  have hnone : ∀ i, ρ (base + i) = none := fun i => by
    cases h : ρ (base + i) with
    | none => rfl
    | some l => have := (hr.ren _ _ h).1; omega
  have hin : HRel ρ (ss 0) w0 := ⟨fun b l h => by have := hr.ren b l h; rw [hw, hnx]; exact ⟨by omega, this.2⟩, fun b k h => by rw [hblk] at h; have := hr.live _ _ h; omega,
    fun b b' k k' l l' e1 e2 => by rw [hblk] at e1 e2; exact hr.inj b b' k k' l l' e1 e2, fun b k l e f => by rw [hblk] at e; rw [hw]; exact hr.obj b k l e f⟩
  exact {
    hr := hin
    step := {
      nx := by omega
      old := fun _ _ => rfl
      hrel := hin
      abs := fun b _ _ => hblk b
      dead := fun b _ h => by rw [hblk]; exact h
      ver := fun b k k' h h' => by rw [hblk, h] at h'; injection h' with h'; subst h'; exact ⟨Nat.le_refl _, fun _ => rfl⟩
      conc := fun c _ _ => by rw [hw]
      size := by rw [hw]; exact Nat.le_refl _
      fresh := fun b l h h' => by rw [h'] at h; cases h
      os := h1
      tape := h2
      output := h3 }
    nxb := by omega
    fre := fun i _ _ => by
      rw [hblk]
      cases h : blkOf st (base + i) with
      | none => rfl
      | some k => have := hr.live _ _ h; omega
    unl := fun i _ _ => hnone i
    ext := fun i _ _ _ hl => by rw [hL i] at hl; cases hl
    inj := fun i i' l l' _ _ _ _ _ _ h => by rw [hnone] at h; cases h
    his := fun i hi => by omega
    unt := fun i hi => by omega }
end
end Go.Ab
