/- A deterministic evaluator of the model, part 2 of 5: whatever it answers, every run of the model answers the same; its conditions stand in each theorem. -/
import Derived.Test.YtbkigpopplepdaaGreatDoorAb1
import Derived.Lib.Strings
import Derived.Laws.BitsLemmas
import Derived.Laws.NewFold
import Derived.Deep.Upon
import Derived.Laws.AppendOwn
namespace Go.Ab

theorem ikEq_true {a b : IntKind} (h : ikEq a b = true) : a = b := by unfold ikEq at h; exact eq_of_beq h

section
variable {E : Env} {P : Program} {ρ : Ren} {st : St} {w : World} {t : Tr Value} {a : Act} {c : Ctx} {r : Out} {o : Oper}

theorem hUn_sound (ht : TR ρ c.t a.tmps) {op : UnOp} {ty : TypeId} {x : Operand} (h : hUn op ty x c = some r) (ho : o.op = .unOp op ty x) :
    PureOK P ρ w (execOp a.eval o) r.v ∧ r.ds = c.ds ∧ r.st = c.st := by
  simp only [hUn, bnd_eq, grd_eq] at h
  obtain ⟨xv, hx, v, hv, h⟩ := h
  obtain ⟨h1, h2, h3⟩ := val_some h
  have e1 := opv_sound ht hx
  unfold unV at hv
  split at hv
  · injection hv with hv
    refine ⟨⟨v, ?_, by rw [h1]; subst hv; exact .int _ _⟩, h2, h3⟩
    subst hv
    simp [execOp, ho, e1.int_inv, Op.unary, Op.intArith]
  · injection hv with hv
    refine ⟨⟨v, ?_, by rw [h1]; subst hv; exact .bool _⟩, h2, h3⟩
    subst hv
    simp [execOp, ho, e1.bool_inv, Op.unary]
  · cases hv

/-! ### comparing -/
theorem bnd_and {α β : Type} {x : Option α} {f : α → Option β} {b : β} {a : α} (h : bnd x f = some b) (hx : x = some a) : f a = some b := by subst hx; exact h

theorem eqStruct_cons (ih : TypeId → Value → Value → Option Bool) (xs ys : Array Value) (f : Field) (fs : List Field) : eqStruct E ih xs ys (f :: fs) =
    cnd (f.name == "_") (eqStruct E ih xs ys fs)
      (bnd (part E f.type xs f.offset) fun x => bnd (part E f.type ys f.offset) fun y => bnd (ih f.type x y) fun b => cnd b (eqStruct E ih xs ys fs) (some false)) := rfl
theorem eqArr_cons (ih : TypeId → Value → Value → Option Bool) (e : TypeId) (z : Nat) (xs ys : Array Value) (i : Nat) (is : List Nat) : eqArr E ih e z xs ys (i :: is) =
    bnd (part E e xs (i * z)) fun x => bnd (part E e ys (i * z)) fun y => bnd (ih e x y) fun b => cnd b (eqArr E ih e z xs ys is) (some false) := rfl

theorem eqStruct_sound (ok : E.Ok P) {ih : TypeId → Value → Value → Option Bool} {d : Nat}
    (hih : ∀ ty x y b x' y', ih ty x y = some b → V ρ x x' → V ρ y y' → (Op.equalIn d ty x' y').run P w = .ok b w)
    {xs ys xs' ys' : Array Value} (hx : VL ρ xs.toList xs'.toList) (hy : VL ρ ys.toList ys'.toList) : ∀ (fs : List Field) (b : Bool), eqStruct E ih xs ys fs = some b →
    (Op.eqFields d xs' ys' fs).run P w = .ok b w := by
  intro fs
  induction fs with
  | nil => intro b h; injection h with h; subst h; rfl
  | cons f fs ihf =>
    intro b h
    rw [eqStruct_cons, cnd_of] at h
    unfold Op.eqFields
    by_cases hn : f.name = "_"
    · have hb : (f.name == "_") = true := by simp [hn]
      rw [if_pos hb] at h
      simp only [hn, ne_eq, not_true_eq_false, if_false]
      exact ihf b h
    · have hb : ¬ (f.name == "_") = true := by simpa using hn
      rw [if_neg hb] at h
      simp only [bnd_eq] at h
      obtain ⟨x, hx1, y, hy1, b1, hb1, h⟩ := h
      obtain ⟨x', ex, vx⟩ := part_sound (w := w) ok hx hx1
      obtain ⟨y', ey, vy⟩ := part_sound (w := w) ok hy hy1
      have hq := hih _ _ _ _ _ _ hb1 vx vy
      simp only [ne_eq, hn, not_false_eq_true, if_true, Sem.run_bind, ex, ey, hq, Result.andThen_ok]
      rw [cnd_of] at h
      cases b1
      · simp at h; subst h; simp
      · simp only [if_true] at h
        simpa using ihf b h
theorem eqArr_sound (ok : E.Ok P) {ih : TypeId → Value → Value → Option Bool} {d : Nat}
    (hih : ∀ ty x y b x' y', ih ty x y = some b → V ρ x x' → V ρ y y' → (Op.equalIn d ty x' y').run P w = .ok b w) {e : TypeId} {z : Nat}
    {xs ys xs' ys' : Array Value} (hx : VL ρ xs.toList xs'.toList) (hy : VL ρ ys.toList ys'.toList) : ∀ (is : List Nat) (b : Bool), eqArr E ih e z xs ys is = some b →
    (Op.eqItems d e z xs' ys' is).run P w = .ok b w := by
  intro is
  induction is with
  | nil => intro b h; injection h with h; subst h; rfl
  | cons i is ihf =>
    intro b h
    rw [eqArr_cons] at h
    unfold Op.eqItems
    simp only [bnd_eq] at h
    obtain ⟨x, hx1, y, hy1, b1, hb1, h⟩ := h
    obtain ⟨x', ex, vx⟩ := part_sound (w := w) ok hx hx1
    obtain ⟨y', ey, vy⟩ := part_sound (w := w) ok hy hy1
    have hq := hih _ _ _ _ _ _ hb1 vx vy
    simp only [Sem.run_bind, ex, ey, hq, Result.andThen_ok]
    rw [cnd_of] at h
    cases b1
    · simp at h; subst h; simp
    · simp only [if_true] at h
      simpa using ihf b h

theorem eqT_succ (n : Nat) (ty : TypeId) (x y : Value) : eqT E (n + 1) ty x y = bnd (E.und ty) fun d => eqStep E (eqT E n) ty x y d := rfl
theorem Env.Ok.cellsOf (ok : E.Ok P) {ty : TypeId} {z : Nat} (h : E.size ty = some z) : P.cellsOf ty = z := by
  unfold Program.cellsOf; rw [ok.info_size h]; rfl
theorem eqT_sound (ok : E.Ok P) : ∀ (n m : Nat), n ≤ m → ∀ (ty : TypeId) (x y : Value) (b : Bool) (x' y' : Value), eqT E n ty x y = some b → V ρ x x' → V ρ y y' →
    (Op.equalIn m ty x' y').run P w = .ok b w := by
  intro n
  induction n with
  | zero => intro m _ ty x y b x' y' h; exact nomatch h
  | succ n ih =>
    intro m hm ty x y b x' y' h vx vy
    obtain ⟨m, rfl⟩ : ∃ k, m = k + 1 := ⟨m - 1, by omega⟩
    have ihm := ih m (by omega)
    rw [eqT_succ] at h
    simp only [bnd_eq] at h
    obtain ⟨d, hd, h⟩ := h
    have hu := ok.und hd
    have hrun := ok.runUnd hd w
    unfold eqStep at h
    split at h
    · injection h with h; subst h
      rw [vx.bool_inv, vy.bool_inv]
      exact run_equalIn_bool' w m ty _ _ hu
    · simp only [grd_eq] at h
      obtain ⟨hk, h⟩ := h
      injection h with h; subst h
      have := ikEq_true hk
      subst this
      rw [vx.int_inv, vy.int_inv]
      exact run_equalIn_int w m ty _ _ _ _ hu
    · injection h with h; subst h
      rw [vx.string_inv, vy.string_inv, run_equalIn_string w m ty _ _ hu, ← beq_toListBytes]
    · injection h with h; subst h
      cases vx
      cases vy <;> simp [Op.equalIn, hrun]
    · injection h with h; subst h
      cases vx
      cases vy
      simp [Op.equalIn, hrun]
    · simp only [bnd_eq, grd_eq] at h
      obtain ⟨z, hz, hb, h⟩ := h
      injection h with h; subst h
      simp only [Bool.and_eq_true, Bool.not_eq_true'] at hb
      have hbb := Nat.eq_of_beq_eq_true hb.1
      subst hbb
      have hz0 : z ≠ 0 := by intro hz; subst hz; simp at hb
      obtain ⟨l, hl, rfl⟩ := vx.ptr_inv
      obtain ⟨l', hl', rfl⟩ := vy.ptr_inv
      rw [hl] at hl'
      injection hl' with hl'
      subst hl'
      rename_i o1 o2
      have hdec : (({ block := l.blk, off := l.off + o1, spot := none } : Addr) == { block := l.blk, off := l.off + o2, spot := none }) = Nat.beq o1 o2 := by
        rw [Bool.eq_iff_iff]
        simp
      simp [Op.equalIn, hrun, ok.size hz w, hz0, sameAddr, hdec]
    · injection h with h; subst h
      cases vx; cases vy
      simp [Op.equalIn, hrun]
    · injection h with h; subst h
      cases vx; cases vy
      simp [Op.equalIn, hrun]
    · simp only [bnd_eq] at h
      obtain ⟨u, hu1, h⟩ := h
      cases vx with
      | agg hx =>
        cases vy with
        | agg hy =>
          obtain ⟨hs, hg⟩ := ok.eq _ hu1
          rename_i fs xs ys xs' ys'
          have hf : P.underlying ty = some (.struct (P.fieldsOf ty)) := by rw [hu]; simp [Program.fieldsOf, hu]
          have hf2 : P.fieldsOf ty = fs := by simp [Program.fieldsOf, hu]
          rw [run_equalIn_struct w m ty _ _ hf hs, hf2]
          exact eqStruct_sound ok ihm hx hy _ _ h
    · simp only [bnd_eq] at h
      obtain ⟨u, hu1, z, hz, h⟩ := h
      cases vx with
      | agg hx =>
        cases vy with
        | agg hy =>
          rename_i len e xs ys xs' ys'
          obtain ⟨i, hi, hi2⟩ := bnd_some hz
          rw [run_equalIn_array w m _ _ hu (ok.info _ _ hi), ok.cellsOf hz]
          exact eqArr_sound ok ihm hx hy _ _ h
    · injection h with h; subst h
      cases vx
      cases vy <;> simp [Op.equalIn, hrun]
    · injection h with h; subst h
      cases vx
      cases vy
      simp [Op.equalIn, hrun]
    · injection h with h; subst h
      cases vx
      cases vy <;> simp [Op.equalIn, hrun]
    · injection h with h; subst h
      cases vx
      cases vy
      simp [Op.equalIn, hrun]
    · injection h with h; subst h
      cases vx; cases vy
      simp [Op.equalIn, hrun]
    · injection h with h; subst h
      cases vx; cases vy
      simp [Op.equalIn, hrun]
    · injection h with h; subst h
      cases vx; cases vy
      simp [Op.equalIn, hrun]
    · cases h

end
end Go.Ab

namespace Go.Ab

section
variable {E : Env} {P : Program} {ρ : Ren} {st : St} {w : World} {t : Tr Value} {a : Act} {c : Ctx} {r : Out} {o : Oper}

theorem ikEq_refl (k : IntKind) : ikEq k k = true := by cases k <;> rfl

theorem intBin_sound {op : BinOp} {k k' : IntKind} {x y : Int} {v : Value} (h : intBin op k k' x y = some v) (ty : TypeId) :
    (binOp op ty (.int k x) (.int k' y)).run P w = .ok v w ∧ V ρ v v := by
  unfold intBin at h
  split at h <;> simp only [grd_eq] at h
  case h_4 =>
    obtain ⟨hk, hz, h⟩ := h
    have := ikEq_true hk; subst this
    injection h with h; subst h
    have hy : y ≠ 0 := by simpa using hz
    exact ⟨by simp [binOp, Op.intDiv, hy], .int _ _⟩
  case h_5 =>
    obtain ⟨hk, hz, h⟩ := h
    have := ikEq_true hk; subst this
    injection h with h; subst h
    have hy : y ≠ 0 := by simpa using hz
    exact ⟨by simp [binOp, Op.intDiv, hy], .int _ _⟩
  case h_6 =>
    obtain ⟨hz, h⟩ := h
    injection h with h; subst h
    have hy : ¬ y < 0 := by simp at hz; omega
    exact ⟨by simp [binOp, Op.shift, hy], .int _ _⟩
  case h_7 =>
    obtain ⟨hz, h⟩ := h
    injection h with h; subst h
    have hy : ¬ y < 0 := by simp at hz; omega
    exact ⟨by simp [binOp, Op.shift, hy], .int _ _⟩
  all_goals
    obtain ⟨hk, h⟩ := h
    have := ikEq_true hk; subst this
    injection h with h; subst h
    first
      | exact ⟨by simp [binOp, Op.intArith, Op.intBits, Op.intCmp], .int _ _⟩
      | exact ⟨by simp [binOp, Op.intArith, Op.intBits, Op.intCmp], .bool _⟩

theorem strBin_sound {op : BinOp} {x y : ByteArray} {v : Value} (h : strBin op x y = some v) (ty : TypeId) :
    (binOp op ty (.string x) (.string y)).run P w = .ok v w ∧ V ρ v v := by
  unfold strBin at h
  split at h
  case h_1 =>
    simp only [grd_eq] at h
    obtain ⟨hs, h⟩ := h
    injection h with h; subst h
    have hlt : x.size + y.size < 2 ^ 62 := by simpa using hs
    have h62 : (2 : Nat) ^ 62 = 4611686018427387904 := by decide
    have hmax : IntKind.i64.max = 9223372036854775807 := by decide
    have hn : ¬ (((x.size + y.size : Nat) : Int) > IntKind.i64.max) := by omega
    refine ⟨?_, .string _⟩
    simp only [binOp, Op.stringOp, if_neg hn]
    rfl
  case h_8 => cases h
  all_goals
    injection h with h; subst h
    refine ⟨?_, .bool _⟩
    simp [binOp, Op.stringOp, ByteArray.toList_eq]

theorem run_eqGuard_int (op : BinOp) (ty : TypeId) (x y : Operand) (k k' : IntKind) (n m : Int) : (eqGuard op ty x y (.int k n) (.int k' m)).run P w = .ok () w := by
  cases op <;> simp [eqGuard]
theorem run_eqGuard_string (op : BinOp) (ty : TypeId) (x y : Operand) (n m : ByteArray) : (eqGuard op ty x y (.string n) (.string m)).run P w = .ok () w := by
  cases op <;> simp [eqGuard]

/-- no guard stands in the way where 'eqT' answers -/
theorem eqGuard_sound (ok : E.Ok P) {op : BinOp} {n : Nat} {ty : TypeId} {x y x' y' : Value} {b : Bool} (h : eqT E n ty x y = some b) (vx : V ρ x x') (vy : V ρ y y') (p q : Operand) :
    (eqGuard op ty p q x' y').run P w = .ok () w := by
  cases n with
  | zero => exact nomatch h
  | succ n =>
    rw [eqT_succ] at h
    simp only [bnd_eq] at h
    obtain ⟨d, hd, h⟩ := h
    unfold eqStep at h
    split at h
    case h_9 =>
      simp only [bnd_eq] at h
      obtain ⟨u, hu1, h⟩ := h
      obtain ⟨hs, hg⟩ := ok.eq _ hu1
      cases vx; cases vy
      exact run_eqGuard_agg w op ty p q _ _ hg
    case h_10 =>
      simp only [bnd_eq] at h
      obtain ⟨u, hu1, h⟩ := h
      obtain ⟨hs, hg⟩ := ok.eq _ hu1
      cases vx; cases vy
      exact run_eqGuard_agg w op ty p q _ _ hg
    all_goals first
      | (cases h; done)
      | (cases vx <;> cases vy <;> cases op <;> simp [eqGuard])

theorem binV_sound (ok : E.Ok P) {op : BinOp} {ty : TypeId} {x y x' y' v : Value} (h : binV E op ty x y = some v) (vx : V ρ x x') (vy : V ρ y y') (p q : Operand) :
    (do eqGuard op ty p q x' y'; binOp op ty x' y').run P w = .ok v w ∧ V ρ v v := by
  unfold binV at h
  split at h
  · rw [vx.int_inv, vy.int_inv]
    obtain ⟨h1, h2⟩ := intBin_sound (P := P) (ρ := ρ) (w := w) h ty
    exact ⟨by simp only [Sem.run_bind, run_eqGuard_int, Result.andThen_ok, h1], h2⟩
  · rw [vx.string_inv, vy.string_inv]
    obtain ⟨h1, h2⟩ := strBin_sound (P := P) (ρ := ρ) (w := w) h ty
    exact ⟨by simp only [Sem.run_bind, run_eqGuard_string, Result.andThen_ok, h1], h2⟩
  · rename_i hni hns
    have key : ∀ neg b, eqT E 12 ty x y = some b → v = .bool (cnd neg (!b) b) → (neg = false ∧ op = .eql ∨ neg = true ∧ op = .neq) →
        (do eqGuard op ty p q x' y'; binOp op ty x' y').run P w = .ok v w ∧ V ρ v v := by
      intro neg b hb hv hop
      subst hv
      refine ⟨?_, .bool _⟩
      have hg := eqGuard_sound (w := w) (op := op) ok hb vx vy p q
      have he := eqT_sound (w := w) ok 12 Op.maxDepth (by simp [Op.maxDepth]) ty x y b x' y' hb vx vy
      simp only [Sem.run_bind, hg, Result.andThen_ok]
      rcases hop with ⟨rfl, rfl⟩ | ⟨rfl, rfl⟩
      · have : binOp .eql ty x' y' = (do pure (.bool (← Op.equal ty x' y'))) := by
          cases vx <;> cases vy <;> first | rfl | exact (hni _ _ _ _ rfl rfl).elim | exact (hns _ _ rfl rfl).elim
        rw [this]
        simp [Op.equal, he, cnd]
      · have : binOp .neq ty x' y' = (do pure (.bool (!(← Op.equal ty x' y')))) := by
          cases vx <;> cases vy <;> first | rfl | exact (hni _ _ _ _ rfl rfl).elim | exact (hns _ _ rfl rfl).elim
        rw [this]
        simp [Op.equal, he, cnd]
    split at h
    · simp only [binEq, bnd_eq] at h
      obtain ⟨b, hb, h⟩ := h
      injection h with h
      exact key false b hb h.symm (.inl ⟨rfl, rfl⟩)
    · simp only [binEq, bnd_eq] at h
      obtain ⟨b, hb, h⟩ := h
      injection h with h
      exact key true b hb h.symm (.inr ⟨rfl, rfl⟩)
    · cases h

theorem hBin_sound (ok : E.Ok P) (hE : c.E = E) (ht : TR ρ c.t a.tmps) {op : BinOp} {ty yt : TypeId} {x y : Operand} (h : hBin op ty x y yt c = some r) (ho : o.op = .binOp op ty x y yt) :
    PureOK P ρ w (execOp a.eval o) r.v ∧ r.ds = c.ds ∧ r.st = c.st := by
  simp only [hBin, bnd_eq, grd_eq] at h
  obtain ⟨xv, hx, yv, hy, v, hv, h⟩ := h
  obtain ⟨h1, h2, h3⟩ := val_some h
  subst hE
  obtain ⟨e1, e2⟩ := binV_sound (w := w) ok hv (opv_sound ht hx) (opv_sound ht hy) x y
  refine ⟨⟨v, ?_, h1 ▸ e2⟩, h2, h3⟩
  simp only [execOp, ho]
  rw [Sem.run_bind, e1]
  rfl

/-! ### slices -/
theorem hMinMax_sound (ht : TR ρ c.t a.tmps) {mn : Bool} {args : List Operand} (h : hMinMax mn args c = some r) :
    ∃ x y k n m, args = [x, y] ∧ a.eval x = .int k n ∧ a.eval y = .int k m ∧ r.v = .int k (cnd mn (if m < n then m else n) (if m > n then m else n)) ∧ r.ds = c.ds ∧ r.st = c.st := by
  unfold hMinMax at h
  split at h
  · simp only [bnd_eq] at h
    obtain ⟨xv, hx, yv, hy, v, hv, h⟩ := h
    obtain ⟨h1, h2, h3⟩ := val_some h
    unfold minMax at hv
    split at hv
    · simp only [grd_eq] at hv
      obtain ⟨hk, hv⟩ := hv
      have := ikEq_true hk; subst this
      injection hv with hv
      exact ⟨_, _, _, _, _, rfl, (opv_sound ht hx).int_inv, (opv_sound ht hy).int_inv, by rw [h1, ← hv], h2, h3⟩
    · cases hv
  · cases h

theorem opvo_sound (ht : TR ρ c.t a.tmps) {x : Option Operand} {v : Option Value} {n : Option Nat} (h : opvo c.t x = some v) (h' : natO v = some n) :
    (x = none ∧ n = none) ∨ ∃ p k m, x = some p ∧ n = some m ∧ a.eval p = .int k (m : Nat) := by
  cases x with
  | none => injection h with h; subst h; injection h' with h'; subst h'; exact .inl ⟨rfl, rfl⟩
  | some p =>
    obtain ⟨u, hu, h⟩ := bnd_some (x := opv c.t p) h
    injection h with h
    subst h
    obtain ⟨m, hm, h'⟩ := bnd_some (x := asNat u) h'
    injection h' with h'
    subst h'
    obtain ⟨k, rfl⟩ := asNat_some hm
    exact .inr ⟨p, k, m, rfl, rfl, (opv_sound ht hu).int_inv⟩

theorem sliceBounds_sound {len cap : Nat} {lo hi mx : Option Value} {nlo nhi nmx : Option Nat} (is : Bool)
    (hlo : (lo = none ∧ nlo = none) ∨ ∃ k m, lo = some (.int k (m : Nat)) ∧ nlo = some m) (hhi : (hi = none ∧ nhi = none) ∨ ∃ k m, hi = some (.int k (m : Nat)) ∧ nhi = some m)
    (hmx : (mx = none ∧ nmx = none) ∨ ∃ k m, mx = some (.int k (m : Nat)) ∧ nmx = some m) (h0 : mx.isSome = true → hi.isSome = true)
    (h1 : nlo.getD 0 ≤ nhi.getD len) (h2 : nhi.getD len ≤ nmx.getD cap) (h3 : nmx.getD cap ≤ cap) :
    (Instr.sliceBounds is len cap lo hi mx).run P w = .ok (nlo.getD 0, nhi.getD len, nmx.getD cap) w := by
  have sb : ∀ (k : IntKind) (m y : Nat) (code : BoundsCode), m ≤ y → (Instr.sliceBound (.int k (m : Nat)) y code).run P w = .ok m w := by
    intro k m y code hm
    have : (m : Int) ≤ y := by omega
    simp [Instr.sliceBound, asIntOf, this]
  rcases hmx with ⟨rfl, rfl⟩ | ⟨k, m, rfl, rfl⟩
  · rcases hhi with ⟨rfl, rfl⟩ | ⟨k1, m1, rfl, rfl⟩
    · rcases hlo with ⟨rfl, rfl⟩ | ⟨k2, m2, rfl, rfl⟩
      · simp [Instr.sliceBounds]
      · simp at h1
        simp [Instr.sliceBounds, sb _ _ _ _ h1]
    · simp at h2
      rcases hlo with ⟨rfl, rfl⟩ | ⟨k2, m2, rfl, rfl⟩
      · simp [Instr.sliceBounds, sb _ _ _ _ h2]
      · simp at h1
        simp [Instr.sliceBounds, sb _ _ _ _ h1, sb _ _ _ _ h2]
  · simp at h2 h3
    rcases hhi with ⟨rfl, rfl⟩ | ⟨k1, m1, rfl, rfl⟩
    · simp at h0
    · simp at h2
      rcases hlo with ⟨rfl, rfl⟩ | ⟨k2, m2, rfl, rfl⟩
      · simp [Instr.sliceBounds, sb _ _ _ _ h2, sb _ _ _ _ h3]
      · simp at h1
        simp [Instr.sliceBounds, sb _ _ _ _ h1, sb _ _ _ _ h2, sb _ _ _ _ h3]

end
end Go.Ab

namespace Go.Ab

section
variable {E : Env} {P : Program} {ρ : Ren} {st : St} {w : World} {t : Tr Value} {a : Act} {c : Ctx} {r : Out} {o : Oper}

theorem capExact_iff (c : Nat) : capExact c = true ↔ c % 2 = 0 := by
  unfold capExact
  constructor
  · exact Nat.eq_of_beq_eq_true
  · intro h; rw [h]; rfl
theorem capLo_le {l : Loc} {off k c' : Nat} (h1 : k % 2 = 0 → c' = k / 2) (h2 : k % 2 = 1 → capLo k ≤ c' ∧ off + c' * capSz k ≤ l.avail) : capLo k ≤ c' := by
  by_cases h : k % 2 = 0
  · have he := (capExact_iff k).2 h
    simp only [capLo, he, cnd_of, if_true]
    have := h1 h
    omega
  · exact (h2 (by omega)).1

theorem sliceV_sound {z b off n k : Nat} {lo hi mx : Option Nat} {v : Value} {l : Loc} {a' : Addr} {c' : Nat} (h : sliceV z b off n k lo hi mx = some v) (hl : ρ b = some l)
    (_hn : n ≤ c') (h1 : k % 2 = 0 → c' = k / 2) (h2 : k % 2 = 1 → capLo k ≤ c' ∧ off + c' * capSz k ≤ l.avail) (h3 : c' ≠ 0 → a' = ⟨l.blk, l.off + off, none⟩) :
    lo.getD 0 ≤ hi.getD n ∧ hi.getD n ≤ mx.getD c' ∧ mx.getD c' ≤ c' ∧
      V ρ v (.slice (some (if mx.getD c' = lo.getD 0 then a' else a'.add (lo.getD 0 * z))) (hi.getD n - lo.getD 0) (mx.getD c' - lo.getD 0)) := by
  have hle := capLo_le h1 h2
  unfold sliceV at h
  split at h
  · simp only [grd_eq] at h
    obtain ⟨hg, h⟩ := h
    injection h with h
    simp only [Bool.and_eq_true, Nat.ble_eq, Bool.or_eq_true] at hg
    obtain ⟨⟨g1, g2⟩, g3⟩ := hg
    simp only [Option.getD_none]
    refine ⟨g1, by omega, Nat.le_refl _, ?_⟩
    subst h
    by_cases he : k % 2 = 0
    · refine .slice hl (by omega) (fun _ => by have := h1 he; omega) (fun ho => by omega) (fun hne => ?_)
      rw [if_neg (by omega), h3 (by omega), add_none]
      simp [Nat.add_assoc]
    · have hodd : k % 2 = 1 := by omega
      obtain ⟨h4, h5⟩ := h2 hodd
      have hex : capExact k = false := by
        cases hh : capExact k
        · rfl
        · exact absurd ((capExact_iff k).1 hh) he
      have hz : capSz k = z := by
        rcases g3 with g3 | g3
        · rw [hex] at g3; cases g3
        · exact Nat.eq_of_beq_eq_true g3
      have hlo : capLo k = k / 2 % 1099511627776 := by simp only [capLo, hex, cnd_of]; rfl
      have hex2 : capExact (k - 2 * lo.getD 0) = false := by
        cases hh : capExact (k - 2 * lo.getD 0)
        · rfl
        · have := (capExact_iff _).1 hh; omega
      have hlo2 : capLo (k - 2 * lo.getD 0) = (k - 2 * lo.getD 0) / 2 % 1099511627776 := by simp only [capLo, hex2, cnd_of]; rfl
      have hsz2 : capSz (k - 2 * lo.getD 0) = capSz k := by unfold capSz; omega
      refine .slice hl (by omega) (fun hx => by omega) (fun _ => ⟨by omega, ?_⟩) (fun hne => ?_)
      · rw [hsz2, hz]
        rw [hz] at h5
        have : lo.getD 0 * z + (c' - lo.getD 0) * z = c' * z := by rw [← Nat.add_mul]; congr 1; omega
        omega
      · rw [if_neg (by omega), h3 (by omega), add_none]
        simp [Nat.add_assoc]
  · simp only [grd_eq] at h
    obtain ⟨hg, h⟩ := h
    injection h with h
    simp only [Bool.and_eq_true, Nat.ble_eq] at hg
    obtain ⟨⟨g1, g2⟩, g3⟩ := hg
    simp only [Option.getD_some]
    refine ⟨g1, g2, by omega, ?_⟩
    subst h
    refine .slice hl (by omega) (fun _ => by omega) (fun ho => by omega) (fun hne => ?_)
    rw [if_neg (by omega), h3 (by omega), add_none]
    simp [Nat.add_assoc]

theorem opvo_map (ht : TR ρ c.t a.tmps) {x : Option Operand} {v : Option Value} {n : Option Nat} (h : opvo c.t x = some v) (h' : natO v = some n) :
    (x.map a.eval = none ∧ n = none) ∨ ∃ k m, x.map a.eval = some (.int k (m : Nat)) ∧ n = some m := by
  rcases opvo_sound ht h h' with ⟨rfl, rfl⟩ | ⟨p, k, m, rfl, rfl, e⟩
  · exact .inl ⟨rfl, rfl⟩
  · exact .inr ⟨k, m, by simp [e], rfl⟩

theorem hSlice_sound (ok : E.Ok P) (hE : c.E = E) (ht : TR ρ c.t a.tmps) {ty : TypeId} {x : Operand} {lo hi mx : Option Operand} (h : hSlice ty x lo hi mx c = some r) (ho : o.op = .slice ty x lo hi mx) :
    PureOK P ρ w (execOp a.eval o) r.v ∧ r.ds = c.ds ∧ r.st = c.st := by
  simp only [hSlice, bnd_eq, grd_eq] at h
  obtain ⟨d, hd, xv, hx, lov, hlo, nlo, hnlo, hiv, hhi, nhi, hnhi, mxv, hmx, nmx, hnmx, hg, h⟩ := h
  subst hE
  have e1 := opv_sound ht hx
  have q1 := opvo_map ht hlo hnlo
  have q2 := opvo_map ht hhi hnhi
  have q3 := opvo_map ht hmx hnmx
  have h0 : (mx.map a.eval).isSome = true → (hi.map a.eval).isSome = true := by
    intro hm
    rcases q3 with ⟨e, _⟩ | ⟨k, m, _, rfl⟩
    · rw [e] at hm; cases hm
    · rcases q2 with ⟨_, rfl⟩ | ⟨k', m', e, _⟩
      · simp at hg
      · rw [e]; rfl
  simp only [PureOK, execOp, ho]
  split at h
  · simp only [grd_eq] at h
    obtain ⟨hs, h⟩ := h
    obtain ⟨h1, h2, h3⟩ := val_some h
    rename_i s
    simp only [Bool.and_eq_true, Nat.ble_eq] at hs
    obtain ⟨⟨s1, s2⟩, s3⟩ := hs
    have hmn : nmx = none := by cases nmx <;> simp at s1 ⊢
    subst hmn
    have hmx0 : mx.map a.eval = none := by
      rcases q3 with ⟨e, _⟩ | ⟨k, m, _, e⟩
      · exact e
      · cases e
    have hb := sliceBounds_sound (P := P) (w := w) (len := s.size) (cap := s.size) false q1 q2 (.inl ⟨rfl, rfl⟩) (by simp) s2 (by simpa using s3) (by simp)
    refine ⟨⟨.string (s.extract (nlo.getD 0) (nhi.getD s.size)), ?_, by rw [h1]; exact .string _⟩, h2, h3⟩
    simp only [Instr.sliceAt, Sem.run_bind, ok.runUnd hd w, Result.andThen_ok, Instr.slice, e1.string_inv, hmx0, Option.isSome_none, Bool.false_eq_true, if_false, hb, Sem.run_pure]
  · simp only [bnd_eq, grd_eq] at h
    obtain ⟨z, hz, hs, h⟩ := h
    obtain ⟨h1, h2, h3⟩ := val_some h
    generalize hy : a.eval x = y at e1
    cases e1
    simp only [Bool.and_eq_true] at hs
    obtain ⟨⟨s1, s2⟩, s3⟩ := hs
    have s1 := Nat.eq_of_beq_eq_true s1
    have s2 := Nat.eq_of_beq_eq_true s2
    have s3 := Nat.eq_of_beq_eq_true s3
    have hb := sliceBounds_sound (P := P) (w := w) (len := 0) (cap := 0) true q1 q2 q3 h0 (by omega) (by omega) (by omega)
    refine ⟨⟨.slice none 0 0, ?_, by rw [h1]; exact .snil⟩, h2, h3⟩
    simp only [Instr.sliceAt, Sem.run_bind, ok.runUnd hd w, Result.andThen_ok, Instr.slice, hb, ok.size hz w, Sem.run_pure, s1, s2, s3]
    simp
  · simp only [bnd_eq, grd_eq] at h
    obtain ⟨z, hz, v, hv, h⟩ := h
    obtain ⟨h1, h2, h3⟩ := val_some h
    generalize hy : a.eval x = y at e1
    cases e1 with
    | slice hl c1 c2 c3 c4 =>
      rename_i e b off n k c' l a'
      obtain ⟨g1, g2, g3, g4⟩ := sliceV_sound hv hl c1 c2 c3 c4
      have hb := sliceBounds_sound (P := P) (w := w) (len := n) (cap := c') true q1 q2 q3 h0 g1 g2 g3
      refine ⟨⟨_, ?_, h1 ▸ g4⟩, h2, h3⟩
      simp only [Instr.sliceAt, Sem.run_bind, ok.runUnd hd w, Result.andThen_ok, Instr.slice, hb, ok.size hz w, Sem.run_pure]
      split <;> simp_all
  · simp only [bnd_eq, grd_eq] at h
    obtain ⟨z, hz, v, hv, h⟩ := h
    obtain ⟨h1, h2, h3⟩ := val_some h
    rename_i n e b off
    obtain ⟨l, hl, e2⟩ := e1.ptr_inv
    obtain ⟨g1, g2, g3, g4⟩ := sliceV_sound (c' := n) hv hl (Nat.le_refl _) (fun _ => by omega) (fun ho => by omega) (fun _ => rfl)
    have hb := sliceBounds_sound (P := P) (w := w) (len := n) (cap := n) false q1 q2 q3 h0 g1 g2 g3
    refine ⟨⟨_, ?_, h1 ▸ g4⟩, h2, h3⟩
    simp only [Instr.sliceAt, Sem.run_bind, ok.runUnd hd w, Result.andThen_ok, e2, Instr.sureAddr, hb, ok.size hz w, Sem.run_pure]
  · cases h

/-! ### built-in functions that turn nothing -/
theorem args_two {args : Array Operand} {i : Nat} {x : Operand} (h : args.toList[i]? = some x) : args[i]? = some x := by simpa using h

theorem hLen_sound (ok : E.Ok P) (hE : c.E = E) (ht : TR ρ c.t a.tmps) (hr : HRel ρ c.st w) {args : Array Operand} {tys : Array TypeId} (h : hLen args.toList tys.toList c = some r)
    (ho : o.op = .call { callee := .builtin .len, args, argTypes := tys }) : PureOK P ρ w (execOp a.eval o) r.v ∧ r.ds = c.ds ∧ r.st = c.st := by
  simp only [hLen, bnd_eq, grd_eq] at h
  obtain ⟨tt, htt, x, hx, d, hd, v, hv, n, hn, h⟩ := h
  obtain ⟨h1, h2, h3⟩ := val_some h
  subst hE
  have e1 := opv_sound ht hv
  simp only [Array.getElem?_toList] at htt hx
  refine ⟨⟨.int .i64 (n : Nat), ?_, by rw [h1]; exact .int _ _⟩, h2, h3⟩
  simp only [execOp, ho, resolve, Sem.run_bind, Sem.run_pure, Result.andThen_ok, invoke, builtin, Builtin.len_, htt, Array.getElem?_map, hx, Option.map_some, ok.runUnd hd w]
  unfold lenV at hn
  split at hn
  · injection hn with hn; subst hn
    simp [e1.string_inv, goInt]
  · injection hn with hn; subst hn
    generalize a.eval x = y at e1
    cases e1 <;> simp [goInt]
  · injection hn with hn; subst hn
    generalize a.eval x = y at e1
    cases e1; simp [goInt]
  · simp only [bnd_eq] at hn
    obtain ⟨es, hes, hn⟩ := hn
    injection hn with hn; subst hn
    generalize a.eval x = y at e1
    cases e1 with
    | map hb =>
      rename_i l
      simp only [mapOf, bnd_eq] at hes
      obtain ⟨k, hk, hes⟩ := hes
      obtain ⟨ob, hob, hrel⟩ := hr.obj _ _ _ hk hb
      obtain ⟨ver, ko⟩ := k
      cases ko <;> simp [AObj.asMap] at hes
      subst hes
      obtain ⟨es', rfl, her⟩ := hrel
      have hlen : ∀ {l l' : List MapEntry}, ER ρ l l' → l.length = l'.length := by
        intro l l' h
        induction h with
        | nil => rfl
        | cons _ _ _ _ ih => simp [ih]
      have := hlen her
      simp [getObj, Sem.run, hob, goInt, this]
  · cases hn

theorem hCap_sound (ok : E.Ok P) (hE : c.E = E) (ht : TR ρ c.t a.tmps) {args : Array Operand} {tys : Array TypeId} (h : hCap args.toList tys.toList c = some r)
    (ho : o.op = .call { callee := .builtin .cap, args, argTypes := tys }) : PureOK P ρ w (execOp a.eval o) r.v ∧ r.ds = c.ds ∧ r.st = c.st := by
  simp only [hCap, bnd_eq, grd_eq] at h
  obtain ⟨tt, htt, x, hx, d, hd, e, he, v, hv, s, hs, hex, h⟩ := h
  obtain ⟨h1, h2, h3⟩ := val_some h
  subst hE
  have e1 := opv_sound ht hv
  simp only [Array.getElem?_toList] at htt hx
  have hd' : d = .slice e := by cases d <;> simp [tdSlice] at he; subst he; rfl
  subst hd'
  have hpar := (capExact_iff _).1 hex
  have hlo : capLo s.2.2 = s.2.2 / 2 := by simp only [capLo, hex, cnd_of, if_true]
  refine ⟨⟨.int .i64 (s.2.2 / 2 : Nat), ?_, by rw [h1, hlo]; exact .int _ _⟩, h2, h3⟩
  simp only [execOp, ho, resolve, Sem.run_bind, Sem.run_pure, Result.andThen_ok, invoke, builtin, Builtin.cap_, htt, Array.getElem?_map, hx, Option.map_some, ok.runUnd hd w]
  unfold asSlice at hs
  split at hs
  · injection hs with hs; subst hs
    generalize a.eval x = y at e1
    cases e1
    simp [goInt]
  · injection hs with hs; subst hs
    generalize a.eval x = y at e1
    cases e1 with
    | slice hl c1 c2 c3 c4 => simp [goInt, c2 hpar]
  · cases hs

theorem sliceData_nil (T : Array TypeId) (ty : TypeId) (n k : Nat) : Builtin.unsafeSliceData_ T ty #[.slice none n k] = pure (.pointer none) := rfl
theorem sliceData_some (T : Array TypeId) (ty : TypeId) (p : Addr) (n k : Nat) (hk : k ≠ 0) : Builtin.unsafeSliceData_ T ty #[.slice (some p) n k] = pure (.pointer (some p)) :=
  if_pos hk
theorem hUnsafeSliceData_sound (ht : TR ρ c.t a.tmps) {args : Array Operand} {tys : Array TypeId} (h : hUnsafeSliceData args.toList c = some r)
    (ho : o.op = .call { callee := .builtin .unsafeSliceData, args, argTypes := tys }) : PureOK P ρ w (execOp a.eval o) r.v ∧ r.ds = c.ds ∧ r.st = c.st := by
  unfold hUnsafeSliceData at h
  split at h
  · rename_i x harg
    have hargs : args = #[x] := by
      apply Array.ext'
      simpa using harg
    simp only [bnd_eq] at h
    obtain ⟨xv, hx, s, hs, h⟩ := h
    have e1 := opv_sound ht hx
    simp only [PureOK, execOp, ho, resolve, Sem.run_bind, Sem.run_pure, Result.andThen_ok, invoke, builtin, hargs]
    unfold asSlice at hs
    split at hs
    · injection hs with hs; subst hs
      replace h : c.val (.pointer none) = some r := h
      obtain ⟨h1, h2, h3⟩ := val_some h
      generalize hy : a.eval x = y at e1
      cases e1
      refine ⟨⟨.pointer none, ?_, by rw [h1]; exact .pnil⟩, h2, h3⟩
      simp only [List.map_toArray, List.map_cons, List.map_nil, hy, sliceData_nil, Sem.run_pure, Result.andThen_ok]
    · rename_i b off n k
      injection hs with hs; subst hs
      replace h : grd (!Nat.beq n 0) (c.val (.pointer (some ⟨b, off, none⟩))) = some r := h
      simp only [grd_eq] at h
      obtain ⟨hn, h⟩ := h
      obtain ⟨h1, h2, h3⟩ := val_some h
      generalize hy : a.eval x = y at e1
      cases e1 with
      | slice hl c1 c2 c3 c4 =>
        rename_i c' l a'
        have hn0 : n ≠ 0 := by intro hz; subst hz; simp at hn
        have := c4 (by omega)
        subst this
        refine ⟨⟨_, ?_, by rw [h1]; exact .ptr hl⟩, h2, h3⟩
        simp only [List.map_toArray, List.map_cons, List.map_nil, hy, sliceData_some _ _ _ _ _ (show c' ≠ 0 by omega), Sem.run_pure, Result.andThen_ok]
    · cases hs
  · cases h

theorem hMinMax_run (ht : TR ρ c.t a.tmps) {mn : Bool} {args : Array Operand} {tys : Array TypeId} (h : hMinMax mn args.toList c = some r)
    (ho : o.op = .call { callee := .builtin (if mn then .min else .max), args, argTypes := tys }) : PureOK P ρ w (execOp a.eval o) r.v ∧ r.ds = c.ds ∧ r.st = c.st := by
  obtain ⟨x, y, k, n, m, harg, ex, ey, hv, h2, h3⟩ := hMinMax_sound ht h
  have hargs : args = #[x, y] := by
    apply Array.ext'
    simpa using harg
  refine ⟨⟨_, ?_, by rw [hv]; exact .int _ _⟩, h2, h3⟩
  simp only [execOp, ho, resolve, Sem.run_bind, Sem.run_pure, Result.andThen_ok, invoke, hargs]
  cases mn
  · simp [builtin, Builtin.max_, Builtin.max2, ex, ey, cnd]
  · simp [builtin, Builtin.min_, Builtin.min2, ex, ey, cnd]

theorem hLoad_sound (ok : E.Ok P) (hE : c.E = E) (ht : TR ρ c.t a.tmps) (hr : HRel ρ c.st w) {ty : TypeId} {x : Operand} (h : hLoad ty x c = some r) (ho : o.op = .load ty x) :
    PureOK P ρ w (execOp a.eval o) r.v ∧ r.ds = c.ds ∧ r.st = c.st := by
  simp only [hLoad, bnd_eq] at h
  obtain ⟨av, hav, p, hp, v, hv, h⟩ := h
  obtain ⟨h1, h2, h3⟩ := val_some h
  subst hE
  have e1 := opv_sound ht hav
  rw [asAddr_some hp] at e1
  obtain ⟨l, hl, e2⟩ := e1.ptr_inv
  obtain ⟨v', e3, e4⟩ := hr.load ok hv hl
  refine ⟨⟨v', ?_, h1 ▸ e4⟩, h2, h3⟩
  simp only [execOp, ho, e2, Instr.loadAt, Instr.sureAddr, Sem.run_bind, Sem.run_pure, Result.andThen_ok, e3]

end
end Go.Ab

namespace Go.Ab

section
variable {E : Env} {P : Program} {ρ : Ren} {st : St} {w : World} {t : Tr Value} {a : Act} {c : Ctx} {r : Out} {o : Oper}

theorem V.cells {v v' : Value} (h : V ρ v v') : VL ρ v.cells.toList v'.cells.toList := by
  cases h with
  | agg hl => exact hl
  | _ => exact .cons (by first | exact .bool _ | exact .int _ _ | exact .string _ | exact .pnil | (apply V.ptr; assumption) | exact .snil | (apply V.slice <;> assumption) | exact .mnil | (apply V.map; assumption) | (apply V.func <;> assumption) | exact .fnil | (apply V.iface; assumption) | exact .inil | (apply V.tuple; assumption)) .nil

/-- what an operation that makes a block answers -/
def NewOK (P : Program) (ρ : Ren) (w : World) (s : Sem Next) (ob : AObj) (vf : Nat → Value) : Prop :=
  ∃ v' o' n w', s.run P w = .ok (.value v') w' ∧ w'.heap = w.heap.push o' ∧ (w'.os = w.os ∧ w'.tape = w.tape ∧ w'.output = w.output) ∧
    (∀ ρ', ρ.le ρ' → ORel ρ' ⟨w.heap.size, 0, n⟩ ob o') ∧ ∀ id ρ', ρ.le ρ' → ρ' id = some ⟨w.heap.size, 0, n⟩ → V ρ' (vf id) v'

theorem writeCells_leaf (vs : List Value) (i : Nat) : (writeCells vs 0 .leaf).get (pos i) = vs[i]? := by
  rw [writeCells_get]
  by_cases h : i < vs.length
  · rw [if_pos ⟨Nat.zero_le _, by omega⟩]; simp
  · rw [if_neg (by omega), Tr.get_leaf, List.getElem?_eq_none (by omega)]

/-- a row of cells, new -/
theorem cells_new {vs vs' : List Value} (hv : VL ρ vs vs') {extra : List Value} {e : TypeId} {fr : Nat × Nat} {ex : Bool} (hsh : ex = true → extra = [])
    (hfr : ∀ i, i < vs.length + extra.length → ¬ (fr.1 ≤ i ∧ i < fr.2)) (b : Nat) :
    ORel ρ ⟨b, 0, vs.length + extra.length⟩ (.cells (e, ex) vs.length (writeCells vs 0 .leaf)) (.cells (vs' ++ extra).toArray e fr) := by
  have hlen := hv.length
  refine ⟨_, e, fr, rfl, by simp; omega, by simp, fun i hi => by simpa using hfr i hi, fun i v hg => ?_, rfl, fun ht => ?_⟩
  · rw [writeCells_leaf] at hg
    have hi := (List.getElem?_eq_some_iff.1 hg).1
    refine ⟨hi, ?_⟩
    obtain ⟨v', e1, e2⟩ := hv.get hg
    have : (vs' ++ extra)[i]? = some v' := by rw [List.getElem?_append_left (by omega)]; exact e1
    simpa [Array.getD_eq_getD_getElem?, this] using e2
  · have h2 := hsh ht
    subst h2
    exact ⟨rfl, by simp; omega⟩

theorem newRow_ok {vs vs' : List Value} (hv : VL ρ vs vs') (e : TypeId) (ex : Bool) {s : Sem Next} {v' : Value} {vf : Nat → Value}
    (hs : s.run P w = .ok (.value v') (w.alloc (.cells vs'.toArray e))) (hvf : ∀ id ρ', ρ.le ρ' → ρ' id = some ⟨w.heap.size, 0, vs.length⟩ → V ρ' (vf id) v') :
    NewOK P ρ w s (.cells (e, ex) vs.length (writeCells vs 0 .leaf)) vf := by
  refine ⟨v', _, vs.length, _, hs, rfl, ⟨rfl, rfl, rfl⟩, fun ρ' hle => ?_, hvf⟩
  have := cells_new (hv.mono hle) (extra := []) (e := e) (fr := (0, 0)) (ex := ex) (fun _ => rfl) (fun i _ => by simp) w.heap.size
  simpa using this

theorem new_some {ob : AObj} {vf : Nat → Value} (h : c.new ob vf = some r) : (c.id = none ∧ r = ⟨vf c.st.nx, c.ds, alloc c.st ob⟩) ∨ ∃ id, c.id = some id ∧ r = ⟨vf id, c.ds, allocAt c.st id ob⟩ := by
  unfold Ctx.new at h
  cases hid : c.id with
  | none => rw [hid] at h; injection h with h; exact .inl ⟨rfl, h.symm⟩
  | some id => rw [hid] at h; injection h with h; exact .inr ⟨id, rfl, h.symm⟩

theorem hBox_sound (ht : TR ρ c.t a.tmps) {ty : TypeId} {x : Operand} (h : hBox ty x c = some r) (ho : o.op = .box ty x) :
    ∃ ob vf, c.new ob vf = some r ∧ NewOK P ρ w (execOp a.eval o) ob vf := by
  simp only [hBox, bnd_eq] at h
  obtain ⟨v, hv, h⟩ := h
  refine ⟨_, _, h, ?_⟩
  have e1 := (opv_sound ht hv).cells
  have := newRow_ok (P := P) (w := w) e1 ty true (s := execOp a.eval o) (v' := .pointer (some ⟨w.heap.size, 0, none⟩)) (vf := fun id => .pointer (some ⟨id, 0, none⟩))
    (by simp only [execOp, ho, Instr.box, newVar, newRow, Sem.run_bind, run_newObj, Result.andThen_ok, Sem.run_pure]; rfl) (fun id ρ' _ hid => by simpa using V.ptr (o := 0) hid)
  simpa using this

theorem hAlloc_sound (ok : E.Ok P) (hE : c.E = E) {ty : TypeId} (h : hAlloc ty c = some r) (ho : o.op = .alloc ty) :
    ∃ ob vf, c.new ob vf = some r ∧ NewOK P ρ w (execOp a.eval o) ob vf := by
  simp only [hAlloc, bnd_eq] at h
  obtain ⟨z, hz, h⟩ := h
  subst hE
  refine ⟨_, _, h, ?_⟩
  have e1 := (lit_sound ρ (Env.zero_lit hz)).cells
  have := newRow_ok (P := P) (w := w) e1 ty true (s := execOp a.eval o) (v' := .pointer (some ⟨w.heap.size, 0, none⟩)) (vf := fun id => .pointer (some ⟨id, 0, none⟩))
    (by simp only [execOp, ho, Instr.alloc, Sem.run_bind, ok.zero hz w, newVar, newRow, run_newObj, Result.andThen_ok, Sem.run_pure]; rfl) (fun id ρ' _ hid => by simpa using V.ptr (o := 0) hid)
  simpa using this

/-! ### building -/
theorem setFold {ρ : Ren} : ∀ (l l' : List Value), VL ρ l l' → ∀ (k off : Nat) (cs cs' : Array Value), VL ρ cs.toList cs'.toList →
    VL ρ ((l.zipIdx k).foldl (fun (cs : Array Value) (p : Value × Nat) => cs.setIfInBounds (off + p.2) p.1) cs).toList ((l'.zipIdx k).foldl (fun (cs : Array Value) (p : Value × Nat) => cs.setIfInBounds (off + p.2) p.1) cs').toList := by
  intro l
  induction l with
  | nil => intro l' h k off cs cs' hc; cases h; exact hc
  | cons x l ih =>
    intro l' h k off cs cs' hc
    cases h with
    | cons hx hl =>
      simp only [List.zipIdx_cons, List.foldl_cons]
      exact ih _ hl (k + 1) off _ _ (by simpa using hc.set (off + k) hx)

inductive PR (ρ : Ren) : List (Nat × Value) → List (Nat × Value) → Prop where
  | nil : PR ρ [] []
  | cons {i : Nat} {v v' : Value} {l l' : List (Nat × Value)} : V ρ v v' → PR ρ l l' → PR ρ ((i, v) :: l) ((i, v') :: l')
theorem partVals_cons (p : Nat × Operand) (ps : List (Nat × Operand)) : partVals t (p :: ps) = bnd (opv t p.2) fun v => bnd (partVals t ps) fun r => some ((p.1, v) :: r) := rfl
theorem partVals_sound (ht : TR ρ t a.tmps) {ps : List (Nat × Operand)} {vs : List (Nat × Value)} (h : partVals t ps = some vs) : PR ρ vs (ps.map fun (i, x) => (i, a.eval x)) := by
  induction ps generalizing vs with
  | nil => injection h with h; subst h; exact .nil
  | cons p ps ih =>
    rw [partVals_cons] at h
    simp only [bnd_eq] at h
    obtain ⟨v, hv, r, hr, h⟩ := h
    injection h with h
    subst h
    exact .cons (opv_sound ht hv) (ih hr)

theorem fill_sound {place : Nat → Option (Nat × Nat)} : ∀ (ps ps' : List (Nat × Value)) (cs cs' out : Array Value), PR ρ ps ps' → VL ρ cs.toList cs'.toList → Instr.fill place cs ps = some out →
    ∃ out', Instr.fill place cs' ps' = some out' ∧ VL ρ out.toList out'.toList := by
  intro ps
  induction ps with
  | nil => intro ps' cs cs' out hp hc h; cases hp; injection h with h; subst h; exact ⟨cs', rfl, hc⟩
  | cons p ps ih =>
    intro ps' cs cs' out hp hc h
    cases hp with
    | cons hv hl =>
      rename_i i v v' l'
      unfold Instr.fill at h ⊢
      have h1 : v.cells.size = v'.cells.size := by simpa using hv.cells.length
      have h2 : cs.size = cs'.size := by simpa using hc.length
      cases hpl : place i with
      | none => rw [hpl] at h; cases h
      | some os =>
        obtain ⟨off, size⟩ := os
        simp only [hpl] at h
        simp only
        rw [← h1, ← h2]
        split at h
        · cases h
        · rename_i hcond
          rw [if_neg hcond]
          refine ih _ _ _ _ hl ?_ h
          have := setFold v.cells.toList v'.cells.toList hv.cells 0 off cs cs' hc
          rw [← Array.foldl_toList, ← Array.foldl_toList, Array.toList_zipIdx, Array.toList_zipIdx]
          exact this

theorem places_cons (f : Field) (fs : List Field) : places E (f :: fs) = bnd (E.size f.type) fun z => bnd (places E fs) fun r => some ((f.offset, z) :: r) := rfl
theorem places_sound (ok : E.Ok P) : ∀ (fs : List Field) (ps : List (Nat × Nat)), places E fs = some ps →
    (fs.mapM (m := Sem) fun f => do pure (f.offset, ← sizeOf f.type)).run P w = .ok ps w := by
  intro fs
  induction fs with
  | nil => intro ps h; injection h with h; subst h; rfl
  | cons f fs ih =>
    intro ps h
    rw [places_cons] at h
    simp only [bnd_eq] at h
    obtain ⟨z, hz, r, hr, h⟩ := h
    injection h with h
    subst h
    rw [List.mapM_cons]
    simp only [Sem.run_bind, ok.size hz w, Result.andThen_ok, Sem.run_pure, ih r hr]

theorem hBuild_sound (ok : E.Ok P) (hE : c.E = E) (ht : TR ρ c.t a.tmps) {ty : TypeId} {ps : Array (Nat × Operand)} (h : hBuild ty ps c = some r) (ho : o.op = .build ty ps) :
    PureOK P ρ w (execOp a.eval o) r.v ∧ r.ds = c.ds ∧ r.st = c.st := by
  simp only [hBuild, bnd_eq] at h
  obtain ⟨z, hz, vs, hvs, d, hd, cs, hcs, h⟩ := h
  obtain ⟨h1, h2, h3⟩ := val_some h
  subst hE
  have hp := partVals_sound ht hvs
  have hzl := (lit_sound ρ (Env.zero_lit hz)).cells
  have hmap : (ps.map fun (i, x) => (i, a.eval x)).toList = ps.toList.map fun (i, x) => (i, a.eval x) := by simp
  simp only [PureOK, execOp, ho, Instr.build, Sem.run_bind, ok.zero hz w, Result.andThen_ok, ok.runUnd hd w, Sem.run_pure]
  unfold buildBy at hcs
  split at hcs
  · rename_i fs
    simp only [bnd_eq] at hcs
    obtain ⟨pl, hpl, hcs⟩ := hcs
    obtain ⟨out', e1, e2⟩ := fill_sound _ _ _ _ _ hp hzl hcs
    have hplr := places_sound (w := w) ok _ _ hpl
    refine ⟨⟨.agg out', ?_, by rw [h1]; exact .agg e2⟩, h2, h3⟩
    have : (fs.mapM (m := Sem) fun f => do pure (f.offset, ← sizeOf f.type)).run P w = .ok pl.toArray w := by
      rw [Array.mapM_eq_mapM_toList, Sem.run_map, hplr]
      rfl
    simp only [Sem.run_bind, this, Result.andThen_ok]
    have hf : (fun i : Nat => pl.toArray[i]?) = fun i : Nat => pl[i]? := by funext i; simp
    rw [hf, hmap, e1]
    rfl
  · rename_i n e
    simp only [bnd_eq] at hcs
    obtain ⟨sz, hsz, hcs⟩ := hcs
    obtain ⟨out', e1, e2⟩ := fill_sound _ _ _ _ _ hp hzl hcs
    refine ⟨⟨.agg out', ?_, by rw [h1]; exact .agg e2⟩, h2, h3⟩
    simp only [Sem.run_bind, ok.size hsz w, Result.andThen_ok]
    rw [hmap, e1]
    rfl
  · cases hcs

end
end Go.Ab

namespace Go.Ab

section
variable {E : Env} {P : Program} {ρ : Ren} {st : St} {w : World} {t : Tr Value} {a : Act} {c : Ctx} {r : Out} {o : Oper}

theorem tdSlice_some {d : TypeDesc} {e : TypeId} (h : tdSlice d = some e) : d = .slice e := by cases d <;> simp [tdSlice] at h; subst h; rfl
theorem tdMap_some {d : TypeDesc} {e : TypeId × TypeId} (h : tdMap d = some e) : d = .map e.1 e.2 := by cases d <;> simp [tdMap] at h; subst h; rfl

theorem zerosFrom_succ (z : List Value) (n : Nat) : zerosFrom z (n + 1) = z ++ zerosFrom z n := rfl
theorem zerosFrom_length (z : List Value) (n : Nat) : (zerosFrom z n).length = n * z.length := by
  induction n with
  | zero => rw [Nat.zero_mul]; rfl
  | succ n ih => rw [zerosFrom_succ, List.length_append, ih, Nat.succ_mul]; omega
theorem zerosFrom_get (z : List Value) (n i : Nat) (hi : i < n * z.length) : (zerosFrom z n)[i]? = z[i % z.length]? := by
  induction n generalizing i with
  | zero => simp at hi
  | succ n ih =>
    rw [zerosFrom_succ]
    by_cases h : i < z.length
    · rw [List.getElem?_append_left h, Nat.mod_eq_of_lt h]
    · rw [List.getElem?_append_right (by omega), ih (i - z.length) (by rw [Nat.succ_mul] at hi; omega)]
      rw [← Nat.mod_eq_sub_mod (by omega)]
theorem zeros_eq {z : Array Value} (n : Nat) : (Array.range (n * z.size)).map (z[· % z.size]!) = (zerosFrom z.toList n).toArray := by
  apply Array.ext_getElem?
  intro i
  by_cases h : i < n * z.size
  · have h1 := zerosFrom_get z.toList n i (by simpa using h)
    have hz : 0 < z.size := by rcases Nat.eq_zero_or_pos z.size with h0 | h0; · rw [h0] at h; simp at h
                               · exact h0
    have hm : i % z.size < z.size := Nat.mod_lt _ hz
    simp [h, h1, hm]
  · have h1 := zerosFrom_length z.toList n
    simp at h1
    simp [h]
    omega

theorem VL.zeros {z z' : List Value} (h : VL ρ z z') (n : Nat) : VL ρ (zerosFrom z n) (zerosFrom z' n) := by
  induction n with
  | zero => exact .nil
  | succ n ih => rw [zerosFrom_succ, zerosFrom_succ]; exact h.append ih

theorem IntKind.wrap_i64' (n : Int) : IntKind.i64.wrap n = (n + 9223372036854775808) % 18446744073709551616 - 9223372036854775808 := IntKind.wrap_i64 n
theorem run_int (k : IntKind) (n : Int) : (Go.asInt (.int k n)).run P w = .ok n w := rfl
theorem newSlice_ok {vs vs' : List Value} (hv : VL ρ vs vs') (e : TypeId) {s : Sem Next} {n k : Nat} (hnk : n ≤ k) (w0 : World) (hw0 : w0.heap = w.heap ∧ w0.os = w.os ∧ w0.tape = w.tape ∧ w0.output = w.output)
    (hs : s.run P w = .ok (.value (.slice (some ⟨w.heap.size, 0, none⟩) n k)) (w0.alloc (.cells vs'.toArray e))) :
    NewOK P ρ w s (.cells (e, false) vs.length (writeCells vs 0 .leaf)) (fun id => .slice (some ⟨id, 0, none⟩) n (2 * k)) := by
  obtain ⟨e1, e2, e3, e4⟩ := hw0
  refine ⟨_, _, vs.length, _, hs, by show w0.heap.push _ = _; rw [e1], ⟨e2, e3, e4⟩, fun ρ' hle => ?_, fun id ρ' hle hid => ?_⟩
  · have := cells_new (hv.mono hle) (extra := []) (e := e) (fr := (0, 0)) (ex := false) (fun h => by cases h) (fun i _ => by simp) w.heap.size
    simpa using this
  · exact V.slice (ρ := ρ') (b := id) (o := 0) (n := n) (c := 2 * k) (c' := k) hid hnk (fun _ => by omega) (fun h => by omega) (fun _ => by simp)

theorem zeros_nil {z : Array Value} {sz n : Nat} (hsz : z.size = sz) (h : n * sz = 0) (f : Nat → Value) : (Array.range (n * sz)).map f = (zerosFrom z.toList n).toArray := by
  subst hsz
  rw [← zeros_eq, h]
  simp
theorem zeros_pos {z : Array Value} {sz n : Nat} (hsz : z.size = sz) : ((Array.range (n * sz)).map fun i => z[i % z.size]!) = (zerosFrom z.toList n).toArray := by
  subst hsz
  exact zeros_eq n

theorem hBuildSlice_sound (ok : E.Ok P) (hE : c.E = E) (ht : TR ρ c.t a.tmps) {ty : TypeId} {len : Nat} {ps : Array (Nat × Operand)} (h : hBuildSlice ty len ps c = some r) (ho : o.op = .buildSlice ty len ps) :
    ∃ ob vf, c.new ob vf = some r ∧ NewOK P ρ w (execOp a.eval o) ob vf := by
  simp only [hBuildSlice, bnd_eq, grd_eq] at h
  obtain ⟨d, hd, e, he, z, hz, zero, hzero, hcond, vs, hvs, cs, hcs, h⟩ := h
  subst hE
  have := tdSlice_some he
  subst this
  simp only [Bool.and_eq_true, Nat.ble_eq, Nat.beq_eq] at hcond
  obtain ⟨hc1, hc2⟩ := hcond
  refine ⟨_, _, h, ?_⟩
  have hp := partVals_sound ht hvs
  have hzl := ((lit_sound ρ (Env.zero_lit hzero)).cells).zeros len
  obtain ⟨out', e1, e2⟩ := fill_sound _ _ (zerosFrom zero.cells.toList len).toArray (zerosFrom zero.cells.toList len).toArray _ hp (by simpa using hzl) hcs
  have hmap : (ps.map fun (i, x) => (i, a.eval x)).toList = ps.toList.map fun (i, x) => (i, a.eval x) := by simp
  have hcl : cs.toList.length = cs.size := by simp
  rw [← hcl]
  refine newSlice_ok e2 e (n := len) (k := len) (Nat.le_refl _) w ⟨rfl, rfl, rfl, rfl⟩ ?_
  simp only [execOp, ho, Instr.buildSlice, Sem.run_bind, ok.runUnd hd w, Result.andThen_ok, Sem.run_pure, ok.size hz w]
  rw [if_neg (by omega)]
  split
  · rename_i h0
    simp only [Sem.run_bind, Sem.run_pure, Result.andThen_ok]
    rw [zeros_nil (z := zero.cells) hc2 h0, hmap, e1]
    simp only [newRow, Sem.run_bind, run_newObj, Result.andThen_ok, Sem.run_pure]
    rfl
  · simp only [Sem.run_bind, Sem.run_pure, Result.andThen_ok, ok.zero hzero w]
    rw [zeros_pos (z := zero.cells) hc2, hmap, e1]
    simp only [newRow, Sem.run_bind, run_newObj, Result.andThen_ok, Sem.run_pure]
    rfl

theorem hMakeSlice_sound (ok : E.Ok P) (hE : c.E = E) (ht : TR ρ c.t a.tmps) {ty : TypeId} {l k : Operand} (h : hMakeSlice ty l k c = some r) (ho : o.op = .makeSlice ty l k) :
    ∃ ob vf, c.new ob vf = some r ∧ NewOK P ρ w (execOp a.eval o) ob vf := by
  simp only [hMakeSlice, bnd_eq, grd_eq] at h
  obtain ⟨d, hd, e, he, lv, hlv, ln, hln, kv, hkv, kn, hkn, z, hz, by', hby, zero, hzero, hcond, h⟩ := h
  subst hE
  have := tdSlice_some he
  subst this
  simp only [Bool.and_eq_true, Nat.ble_eq, Nat.beq_eq] at hcond
  obtain ⟨⟨⟨⟨h1, h2⟩, h3⟩, h4⟩, h5⟩ := hcond
  refine ⟨_, _, h, ?_⟩
  obtain ⟨lk, hl⟩ := asNat_some hln
  obtain ⟨kk, hk⟩ := asNat_some hkn
  subst hl hk
  have hle := (opv_sound ht hlv).int_inv
  have hke := (opv_sound ht hkv).int_inv
  have hzl := ((lit_sound ρ (Env.zero_lit hzero)).cells).zeros kn
  have hlen : (zerosFrom zero.cells.toList kn).length = kn * z := by rw [zerosFrom_length]; simp [h5]
  rw [← hlen]
  refine newSlice_ok hzl e (n := ln) (k := kn) h1 w ⟨rfl, rfl, rfl, rfl⟩ ?_
  obtain ⟨i, hi, hib⟩ := ok.bytes hby w
  have hw1 : IntKind.i64.wrap (ln : Int) = ln := by rw [IntKind.wrap_i64']; omega
  have hw2 : IntKind.i64.wrap (kn : Int) = kn := by rw [IntKind.wrap_i64']; omega
  simp only [execOp, ho, hle, hke, Instr.makeSlice, Sem.run_bind, ok.runUnd hd w, Result.andThen_ok, Sem.run_pure, run_int, hi, hib, hw1, hw2]
  have hc : ¬ ((((decide ((kn : Int) < 0) || decide ((by' : Int) * (kn : Int) > 2 ^ 48)) || decide ((ln : Int) < 0)) || decide ((ln : Int) > (kn : Int))) = true) := by
    have h3' : by' * kn ≤ 1048576 := by rw [Nat.mul_comm]; exact h3
    have : ((by' : Int) * (kn : Int)) = ((by' * kn : Nat) : Int) := by simp
    rw [this]
    simp
    omega
  rw [if_neg (by simpa using hc)]
  simp only [Sem.run_bind, run_askRoom, Result.andThen_ok, ok.size hz w, Sem.run_pure, Int.toNat_natCast]
  split
  · rename_i h0
    simp only [Sem.run_bind, Sem.run_pure, Result.andThen_ok]
    rw [zeros_nil (z := zero.cells) h5 h0]
    simp only [newRow, Sem.run_bind, run_newObj, Result.andThen_ok, Sem.run_pure]
    rfl
  · simp only [Sem.run_bind, Sem.run_pure, Result.andThen_ok, ok.zero hzero w]
    rw [zeros_pos (z := zero.cells) h5]
    simp only [newRow, Sem.run_bind, run_newObj, Result.andThen_ok, Sem.run_pure]
    rfl

theorem hMakeMap_sound (ok : E.Ok P) (hE : c.E = E) (ht : TR ρ c.t a.tmps) {ty : TypeId} {rs : Option Operand} (h : hMakeMap ty rs c = some r) (ho : o.op = .makeMap ty rs) :
    ∃ ob vf, c.new ob vf = some r ∧ NewOK P ρ w (execOp a.eval o) ob vf := by
  simp only [hMakeMap, bnd_eq, grd_eq] at h
  obtain ⟨d, hd, ke, hke, rv, hrv, hcond, h⟩ := h
  subst hE
  have := tdMap_some hke
  subst this
  refine ⟨_, _, h, ?_⟩
  have hrun : (execOp a.eval o).run P w = .ok (.value (.map (some w.heap.size))) (w.alloc (.map #[] 0)) := by
    simp only [execOp, ho, Instr.makeMap]
    cases rs with
    | none => simp only [Option.map_none, Sem.run_bind, Sem.run_pure, Result.andThen_ok, run_newObj]; rfl
    | some x =>
      simp only [opvo, bnd_eq] at hrv
      obtain ⟨v, hv, hrv⟩ := hrv
      injection hrv with hrv
      subst hrv
      split at hcond
      · rename_i heq; cases heq
      · rename_i k n heq
        injection heq with heq
        subst heq
        have := (opv_sound ht hv).int_inv
        simp only [Option.map_some, this, Sem.run_bind, Sem.run_pure, Result.andThen_ok, ok.runUnd hd w, run_int, run_newObj]
        rfl
      · cases hcond
  refine ⟨_, _, 0, _, hrun, rfl, ⟨rfl, rfl, rfl⟩, fun ρ' _ => ⟨#[], rfl, .nil⟩, fun id ρ' _ hid => ?_⟩
  exact V.map hid
end
end Go.Ab

namespace Go.Ab

/-- what an operation does that turns memory -/
def EffOK (P : Program) (ρ : Ren) (st : St) (w : World) (s : Sem Next) (v : Value) (st' : St) : Prop :=
  ∃ x v' w' ρ', s.run P w = .ok x w' ∧ (x = .value v' ∨ (x = .skip ∧ v' = undef)) ∧ V ρ' v v' ∧ Step ρ st w ρ' st' w'

section
variable {E : Env} {P : Program} {ρ : Ren} {st : St} {w : World} {t : Tr Value} {a : Act} {c : Ctx} {r : Out} {o : Oper}

theorem PureOK.eff (hr : HRel ρ st w) {s : Sem Next} {v : Value} (h : PureOK P ρ w s v) : EffOK P ρ st w s v st := by
  obtain ⟨v', h1, h2⟩ := h
  exact ⟨_, v', w, ρ, h1, .inl rfl, h2, Step.refl hr⟩

theorem NewOK.eff (hr : HRel ρ st w) {s : Sem Next} {ob : AObj} {vf : Nat → Value} (h : NewOK P ρ w s ob vf) : EffOK P ρ st w s (vf st.nx) (alloc st ob) := by
  obtain ⟨v', o', n, w', h1, h2, ⟨h3, h4, h5⟩, h6, h7⟩ := h
  have hs := hr.new (n := n) (o := ob) (o' := o') h6 w' h2 h3 h4 h5
  exact ⟨_, v', w', _, h1, .inl rfl, h7 _ _ (hs.le hr) (by simp), hs⟩

theorem hStore_sound (ok : E.Ok P) (hE : c.E = E) (ht : TR ρ c.t a.tmps) (hr : HRel ρ c.st w) {ty : TypeId} {x y : Operand} (h : hStore ty x y c = some r) (ho : o.op = .store ty x y) :
    EffOK P ρ c.st w (execOp a.eval o) r.v r.st ∧ r.ds = c.ds := by
  simp only [hStore, bnd_eq, grd_eq] at h
  obtain ⟨av, hav, p, hp, v, hv, z, hz, cs, hcs, hcond, st', hst, h⟩ := h
  obtain ⟨h1, h2, h3⟩ := out_some h
  subst hE
  simp only [Bool.and_eq_true, Nat.beq_eq, Nat.ble_eq] at hcond
  obtain ⟨⟨c1, c2⟩, c3⟩ := hcond
  have e1 := opv_sound ht hav
  rw [asAddr_some hp] at e1
  obtain ⟨l, hl, e2⟩ := e1.ptr_inv
  have e3 := (opv_sound ht hv).cells
  have hlen := e3.length
  obtain ⟨f1, f2⟩ := hr.write (P := P) hcs hl e3 (by simpa [c1] using c2) c3 hst
  refine ⟨⟨.skip, undef, _, ρ, ?_, .inr ⟨rfl, rfl⟩, by rw [h1]; exact V.undef ρ, by rw [h3]; exact f2⟩, h2⟩
  have hsz : (a.eval y).cells.size = z := by simpa [c1] using hlen.symm
  simp only [execOp, ho, e2, Instr.storeAt, Instr.sureAddr, Sem.run_bind, Sem.run_pure, Result.andThen_ok, storeVar, ok.size hz w]
  rw [if_neg (by simp [hsz])]
  simp only [f1, Result.andThen_ok, Sem.run_pure]

/-! ### maps -/
theorem V.map_inv {m : Option Nat} {v' : Value} (h : V ρ (.map m) v') : ∃ m', v' = .map m' ∧ MR ρ m m' := by
  cases h with
  | mnil => exact ⟨none, rfl, .inl ⟨rfl, rfl⟩⟩
  | map hl => exact ⟨_, rfl, .inr ⟨_, _, rfl, hl, rfl⟩⟩

theorem mapOf_some {b : Nat} {es : List MapEntry × Nat} (h : mapOf st b = some es) : ∃ k, blkOf st b = some k ∧ k.o = .map es.1 es.2 := by
  simp only [mapOf, bnd_eq] at h
  obtain ⟨k, hk, h⟩ := h
  refine ⟨k, hk, ?_⟩
  cases ho : k.o <;> rw [ho] at h <;> simp [AObj.asMap] at h
  subst h
  rfl

theorem HRel.map (hr : HRel ρ st w) {b : Nat} {es : List MapEntry × Nat} (h : mapOf st b = some es) {l : Loc} (hl : ρ b = some l) :
    ∃ es', w.heap[l.blk]? = some (.map es' es.2) ∧ ER ρ es.1 es'.toList := by
  obtain ⟨k, hk, ho⟩ := mapOf_some h
  obtain ⟨x, hx, hx2⟩ := hr.obj _ _ _ hk hl
  rw [ho] at hx2
  obtain ⟨es', rfl, h2⟩ := hx2
  exact ⟨es', hx, h2⟩

def notCells : Obj → Bool
  | .cells .. => false
  | _ => true
theorem run_getObj_of {b : Nat} {x : Obj} (h : w.heap[b]? = some x) (hx : notCells x = true) : (getObj b).run P w = .ok x w := by
  cases x <;> first | (simp [getObj, Sem.run, h]; done) | cases hx
theorem run_setObj_of {b : Nat} {x y : Obj} (hb : w.heap[b]? = some y) (hy : notCells y = true) : (setObj b x).run P w = .ok () { w with heap := w.heap.setIfInBounds b x } := by
  cases y <;> first | (simp [setObj, Sem.run, hb]; done) | cases hy

/-- an object is replaced -/
theorem HRel.setObj (hr : HRel ρ st w) {b : Nat} {ob : AObj} {st' : St} (h : setBlk st b ob = some st') {l : Loc} (hl : ρ b = some l) {x y : Obj} (ho : ORel ρ l ob x)
    (hb : w.heap[l.blk]? = some y) (hy : notCells y = true) :
    (Go.setObj l.blk x).run P w = .ok () { w with heap := w.heap.setIfInBounds l.blk x } ∧ Step ρ st w ρ st' { w with heap := w.heap.setIfInBounds l.blk x } := by
  obtain ⟨k, hk, rfl⟩ := setBlk_some h
  have hlt := (hr.ren _ _ hl).2
  refine ⟨run_setObj_of hb hy, hr.replace hk hl (o' := x) (fun c => ?_) (by simp) ho rfl rfl rfl⟩
  simp only [Array.getElem?_setIfInBounds]
  split
  · simp_all
  · rfl

end
end Go.Ab

namespace Go.Ab

section
variable {E : Env} {P : Program} {ρ : Ren} {st : St} {w : World} {t : Tr Value} {a : Act} {c : Ctx} {r : Out} {o : Oper}

theorem ba_eq {x y : ByteArray} (h : (x == y) = true) : x = y := by
  cases x with | mk x => cases y with | mk y =>
  have h : (x == y) = true := h
  rw [eq_of_beq h]
theorem ba_refl (x : ByteArray) : (x == x) = true := by
  cases x with | mk x => 
  show (x == x) = true
  exact beq_self_eq_true x

theorem keyFits_V {d : TypeDesc} {k k' : Value} (h : keyFits d k = true) (hv : V ρ k k') : k' = k := by
  cases d <;> cases k <;> simp [keyFits] at h <;> first | exact hv.int_inv | exact hv.string_inv | exact hv.bool_inv

theorem checkKey_run {d : TypeDesc} {k : Value} {e : Bool} {ty : TypeId} (ok : E.Ok P) (hd : E.und ty = some d) (h : keyFits d k = true) : (Instr.checkKey e 10000 ty k).run P w = .ok () w := by
  unfold Instr.checkKey
  simp only [Sem.run_bind, ok.runUnd hd w, Result.andThen_ok]
  cases d <;> cases k <;> simp [keyFits] at h <;> simp

theorem sameKey_true {k k' : Value} (h : sameKey k k' = some true) : k' = k := by
  unfold sameKey at h
  split at h
  · split at h
    · rename_i hk
      subst hk
      simp at h
      rw [h]
    · cases h
  · injection h with h; rw [ba_eq h]
  · simp at h; rw [h]
  · cases h

theorem sameNow_eq {d : TypeDesc} {k k' : Value} {b : Bool} (hf : keyFits d k = true) (h : sameKey k k' = some b) : Instr.sameNow d k k' = some b := by
  unfold sameKey at h
  split at h <;> cases d <;> simp [keyFits] at hf <;> simp [Instr.sameNow] <;> simp at h <;> exact h

theorem sameKey_V {k k1 k2 : Value} {b : Bool} (h : sameKey k k1 = some b) (hv : V ρ k1 k2) : k2 = k1 := by
  unfold sameKey at h
  split at h
  · exact hv.int_inv
  · exact hv.string_inv
  · exact hv.bool_inv
  · cases h

theorem findNow_cons (k : Value) (e : MapEntry) (es : List MapEntry) (i : Nat) : findNow k (e :: es) i = bnd (sameKey k e.key) fun b => cnd b (some (some (i, e.val))) (findNow k es (Nat.add i 1)) := rfl
theorem findNow_sound {d : TypeDesc} {k : Value} (hf : keyFits d k = true) : ∀ (es es' : List MapEntry) (i : Nat) (f : Option (Nat × Value)), ER ρ es es' → findNow k es i = some f →
    (f = none ∧ Instr.findNow d k es' i = some none) ∨ ∃ j v v', f = some (i + j, v) ∧ Instr.findNow d k es' i = some (some (i + j, v')) ∧ V ρ v v' ∧ (∃ e, es[j]? = some e ∧ e.key = k ∧ e.val = v) ∧ (∃ e', es'[j]? = some e' ∧ e'.key = k ∧ e'.val = v') := by
  intro es
  induction es with
  | nil => intro es' i f he h; cases he; injection h with h; subst h; exact .inl ⟨rfl, rfl⟩
  | cons e es ih =>
    intro es' i f he h
    cases he with
    | cons h1 h2 h3 h4 =>
      rename_i e' l'
      rw [findNow_cons] at h
      simp only [bnd_eq] at h
      obtain ⟨b, hb, h⟩ := h
      have hk := sameKey_V hb h1
      have hn := sameNow_eq hf hb
      rw [← hk] at hn
      cases b with
      | true =>
        injection h with h
        subst h
        have hkk := sameKey_true hb
        refine .inr ⟨0, e.val, e'.val, rfl, ?_, h2, ⟨e, rfl, hkk, rfl⟩, ⟨e', rfl, by rw [hk, hkk], rfl⟩⟩
        simp [Instr.findNow, hn]
      | false =>
        have h : findNow k es (i + 1) = some f := h
        have hrec : Instr.findNow d k (e' :: l') i = Instr.findNow d k l' (i + 1) := by simp [Instr.findNow, hn]
        rw [hrec]
        rcases ih l' (i + 1) f h4 h with hx | ⟨j, v, v', a1, a2, a3, a4, a5⟩
        · exact .inl hx
        · refine .inr ⟨j + 1, v, v', ?_, ?_, a3, a4, a5⟩
          · rw [a1]; congr 2; omega
          · rw [a2]; congr 3; omega

theorem findKey_run {d : TypeDesc} {k : Value} {ty : TypeId} (ok : E.Ok P) (hd : E.und ty = some d) {es : List MapEntry} {f : Option (Nat × Value)} (h : Instr.findNow d k es 0 = some f) :
    (Instr.findKey ty k es).run P w = .ok f w := by
  unfold Instr.findKey
  simp only [Sem.run_bind, ok.runUnd hd w, Result.andThen_ok, h, Sem.run_pure]

theorem sameBits_refl {d : TypeDesc} {k : Value} (h : keyFits d k = true) : Instr.sameBits 10000 k k = true := by
  cases d <;> cases k <;> simp [keyFits] at h <;> simp [Instr.sameBits, ba_refl]
theorem stays_run {d : TypeDesc} {k : Value} (h : keyFits d k = true) : (Instr.keyThatStays k k).run P w = .ok k w := by
  unfold Instr.keyThatStays
  rw [if_pos (sameBits_refl h)]
  rfl

theorem ER.modify {l l' : List MapEntry} (h : ER ρ l l') (i : Nat) {f f' : MapEntry → MapEntry} (hf : ∀ e e', V ρ e.key e'.key → V ρ e.val e'.val → e.born = e'.born → V ρ (f e).key (f' e').key ∧ V ρ (f e).val (f' e').val ∧ (f e).born = (f' e').born) :
    ER ρ (l.modify i f) (l'.modify i f') := by
  induction h generalizing i with
  | nil => simp; exact .nil
  | cons h1 h2 h3 h4 ih =>
    cases i with
    | zero => simp only [List.modify_zero_cons]; obtain ⟨a1, a2, a3⟩ := hf _ _ h1 h2 h3; exact .cons a1 a2 a3 h4
    | succ i => simp only [List.modify_succ_cons]; exact .cons h1 h2 h3 (ih i)
theorem ER.append {l l' m m' : List MapEntry} (h : ER ρ l l') (h' : ER ρ m m') : ER ρ (l ++ m) (l' ++ m') := by
  induction h with
  | nil => exact h'
  | cons h1 h2 h3 _ ih => exact .cons h1 h2 h3 ih
theorem ER.erase {l l' : List MapEntry} (h : ER ρ l l') (i : Nat) : ER ρ (l.eraseIdx i) (l'.eraseIdx i) := by
  induction h generalizing i with
  | nil => simp; exact .nil
  | cons h1 h2 h3 h4 ih =>
    cases i with
    | zero => exact h4
    | succ i => exact .cons h1 h2 h3 (ih i)
theorem ER.length {l l' : List MapEntry} (h : ER ρ l l') : l.length = l'.length := by
  induction h with
  | nil => rfl
  | cons _ _ _ _ ih => simp [ih]
theorem ER.get {l l' : List MapEntry} (h : ER ρ l l') {i : Nat} {e : MapEntry} (hi : l[i]? = some e) : ∃ e', l'[i]? = some e' ∧ V ρ e.key e'.key ∧ V ρ e.val e'.val ∧ e.born = e'.born := by
  induction h generalizing i with
  | nil => simp at hi
  | cons h1 h2 h3 h4 ih =>
    cases i with
    | zero => simp at hi; subst hi; exact ⟨_, rfl, h1, h2, h3⟩
    | succ i => simpa using ih (by simpa using hi)

theorem arr_modify (es : Array MapEntry) (i : Nat) (f : MapEntry → MapEntry) : (es.modify i f).toList = es.toList.modify i f := by simp
theorem ORel_map {l : Loc} {es : List MapEntry} {clock : Nat} {es' : Array MapEntry} (h : ER ρ es es'.toList) : ORel ρ l (.map es clock) (.map es' clock) := ⟨es', rfl, h⟩

/-- the three ways in which a map is written -/
theorem hMapPut_sound (ok : E.Ok P) (hE : c.E = E) (ht : TR ρ c.t a.tmps) (hr : HRel ρ c.st w) {ty : TypeId} {m k x : Operand} (h : hMapPut ty m k x c = some r)
    (ho : o.op = .mapUpdate ty m k x ∨ o.op = .insert ty m k x) :
    EffOK P ρ c.st w (execOp a.eval o) r.v r.st ∧ r.ds = c.ds := by
  simp only [hMapPut, bnd_eq, grd_eq] at h
  obtain ⟨d, hd, ke, hke, kd, hkd, mv, hmv, mo, hmo, b, hb, kv, hkv, hfit, v, hv, es, hes, f, hf, h⟩ := h
  have := tdMap_some hke
  subst this
  subst hE
  subst hb
  rw [asMap_some hmo] at hmv
  obtain ⟨m', em, hm⟩ := (opv_sound ht hmv).map_inv
  rcases hm with ⟨hm, _⟩ | ⟨b', l, hm, hl, hm'⟩
  · cases hm
  injection hm with hm
  subst hm hm'
  have ek := keyFits_V hfit (opv_sound ht hkv)
  have ev := opv_sound ht hv
  obtain ⟨es', hobj, her⟩ := hr.map hes hl
  have hrun : (execOp a.eval o).run P w = ((Instr.mapUpdate ty (.map (some l.blk)) kv (a.eval x)).run P w).andThen fun _ w' => .ok .skip w' := by
    rcases ho with ho | ho <;> simp only [execOp, ho, em, ek, Sem.run_bind, Sem.run_pure]
  rw [EffOK]
  simp only [hrun, Instr.mapUpdate, Sem.run_bind, ok.runUnd hd w, Result.andThen_ok, run_getObj_of hobj rfl, checkKey_run ok hkd hfit]
  rcases findNow_sound hfit es.1 es'.toList 0 f her hf with ⟨hf0, hfn⟩ | ⟨j, v0, v0', hf0, hfn, hv0, he, he'⟩
  · subst hf0
    simp only [bnd_eq] at h
    obtain ⟨st', hst, h⟩ := h
    obtain ⟨h1, h2, h3⟩ := out_some h
    have hob : ORel ρ l (.map (es.1 ++ [⟨kv, v, es.2⟩]) (Nat.add es.2 1)) (.map (es'.push ⟨kv, a.eval x, es.2⟩) (es.2 + 1)) :=
      ORel_map (by rw [Array.toList_push]; exact her.append (.cons (by have := opv_sound ht hkv; rwa [ek] at this) ev rfl .nil))
    obtain ⟨g1, g2⟩ := hr.setObj (P := P) hst hl hob hobj rfl
    refine ⟨⟨.skip, undef, _, ρ, ?_, .inr ⟨rfl, rfl⟩, by rw [h1]; exact V.undef ρ, by rw [h3]; exact g2⟩, h2⟩
    rw [findKey_run ok hkd hfn]
    simp only [Result.andThen_ok]
    rw [g1]
    rfl
  · subst hf0
    simp only [bnd_eq] at h
    obtain ⟨st', hst, h⟩ := h
    obtain ⟨h1, h2, h3⟩ := out_some h
    rw [Nat.zero_add] at *
    obtain ⟨e', he1, he2, he3⟩ := he'
    have hob : ORel ρ l (.map (es.1.modify j fun e => ⟨kv, v, e.born⟩) es.2) (.map (es'.modify j fun e => ⟨kv, a.eval x, e.born⟩) es.2) :=
      ORel_map (by rw [arr_modify]; exact her.modify j fun e1 e2 _ _ h3 => ⟨by have := opv_sound ht hkv; rwa [ek] at this, ev, h3⟩)
    obtain ⟨g1, g2⟩ := hr.setObj (P := P) hst hl hob hobj rfl
    refine ⟨⟨.skip, undef, _, ρ, ?_, .inr ⟨rfl, rfl⟩, by rw [h1]; exact V.undef ρ, by rw [h3]; exact g2⟩, h2⟩
    rw [findKey_run ok hkd hfn]
    have hk0 : ((es'[j]?).map (·.key)).getD kv = kv := by
      have : es'[j]? = some e' := by simpa using he1
      simp [this, he2]
    simp only [Result.andThen_ok, Sem.run_bind, hk0, stays_run hfit]
    rw [g1]
    rfl
end
end Go.Ab

namespace Go.Ab

section
variable {E : Env} {P : Program} {ρ : Ren} {st : St} {w : World} {t : Tr Value} {a : Act} {c : Ctx} {r : Out} {o : Oper}

theorem VL.pair {x y x' y' : Value} (h1 : V ρ x x') (h2 : V ρ y y') : VL ρ (#[x, y] : Array Value).toList (#[x', y'] : Array Value).toList := .cons h1 (.cons h2 .nil)

theorem hMapEntry_sound (ok : E.Ok P) (hE : c.E = E) (ht : TR ρ c.t a.tmps) (hr : HRel ρ c.st w) {ty : TypeId} {m k : Operand} (h : hMapEntry ty m k c = some r)
    (ho : o.op = .mapEntry ty m k) :
    EffOK P ρ c.st w (execOp a.eval o) r.v r.st ∧ r.ds = c.ds := by
  simp only [hMapEntry, bnd_eq, grd_eq] at h
  obtain ⟨d, hd, ke, hke, kd, hkd, mv, hmv, mo, hmo, b, hb, kv, hkv, hfit, es, hes, f, hf, h⟩ := h
  have := tdMap_some hke
  subst this
  subst hE
  subst hb
  rw [asMap_some hmo] at hmv
  obtain ⟨m', em, hm⟩ := (opv_sound ht hmv).map_inv
  rcases hm with ⟨hm, _⟩ | ⟨b', l, hm, hl, hm'⟩
  · cases hm
  injection hm with hm
  subst hm hm'
  have ek := keyFits_V hfit (opv_sound ht hkv)
  have ekv : V ρ kv kv := by have := opv_sound ht hkv; rwa [ek] at this
  obtain ⟨es', hobj, her⟩ := hr.map hes hl
  rw [EffOK]
  simp only [execOp, ho, em, ek, Instr.mapEntry, Sem.run_bind, ok.runUnd hd w, Result.andThen_ok, run_getObj_of hobj rfl, checkKey_run ok hkd hfit]
  rcases findNow_sound hfit es.1 es'.toList 0 f her hf with ⟨hf0, hfn⟩ | ⟨j, v0, v0', hf0, hfn, hv0, ⟨e, he1, he2, he3⟩, ⟨e', he1', he2', he3'⟩⟩
  · subst hf0
    simp only [bnd_eq] at h
    obtain ⟨z, hz, st', hst, h⟩ := h
    obtain ⟨h1, h2, h3⟩ := out_some h
    have hzl := lit_sound ρ (Env.zero_lit hz)
    have hob : ORel ρ l (.map (es.1 ++ [⟨kv, z, es.2⟩]) (Nat.add es.2 1)) (.map (es'.push ⟨kv, z, es.2⟩) (es.2 + 1)) :=
      ORel_map (by rw [Array.toList_push]; exact her.append (.cons ekv hzl rfl .nil))
    obtain ⟨g1, g2⟩ := hr.setObj (P := P) hst hl hob hobj rfl
    refine ⟨⟨_, .tuple #[z, goInt es.2], _, ρ, ?_, .inl rfl, by rw [h1]; exact .tuple (VL.pair hzl (V.int _ _)), by rw [h3]; exact g2⟩, h2⟩
    rw [findKey_run ok hkd hfn]
    simp only [Result.andThen_ok, Sem.run_bind, ok.zero hz w]
    rw [g1]
    rfl
  · subst hf0
    simp only [bnd_eq] at h
    obtain ⟨e0, he0, st', hst, h⟩ := h
    obtain ⟨h1, h2, h3⟩ := out_some h
    rw [Nat.zero_add] at *
    rw [he1] at he0
    injection he0 with he0
    subst he0
    have hob : ORel ρ l (.map (es.1.modify j fun e => ⟨kv, e.val, e.born⟩) es.2) (.map (es'.modify j fun e => ⟨kv, e.val, e.born⟩) es.2) :=
      ORel_map (by rw [arr_modify]; exact her.modify j fun e1 e2 _ h2 h3 => ⟨ekv, h2, h3⟩)
    obtain ⟨g1, g2⟩ := hr.setObj (P := P) hst hl hob hobj rfl
    have hget : es'[j]? = some e' := by simpa using he1'
    have hborn : e.born = e'.born := by
      obtain ⟨x, hx1, _, _, hx2⟩ := her.get he1
      rw [he1'] at hx1
      injection hx1 with hx1
      rw [hx2, hx1]
    refine ⟨⟨_, .tuple #[v0', goInt e'.born], _, ρ, ?_, .inl rfl, by rw [h1]; exact .tuple (VL.pair hv0 (by rw [hborn]; exact V.int _ _)), by rw [h3]; exact g2⟩, h2⟩
    rw [findKey_run ok hkd hfn]
    have hk0 : ((es'[j]?).map (·.key)).getD kv = kv := by simp [hget, he2']
    simp only [Result.andThen_ok, Sem.run_bind, hk0, stays_run hfit]
    rw [g1]
    simp [hget]

theorem findIdx_born {l l' : List MapEntry} (h : ER ρ l l') (n : Nat) : (l.findIdx? fun e => Nat.beq e.born n) = (l'.findIdx? fun e => (e.born : Int) == (n : Int)) := by
  induction h with
  | nil => rfl
  | cons h1 h2 h3 h4 ih =>
    rename_i e e' _ _
    simp only [List.findIdx?_cons]
    rw [ih, ← h3]
    have : Nat.beq e.born n = ((e.born : Int) == (n : Int)) := by
      by_cases hh : e.born = n
      · subst hh; simp
      · rw [nbeq hh]; simp; omega
    rw [this]

theorem hEntryStore_sound (ht : TR ρ c.t a.tmps) (hr : HRel ρ c.st w) {ty : TypeId} {m k x : Operand} (h : hEntryStore ty m k x c = some r)
    (ho : o.op = .entryStore ty m k x) :
    EffOK P ρ c.st w (execOp a.eval o) r.v r.st ∧ r.ds = c.ds := by
  simp only [hEntryStore, bnd_eq] at h
  obtain ⟨mv, hmv, mo, hmo, b, hb, sv, hsv, n, hn, v, hv, es, hes, i, hi, st', hst, h⟩ := h
  obtain ⟨h1, h2, h3⟩ := out_some h
  subst hb
  rw [asMap_some hmo] at hmv
  obtain ⟨m', em, hm⟩ := (opv_sound ht hmv).map_inv
  rcases hm with ⟨hm, _⟩ | ⟨b', l, hm, hl, hm'⟩
  · cases hm
  injection hm with hm
  subst hm hm'
  obtain ⟨kk, hk⟩ := asNat_some hn
  subst hk
  have es0 := (opv_sound ht hsv).int_inv
  have ev := opv_sound ht hv
  obtain ⟨es', hobj, her⟩ := hr.map hes hl
  have hob : ORel ρ l (.map (es.1.modify i fun e => ⟨e.key, v, e.born⟩) es.2) (.map (es'.modify i fun e => ⟨e.key, a.eval x, e.born⟩) es.2) :=
    ORel_map (by rw [arr_modify]; exact her.modify i fun e1 e2 h1 _ h3 => ⟨h1, ev, h3⟩)
  obtain ⟨g1, g2⟩ := hr.setObj (P := P) hst hl hob hobj rfl
  refine ⟨⟨.skip, undef, _, ρ, ?_, .inr ⟨rfl, rfl⟩, by rw [h1]; exact V.undef ρ, by rw [h3]; exact g2⟩, h2⟩
  have hidx : (es'.findIdx? fun e => (e.born : Int) == (n : Int)) = some i := by
    have : (es'.findIdx? fun e => (e.born : Int) == (n : Int)) = es'.toList.findIdx? fun e => (e.born : Int) == (n : Int) := by cases es'; simp
    rw [this, ← findIdx_born her]
    exact hi
  simp only [execOp, ho, em, es0, Instr.entryStore, Sem.run_bind, run_getObj_of hobj rfl, Result.andThen_ok, run_int, hidx]
  rw [g1]
  rfl

theorem hLookup_sound (ok : E.Ok P) (hE : c.E = E) (ht : TR ρ c.t a.tmps) (hr : HRel ρ c.st w) {ty : TypeId} {x i : Operand} {cok : Bool} (h : hLookup ty x i cok c = some r)
    (ho : o.op = .lookup ty x i cok) :
    PureOK P ρ w (execOp a.eval o) r.v ∧ r.ds = c.ds ∧ r.st = c.st := by
  simp only [hLookup, bnd_eq, grd_eq] at h
  obtain ⟨d, hd, ke, hke, kd, hkd, mv, hmv, mo, hmo, kv, hkv, hfit, es, hes, f, hf, h⟩ := h
  have := tdMap_some hke
  subst this
  subst hE
  rw [asMap_some hmo] at hmv
  obtain ⟨m', em, hm⟩ := (opv_sound ht hmv).map_inv
  have ek := keyFits_V hfit (opv_sound ht hkv)
  have hrows : ∃ es', (∀ X : Sem (Array MapEntry), (match m' with
      | none => pure #[]
      | some r => do
        let .map es _ ← getObj r | X
        pure es : Sem (Array MapEntry)).run P w = .ok es' w) ∧ ER ρ es es'.toList := by
    rcases hm with ⟨hm, hm'⟩ | ⟨b', l, hm, hl, hm'⟩
    · subst hm hm'
      injection hes with hes
      subst hes
      exact ⟨#[], fun _ => rfl, .nil⟩
    · subst hm hm'
      simp only [bnd_eq] at hes
      obtain ⟨y, hy, hes⟩ := hes
      injection hes with hes
      subst hes
      obtain ⟨es', hobj, her⟩ := hr.map hy hl
      exact ⟨es', fun X => by simp only [Sem.run_bind, run_getObj_of hobj rfl, Result.andThen_ok, Sem.run_pure], her⟩
  obtain ⟨es', hrun, her⟩ := hrows
  have hrun := hrun (Sem.halt .blocked)
  have hexec : (execOp a.eval o).run P w = ((Instr.findKey ke.1 kv es'.toList).run P w).andThen fun f' w' =>
      ((match f' with
        | some (_, v) => pure (v, true)
        | none => do pure (← zeroValue ke.2, false) : Sem (Value × Bool)).run P w').andThen fun p w'' => .ok (.value (if cok then .tuple #[p.1, .bool p.2] else p.1)) w'' := by
    cases m' with
    | none =>
      injection hrun with hrun hw
      subst hrun
      simp only [execOp, ho, em, ek, Instr.lookup, Sem.run_bind, ok.runUnd hd w, Result.andThen_ok, Sem.run_pure, checkKey_run ok hkd hfit]
      cases (Instr.findKey ke.1 kv (#[] : Array MapEntry).toList).run P w with
      | halt _ _ => rfl
      | ok f' w' =>
        cases f' with
        | none => simp only [Result.andThen_ok, Sem.run_bind, Sem.run_pure]; cases (zeroValue ke.2).run P w' <;> rfl
        | some p => rfl
    | some b =>
      simp only [execOp, ho, em, ek, Instr.lookup, Sem.run_bind, ok.runUnd hd w, Result.andThen_ok, Sem.run_pure] at hrun ⊢
      cases hg : (getObj b).run P w with
      | halt _ _ => rw [hg] at hrun; cases hrun
      | ok ob w1 =>
        rw [hg] at hrun
        simp only [Result.andThen_ok] at hrun ⊢
        cases ob <;> simp only [Sem.run_pure] at hrun <;> try (cases hrun; done)
        injection hrun with h1 h2
        subst h1 h2
        simp only [Sem.run_bind, Sem.run_pure, Result.andThen_ok, checkKey_run ok hkd hfit]
        cases (Instr.findKey ke.1 kv _).run P _ with
        | halt _ _ => rfl
        | ok f' w' =>
          cases f' with
          | none => simp only [Result.andThen_ok, Sem.run_bind, Sem.run_pure]; cases (zeroValue ke.2).run P w' <;> rfl
          | some p => rfl
  rw [PureOK, hexec]
  rcases findNow_sound hfit es es'.toList 0 f her hf with ⟨hf0, hfn⟩ | ⟨j, v0, v0', hf0, hfn, hv0, _, _⟩
  · subst hf0
    simp only [bnd_eq] at h
    obtain ⟨z, hz, h⟩ := h
    obtain ⟨h1, h2, h3⟩ := val_some h
    have hzl := lit_sound ρ (Env.zero_lit hz)
    refine ⟨⟨if cok then .tuple #[z, .bool false] else z, ?_, ?_⟩, h2, h3⟩
    · rw [findKey_run ok hkd hfn]
      simp only [Result.andThen_ok, Sem.run_bind, ok.zero hz w, Sem.run_pure]
    · rw [h1, cnd_of]
      split
      · exact .tuple (VL.pair hzl (V.bool _))
      · exact hzl
  · subst hf0
    obtain ⟨h1, h2, h3⟩ := val_some h
    refine ⟨⟨if cok then .tuple #[v0', .bool true] else v0', ?_, ?_⟩, h2, h3⟩
    · rw [findKey_run ok hkd hfn]
      simp only [Result.andThen_ok, Sem.run_bind, Sem.run_pure]
    · rw [h1, cnd_of]
      split
      · exact .tuple (VL.pair hv0 (V.bool _))
      · exact hv0

theorem hDelete_sound (ok : E.Ok P) (hE : c.E = E) (ht : TR ρ c.t a.tmps) (hr : HRel ρ c.st w) {args : Array Operand} {tys : Array TypeId} (h : hDelete args.toList tys.toList c = some r)
    (ho : o.op = .call { callee := .builtin .delete, args := args, argTypes := tys }) :
    EffOK P ρ c.st w (execOp a.eval o) r.v r.st ∧ r.ds = c.ds := by
  simp only [hDelete, bnd_eq, grd_eq] at h
  obtain ⟨ty, hty, m, hm0, k, hk0, d, hd, ke, hke, kd, hkd, mv, hmv, mo, hmo, b, hb, kv, hkv, hfit, es, hes, f, hf, h⟩ := h
  have := tdMap_some hke
  subst this
  subst hE
  subst hb
  rw [asMap_some hmo] at hmv
  obtain ⟨m', em, hm⟩ := (opv_sound ht hmv).map_inv
  rcases hm with ⟨hm, _⟩ | ⟨b', l, hm, hl, hm'⟩
  · cases hm
  injection hm with hm
  subst hm hm'
  have ek := keyFits_V hfit (opv_sound ht hkv)
  obtain ⟨es', hobj, her⟩ := hr.map hes hl
  have ht0 : tys[0]? = some ty := by simpa using hty
  have ha0 : (args.map a.eval)[0]? = some (.map (some l.blk)) := by simp [args_two hm0, em]
  have ha1 : (args.map a.eval)[1]? = some kv := by simp [args_two hk0, ek]
  rw [EffOK]
  simp only [execOp, ho, resolve, invoke, builtin, Sem.run_bind, Sem.run_pure, Result.andThen_ok, Builtin.delete_, ht0, ha0, ha1, ok.runUnd hd w, run_getObj_of hobj rfl, checkKey_run ok hkd hfit]
  rcases findNow_sound hfit es.1 es'.toList 0 f her hf with ⟨hf0, hfn⟩ | ⟨j, v0, v0', hf0, hfn, hv0, ⟨e, he1, he2, he3⟩, ⟨e', he1', he2', he3'⟩⟩
  · subst hf0
    simp only [bnd_eq] at h
    obtain ⟨st', hst, h⟩ := h
    obtain ⟨h1, h2, h3⟩ := out_some h
    obtain ⟨g1, g2⟩ := hr.setObj (P := P) hst hl (ORel_map her) hobj rfl
    refine ⟨⟨_, .tuple #[], _, ρ, ?_, .inl rfl, by rw [h1]; exact .tuple .nil, by rw [h3]; exact g2⟩, h2⟩
    rw [findKey_run ok hkd hfn]
    simp only [Result.andThen_ok, Sem.run_bind, g1, Sem.run_pure]
  · subst hf0
    simp only [bnd_eq] at h
    obtain ⟨st', hst, h⟩ := h
    obtain ⟨h1, h2, h3⟩ := out_some h
    rw [Nat.zero_add] at *
    have hob : ORel ρ l (.map (es.1.eraseIdx j) es.2) (.map (es'.eraseIdxIfInBounds j) es.2) := ORel_map (by
      have : (es'.eraseIdxIfInBounds j).toList = es'.toList.eraseIdx j := by simp
      rw [this]
      exact her.erase j)
    obtain ⟨g1, g2⟩ := hr.setObj (P := P) hst hl hob hobj rfl
    refine ⟨⟨_, .tuple #[], _, ρ, ?_, .inl rfl, by rw [h1]; exact .tuple .nil, by rw [h3]; exact g2⟩, h2⟩
    rw [findKey_run ok hkd hfn]
    simp only [Result.andThen_ok, Sem.run_bind, g1, Sem.run_pure]
end
end Go.Ab

namespace Go.Ab

section
variable {E : Env} {P : Program} {ρ : Ren} {st : St} {w : World} {t : Tr Value} {a : Act} {c : Ctx} {r : Out} {o : Oper}

/-- an object that is no row of cells, new -/
theorem newObj_ok {ob : AObj} {x : Obj} {s : Sem Next} (ho : ∀ ρ', ρ.le ρ' → ORel ρ' ⟨w.heap.size, 0, 0⟩ ob x)
    (hs : s.run P w = .ok (.value (.pointer (some ⟨w.heap.size, 0, none⟩))) (w.alloc x)) : NewOK P ρ w s ob fun id => .pointer (some ⟨id, 0, none⟩) :=
  ⟨_, x, 0, _, hs, rfl, ⟨rfl, rfl, rfl⟩, ho, fun id ρ' _ hid => by simpa using V.ptr (o := 0) hid⟩

theorem hRange_sound (ok : E.Ok P) (hE : c.E = E) (ht : TR ρ c.t a.tmps) (hr : HRel ρ c.st w) {ty : TypeId} {x : Operand} (h : hRange ty x c = some r)
    (ho : o.op = .range ty x) :
    ∃ ob vf, c.new ob vf = some r ∧ NewOK P ρ w (execOp a.eval o) ob vf := by
  simp only [hRange, bnd_eq] at h
  obtain ⟨d, hd, xv, hxv, h⟩ := h
  subst hE
  have ex := opv_sound ht hxv
  split at h
  · have e1 := ex.string_inv
    refine ⟨_, _, h, newObj_ok (fun ρ' _ => ⟨rfl, rfl⟩) ?_⟩
    simp only [execOp, ho, e1, Instr.range, Sem.run_bind, ok.runUnd hd w, Result.andThen_ok, Sem.run_pure, run_newObj]
    rfl
  · obtain ⟨m', em, hm⟩ := ex.map_inv
    rcases hm with ⟨_, hm⟩ | ⟨_, _, hm, _, _⟩
    · subst hm
      refine ⟨_, _, h, newObj_ok (x := .mapIter none 0 #[] 0) (fun ρ' _ => ⟨none, rfl, .inl ⟨rfl, rfl⟩, rfl⟩) ?_⟩
      simp only [execOp, ho, em, Instr.range, Sem.run_bind, ok.runUnd hd w, Result.andThen_ok, Sem.run_pure, run_newObj]
      rfl
    · cases hm
  · obtain ⟨m', em, hm⟩ := ex.map_inv
    rcases hm with ⟨hm, _⟩ | ⟨b', l, hm, hl, hm'⟩
    · cases hm
    · injection hm with hm
      subst hm hm'
      simp only [bnd_eq] at h
      obtain ⟨es, hes, h⟩ := h
      obtain ⟨es', hobj, her⟩ := hr.map hes hl
      refine ⟨_, _, h, newObj_ok (x := .mapIter (some l.blk) es.2 #[] es.2) (fun ρ' hle => ⟨_, rfl, .inr ⟨_, l, rfl, hle _ _ hl, rfl⟩, rfl⟩) ?_⟩
      simp only [execOp, ho, em, Instr.range, Sem.run_bind, ok.runUnd hd w, Result.andThen_ok, Sem.run_pure, run_getObj_of hobj rfl, run_newObj]
      rfl
  · cases h

theorem VL.trip {x y z x' y' z' : Value} (h1 : V ρ x x') (h2 : V ρ y y') (h3 : V ρ z z') : VL ρ (#[x, y, z] : Array Value).toList (#[x', y', z'] : Array Value).toList := .cons h1 (.cons h2 (.cons h3 .nil))
theorem over_rel : V ρ (.tuple #[.bool false]) (.tuple #[.bool false]) := .tuple (.cons (.bool _) .nil)

theorem ER.nil_inv {l : List MapEntry} (h : ER ρ [] l) : l = [] := by cases h; rfl
theorem ER.one_inv {e : MapEntry} {l : List MapEntry} (h : ER ρ [e] l) : ∃ e', l = [e'] ∧ V ρ e.key e'.key ∧ V ρ e.val e'.val ∧ e.born = e'.born := by
  cases h with
  | cons h1 h2 h3 h4 => cases h4; exact ⟨_, rfl, h1, h2, h3⟩

theorem forced_one : (Question.mapNext 1).forced = true := rfl
theorem run_choose_one (n : Nat) (hn : n ≤ 1) : (choose (.mapNext n)).run P w = .ok 0 w := by
  rw [run_choose_drew, if_pos (by simpa [Question.forced] using hn)]

theorem hNext_sound (ht : TR ρ c.t a.tmps) (hr : HRel ρ c.st w) {x : Operand} {str : Bool} (h : hNext x str c = some r) (ho : o.op = .next x str) :
    EffOK P ρ c.st w (execOp a.eval o) r.v r.st ∧ r.ds = c.ds := by
  simp only [hNext, bnd_eq, grd_eq] at h
  obtain ⟨av, hav, p, hp, hz, k, hk, h⟩ := h
  have e1 := opv_sound ht hav
  rw [asAddr_some hp] at e1
  obtain ⟨l, hl, e2⟩ := e1.ptr_inv
  obtain ⟨ob, hob, hrel⟩ := hr.obj _ _ _ hk hl
  have hz0 : p.2 = 0 := Nat.eq_of_beq_eq_true hz
  have over : ∀ {s : Sem Next}, s.run P w = .ok (.value (.tuple #[.bool false])) w → c.val (.tuple #[.bool false]) = some r → EffOK P ρ c.st w s r.v r.st ∧ r.ds = c.ds := by
    intro s hs hv
    obtain ⟨h1, h2, h3⟩ := val_some hv
    refine ⟨?_, h2⟩
    rw [h1, h3]
    exact PureOK.eff hr ⟨_, hs, over_rel⟩
  split at h
  · rename_i s q heq
    rw [heq] at hrel
    obtain ⟨rfl, hoff⟩ := hrel
    have hrun : (execOp a.eval o).run P w = ((if q < s.size then do
        Go.setObj l.blk (.stringIter s (q + (Utf8.decode s q).2))
        pure (.tuple #[.bool true, goInt q, .int .i32 (Utf8.decode s q).1])
      else pure (.tuple #[.bool false]) : Sem Value).run P w).andThen fun v w' => .ok (.value v) w' := by
      simp only [execOp, ho, e2, hoff, hz0, Instr.next, Sem.run_bind, run_getObj_of hob rfl, Result.andThen_ok, Sem.run_pure]
    rw [cnd_of] at h
    split at h
    · rename_i hlt
      have hlt : q < s.size := by simpa using hlt
      simp only [bnd_eq] at h
      obtain ⟨st', hst, h⟩ := h
      obtain ⟨h1, h2, h3⟩ := out_some h
      have hor : ORel ρ l (.strIter s (Nat.add q (Utf8.decode s q).2)) (.stringIter s (q + (Utf8.decode s q).2)) := ⟨rfl, hoff⟩
      obtain ⟨g1, g2⟩ := hr.setObj (P := P) hst hl hor hob rfl
      refine ⟨⟨_, .tuple #[.bool true, goInt q, .int .i32 (Utf8.decode s q).1], _, ρ, ?_, .inl rfl, by rw [h1]; exact .tuple (VL.trip (V.bool _) (V.int _ _) (V.int _ _)), by rw [h3]; exact g2⟩, h2⟩
      rw [hrun, if_pos hlt]
      simp only [Sem.run_bind, g1, Result.andThen_ok, Sem.run_pure]
    · rename_i hlt
      have hlt : ¬ q < s.size := by simpa using hlt
      refine over ?_ h
      rw [hrun, if_neg hlt]
      rfl
  · rename_i s1 s2 s3 heq
    rw [heq] at hrel
    obtain ⟨m', rfl, hm, hoff⟩ := hrel
    rcases hm with ⟨_, rfl⟩ | ⟨_, _, hm, _⟩
    · refine over ?_ h
      simp only [execOp, ho, e2, hoff, hz0, Instr.next, Sem.run_bind, run_getObj_of hob rfl, Result.andThen_ok, Sem.run_pure]
    · cases hm
  · rename_i m since seen stepped heq
    rw [heq] at hrel
    obtain ⟨m', rfl, hm, hoff⟩ := hrel
    rcases hm with ⟨hm, _⟩ | ⟨b', lm, hm, hlm, rfl⟩
    · cases hm
    injection hm with hm
    subst hm
    simp only [nextMap, bnd_eq] at h
    obtain ⟨es, hes, h⟩ := h
    obtain ⟨es', hobm, her⟩ := hr.map hes hlm
    split at h
    · rename_i heq2
      rw [heq2] at her
      have he' : es' = #[] := by have := her.nil_inv; simpa using this
      subst he'
      refine over ?_ h
      simp [execOp, ho, e2, hoff, hz0, Instr.next, run_getObj_of hob rfl, run_getObj_of hobm rfl, forced_one, run_choose_one]
    · rename_i e heq2
      rw [heq2] at her
      obtain ⟨e', he1, hek, hev, heb⟩ := her.one_inv
      have he' : es' = #[e'] := by apply Array.toList_inj.1; simpa using he1
      subst he'
      simp only [grd_eq, bnd_eq] at h
      obtain ⟨hlt, st', hst, h⟩ := h
      have hlt : e'.born < since := by rw [← heb]; simpa using hlt
      obtain ⟨h1, h2, h3⟩ := out_some h
      have hor : ORel ρ l (.mapIter (some m) since [e.born] es.2) (.mapIter (some lm.blk) since #[e'.born] es.2) := ⟨some lm.blk, by rw [heb], .inr ⟨_, _, rfl, hlm, rfl⟩, hoff⟩
      obtain ⟨g1, g2⟩ := hr.setObj (P := P) hst hl hor hob rfl
      refine ⟨⟨_, .tuple #[.bool true, e'.key, e'.val], _, ρ, ?_, .inl rfl, by rw [h1]; exact .tuple (VL.trip (V.bool _) hek hev), by rw [h3]; exact g2⟩, h2⟩
      have hge : ¬ since ≤ e'.born := by omega
      simp [execOp, ho, e2, hoff, hz0, Instr.next, run_getObj_of hob rfl, run_getObj_of hobm rfl, forced_one, run_choose_one, hlt, hge, g1]
    · rename_i e b heq2
      rw [heq2] at her
      obtain ⟨e', he1, hek, hev, heb⟩ := her.one_inv
      have he' : es' = #[e'] := by apply Array.toList_inj.1; simpa using he1
      subst he'
      simp only [grd_eq, Bool.and_eq_true, Nat.beq_eq] at h
      obtain ⟨⟨c1, c2⟩, h⟩ := h
      have c2 : e'.born < stepped := by rw [← heb]; simpa using c2
      have hge : ¬ stepped ≤ e'.born := by omega
      refine over ?_ h
      simp [execOp, ho, e2, hoff, hz0, Instr.next, run_getObj_of hob rfl, run_getObj_of hobm rfl, forced_one, run_choose_one, hge, ← heb, c1]
      have := c1 ▸ heb
      omega
    · cases h
  · cases h

theorem ER.find {l l' : List MapEntry} (h : ER ρ l l') {b : Nat} {e : MapEntry} (hf : (l.find? fun e => Nat.beq e.born b) = some e) :
    ∃ e', (l'.find? fun e => e.born == b) = some e' ∧ V ρ e.key e'.key ∧ V ρ e.val e'.val := by
  induction h with
  | nil => cases hf
  | cons h1 h2 h3 _ ih =>
    rename_i x x' l l' _
    rw [List.find?_cons] at hf ⊢
    have hb : (x'.born == b) = Nat.beq x.born b := by rw [← h3, Bool.eq_iff_iff]; simp
    rw [hb]
    cases hx : Nat.beq x.born b <;> rw [hx] at hf
    · exact ih hf
    · injection hf with hf
      subst hf
      exact ⟨_, rfl, h1, h2⟩

theorem hEntry_sound (ht : TR ρ c.t a.tmps) (hr : HRel ρ c.st w) {x : Operand} (h : hEntry x c = some r) (ho : o.op = .entry x) :
    PureOK P ρ w (execOp a.eval o) r.v ∧ r.ds = c.ds ∧ r.st = c.st := by
  simp only [hEntry, bnd_eq, grd_eq] at h
  obtain ⟨av, hav, p, hp, hz, k, hk, h⟩ := h
  have e1 := opv_sound ht hav
  rw [asAddr_some hp] at e1
  obtain ⟨l, hl, e2⟩ := e1.ptr_inv
  obtain ⟨ob, hob, hrel⟩ := hr.obj _ _ _ hk hl
  have hz0 : p.2 = 0 := Nat.eq_of_beq_eq_true hz
  split at h
  · rename_i m since seen stepped heq
    rw [heq] at hrel
    obtain ⟨m', rfl, hm, hoff⟩ := hrel
    rcases hm with ⟨hm, _⟩ | ⟨b', lm, hm, hlm, rfl⟩
    · cases hm
    injection hm with hm
    subst hm
    simp only [bnd_eq, grd_eq] at h
    obtain ⟨b, hb, es, hes, hc, e, hf, h⟩ := h
    obtain ⟨es', hobm, her⟩ := hr.map hes hlm
    obtain ⟨e', f1, f2, f3⟩ := her.find hf
    have hc : es.2 = stepped := Nat.eq_of_beq_eq_true hc
    obtain ⟨h1, h2, h3⟩ := val_some h
    refine ⟨⟨.tuple #[e'.key, e'.val], ?_, by rw [h1]; exact .tuple (.cons f2 (.cons f3 .nil))⟩, h2, h3⟩
    have hback : seen.toArray.back? = some b := by simpa using hb
    have hfind : es'.find? (fun e => e.born == b) = some e' := by rw [← Array.find?_toList]; exact f1
    simp [execOp, ho, e2, hoff, hz0, Instr.entry, run_getObj_of hob rfl, run_getObj_of hobm rfl, hback, hfind, hc]
  · cases h
end
end Go.Ab

namespace Go.Ab

section
variable {E : Env} {P : Program} {ρ : Ren} {st : St} {w : World} {t : Tr Value} {a : Act} {c : Ctx} {r : Out} {o : Oper}

theorem lenOf_run {v v' : Value} {n : Nat} (hv : V ρ v v') (h : lenOf v = some n) : (Builtin.lenOf v').run P w = .ok n w := by
  cases hv <;> simp [lenOf] at h <;> subst h <;> rfl

theorem bytes_rel (l : List UInt8) : VL ρ (l.map fun b => Value.int .u8 b.toNat) (l.map fun b => Value.int .u8 b.toNat) := by
  induction l with
  | nil => exact .nil
  | cons b l ih => exact .cons (.int _ _) ih

theorem cell_heap {w0 w : World} (h : w0.heap = w.heap) (x : Addr) : w0.cell? x = w.cell? x := by simp [World.cell?, h]
theorem srcCells_sound (hr : HRel ρ st w) {x x' : Value} (hv : V ρ x x') {z m ml : Nat} {vs : List Value} (h : srcCells st z m x = some vs) (hl : lenOf x = some ml) (hm : m ≤ ml) :
    ∃ vs', VL ρ vs vs' ∧ ∀ w0 : World, w0.heap = w.heap → (Builtin.firstCells z m x').run P w0 = .ok vs'.toArray w0 := by
  unfold srcCells at h
  split at h
  · rename_i b o n k
    cases hv with
    | slice hlb hn h1 h2 h3 =>
      rename_i c' l a'
      injection hl with hl
      simp only [bnd_eq] at h
      obtain ⟨cs, hcs, h⟩ := h
      obtain ⟨vs', e1, e2, e3⟩ := hr.cells hcs hlb h
      refine ⟨vs', e2, fun w0 hw0 => ?_⟩
      show (loadCells a' (m * z)).run P w0 = _
      by_cases hmz : m * z = 0
      · rw [hmz] at e1 ⊢
        have : vs' = [] := List.eq_nil_of_length_eq_zero e1
        subst this
        rfl
      · have : m ≠ 0 := fun h => hmz (by rw [h, Nat.zero_mul])
        have ha := h3 (by omega)
        subst ha
        have hload := run_loadCells_list (P := P) w0 ⟨l.blk, l.off + o, none⟩ vs' (fun j v hj => by rw [add_none, cell_heap hw0]; exact e3 j v hj)
        rw [e1] at hload
        exact hload
  · cases hv
    injection h with h
    subst h
    exact ⟨[], .nil, fun _ _ => rfl⟩
  · rename_i s
    have := hv.string_inv
    subst this
    injection h with h
    subst h
    refine ⟨_, bytes_rel _, fun w0 _ => ?_⟩
    show Result.ok _ _ = Result.ok _ _
    congr 1
    apply Array.toList_inj.1
    simp [ByteArray.data_extract]
  · cases h

theorem asSlice_some {v : Value} {s : Option (Nat × Nat) × Nat × Nat} (h : asSlice v = some s) :
    (s.1 = none ∧ v = .slice none s.2.1 s.2.2) ∨ ∃ p, s.1 = some p ∧ v = .slice (some ⟨p.1, p.2, none⟩) s.2.1 s.2.2 := by
  unfold asSlice at h
  split at h
  · injection h with h; subst h; exact .inl ⟨rfl, rfl⟩
  · injection h with h; subst h; exact .inr ⟨_, rfl, rfl⟩
  · cases h

theorem V.snil_inv {v' : Value} {n k : Nat} (h : V ρ (.slice none n k) v') : n = 0 ∧ k = 0 ∧ v' = .slice none 0 0 := by
  generalize hv : Value.slice none n k = v at h
  cases h <;> cases hv
  exact ⟨rfl, rfl, rfl⟩
theorem V.slice_inv {v' : Value} {b o n k : Nat} (h : V ρ (.slice (some ⟨b, o, none⟩) n k) v') : ∃ (l : Loc) (a' : Addr) (c' : Nat), v' = .slice (some a') n c' ∧ ρ b = some l ∧ n ≤ c' ∧ (k % 2 = 0 → c' = k / 2) ∧
    (k % 2 = 1 → capLo k ≤ c' ∧ o + c' * capSz k ≤ l.avail) ∧ (c' ≠ 0 → a' = ⟨l.blk, l.off + o, none⟩) := by
  generalize hv : Value.slice (some ⟨b, o, none⟩) n k = v at h
  cases h <;> cases hv
  rename_i c' l a' _ _ _ _ _
  exact ⟨l, a', c', rfl, by assumption, by assumption, by assumption, by assumption, by assumption⟩
theorem srcCells_nil {z : Nat} {x : Value} {vs : List Value} (h : srcCells st z 0 x = some vs) : vs = [] := by
  unfold srcCells at h
  split at h
  · simp only [bnd_eq, Nat.zero_mul] at h
    obtain ⟨cs, _, h⟩ := h
    injection h with h
    exact h.symm
  · injection h with h; exact h.symm
  · injection h with h; simpa using h.symm
  · cases h

/-- cells are written where a slice stands -/
theorem HRel.writeAt (hr : HRel ρ st w) {b o off : Nat} {cs : (TypeId × Bool) × Nat × Tr Value} (hc : cellsOf st b = some cs) {l : Loc} (hl : ρ b = some l) {vs vs' : List Value} (hv : VL ρ vs vs') {a' : Addr}
    (ha : vs ≠ [] → a' = ⟨l.blk, l.off + o, none⟩)
    (hroom : o + off + vs.length ≤ cs.2.1) (hone : vs.all one = true) {st' : St} (h : setCells st b (writeCells vs (o + off) cs.2.2) = some st') :
    (storeCells (a'.add off) vs').run P w = .ok () (w.setCells l.blk (l.off + (o + off)) vs') ∧ Step ρ st w ρ st' (w.setCells l.blk (l.off + (o + off)) vs') := by
  obtain ⟨h1, h2⟩ := hr.write (P := P) hc hl hv hroom hone h
  refine ⟨?_, h2⟩
  cases vs with
  | nil => cases hv; rfl
  | cons v vs =>
    rw [ha (by simp), add_none, Nat.add_assoc]
    exact h1

theorem hCopy_sound (ok : E.Ok P) (hE : c.E = E) (ht : TR ρ c.t a.tmps) (hr : HRel ρ c.st w) {args : Array Operand} {tys : Array TypeId} (h : hCopy args.toList tys.toList c = some r)
    (ho : o.op = .call { callee := .builtin .copy, args := args, argTypes := tys }) :
    EffOK P ρ c.st w (execOp a.eval o) r.v r.st ∧ r.ds = c.ds := by
  simp only [hCopy, bnd_eq] at h
  obtain ⟨ty, hty, d0, hd0, x, hx0, d, hd, e, he, z, hz, dv, hdv, s, hs, xv, hxv, m, hm, new, hnew, h⟩ := h
  subst hE
  have := tdSlice_some he
  subst this
  have ex := opv_sound ht hxv
  have ed := opv_sound ht hdv
  obtain ⟨new', n2, n1⟩ := srcCells_sound (P := P) hr ex hnew hm (Nat.min_le_left _ _)
  have n1 := n1 w rfl
  have ht0 : tys[0]? = some ty := by simpa using hty
  have hrun : ∀ ao n k, a.eval d0 = .slice ao n k → n = s.2.1 → (execOp a.eval o).run P w = ((match ao with
      | some a => storeCells a new'
      | none => pure () : Sem Unit).run P w).andThen fun _ w' => .ok (.value (goInt (Nat.min m s.2.1 : Nat))) w' := by
    intro ao n k hao hn
    subst hn
    have ha0 : (args.map a.eval)[0]? = some (.slice ao s.2.1 k) := by simp [args_two hd0, hao]
    have ha1 : (args.map a.eval)[1]? = some (a.eval x) := by simp [args_two hx0]
    simp only [execOp, ho, resolve, invoke, builtin, Sem.run_bind, Sem.run_pure, Result.andThen_ok, Builtin.copy_, ht0, ha0, ha1, ok.runUnd hd w, lenOf_run ex hm, ok.size hz w, n1]
    cases ao <;> simp only [Sem.run_bind, Sem.run_pure, Result.andThen_ok]
    cases (storeCells _ _ ).run P w <;> rfl
  rcases asSlice_some hs with ⟨hs1, hs2⟩ | ⟨p, hs1, hs2⟩
  · rw [hs1] at h
    obtain ⟨h1, h2, h3⟩ := val_some h
    rw [hs2] at ed
    obtain ⟨i1, i2, i3⟩ := ed.snil_inv
    refine ⟨?_, h2⟩
    rw [h1, h3]
    refine PureOK.eff hr ⟨.int .i64 _, ?_, .int _ _⟩
    rw [hrun none 0 0 i3 i1.symm]
    rfl
  · rw [hs1] at h
    simp only [bnd_eq, grd_eq] at h
    obtain ⟨cs, hcs, hcond, st', hst, h⟩ := h
    obtain ⟨h1, h2, h3⟩ := out_some h
    simp only [Bool.and_eq_true, Nat.ble_eq] at hcond
    rw [hs2] at ed
    obtain ⟨l, a', c', i1, i2, i3, i4, i5, i6⟩ := ed.slice_inv
    have hne : new ≠ [] → a' = ⟨l.blk, l.off + p.2, none⟩ := fun hn => i6 (by
      intro h0
      apply hn
      have : Nat.min m s.2.1 = 0 := Nat.le_zero.1 (Nat.le_trans (Nat.min_le_right m s.2.1) (by omega))
      rw [this] at hnew
      exact srcCells_nil hnew)
    obtain ⟨g1, g2⟩ := hr.writeAt (P := P) hcs i2 (off := 0) n2 hne (by simpa using hcond.1) hcond.2 (by simpa using hst)
    refine ⟨⟨_, .int .i64 (Nat.min m s.2.1 : Nat), _, ρ, ?_, .inl rfl, by rw [h1]; exact .int _ _, by rw [h3]; exact g2⟩, h2⟩
    rw [hrun _ _ _ i1 rfl]
    have : a'.add 0 = a' := by simp [Addr.add]
    rw [this] at g1
    simp only [g1, Result.andThen_ok]
    rfl
end
end Go.Ab

namespace Go.Ab

section
variable {E : Env} {P : Program} {ρ : Ren} {st : St} {w : World} {t : Tr Value} {a : Act} {c : Ctx} {r : Out} {o : Oper}

/-- a block goes on under a new name -/
theorem HRel.adopt (hr : HRel ρ st w) {b : Nat} {k : Blk} (hk : blkOf st b = some k) {l l' : Loc} (hl : ρ b = some l) (hb : l'.blk = l.blk) {w' : World} (hw : ∀ c, c ≠ l.blk → w'.heap[c]? = w.heap[c]?)
    (hsz : w'.heap.size = w.heap.size) {ob : AObj} {x : Obj} (hx : w'.heap[l.blk]? = some x) (ho : ∀ ρ', ρ.le ρ' → ORel ρ' l' ob x) (h1 : w'.os = w.os) (h2 : w'.tape = w.tape) (h3 : w'.output = w.output) :
    Step ρ st w (fun b' => if b' = st.nx then some l' else ρ b') (Go.Ab.alloc (kill st b) ob) w' := by
  have hnx : (kill st b).nx = st.nx := rfl
  have hbn := hr.live _ _ hk
  have hblk : ∀ b', blkOf (Go.Ab.alloc (kill st b) ob) b' = if b' = st.nx then some ⟨0, ob⟩ else if b = b' then none else blkOf st b' := by
    intro b'
    unfold Go.Ab.alloc
    rw [blkOf_put, blkOf_kill, hnx]
    by_cases h : b' = st.nx
    · subst h; simp
    · rw [if_neg (fun hh => h hh.symm), if_neg h]
  have hle : ρ.le (fun b' => if b' = st.nx then some l' else ρ b') := fun b' lb hb' => by
    try simp only
    rw [if_neg (by have := (hr.ren _ _ hb').1; omega)]
    exact hb'
  exact {
    nx := Nat.le_succ _
    old := fun b' hb' => by rw [if_neg (Nat.ne_of_lt hb')]
    hrel := {
      ren := fun b' lb hb' => by
        try simp only at hb'
        split at hb'
        · rename_i he
          injection hb' with hb'
          subst hb'
          subst he
          exact ⟨Nat.lt_succ_self _, by rw [hb, hsz]; exact (hr.ren _ _ hl).2⟩
        · exact ⟨Nat.lt_succ_of_lt (hr.ren _ _ hb').1, by rw [hsz]; exact (hr.ren _ _ hb').2⟩
      live := fun b' kb hb' => by
        rw [hblk] at hb'
        split at hb'
        · rename_i he; subst he; exact Nat.lt_succ_self _
        · split at hb'
          · cases hb'
          · exact Nat.lt_succ_of_lt (hr.live _ _ hb')
      inj := fun b1 b2 k1 k2 l1 l2 e1 e2 f1 f2 heq => by
        rw [hblk] at e1 e2
        try simp only at f1 f2
        by_cases g1 : b1 = st.nx
        · by_cases g2 : b2 = st.nx
          · rw [g1, g2]
          · rw [if_pos g1] at f1
            rw [if_neg g2] at e2 f2
            injection f1 with f1
            split at e2
            · cases e2
            · rename_i hne
              exact absurd (hr.inj b b2 k k2 l l2 hk e2 hl f2 (by rw [← heq, ← f1, hb])) hne
        · by_cases g2 : b2 = st.nx
          · rw [if_pos g2] at f2
            rw [if_neg g1] at e1 f1
            injection f2 with f2
            split at e1
            · cases e1
            · rename_i hne
              exact absurd (hr.inj b b1 k k1 l l1 hk e1 hl f1 (by rw [heq, ← f2, hb])) hne
          · rw [if_neg g1] at e1 f1
            rw [if_neg g2] at e2 f2
            split at e1
            · cases e1
            · split at e2
              · cases e2
              · exact hr.inj b1 b2 k1 k2 l1 l2 e1 e2 f1 f2 heq
      obj := fun b' kb lb e f => by
        rw [hblk] at e
        try simp only at f
        split at e
        · rename_i he
          rw [if_pos he] at f
          injection f with f
          injection e with e
          subst f e
          exact ⟨x, by rw [hb]; exact hx, ho _ hle⟩
        · rename_i he
          rw [if_neg he] at f
          split at e
          · cases e
          · rename_i hne
            obtain ⟨y, hy, hy2⟩ := hr.obj _ _ _ e f
            refine ⟨y, ?_, hy2.mono hle⟩
            rw [hw _ (fun h => hne (hr.inj b b' k kb l lb hk e hl f h.symm))]
            exact hy }
    abs := fun b' hb' hn => by
      rw [hblk, if_neg (Nat.ne_of_lt hb'), if_neg]
      intro he; subst he; rw [hl] at hn; cases hn
    dead := fun b' hb' hn => by
      rw [hblk, if_neg (Nat.ne_of_lt hb')]
      split
      · rfl
      · exact hn
    ver := fun b' k1 k2 e1 e2 => by
      have := hr.live _ _ e1
      rw [hblk, if_neg (by omega)] at e2
      split at e2
      · cases e2
      · rw [e1] at e2; injection e2 with e2; subst e2; exact ⟨Nat.le_refl _, fun _ => rfl⟩
    conc := fun c _ hn => hw c (fun h => hn b l k hl hk h.symm)
    size := Nat.le_of_eq hsz.symm
    fresh := fun b' lb h h' => by
      try simp only at h
      split at h
      · injection h with h
        subst h
        exact .inr ⟨b, l, k, hl, hk, hb.symm⟩
      · rw [h'] at h; cases h
    os := h1
    tape := h2
    output := h3 }

theorem append_two {T : Array TypeId} {as : Array Value} {ty t tx : TypeId} {s x : Value} (h1 : T[0]? = some t) (h2 : T[1]? = some tx) (h3 : as[0]? = some s) (h4 : as[1]? = some x) :
    Builtin.append_ T ty as = Builtin.append_ #[t, tx] ty #[s, x] := by
  unfold Builtin.append_
  simp [h1, h2, h3, h4]

theorem Env.all {e : TypeId} {z by' : Nat} {zero : Value} (ok : E.Ok P) (h1 : E.size e = some z) (h2 : E.bytes e = some by') (h3 : E.zero e = some zero) :
    ∃ i, P.info? e = some i ∧ i.size = z ∧ i.bytes = by' ∧ i.zero = some zero := by
  simp only [Env.size, Env.bytes, Env.zero, bnd_eq, grd_eq] at h1 h2 h3
  obtain ⟨i, hi, h1⟩ := h1
  obtain ⟨i2, hi2, h2⟩ := h2
  obtain ⟨i3, hi3, y, hy, _, h3⟩ := h3
  rw [hi] at hi2 hi3
  injection hi2 with hi2
  injection hi3 with hi3
  subst hi2 hi3
  injection h1 with h1
  injection h2 with h2
  injection h3 with h3
  exact ⟨i, ok.info _ _ hi, h1, h2, by rw [hy, h3]⟩

theorem capOpen_lo {z n : Nat} (h : n < 1099511627776) : capOpen z n % 2 = 1 ∧ capLo (capOpen z n) = n ∧ capSz (capOpen z n) = z := by
  have h1 : capOpen z n % 2 = 1 := by unfold capOpen; omega
  refine ⟨h1, ?_, ?_⟩
  · have : capExact (capOpen z n) = false := by
      cases hc : capExact (capOpen z n)
      · rfl
      · have := (capExact_iff _).1 hc; omega
    unfold capLo
    rw [this, cnd_of, if_neg (by simp)]
    unfold capOpen
    omega
  · unfold capSz capOpen
    omega
end
end Go.Ab

namespace Go.Ab

section
variable {E : Env} {P : Program} {ρ : Ren} {st : St} {w : World} {t : Tr Value} {a : Act} {c : Ctx} {r : Out} {o : Oper}

theorem zeroCells_size (z : Array Value) (n : Nat) : (Builtin.zeroCells z n).size = n * z.size := by simp [Builtin.zeroCells]

/-- a slice in a new row of cells, with room behind it -/
theorem open_V {nx z n cap : Nat} (hn : n < 1099511627776) (hle : n ≤ cap) {l' : Loc} (hav : cap * z ≤ l'.avail) {ρ' : Ren} (hρ : ρ' nx = some l') {a' : Addr} (ha : a' = ⟨l'.blk, l'.off, none⟩) :
    V ρ' (.slice (some ⟨nx, 0, none⟩) n (capOpen z n)) (.slice (some a') n cap) := by
  obtain ⟨h1, h2, h3⟩ := capOpen_lo (z := z) hn
  refine .slice hρ hle (fun h => by omega) (fun _ => ⟨by rw [h2]; exact hle, by rw [h3]; omega⟩) (fun _ => by rw [ha]; rfl)

theorem grown_rel {ρ' : Ren} {vs vs' : List Value} (hv : VL ρ' vs vs') {e : TypeId} {zero : Array Value} {n cap z b : Nat} (hz : zero.size = z) (hlen : vs.length = n * z) (hle : n ≤ cap) :
    ORel ρ' ⟨b, 0, cap * z⟩ (.cells (e, false) (n * z) (writeCells vs 0 .leaf)) (.cells (vs'.toArray ++ Builtin.zeroCells zero (cap - n)) e) := by
  have hx : (Builtin.zeroCells zero (cap - n)).toList.length = (cap - n) * z := by simp [zeroCells_size, hz]
  have hav : n * z + (cap - n) * z = cap * z := by rw [← Nat.add_mul]; congr 1; omega
  have := cells_new hv (extra := (Builtin.zeroCells zero (cap - n)).toList) (e := e) (fr := (0, 0)) (ex := false) (fun h => by cases h) (fun i _ => by simp) b
  rw [hx, hlen, hav] at this
  have harr : (vs' ++ (Builtin.zeroCells zero (cap - n)).toList).toArray = vs'.toArray ++ Builtin.zeroCells zero (cap - n) := by
    apply Array.toList_inj.1; simp
  rw [harr] at this
  exact this

theorem growV_sound {ty tx e : TypeId} {i : TypeInfo} {z by' : Nat} {zero s x s0 : Value} {m : Nat} {new new' : List Value} {rt : TypeId} (hr : HRel ρ c.st w)
    (ht : P.underlying ty = some (.slice e)) (hi : P.info? e = some i) (hz : i.size = z) (hby : i.bytes = by') (hzero : i.zero = some zero) (hzs : zero.cells.size = z)
    (hs : V ρ s0 s) {s' : Option (Nat × Nat) × Nat × Nat} (hs' : asSlice s0 = some s') (hn : VL ρ new new') (hsrc : Src P i.size tx x m new' w)
    (hlo : ¬ s'.2.1 + m ≤ capLo s'.2.2) (hnl : new.length = m * z) (h : growV e z by' s0 s' m new c = some r) :
    ∃ v' w' ρ', (Builtin.append_ #[ty, tx] rt #[s, x]).run P w = .ok v' w' ∧ V ρ' r.v v' ∧ Step ρ c.st w ρ' r.st w' ∧ r.ds = c.ds := by
  subst hz hby
  simp only [growV, grd_eq, bnd_eq, Bool.and_eq_true] at h
  obtain ⟨⟨hb0, hb1⟩, old, hold, hol, h⟩ := h
  have hol : old.length = s'.2.1 * i.size := by simpa using hol
  have hb1 : (s'.2.1 + m) * i.bytes ≤ 1048576 := by simpa using hb1
  have hb0 : i.bytes ≠ 0 := fun h => by rw [h] at hb0; exact absurd hb0 (by decide)
  have hneed : s'.2.1 + m ≤ 1048576 := Nat.le_trans (Nat.le_mul_of_pos_right _ (by omega)) hb1
  have hlen0 : lenOf s0 = some s'.2.1 := by
    rcases asSlice_some hs' with ⟨_, h2⟩ | ⟨p, _, h2⟩ <;> rw [h2] <;> rfl
  obtain ⟨old', o1, o2⟩ := srcCells_sound (P := P) hr hs hold hlen0 (Nat.le_refl _)
  -- the new row
  have grow : ∀ base sCap, s = .slice base s'.2.1 sCap → sCap < s'.2.1 + m →
      ∃ cap, s'.2.1 + m ≤ cap ∧ (Builtin.append_ #[ty, tx] rt #[s, x]).run P w = .ok (.slice (some ⟨w.heap.size, 0, none⟩) (s'.2.1 + m) cap)
        (w.drew.alloc (.cells ((old' ++ new').toArray ++ Builtin.zeroCells zero.cells (cap - (s'.2.1 + m))) e)) := by
    intro base sCap hsv hlt
    refine ⟨grownCap w (s'.2.1 + m) sCap e, grownCap_ge w _ _ _, ?_⟩
    rw [hsv]
    refine run_append_grow_src (P := P) w ty tx rt e i zero ht hi hzero base s'.2.1 sCap old' ?_ x m new' hsrc hlt (by omega) ?_
    · rw [← hsv]; exact o2 w.drew rfl
    · exact growslice_fits hlt (Nat.le_trans hb1 (by omega))
  have hvl : VL ρ (old ++ new) (old' ++ new') := o1.append hn
  have hvlen : (old ++ new).length = (s'.2.1 + m) * i.size := by rw [List.length_append, hol, hnl, Nat.add_mul]
  rw [cnd_of] at h
  split at h
  · -- the capacity is known
    rename_i hex
    obtain ⟨h1, h2, h3⟩ := out_some h
    have hexm := (capExact_iff _).1 hex
    have hcl : capLo s'.2.2 = s'.2.2 / 2 := by unfold capLo; rw [hex, cnd_of, if_pos rfl]
    have hshape : ∃ base sCap, s = .slice base s'.2.1 sCap ∧ sCap < s'.2.1 + m := by
      rcases asSlice_some hs' with ⟨h4, h5⟩ | ⟨p, h4, h5⟩
      · rw [h5] at hs
        obtain ⟨i1, i2, i3⟩ := hs.snil_inv
        exact ⟨none, 0, by rw [i3, i1], by omega⟩
      · rw [h5] at hs
        obtain ⟨l, a', c', i1, i2, i3, i4, i5, i6⟩ := hs.slice_inv
        exact ⟨_, c', i1, by rw [i4 hexm]; omega⟩
    obtain ⟨base, sCap, hsv, hlt⟩ := hshape
    obtain ⟨cap, hcap, hrun⟩ := grow base sCap hsv hlt
    have hst := hr.new (n := cap * i.size) (o := .cells (e, false) ((s'.2.1 + m) * i.size) (writeCells (old ++ new) 0 .leaf)) (fun ρ' hle => grown_rel (b := w.heap.size) (e := e) (hvl.mono hle) hzs hvlen hcap)
      (w.drew.alloc (.cells ((old' ++ new').toArray ++ Builtin.zeroCells zero.cells (cap - (s'.2.1 + m))) e)) rfl rfl rfl rfl
    refine ⟨_, _, _, hrun, ?_, by rw [h3]; exact hst, h2⟩
    rw [h1]
    exact open_V (by omega) hcap (l' := ⟨w.heap.size, 0, cap * i.size⟩) (Nat.le_refl _) (by simp) rfl
  · -- it is not
    rename_i hex
    simp only [grd_eq, bnd_eq] at h
    obtain ⟨hsz, p, hp, cs, hcs, hte, h⟩ := h
    have hte : cs.1.1 = e := by simpa using hte
    obtain ⟨h1, h2, h3⟩ := out_some h
    have hsz : capSz s'.2.2 = i.size := by simpa using hsz
    have hodd : s'.2.2 % 2 = 1 := by
      have : ¬ s'.2.2 % 2 = 0 := fun hh => hex ((capExact_iff _).2 hh)
      omega
    rcases asSlice_some hs' with ⟨h4, h5⟩ | ⟨p', h4, h5⟩
    · rw [h4] at hp; cases hp
    rw [h4] at hp
    injection hp with hp
    subst hp
    rw [h5] at hs
    obtain ⟨l, a', c', i1, i2, i3, i4, i5, i6⟩ := hs.slice_inv
    obtain ⟨j1, j2⟩ := i5 hodd
    rw [hsz] at j2
    obtain ⟨kv, hk0⟩ := cellsOf_some hcs
    obtain ⟨ob, hob, arr, te, fr, rfl, q2, q3, q4, q5, q6⟩ := hr.obj _ _ _ hk0 i2
    by_cases hroom : s'.2.1 + m ≤ c'
    · -- in place
      have ha := i6 (by omega)
      have hcells : l.off + p'.2 + (s'.2.1 + m) * i.size ≤ arr.size := by
        have : (s'.2.1 + m) * i.size ≤ c' * i.size := Nat.mul_le_mul_right _ hroom
        omega
      have hnl' : new'.length = m * i.size := by rw [← hn.length]; exact hnl
      have hsum : (s'.2.1 + m) * i.size = s'.2.1 * i.size + m * i.size := Nat.add_mul _ _ _
      have hrun : (Builtin.append_ #[ty, tx] rt #[s, x]).run P w = .ok (.slice (some a') (s'.2.1 + m) c') (w.setCells l.blk (l.off + p'.2 + s'.2.1 * i.size) new') := by
        rw [i1, ha]
        refine run_append_room_src (P := P) w ty tx rt e i ht hi l.blk (l.off + p'.2) s'.2.1 c' x m new' hsrc hroom (fun j hj => ?_) (fun j hj => ?_)
        · have : l.off + p'.2 + s'.2.1 * i.size + j < arr.size := by omega
          simp [World.cell?, hob, this]
        · have hle2 : (s'.2.1 + m) * i.size ≤ c' * i.size := Nat.mul_le_mul_right _ hroom
          have := q4 (p'.2 + s'.2.1 * i.size + j) (by omega)
          simp only [World.frozen?, hob]
          rw [show l.off + (p'.2 + s'.2.1 * i.size + j) = l.off + p'.2 + s'.2.1 * i.size + j by omega] at this
          simpa using this
      obtain ⟨r1, r2, r3⟩ := rest_setCells l.blk new' (l.off + p'.2 + s'.2.1 * i.size) w
      have hadopt := hr.adopt hk0 i2 (l' := ⟨l.blk, l.off + p'.2, c' * i.size⟩) rfl (w' := w.setCells l.blk (l.off + p'.2 + s'.2.1 * i.size) new')
        (ob := .cells (e, false) ((s'.2.1 + m) * i.size) (writeCells (old ++ new) 0 .leaf)) (x := .cells (setAll arr (l.off + p'.2 + s'.2.1 * i.size) new') te fr)
        (fun c hc => by rw [heap_setCells, if_neg (fun hh => hc hh.symm)]) (size_setCells _ _ _ _) (by rw [heap_setCells, if_pos rfl, hob]; rfl) (fun ρ' hle => ?_) r1 r2 r3
      · refine ⟨_, _, _, hrun, ?_, by rw [h3]; exact hadopt, h2⟩
        rw [h1]
        exact open_V (by omega) hroom (l' := ⟨l.blk, l.off + p'.2, c' * i.size⟩) (Nat.le_refl _) (by simp) ha
      · refine ⟨_, te, fr, rfl, ?_, Nat.mul_le_mul_right _ hroom, fun j hj => ?_, fun j u hu => ?_, by rw [q6.1, hte], fun ht' => by cases ht'⟩
        · simp only [size_setAll]; omega
        · have := q4 (p'.2 + j) (by simp only at hj; omega)
          rw [show l.off + (p'.2 + j) = l.off + p'.2 + j by omega] at this
          exact this
        · rw [writeCells_leaf] at hu
          have hj : j < (s'.2.1 + m) * i.size := by rw [← hvlen]; exact (List.getElem?_eq_some_iff.1 hu).1
          refine ⟨hj, ?_⟩
          simp only
          rw [setAll_getD _ _ _ _ (by omega)]
          by_cases hjo : j < s'.2.1 * i.size
          · rw [if_neg (by omega)]
            -- an old cell
            have hu' : old[j]? = some u := by rw [List.getElem?_append_left (by omega)] at hu; exact hu
            rw [h5] at hold
            simp only [srcCells, bnd_eq] at hold
            obtain ⟨cs', hcs', hrd⟩ := hold
            rw [hcs] at hcs'
            injection hcs' with hcs'
            subst hcs'
            have hg := (readCells_spec hrd).2 j u hu'
            have := (q5 _ _ hg).2
            rw [show l.off + (p'.2 + j) = l.off + p'.2 + j by omega] at this
            exact this.mono hle
          · rw [if_pos (by omega)]
            have hu' : new[j - s'.2.1 * i.size]? = some u := by
              rw [List.getElem?_append_right (by omega), hol] at hu; exact hu
            obtain ⟨u', e1, e2⟩ := hn.get hu'
            rw [show l.off + p'.2 + j - (l.off + p'.2 + s'.2.1 * i.size) = j - s'.2.1 * i.size by omega]
            simpa [List.getD, e1] using e2.mono hle
    · -- a new row
      obtain ⟨cap, hcap, hrun⟩ := grow _ c' i1 (by omega)
      have hkill := hr.killed (b := p'.1) (l := l) i2 (w' := w) (fun _ _ => rfl) rfl ⟨_, hk0⟩ rfl rfl rfl
      have hst := hkill.hrel.new (n := cap * i.size) (o := .cells (e, false) ((s'.2.1 + m) * i.size) (writeCells (old ++ new) 0 .leaf)) (fun ρ' hle => grown_rel (b := w.heap.size) (e := e) (hvl.mono hle) hzs hvlen hcap)
        (w.drew.alloc (.cells ((old' ++ new').toArray ++ Builtin.zeroCells zero.cells (cap - (s'.2.1 + m))) e)) rfl rfl rfl rfl
      refine ⟨_, _, _, hrun, ?_, by rw [h3]; exact Step.trans hr hkill hst, h2⟩
      rw [h1]
      exact open_V (by omega) hcap (l' := ⟨w.heap.size, 0, cap * i.size⟩) (Nat.le_refl _) (by simp [kill]) rfl

theorem hAppend_sound (ok : E.Ok P) (hE : c.E = E) (ht : TR ρ c.t a.tmps) (hr : HRel ρ c.st w) {args : Array Operand} {tys : Array TypeId} (h : hAppend args.toList tys.toList c = some r)
    (ho : o.op = .call { callee := .builtin .append, args := args, argTypes := tys }) :
    EffOK P ρ c.st w (execOp a.eval o) r.v r.st ∧ r.ds = c.ds := by
  simp only [hAppend, bnd_eq, grd_eq] at h
  obtain ⟨ty, hty, tx, htx, s0, hs0, x0, hx0, d, hd, e, he, xd, hxd, hseq, z, hz, by', hby, zero, hzero, hzs, sv, hsv, xv, hxv, h⟩ := h
  subst hE
  have := tdSlice_some he
  subst this
  have hzs : zero.cells.size = z := by simpa using hzs
  obtain ⟨i, hi, iz, iby, izero⟩ := Env.all ok hz hby hzero
  have es := opv_sound ht hsv
  have ex := opv_sound ht hxv
  have ht0 : tys[0]? = some ty := by simpa using hty
  have ht1 : tys[1]? = some tx := by simpa using htx
  have ha0 : (args.map a.eval)[0]? = some (a.eval s0) := by simp [args_two hs0]
  have ha1 : (args.map a.eval)[1]? = some (a.eval x0) := by simp [args_two hx0]
  have hexec : (execOp a.eval o).run P w = ((Builtin.append_ #[ty, tx] o.type #[a.eval s0, a.eval x0]).run P w).andThen fun v w' => .ok (.value v) w' := by
    simp only [execOp, ho, resolve, invoke, builtin, Sem.run_bind, Sem.run_pure, Result.andThen_ok]
    rw [append_two ht0 ht1 ha0 ha1]
  unfold appendV at h
  simp only [bnd_eq, grd_eq, Bool.and_eq_true] at h
  obtain ⟨s', hs', m, hm, new, hnew, ⟨hnl, hone⟩, h⟩ := h
  have hnl : new.length = m * z := by simpa using hnl
  obtain ⟨new', n1, n2⟩ := srcCells_sound (P := P) hr ex hnew hm (Nat.le_refl _)
  have hsrc : Src P i.size tx (a.eval x0) m new' w := by
    rw [iz]
    refine ⟨?_, fun w' => lenOf_run ex hm, n2 w rfl, n2 w.drew rfl, by rw [← n1.length]; exact hnl, all_one hone n1⟩
    cases xd <;> simp [tdSeq] at hseq
    · exact .inr (ok.und hxd)
    · exact .inl ⟨_, ok.und hxd⟩
  rw [cnd_of] at h
  split at h
  · -- nothing
    rename_i hm0
    have hm0 : m = 0 := by simpa using hm0
    subst hm0
    obtain ⟨h1, h2, h3⟩ := val_some h
    have hnil : new' = [] := List.eq_nil_of_length_eq_zero (by rw [← n1.length, hnl, Nat.zero_mul])
    subst hnil
    refine ⟨?_, h2⟩
    rw [h1, h3]
    refine PureOK.eff hr ⟨a.eval s0, ?_, es⟩
    rw [hexec]
    rcases asSlice_some hs' with ⟨h4, h5⟩ | ⟨p, h4, h5⟩
    · rw [h5] at es
      obtain ⟨i1, i2, i3⟩ := es.snil_inv
      rw [i3, run_append_nothing w ty tx o.type e i (ok.und hd) hi none 0 0 (Nat.le_refl _) _ hsrc]
      rfl
    · rw [h5] at es
      obtain ⟨l, a', c', i1, i2, i3, i4, i5, i6⟩ := es.slice_inv
      rw [i1, run_append_nothing w ty tx o.type e i (ok.und hd) hi (some a') _ c' i3 _ hsrc]
      rfl
  · rename_i hm0
    have hm0 : m ≠ 0 := fun hh => hm0 (by subst hh; rfl)
    rw [cnd_of] at h
    split at h
    · -- there is room
      rename_i hroom
      have hroom : s'.2.1 + m ≤ capLo s'.2.2 := by simpa using hroom
      simp only [bnd_eq, grd_eq] at h
      obtain ⟨p, hp, cs, hcs, hle, st', hst, h⟩ := h
      obtain ⟨h1, h2, h3⟩ := out_some h
      have hle : p.2 + s'.2.1 * z + new.length ≤ cs.2.1 := by simpa using hle
      rcases asSlice_some hs' with ⟨h4, h5⟩ | ⟨p', h4, h5⟩
      · rw [h4] at hp; cases hp
      rw [h4] at hp
      injection hp with hp
      subst hp
      have es0 := es
      rw [h5] at es
      obtain ⟨l, a', c', i1, i2, i3, i4, i5, i6⟩ := es.slice_inv
      have hcap : s'.2.1 + m ≤ c' := Nat.le_trans hroom (capLo_le (l := l) (off := p'.2) i4 i5)
      have ha := i6 (by omega)
      obtain ⟨g1, g2⟩ := hr.write (P := P) hcs i2 (o := p'.2 + s'.2.1 * z) n1 hle hone hst
      obtain ⟨kv, hk0⟩ := cellsOf_some hcs
      obtain ⟨ob, hob, arr, te, fr, rfl, q2, q3, q4, q5, q6⟩ := hr.obj _ _ _ hk0 i2
      have hnl2 := n1.length
      refine ⟨⟨_, .slice (some a') (s'.2.1 + m) c', _, ρ, ?_, .inl rfl, ?_, by rw [h3]; exact g2⟩, h2⟩
      · rw [hexec, i1, ha]
        rw [run_append_room_src (P := P) w ty tx o.type e i (ok.und hd) hi l.blk (l.off + p'.2) s'.2.1 c' _ m new' hsrc hcap (fun j hj => ?_) (fun j hj => ?_)]
        · simp only [Result.andThen_ok, iz, Nat.add_assoc]
        · have : l.off + p'.2 + s'.2.1 * i.size + j < arr.size := by rw [iz]; omega
          simp [World.cell?, hob, this]
        · have := q4 (p'.2 + s'.2.1 * z + j) (by omega)
          simp only [World.frozen?, hob]
          rw [show l.off + (p'.2 + s'.2.1 * z + j) = l.off + p'.2 + s'.2.1 * i.size + j by rw [iz]; omega] at this
          simpa using this
      · rw [h1]
        exact .slice i2 hcap i4 i5 (fun _ => ha)
    · rename_i hlo
      have hlo : ¬ s'.2.1 + m ≤ capLo s'.2.2 := by simpa using hlo
      obtain ⟨v', w', ρ', g1, g2, g3, g4⟩ := growV_sound (rt := o.type) hr (ok.und hd) hi iz iby izero hzs es hs' n1 hsrc hlo hnl h
      refine ⟨⟨_, v', w', ρ', ?_, .inl rfl, g2, g3⟩, g4⟩
      rw [hexec, g1]
      rfl
end
end Go.Ab
