/- A deterministic evaluator of the model, part 4 of 5: whatever it answers, every run of the model answers the same; its conditions stand in each theorem. -/
import Derived.Test.YtbkigpopplepdaaGreatDoorAb3
import Derived.Lib.Bytealg
import Derived.Lib.MakeNoZero
import Derived.Shelf.Slices.In.SortAlone
namespace Go.Ab

/-- how many are not taken yet -/
def left (L : Nat → Bool) : Nat → Nat
  | 0 => 0
  | m + 1 => left L m + (if L m then 0 else 1)
theorem left_same {L L' : Nat → Bool} {j : Nat} (h : ∀ i, i ≠ j → L' i = L i) : ∀ m, m ≤ j → left L' m = left L m := by
  intro m
  induction m with
  | zero => intro _; rfl
  | succ m ih => intro hm; simp only [left]; rw [ih (by omega), h m (by omega)]
theorem left_less {L L' : Nat → Bool} {j : Nat} (h : ∀ i, i ≠ j → L' i = L i) (h0 : L j = false) (h1 : L' j = true) : ∀ m, j < m → left L' m + 1 = left L m := by
  intro m
  induction m with
  | zero => intro hm; omega
  | succ m ih =>
    intro hm
    simp only [left]
    by_cases hj : j = m
    · subst hj
      rw [left_same h j (Nat.le_refl _), h0, h1]
      simp
    · have := ih (by omega)
      rw [h m (fun hh => hj hh.symm)]
      omega
theorem left_zero {L : Nat → Bool} : ∀ m, left L m = 0 → ∀ i, i < m → L i = true := by
  intro m
  induction m with
  | zero => intro _ i hi; omega
  | succ m ih =>
    intro h i hi
    simp only [left] at h
    by_cases him : i = m
    · subst him
      cases hL : L i with
      | true => rfl
      | false => rw [hL] at h; simp at h
    · exact ih (by omega) i (by omega)

section
variable {ops : Array Oper}

def Lof (listed : Array Bool) (i : Nat) : Bool := listed.getD i false
theorem Lof_set {listed : Array Bool} {j : Nat} (hj : j < listed.size) : (∀ i, i ≠ j → Lof (listed.setIfInBounds j true) i = Lof listed i) ∧ Lof (listed.setIfInBounds j true) j = true := by
  constructor
  · intro i hi
    simp only [Lof, Array.getD_eq_getD_getElem?]
    rw [Array.getElem?_setIfInBounds_ne (fun h => hi h.symm)]
  · simp [Lof, Array.getD_eq_getD_getElem?, hj]

theorem ready_iff {listed : Array Bool} (hsz : listed.size = ops.size) {j : Nat} : j ∈ Region.ready .any ops listed ↔ j < ops.size ∧ Lof listed j = false ∧ ∃ o, ops[j]? = some o ∧ ∀ e ∈ o.after, Region.binds .any e = true → Lof listed e.on = true := by
  rw [mem_ready]
  constructor
  · rintro ⟨h1, o, ho, h2⟩
    have hlt := (Array.getElem?_eq_some_iff.1 ho).1
    refine ⟨hlt, ?_, o, ho, h2⟩
    simp only [Lof, Array.getD_eq_getD_getElem?] at h1 ⊢
    have : listed[j]? = some (listed[j]'(by omega)) := by simp [show j < listed.size by omega]
    rw [this] at h1 ⊢
    exact h1
  · rintro ⟨hlt, h1, o, ho, h2⟩
    refine ⟨?_, o, ho, h2⟩
    simp only [Lof, Array.getD_eq_getD_getElem?] at h1 ⊢
    have : listed[j]? = some (listed[j]'(by omega)) := by simp [show j < listed.size by omega]
    rw [this] at h1 ⊢
    exact h1

/-- closed under what comes before -/
def Down (ops : Array Oper) (L : Nat → Bool) : Prop := ∀ (j : Nat) (o : Oper) (e : Edge), L j = true → ops[j]? = some o → e ∈ o.after → Region.binds .any e = true → L e.on = true

theorem Down.bef {L : Nat → Bool} (h : Down ops L) {i j : Nat} (hb : Bef ops i j) : (∀ o, ops[j]? = some o → ∀ e ∈ o.after, Region.binds .any e = true → L e.on = true) → L i = true := by
  induction hb with
  | base ho he hb => intro hj; exact hj _ ho _ he hb
  | step ho he hb _ ih => intro hj; exact ih fun o' ho' e' he' hb' => h _ _ _ (hj _ ho _ he hb) ho' he' hb'
theorem Down.bef' {L : Nat → Bool} (h : Down ops L) {i j : Nat} (hb : Bef ops i j) (hj : L j = true) : L i = true := h.bef hb fun _ ho _ he hb' => h _ _ _ hj ho he hb'

theorem none_ready (D : Drawn ops) {listed : Array Bool} (hsz : listed.size = ops.size) (h : Region.ready .any ops listed = []) : ∀ i, i < ops.size → Lof listed i = true := by
  intro i
  induction i using Nat.strongRecOn with
  | _ i ih =>
    intro hi
    cases hL : Lof listed i with
    | true => rfl
    | false =>
      have ho : ops[i]? = some (ops[i]'hi) := by simp [hi]
      have : i ∈ Region.ready .any ops listed := (ready_iff hsz).2 ⟨hi, hL, _, ho, fun e he hb => by
        have hlt := D.on i _ e ho he hb
        exact ih _ hlt (by omega)⟩
      rw [h] at this
      cases this

/-- a ready operation looks at what it looked at in the order of the text -/
theorem looks_same (D : Drawn ops) {L : Nat → Bool} (hd : Down ops L) {j : Nat} {oj : Oper} (hj : ops[j]? = some oj) (hL : L j = false) (hall : ∀ e ∈ oj.after, Region.binds .any e = true → L e.on = true)
    {tt : Nat → Tr Value} {vv : Nat → Value} (hs : ∀ k o, ops[k]? = some o → tt (k + 1) = putDst (tt k) o.dst (vv k)) {x : Nat} (hx : x ∈ oj.looksAt ops ∨ oj.dst = some x) :
    (TL ops vv (tt 0) L ops.size).get (pos x) = (tt j).get (pos x) := by
  have hlt := (Array.getElem?_eq_some_iff.1 hj).1
  have htext := TL_text (ops := ops) (tt := tt) (vv := vv) rfl hs j (by omega) ops.size
  rw [show min ops.size j = j by omega] at htext
  rw [← htext]
  refine TL_agree ops.size fun i o hi ho hdst => ?_
  have hnotapart : ∀ {p q : Oper}, p.apart ops q = true → (p = o ∧ q = oj) ∨ (p = oj ∧ q = o) → False := by
    intro p q hap hpq
    obtain ⟨a1, a2, a3⟩ := Oper.apart_spec hap
    rcases hpq with ⟨rfl, rfl⟩ | ⟨rfl, rfl⟩
    · rcases hx with hx | hx
      · exact a1 _ hdst hx
      · exact a2 _ hdst hx
    · rcases hx with hx | hx
      · exact a3 _ hdst hx
      · exact a2 _ hx hdst
  rcases Nat.lt_trichotomy i j with hij | hij | hij
  · simp only [hij, decide_true]
    rcases D.pair i j o oj hij ho hj with hb | ⟨hap, _⟩
    · exact hd.bef hb fun o' ho' e he hb' => by rw [hj] at ho'; injection ho' with ho'; subst ho'; exact hall e he hb'
    · exact (hnotapart hap (.inl ⟨rfl, rfl⟩)).elim
  · subst hij; simp [hL]
  · rw [show decide (i < j) = false by simp; omega]
    rcases D.pair j i oj o hij hj ho with hb | ⟨hap, _⟩
    · cases hLi : L i with
      | false => rfl
      | true => rw [hd.bef' hb hLi] at hL; cases hL
    · exact (hnotapart hap (.inr ⟨rfl, rfl⟩)).elim

/-- what the set with one operation more leaves in the frame -/
theorem TL_more (D : Drawn ops) {L L' : Nat → Bool} (hd : Down ops L) {j : Nat} {oj : Oper} (hj : ops[j]? = some oj) (hL : L j = false) (hne : ∀ i, i ≠ j → L' i = L i) (hLj : L' j = true) {vv : Nat → Value} {t0 : Tr Value} (x : Nat) :
    ∀ m, j < m → m ≤ ops.size → (TL ops vv t0 L' m).get (pos x) = (putDst (TL ops vv t0 L m) oj.dst (vv j)).get (pos x) := by
  intro m
  induction m with
  | zero => intro h; omega
  | succ m ih =>
    intro hjm hm
    have hom : ops[m]? = some (ops[m]'(by omega)) := by simp [show m < ops.size by omega]
    by_cases hjeq : j = m
    · subst hjeq
      have hsame : (TL ops vv t0 L' j).get (pos x) = (TL ops vv t0 L j).get (pos x) := TL_agree j fun i o hi _ _ => hne i (by omega)
      simp only [TL, hLj, hL, if_true, hj, Bool.false_eq_true, if_false]
      rw [putDst_get, putDst_get, hsame]
    · have hih := ih (by omega) (by omega)
      rw [putDst_get] at hih ⊢
      simp only [TL, hne m (fun h => hjeq h.symm), hom]
      split
      · rename_i hLm
        rw [putDst_get, putDst_get, hih]
        by_cases hdx : (ops[m]'(by omega)).dst = some x
        · -- no later operation of L writes where j writes
          by_cases hjx : oj.dst = some x
          · exfalso
            rcases D.pair j m oj _ (by omega) hj hom with hb | ⟨hap, _⟩
            · rw [hd.bef' hb hLm] at hL; cases hL
            · exact (Oper.apart_spec hap).2.1 _ hjx hdx
          · rw [if_pos hdx, if_neg hjx, if_pos hdx]
        · rw [if_neg hdx, if_neg hdx]
      · exact hih
end
end Go.Ab

namespace Go.Ab

section
variable {E : Env} {P : Program} {S : Self} {rd ro : Option Nat} {base : Nat} {ops : Array Oper} {ds : List Deferred} {tt : Nat → Tr Value} {ss : Nat → St} {vv : Nat → Value} {recs : List Rec} {ρ : Ren} {st : St} {w : World}

theorem opv_same {t t' : Tr Value} {o : Oper} (h : ∀ x ∈ o.looksAt ops, t.get (pos x) = t'.get (pos x)) : ∀ y ∈ o.op.operands, opv t y = opv t' y := by
  intro y hy
  cases y with
  | tmp i =>
    have := h i (List.mem_append_left _ (List.mem_filterMap.2 ⟨.tmp i, by simpa using hy, rfl⟩))
    show some (getD t i) = some (getD t' i)
    unfold getD
    rw [this]
  | const v => rfl
  | global g => rfl
  | func f => rfl

theorem wanted_same {t t' : Tr Value} {o : Oper} (h : ∀ x ∈ o.looksAt ops, t.get (pos x) = t'.get (pos x)) : wanted ops.toList t o = wanted ops.toList t' o := by
  unfold wanted
  cases hg : o.guard with
  | none => rfl
  | some g =>
    obtain ⟨j, b⟩ := g
    simp only
    have hops : ops.toList[j]? = ops[j]? := by simp
    rw [hops]
    cases hj : ops[j]? with
    | none => rfl
    | some o' =>
      simp only
      cases hd : o'.dst with
      | none => rfl
      | some d =>
        simp only
        rw [h d (List.mem_append_right _ (by simp [hg, hj, hd]))]

/-- makes a block -/
def MakesAt (ops : Array Oper) (tt : Nat → Tr Value) (i : Nat) : Prop := ∃ o, ops[i]? = some o ∧ cls o.op = 2 ∧ wanted ops.toList (tt i) o = true
def IsE (ops : Array Oper) (i : Nat) : Prop := ∃ o, ops[i]? = some o ∧ 3 ≤ cls o.op

theorem made_at (hT : ∀ j o, ops[j]? = some o → TraceAt E S rd base ops ds tt ss vv recs j o) {j : Nat} {o : Oper} (ho : ops[j]? = some o) (hc : cls o.op = 2) (hw : wanted ops.toList (tt j) o = true) :
    ∃ ob, ss (j + 1) = allocAt (ss j) (base + j) ob := by
  obtain ⟨_, ⟨_, ⟨r, hr, _, hst⟩, _⟩ | ⟨hw', _⟩⟩ := hT j o ho
  · rw [hc] at hr
    obtain ⟨ob, vf, hn⟩ := exec_made o.op hc hr
    rcases new_some hn with ⟨h1, _⟩ | ⟨id, h1, h2⟩
    · exact nomatch h1
    · have hid : id = base + j := by
        have : (some (Nat.add base j) : Option Nat) = some id := h1
        injection this with this
        exact this.symm
      subst hid
      exact ⟨ob, by rw [← hst, h2]⟩
  · rw [hw] at hw'; cases hw'

theorem kept_at (hT : ∀ j o, ops[j]? = some o → TraceAt E S rd base ops ds tt ss vv recs j o) {j : Nat} {o : Oper} (ho : ops[j]? = some o) (hc : cls o.op ≤ 1) : ss (j + 1) = ss j := by
  obtain ⟨_, ⟨_, ⟨r, hr, _, hst⟩, _⟩ | ⟨_, _, h, _⟩⟩ := hT j o ho
  · rw [← hst]; exact (exec_keep o.op hc hr).1
  · exact h
theorem idle_at (hT : ∀ j o, ops[j]? = some o → TraceAt E S rd base ops ds tt ss vv recs j o) {j : Nat} {o : Oper} (ho : ops[j]? = some o) (hw : wanted ops.toList (tt j) o = false) : ss (j + 1) = ss j := by
  obtain ⟨_, ⟨hw', _⟩ | ⟨_, _, h, _⟩⟩ := hT j o ho
  · rw [hw] at hw'; cases hw'
  · exact h

/-- past operations without an effect -/
theorem Mid.next (hT : ∀ j o, ops[j]? = some o → TraceAt E S rd base ops ds tt ss vv recs j o) (hr0 : HRel ρ st w) (hb : st.nx = base) {L : Nat → Bool} {k : Nat} {ρ' : Ren} {w' : World} (h : Mid ρ st w base ops.size ss (MakesAt ops tt) L k ρ' w')
    (hk : k < ops.size) (hE : ¬ IsE ops k) : Mid ρ st w base ops.size ss (MakesAt ops tt) L (k + 1) ρ' w' := by
  have ho : ops[k]? = some (ops[k]'hk) := by simp [hk]
  by_cases hm : MakesAt ops tt k
  · obtain ⟨o, ho', hc, hw⟩ := hm
    obtain ⟨ob, hs⟩ := made_at hT ho' hc hw
    exact h.made hr0 hb hk hs ⟨o, ho', hc, hw⟩
  · refine h.same ?_ hm
    cases hw : wanted ops.toList (tt k) (ops[k]'hk) with
    | false => exact idle_at hT ho hw
    | true =>
      refine kept_at hT ho ?_
      have h3 : ¬ 3 ≤ cls (ops[k]'hk).op := fun hh => hE ⟨_, ho, hh⟩
      have h2 : cls (ops[k]'hk).op ≠ 2 := fun hh => hm ⟨_, ho, hh, hw⟩
      omega

theorem Mid.advance (hT : ∀ j o, ops[j]? = some o → TraceAt E S rd base ops ds tt ss vv recs j o) (hr0 : HRel ρ st w) (hb : st.nx = base) {L : Nat → Bool} {ρ' : Ren} {w' : World} : ∀ (m k : Nat), ops.size - k = m → k ≤ ops.size → Mid ρ st w base ops.size ss (MakesAt ops tt) L k ρ' w' →
    ∃ e, k ≤ e ∧ e ≤ ops.size ∧ Mid ρ st w base ops.size ss (MakesAt ops tt) L e ρ' w' ∧ (∀ i, k ≤ i → i < e → ¬ IsE ops i) ∧ (e < ops.size → IsE ops e) := by
  intro m
  induction m with
  | zero => intro k hk hle h; exact ⟨k, Nat.le_refl _, hle, h, fun i h1 h2 => by omega, fun h => by omega⟩
  | succ m ih =>
    intro k hk hle h
    by_cases hE : IsE ops k
    · exact ⟨k, Nat.le_refl _, hle, h, fun i h1 h2 => by omega, fun _ => hE⟩
    · obtain ⟨e, e1, e2, e3, e4, e5⟩ := ih (k + 1) (by omega) (by omega) (h.next hT hr0 hb (by omega) hE)
      refine ⟨e, by omega, e2, e3, fun i h1 h2 => ?_, e5⟩
      by_cases hik : i = k
      · subst hik; exact hE
      · exact e4 i (by omega) h2
end
end Go.Ab

namespace Go.Ab

section
variable {E : Env} {P : Program} {S : Self} {rd ro : Option Nat} {base : Nat} {ops : Array Oper} {ds : List Deferred} {tt : Nat → Tr Value} {ss : Nat → St} {vv : Nat → Value} {recs : List Rec} {ρ : Ren} {st : St} {w : World}

theorem loadAt_alloc {s : St} {id : Nat} {ob : AObj} (hid : blkOf s id = none) {ty : TypeId} {b o : Nat} {v : Value} (h : loadAt E s ty b o = some v) : loadAt E (allocAt s id ob) ty b o = some v := by
  unfold loadAt at h ⊢
  simp only [bnd_eq] at h
  obtain ⟨cs, hcs, h⟩ := h
  have : cellsOf (allocAt s id ob) b = some cs := by
    unfold cellsOf at hcs ⊢
    rw [allocAt_blk, if_neg]
    · exact hcs
    · intro he; subst he; rw [hid] at hcs; cases hcs
  rw [this]
  rw [bnd_eq]
  refine ⟨cs, rfl, ?_⟩
  rw [bnd_eq]
  exact h

theorem lenV_alloc {s : St} {id : Nat} {ob : AObj} (hid : blkOf s id = none) {d : TypeDesc} {v : Value} {n : Nat} (h : lenV s d v = some n) : lenV (allocAt s id ob) d v = some n := by
  unfold lenV at h ⊢
  split at h
  · exact h
  · exact h
  · exact h
  · rename_i r
    simp only [bnd_eq, mapOf] at h
    obtain ⟨es, ⟨k, hk, hes⟩, h⟩ := h
    have : blkOf (allocAt s id ob) r = some k := by
      rw [allocAt_blk, if_neg]
      · exact hk
      · intro he; subst he; rw [hid] at hk; cases hk
    simp only [mapOf]
    rw [this]
    show bnd (bnd (some k) fun k => k.o.asMap) _ = _
    rw [bnd_eq]
    exact ⟨es, hes, h⟩
  · cases h

/-- reading is not turned by a block that is new -/
theorem read_alloc {o : Op} (hc : cls o = 1) {t : Tr Value} {s : St} {id : Nat} {ob : AObj} (hid : blkOf s id = none) {r : Out} (h : exec o ⟨E, S, rd, none, t, ds, s⟩ = some r) :
    ∃ r', exec o ⟨E, S, rd, none, t, ds, allocAt s id ob⟩ = some r' ∧ r'.v = r.v := by
  cases o <;> try (simp [cls] at hc; done)
  case load ty x =>
    have h : hLoad ty x ⟨E, S, rd, none, t, ds, s⟩ = some r := h
    simp only [hLoad, bnd_eq] at h
    obtain ⟨a, ha, p, hp, v, hv, h⟩ := h
    obtain ⟨h1, _, _⟩ := val_some h
    refine ⟨⟨v, ds, allocAt s id ob⟩, ?_, h1.symm⟩
    show hLoad ty x ⟨E, S, rd, none, t, ds, allocAt s id ob⟩ = _
    simp only [hLoad, bnd_eq]
    exact ⟨a, ha, p, hp, v, loadAt_alloc hid hv, rfl⟩
  case call k =>
    obtain ⟨callee, args, tys⟩ := k
    cases callee with
    | value f => simp [cls] at hc
    | invoke x m => simp [cls] at hc
    | builtin b =>
      cases b <;> try (simp [cls] at hc; done)
      case len =>
        have h : hLen args.toList tys.toList ⟨E, S, rd, none, t, ds, s⟩ = some r := h
        simp only [hLen, bnd_eq] at h
        obtain ⟨ty, hty, x, hx, d, hd, v, hv, n, hn, h⟩ := h
        obtain ⟨h1, _, _⟩ := val_some h
        refine ⟨⟨_, ds, allocAt s id ob⟩, ?_, h1.symm⟩
        show hLen args.toList tys.toList ⟨E, S, rd, none, t, ds, allocAt s id ob⟩ = _
        simp only [hLen, bnd_eq]
        exact ⟨ty, hty, x, hx, d, hd, v, hv, n, lenV_alloc hid hn, rfl⟩

theorem befr_false {i j : Nat} (h : ¬ Bef ops i j) : befr (masks ops.toList) i j = false := by
  cases hb : befr (masks ops.toList) i j with
  | false => rfl
  | true => exact absurd (befr_bef hb) h

/-- a reading that is ready reads what it read in the order of the text -/
theorem read_at (D : Drawn ops) (hT : ∀ j o, ops[j]? = some o → TraceAt E S rd base ops ds tt ss vv recs j o) (hreads : readsOk E S rd ds (masks ops.toList) recs recs = true) {L : Nat → Bool} {e : Nat} {ρ' : Ren} {w' : World}
    (hm : Mid ρ st w base ops.size ss (MakesAt ops tt) L e ρ' w') (he : e ≤ ops.size) (hd : Down ops L) (eb : ∀ i, i < e → IsE ops i → L i = true) (ee : e < ops.size → IsE ops e ∧ L e = false) {j : Nat} {oj : Oper} (hj : ops[j]? = some oj) (hL : L j = false)
    (hall : ∀ ed ∈ oj.after, Region.binds .any ed = true → L ed.on = true) (hc : cls oj.op = 1) (hw : wanted ops.toList (tt j) oj = true) :
    ∃ r, exec oj.op ⟨E, S, rd, none, tt j, ds, ss e⟩ = some r ∧ r.v = vv j := by
  have hjlt := (Array.getElem?_eq_some_iff.1 hj).1
  obtain ⟨_, ⟨_, ⟨r0, hr0, hv0, _⟩, hrec⟩ | ⟨hw', _⟩⟩ := hT j oj hj
  case inr => rw [hw] at hw'; cases hw'
  have h0 : ∃ r, exec oj.op ⟨E, S, rd, none, tt j, ds, ss j⟩ = some r ∧ r.v = vv j := by
    rw [hc] at hr0
    exact ⟨r0, hr0, hv0⟩
  have hok := readsOk_spec recs hreads _ hrec rfl hc
  -- an effect that is not ordered against the reading
  have around : ∀ i o, ops[i]? = some o → 3 ≤ cls o.op → ¬ Bef ops i j → ¬ Bef ops j i → (∃ r, exec oj.op ⟨E, S, rd, none, tt j, ds, ss i⟩ = some r ∧ r.v = vv j) ∧ (∃ r, exec oj.op ⟨E, S, rd, none, tt j, ds, ss (i + 1)⟩ = some r ∧ r.v = vv j) := by
    intro i o ho h3 hb1 hb2
    obtain ⟨_, ⟨_, _, hri⟩ | ⟨_, _, hs, hri⟩⟩ := hT i o ho
    · obtain ⟨a1, a2⟩ := readOk_spec recs hok _ hri h3 (befr_false hb2) (befr_false hb1)
      exact ⟨sameRead_spec a1, sameRead_spec a2⟩
    · obtain ⟨a1, a2⟩ := readOk_spec recs hok _ hri h3 (befr_false hb2) (befr_false hb1)
      exact ⟨sameRead_spec a1, by rw [hs]; exact sameRead_spec a2⟩
  rcases Nat.lt_or_ge e j with hej | hej
  · obtain ⟨⟨oe, hoe, h3⟩, hLe⟩ := ee (by omega)
    refine (around e oe hoe h3 (fun hb => ?_) (fun hb => ?_)).1
    · rw [hd.bef hb fun o' ho' ed hed hb' => by rw [hj] at ho'; injection ho' with ho'; subst ho'; exact hall ed hed hb'] at hLe
      cases hLe
    · have := D.back _ _ hb; omega
  · have key : ∀ m, j + m ≤ e → ∃ r, exec oj.op ⟨E, S, rd, none, tt j, ds, ss (j + m)⟩ = some r ∧ r.v = vv j := by
      intro m
      induction m with
      | zero => intro _; exact h0
      | succ m ih =>
        intro hle
        obtain ⟨r, hr, hv⟩ := ih (by omega)
        have ho : ops[j + m]? = some (ops[j + m]'(by omega)) := by simp [show j + m < ops.size by omega]
        by_cases hE : 3 ≤ cls (ops[j + m]'(by omega)).op
        · refine (around (j + m) _ ho hE (fun hb => ?_) (fun hb => ?_)).2
          · have := D.back _ _ hb; omega
          · have := hd.bef' hb (eb (j + m) (by omega) ⟨_, ho, hE⟩)
            rw [hL] at this; cases this
        · cases hwm : wanted ops.toList (tt (j + m)) (ops[j + m]'(by omega)) with
          | false => rw [show j + (m + 1) = j + m + 1 by omega, idle_at hT ho hwm]; exact ⟨r, hr, hv⟩
          | true =>
            by_cases h2 : cls (ops[j + m]'(by omega)).op = 2
            · obtain ⟨ob, hs⟩ := made_at hT ho h2 hwm
              obtain ⟨r', hr', hv'⟩ := read_alloc hc (hm.his (j + m) (by omega) (by omega)) (ob := ob) hr
              rw [show j + (m + 1) = j + m + 1 by omega, hs]
              exact ⟨r', hr', hv'.trans hv⟩
            · rw [show j + (m + 1) = j + m + 1 by omega, kept_at hT ho (by omega)]
              exact ⟨r, hr, hv⟩
    have := key (e - j) (by omega)
    rwa [show j + (e - j) = e by omega] at this
end
end Go.Ab

namespace Go.Ab

section
variable {E : Env} {P : Program} {S : Self} {rd ro : Option Nat} {base : Nat} {ops : Array Oper} {ds : List Deferred} {tt : Nat → Tr Value} {ss : Nat → St} {vv : Nat → Value} {recs : List Rec} {ρ : Ren} {st : St} {w : World}

/-- amid a region that draws its order -/
structure Inv (rd ro : Option Nat) (base : Nat) (ops : Array Oper) (ds : List Deferred) (tt : Nat → Tr Value) (ss : Nat → St) (vv : Nat → Value) (ρ : Ren) (st : St) (w : World) (nt : Nat) (L : Nat → Bool) (e : Nat) (ρ' : Ren) (a' : Act) (w' : World) : Prop where
  mid : Mid ρ st w base ops.size ss (MakesAt ops tt) L e ρ' w'
  en : e ≤ ops.size
  eb : ∀ i, i < e → IsE ops i → L i = true
  ee : e < ops.size → IsE ops e ∧ L e = false
  down : Down ops L
  tr : TR ρ' (TL ops vv (tt 0) L ops.size) a'.tmps
  sz : a'.tmps.size = nt
  ds : DsR ρ' ds a'.defers
  rd : RdR ρ' rd ro

theorem getD_of_get {t t' : Tr Value} {x : Nat} (h : t.get (pos x) = t'.get (pos x)) : getD t x = getD t' x := by unfold getD; rw [h]

/-- one operation more -/
theorem Inv.more (D : Drawn ops) {nt : Nat} {L L' : Nat → Bool} {e e2 : Nat} {ρ' ρ2 : Ren} {a' : Act} {w' w2 : World} (h : Inv rd ro base ops ds tt ss vv ρ st w nt L e ρ' a' w') {j : Nat} {oj : Oper} (hj : ops[j]? = some oj) (hL : L j = false)
    (hall : ∀ ed ∈ oj.after, Region.binds .any ed = true → L ed.on = true) (hne : ∀ i, i ≠ j → L' i = L i) (hLj : L' j = true) (hdst : ∀ d, oj.dst = some d → d < nt) (hle : ρ'.le ρ2)
    (hmid : Mid ρ st w base ops.size ss (MakesAt ops tt) L' e2 ρ2 w2) (en : e2 ≤ ops.size) (eb : ∀ i, i < e2 → IsE ops i → L' i = true) (ee : e2 < ops.size → IsE ops e2 ∧ L' e2 = false) {v' : Value} (hv : V ρ2 (vv j) v') {ds2 : List Deferred} (hds : DsR ρ2 ds ds2) :
    Inv rd ro base ops ds tt ss vv ρ st w nt L' e2 ρ2 (({ a' with defers := ds2 } : Act).put oj.dst v') w2 where
  mid := hmid
  en := en
  eb := eb
  ee := ee
  down := fun k o ed hk ho hed hb => by
    by_cases hkj : k = j
    · subst hkj
      rw [hj] at ho
      injection ho with ho
      subst ho
      have h1 := hall ed hed hb
      by_cases h2 : ed.on = k
      · rw [h2]; exact hLj
      · rw [hne _ h2]; exact h1
    · rw [hne k hkj] at hk
      have h1 := h.down k o ed hk ho hed hb
      by_cases h2 : ed.on = j
      · rw [h2]; exact hLj
      · rw [hne _ h2]; exact h1
  tr := by
    have hlt := (Array.getElem?_eq_some_iff.1 hj).1
    have h1 : TR ρ2 (putDst (TL ops vv (tt 0) L ops.size) oj.dst (vv j)) (({ a' with defers := ds2 } : Act).put oj.dst v').tmps :=
      TR.dst (a := { a' with defers := ds2 }) (h.tr.mono hle) (fun i hi => by have := hdst i hi; rw [← h.sz] at this; exact this) hv
    intro x
    rw [getD_of_get (TL_more D h.down hj hL hne hLj x ops.size hlt (Nat.le_refl _))]
    exact h1 x
  sz := by rw [Act.put_size]; exact h.sz
  ds := by rw [Act.put_ds]; exact hds
  rd := h.rd.mono hle
end
end Go.Ab

namespace Go.Ab

section
variable {E : Env} {P : Program} {S : Self} {rd ro : Option Nat} {base : Nat} {ops : Array Oper} {ds : List Deferred} {tt : Nat → Tr Value} {ss : Nat → St} {vv : Nat → Value} {recs : List Rec} {ρ : Ren} {st : St} {w : World}

theorem drawn_end (D : Drawn ops) (hT : ∀ j o, ops[j]? = some o → TraceAt E S rd base ops ds tt ss vv recs j o) {nt : Nat} {listed : Array Bool} (hsz : listed.size = ops.size) {e : Nat} {ρ' : Ren} {a' : Act} {w' : World}
    (h : Inv rd ro base ops ds tt ss vv ρ st w nt (Lof listed) e ρ' a' w') (hnil : Region.ready .any ops listed = []) : Step ρ st w ρ' (ss ops.size) w' ∧ TR ρ' (tt ops.size) a'.tmps := by
  have hall := none_ready D hsz hnil
  have he : e = ops.size := by
    rcases Nat.lt_or_ge e ops.size with hlt | hge
    · have := (h.ee hlt).2
      rw [hall e hlt] at this; cases this
    · have := h.en; omega
  subst he
  refine ⟨h.mid.step, fun x => ?_⟩
  have h1 : (TL ops vv (tt 0) (Lof listed) ops.size).get (pos x) = (TL ops vv (tt 0) (fun i => decide (i < ops.size)) ops.size).get (pos x) :=
    TL_agree ops.size fun i o hi _ _ => by rw [hall i hi]; simp [hi]
  rw [TL_text (ops := ops) (tt := tt) (vv := vv) rfl (fun j o ho => (hT j o ho).1) ops.size (Nat.le_refl _) ops.size, Nat.min_self] at h1
  rw [← getD_of_get h1]
  exact h.tr x

/-- an operation that is not of class 3, taken; or one that is not wanted -/
theorem step_quiet (D : Drawn ops) {nt : Nat} {L L' : Nat → Bool} {e : Nat} {ρ' : Ren} {a' : Act} {w' : World} (h : Inv rd ro base ops ds tt ss vv ρ st w nt L e ρ' a' w') {j : Nat} {oj : Oper} (hj : ops[j]? = some oj) (hL : L j = false)
    (hall : ∀ ed ∈ oj.after, Region.binds .any ed = true → L ed.on = true) (hne : ∀ i, i ≠ j → L' i = L i) (hLj : L' j = true) (hdst : ∀ d, oj.dst = some d → d < nt) (hA : ¬ MakesAt ops tt j) (hE : ¬ IsE ops j) {v' : Value} (hv : V ρ' (vv j) v') :
    Inv rd ro base ops ds tt ss vv ρ st w nt L' e ρ' (a'.put oj.dst v') w' := by
  refine h.more D hj hL hall hne hLj hdst (Ren.le_refl _) (h.mid.more hA L' hne hLj) h.en (fun i hi hE' => ?_) (fun hlt => ?_) hv (ds2 := a'.defers) h.ds
  · by_cases hij : i = j
    · rw [hij]; exact hLj
    · rw [hne i hij]; exact h.eb i hi hE'
  · obtain ⟨h1, h2⟩ := h.ee hlt
    exact ⟨h1, by rw [hne e (fun he => hE (he ▸ h1))]; exact h2⟩

/-- the next effect is the one that is ready -/
theorem effect_next (D : Drawn ops) {nt : Nat} {L : Nat → Bool} {e : Nat} {ρ' : Ren} {a' : Act} {w' : World} (h : Inv rd ro base ops ds tt ss vv ρ st w nt L e ρ' a' w') {j : Nat} {oj : Oper} (hj : ops[j]? = some oj) (hL : L j = false)
    (hall : ∀ ed ∈ oj.after, Region.binds .any ed = true → L ed.on = true) (hE : 3 ≤ cls oj.op) : j = e := by
  have hjlt := (Array.getElem?_eq_some_iff.1 hj).1
  rcases Nat.lt_trichotomy j e with hlt | heq | hgt
  · have := h.eb j hlt ⟨oj, hj, hE⟩
    rw [hL] at this; cases this
  · exact heq
  · obtain ⟨⟨oe, hoe, h3⟩, hLe⟩ := h.ee (by omega)
    rcases D.pair e j oe oj hgt hoe hj with hb | ⟨_, hn⟩
    · rw [h.down.bef hb fun o' ho' ed hed hb' => by rw [hj] at ho'; injection ho' with ho'; subst ho'; exact hall ed hed hb'] at hLe
      cases hLe
    · exact absurd ⟨h3, hE⟩ hn

/-- after the effect -/
theorem effect_done (D : Drawn ops) (hT : ∀ j o, ops[j]? = some o → TraceAt E S rd base ops ds tt ss vv recs j o) (hr0 : HRel ρ st w) (hb : st.nx = base) {nt : Nat} {L L' : Nat → Bool} {e : Nat} {ρ' ρ2 : Ren} {a' : Act} {w' w2 : World}
    (h : Inv rd ro base ops ds tt ss vv ρ st w nt L e ρ' a' w') {oj : Oper} (hj : ops[e]? = some oj) (hL : L e = false)
    (hall : ∀ ed ∈ oj.after, Region.binds .any ed = true → L ed.on = true) (hE : 3 ≤ cls oj.op) (hne : ∀ i, i ≠ e → L' i = L i) (hLj : L' e = true) (hdst : ∀ d, oj.dst = some d → d < nt) (hle : ρ'.le ρ2)
    (hmid : Mid ρ st w base ops.size ss (MakesAt ops tt) L' (e + 1) ρ2 w2) {v' : Value} (hv : V ρ2 (vv e) v') {ds2 : List Deferred} (hds : DsR ρ2 ds ds2) :
    ∃ e2, Inv rd ro base ops ds tt ss vv ρ st w nt L' e2 ρ2 (({ a' with defers := ds2 } : Act).put oj.dst v') w2 := by
  have hlt := (Array.getElem?_eq_some_iff.1 hj).1
  obtain ⟨e2, g1, g2, g3, g4, g5⟩ := hmid.advance hT hr0 hb (ops.size - (e + 1)) (e + 1) rfl (by omega)
  refine ⟨e2, h.more D hj hL hall hne hLj hdst hle g3 g2 (fun i hi hEi => ?_) (fun h2 => ⟨g5 h2, ?_⟩) hv hds⟩
  · rcases Nat.lt_trichotomy i e with hie | hie | hie
    · rw [hne i (by omega)]; exact h.eb i hie hEi
    · rw [hie]; exact hLj
    · exact absurd hEi (g4 i (by omega) hi)
  · rw [hne e2 (by omega)]
    cases hL2 : L e2 with
    | false => rfl
    | true =>
      obtain ⟨o2, ho2, h32⟩ := g5 h2
      rcases D.pair e e2 oj o2 (by omega) hj ho2 with hbf | ⟨_, hn⟩
      · rw [h.down.bef' hbf hL2] at hL; cases hL
      · exact absurd ⟨hE, h32⟩ hn
end
end Go.Ab

namespace Go.Ab

section
variable {E : Env} {P : Program} {S : Self} {rd ro : Option Nat} {base : Nat} {ops : Array Oper} {ds : List Deferred} {tt : Nat → Tr Value} {ss : Nat → St} {vv : Nat → Value} {recs : List Rec} {ρ : Ren} {st : St} {w : World}

theorem drawn_any (ok : E.Ok P) (hC : CallOK P S) (hS : CodeOK P S) (D : Drawn ops) (hr0 : HRel ρ st w) (hb : st.nx = base) (hT : ∀ j o, ops[j]? = some o → TraceAt E S rd base ops ds tt ss vv recs j o)
    (hreads : readsOk E S rd ds (masks ops.toList) recs recs = true) {nt : Nat} (hfit : ∀ (i : Nat) (o : Oper), ops[i]? = some o → ∀ d, o.dst = some d → d < nt) {R : Exit → Act → World → Prop}
    (hR : ∀ ρ' a' w', Step ρ st w ρ' (ss ops.size) w' → TR ρ' (tt ops.size) a'.tmps → DsR ρ' ds a'.defers → a'.tmps.size = nt → R .normal a' w') :
    ∀ (fuel : Nat) (listed : Array Bool) (e : Nat) (ρ' : Ren) (a' : Act) (w' : World), listed.size = ops.size → Inv rd ro base ops ds tt ss vv ρ st w nt (Lof listed) e ρ' a' w' → left (Lof listed) ops.size ≤ fuel →
      wpAnyIn (fen ro) 0 P .any ops R fuel listed a' w' := by
  intro fuel
  induction fuel with
  | zero =>
    intro listed e ρ' a' w' hsz h hleft
    have hall := left_zero ops.size (by omega : left (Lof listed) ops.size = 0)
    have hnil : Region.ready .any ops listed = [] := by
      apply List.eq_nil_iff_forall_not_mem.2
      intro j hj
      obtain ⟨h1, h2, _⟩ := (ready_iff hsz).1 hj
      rw [hall j h1] at h2; cases h2
    obtain ⟨s1, t1⟩ := drawn_end D hT hsz h hnil
    exact ⟨hnil, hR _ _ _ s1 t1 h.ds h.sz⟩
  | succ fuel ih =>
    intro listed e ρ' a' w' hsz h hleft
    refine ⟨fun hnil => ?_, fun j hjr => ?_⟩
    · obtain ⟨s1, t1⟩ := drawn_end D hT hsz h hnil
      exact hR _ _ _ s1 t1 h.ds h.sz
    · obtain ⟨hlt, hL, oj, hj, hall⟩ := (ready_iff hsz).1 hjr
      obtain ⟨hne, hLj⟩ := Lof_set (listed := listed) (j := j) (by omega)
      have hleft2 : left (Lof (listed.setIfInBounds j true)) ops.size ≤ fuel := by
        have := left_less hne hL hLj ops.size hlt
        omega
      have hsz2 : (listed.setIfInBounds j true).size = ops.size := by simpa using hsz
      have hdst := hfit j oj hj
      have hlooks : ∀ x ∈ oj.looksAt ops, (TL ops vv (tt 0) (Lof listed) ops.size).get (pos x) = (tt j).get (pos x) := fun x hx => looks_same D h.down hj hL hall (fun k o ho => (hT k o ho).1) (.inl hx)
      have hw1 := wanted_eq (ops := ops) h.tr oj
      have hw2 := wanted_same hlooks
      have hle3 := D.le3 j oj hj
      have hnd : ∀ k, oj.op ≠ .defer k := fun k hk => by rw [hk] at hle3; simp [cls] at hle3
      have hcong : ∀ id s, exec oj.op ⟨E, S, rd, id, TL ops vv (tt 0) (Lof listed) ops.size, ds, s⟩ = exec oj.op ⟨E, S, rd, id, tt j, ds, s⟩ := fun id s => exec_congr oj.op hnd (opv_same hlooks)
      have cont : ∀ {e2 : Nat} {ρ2 : Ren} {a2 : Act} {w2 : World}, Inv rd ro base ops ds tt ss vv ρ st w nt (Lof (listed.setIfInBounds j true)) e2 ρ2 a2 w2 → wpAnyIn (fen ro) 0 P .any ops R fuel (listed.setIfInBounds j true) a2 w2 :=
        fun hi => ih _ _ _ _ _ hsz2 hi hleft2
      unfold wpOpIn
      simp only [hj]
      obtain ⟨_, ⟨hw, ⟨r, hr, hrv, hrs⟩, _⟩ | ⟨hw, hvu, hss, _⟩⟩ := hT j oj hj
      · rw [if_pos (by rw [← hw1, hw2]; exact hw)]
        have hcls : cls oj.op = 0 ∨ cls oj.op = 1 ∨ cls oj.op = 2 ∨ cls oj.op = 3 := by omega
        have pure : ∀ {v : Value}, PureOK P ρ' w' (execOp a'.eval oj) v → v = vv j → ¬ MakesAt ops tt j → ¬ IsE ops j → oj.wpIn (fen ro) 0 P a' w' (wpAnyIn (fen ro) 0 P .any ops R fuel (listed.setIfInBounds j true)) R := by
          intro v ⟨v', h1, h2⟩ hv hA hE
          refine ⟨fun f _ => fen_fn ro f, ?_⟩
          rw [Oper.semAt_eq _ _ _ hnd, h1]
          exact cont (step_quiet D h hj hL hall hne hLj hdst hA hE (hv ▸ h2))
        rcases hcls with hc | hc | hc | hc
        · rw [hc] at hr
          have hr2 := (hcong none (ss j)).trans hr
          obtain ⟨h1, _, _⟩ := exec_pure (P := P) (w := w') ok rfl h.tr hc hr2
          exact pure h1 hrv (fun ⟨o2, ho2, hc2, _⟩ => by rw [hj] at ho2; injection ho2 with ho2; subst ho2; omega) (fun ⟨o2, ho2, hc2⟩ => by rw [hj] at ho2; injection ho2 with ho2; subst ho2; omega)
        · obtain ⟨r2, hr2, hv2⟩ := read_at D hT hreads h.mid h.en h.down h.eb h.ee hj hL hall hc hw
          have hr3 := (hcong none (ss e)).trans hr2
          obtain ⟨h1, _, _⟩ := exec_read (P := P) (w := w') ok rfl h.tr h.mid.hr hc hr3
          exact pure h1 hv2 (fun ⟨o2, ho2, hc2, _⟩ => by rw [hj] at ho2; injection ho2 with ho2; subst ho2; omega) (fun ⟨o2, ho2, hc2⟩ => by rw [hj] at ho2; injection ho2 with ho2; subst ho2; omega)
        · -- a block is made
          have hA : MakesAt ops tt j := ⟨oj, hj, hc, hw⟩
          have hE : ¬ IsE ops j := fun ⟨o2, ho2, hc2⟩ => by rw [hj] at ho2; injection ho2 with ho2; subst ho2; omega
          rw [hc] at hr
          have hr2 := (hcong (some (Nat.add base j)) (ss j)).trans hr
          obtain ⟨ob, vf, hn, v', o', nn, w2, g1, g2, ⟨g3, g4, g5⟩, g6, g7⟩ := exec_new (P := P) (w := w') ok rfl h.tr hc hr2
          rcases new_some hn with ⟨h1, _⟩ | ⟨id, h1, h2⟩
          · exact nomatch h1
          have hid : id = base + j := by
            have : (some (Nat.add base j) : Option Nat) = some id := h1
            injection this with this
            exact this.symm
          subst hid
          have hblk : blkOf (ss (j + 1)) (base + j) = some ⟨0, ob⟩ := by
            rw [← hrs, h2]
            show blkOf (allocAt (ss j) (base + j) ob) (base + j) = _
            rw [allocAt_blk, if_pos rfl]
          obtain ⟨hle, hmid⟩ := h.mid.alloc hb hlt hA hL hblk (nn := nn) g6 g2 g3 g4 g5 _ hne hLj
          refine ⟨fun f _ => fen_fn ro f, ?_⟩
          rw [Oper.semAt_eq _ _ _ hnd, g1]
          have hv : V (fun x => if x = base + j then some ⟨w'.heap.size, 0, nn⟩ else ρ' x) (vv j) v' := by
            rw [← hrv, h2]
            exact g7 (base + j) _ hle (by simp)
          refine cont (h.more D hj hL hall hne hLj hdst hle hmid h.en (fun i hi hE' => ?_) (fun hlt2 => ?_) hv (ds2 := a'.defers) (h.ds.mono hle))
          · by_cases hij : i = j
            · rw [hij]; exact hLj
            · rw [hne i hij]; exact h.eb i hi hE'
          · obtain ⟨h3, h4⟩ := h.ee hlt2
            exact ⟨h3, by rw [hne e (fun he => hE (he ▸ h3))]; exact h4⟩
        · -- an effect
          have hje := effect_next D h hj hL hall (by omega)
          subst hje
          have hA : ¬ MakesAt ops tt j := fun ⟨o2, ho2, hc2, _⟩ => by rw [hj] at ho2; injection ho2 with ho2; subst ho2; omega
          rw [hc] at hr
          have hr2 := (hcong none (ss j)).trans hr
          have hds : r.ds = ds := by
            by_cases hv : isCallV oj.op = true
            · cases ho : oj.op <;> rw [ho] at hv <;> try (simp [isCallV] at hv; done)
              case call k =>
                obtain ⟨callee, args, tys⟩ := k
                cases callee with
                | invoke x m => simp [isCallV] at hv
                | builtin b => simp [isCallV] at hv
                | value f =>
                  rw [ho] at hr
                  have hr3 : hCallV f args.toList ⟨E, S, rd, none, tt j, ds, ss j⟩ = some r := hr
                  simp only [hCallV, bnd_eq] at hr3
                  obtain ⟨_, _, _, _, _, _, _, _, hr3⟩ := hr3
                  exact (out_some hr3).2.1
            · exact (exec_eff (P := P) (w := w') ok rfl h.tr h.mid.hr rfl hc (by simpa using hv) hr2).2
          refine oper_sound (c := ⟨E, S, rd, none, TL ops vv (tt 0) (Lof listed) ops.size, ds, ss j⟩) ok rfl hC hS h.tr h.mid.hr h.ds rfl h.rd hr2 _ _ fun ρ2 v' ds2 w2 s1 hv hd2 => ?_
          have hle := s1.le h.mid.hr
          have s1' : Step ρ' (ss j) w' ρ2 (ss (j + 1)) w2 := by rw [← hrs]; exact s1
          have hmid := h.mid.effect hr0 hb hlt s1' hA _ hne hLj
          obtain ⟨e2, hinv⟩ := effect_done D hT hr0 hb h hj hL hall (by omega) hne hLj hdst hle hmid (by rw [← hrv]; exact hv) (by rw [← hds]; exact hd2)
          exact cont hinv
      · rw [if_neg (by rw [← hw1, hw2, hw]; simp)]
        refine ⟨fun f _ => fen_fn ro f, ?_⟩
        have hA : ¬ MakesAt ops tt j := fun ⟨o2, ho2, _, hw3⟩ => by rw [hj] at ho2; injection ho2 with ho2; subst ho2; rw [hw] at hw3; cases hw3
        have hv : V ρ' (vv j) undef := by rw [hvu]; exact V.undef ρ'
        by_cases hE : IsE ops j
        · obtain ⟨o2, ho2, h3⟩ := hE
          rw [hj] at ho2
          injection ho2 with ho2
          subst ho2
          have hje := effect_next D h hj hL hall h3
          subst hje
          have hmid := (h.mid.more hA _ hne hLj).same hss hA
          obtain ⟨e2, hinv⟩ := effect_done D hT hr0 hb h hj hL hall h3 hne hLj hdst (Ren.le_refl _) hmid hv (ds2 := a'.defers) h.ds
          exact cont hinv
        · exact cont (step_quiet D h hj hL hall hne hLj hdst hA hE hv)
end
end Go.Ab

namespace Go.Ab

section
variable {E : Env} {P : Program} {S : Self} {rd ro : Option Nat} {ρ : Ren} {st : St} {w : World} {t : Tr Value} {a : Act} {ds : List Deferred}

theorem TL_none {ops : Array Oper} {vv : Nat → Value} {t0 : Tr Value} {L : Nat → Bool} (h : ∀ i, L i = false) : ∀ m, TL ops vv t0 L m = t0 := by
  intro m
  induction m with
  | zero => rfl
  | succ m ih => simp only [TL, h m, Bool.false_eq_true, if_false]; exact ih

theorem left_le (L : Nat → Bool) : ∀ m, left L m ≤ m := by
  intro m
  induction m with
  | zero => exact Nat.le_refl _
  | succ m ih => simp only [left]; split <;> omega

theorem kRegion_sound (ok : E.Ok P) (hC : CallOK P S) (hS : CodeOK P S) {id : Nat} {ops : Array Oper} {draw : Bool} {z : Nat × Tr Value × List Deferred × St} (h : kRegion E S rd draw ops.toList t ds st = some z) (hrd : RdR ρ rd ro)
    (hc : codeOk a.tmps.size (.region id ops draw) = true) (ht : TR ρ t a.tmps) (hd : DsR ρ ds a.defers) (hr : HRel ρ st w) : (Code.region id ops draw).wpIn (fen ro) 0 P (Post ρ st w a.tmps.size z) a w := by
  simp only [codeOk, Bool.and_eq_true] at hc
  obtain ⟨hfit, hdraw⟩ := hc
  simp only [kRegion, bnd_eq] at h
  obtain ⟨x, hx, h⟩ := h
  injection h with h
  subst h
  unfold region at hx
  rw [cnd_of] at hx hdraw
  cases draw with
  | false =>
    rw [if_neg (by simp)] at hx
    refine wpIn_region ?_
    have := operList_sound (ro := ro) ok hC hS hfit (R := Post ρ st w a.tmps.size (0, x)) 0 ρ t ds st w a x hx hrd ht hd hr rfl fun ρ' a' w' s1 t1 d1 n1 => ⟨rfl, ρ', s1, t1, d1, n1⟩
    simpa using this
  | true =>
    rw [if_pos rfl] at hx hdraw
    simp only [bnd_eq, grd_eq] at hx
    obtain ⟨hfew, y, hy, hreads, hx⟩ := hx
    have hmany : odd ops.toList = false := by simpa using hfew
    rw [hmany, Bool.or_false] at hdraw
    injection hx with hx
    subst hx
    have D := drawnOk_spec hdraw
    obtain ⟨tt, ss, vv, e1, e2, e3, e4, hT⟩ := drawList_trace ops.toList 0 t _ y rfl (Nat.zero_le _) hy
    have hT' : ∀ j o, ops[j]? = some o → TraceAt E S rd st.nx ops ds tt ss vv y.1 j o := fun j o ho => hT j o (Nat.zero_le _) ho
    refine wpIn_region_any ok.mixed ?_
    have hL : ∀ i, Lof (Array.replicate ops.size false) i = false := fun i => by
      simp only [Lof, Array.getD_eq_getD_getElem?]
      rw [Array.getElem?_replicate]
      split <;> rfl
    have hss : ss 0 = { st with nx := st.nx + ops.size } := by
      rw [e2]
      have : ops.toList.length = ops.size := by simp
      rw [this]
      rfl
    have m0 := Mid.start (A := MakesAt ops tt) (L := Lof (Array.replicate ops.size false)) hr (w0 := { w with drawn := w.drawn + 1 }) rfl rfl rfl rfl rfl hss hL
    obtain ⟨e, g1, g2, g3, g4, g5⟩ := m0.advance hT' hr rfl ops.size 0 (by omega) (Nat.zero_le _)
    refine drawn_any ok hC hS D hr rfl hT' hreads (nt := a.tmps.size) (fun i o ho d hdo => ?_) (R := Post ρ st w a.tmps.size (0, y.2.1, ds, y.2.2)) (fun ρ' a' w' s1 t1 d1 n1 => ?_) ops.size _ e ρ a _ (by simp) ?_ (left_le _ _)
    · exact dstFits_lt (List.all_eq_true.1 hfit o (Array.mem_toList_iff.2 (Array.mem_of_getElem? ho))) d hdo
    · rw [e4] at s1
      rw [e3] at t1
      exact ⟨rfl, ρ', s1, t1, d1, n1⟩
    · exact {
        mid := g3
        en := g2
        eb := fun i hi hE => absurd hE (g4 i (Nat.zero_le _) hi)
        ee := fun hlt => ⟨g5 hlt, hL e⟩
        down := fun j o ed hj => by rw [hL j] at hj; cases hj
        tr := by rw [TL_none hL, e1]; exact ht
        sz := rfl
        ds := hd
        rd := hrd }
end
end Go.Ab

namespace Go.Ab

section
variable {E : Env} {P : Program} {ρ : Ren} {st : St} {w : World}

def ExtOK (P : Program) (ρ : Ren) (st : St) (w : World) (s : Sem Value) (v : Value) (st' : St) : Prop :=
  ∃ v' w' ρ', s.run P w = .ok v' w' ∧ V ρ' v v' ∧ Step ρ st w ρ' st' w'

theorem ExtOK.pure (hr : HRel ρ st w) {s : Sem Value} {v v' : Value} (h : s.run P w = .ok v' w) (hv : V ρ v v') : ExtOK P ρ st w s v st := ⟨v', w, ρ, h, hv, Step.refl hr⟩

theorem toNat_ofNat (c : Int) : UInt8.ofNat c.toNat = c.toNat.toUInt8 := rfl

theorem indexFrom_cons (c b : UInt8) (s : List UInt8) (i : Nat) : indexFrom c (b :: s) i = cnd (b == c) (Int.ofNat i) (indexFrom c s (Nat.add i 1)) := rfl
theorem indexFrom_eq (c : UInt8) : ∀ (s : List UInt8) (i : Nat), indexFrom c s i = if Go.Lib.indexByte s c = -1 then -1 else Go.Lib.indexByte s c + i := by
  intro s
  induction s with
  | nil => intro i; simp [indexFrom, Go.Lib.indexByte]
  | cons b s ih =>
    intro i
    rw [indexFrom_cons, cnd_of]
    unfold Go.Lib.indexByte
    by_cases hb : (b == c) = true
    · simp [hb]
    · have hge := Go.Lib.indexByte_ge s c
      rw [if_neg hb, ih]
      simp only [hb, Bool.false_eq_true, if_false]
      by_cases h1 : Go.Lib.indexByte s c = -1
      · simp [h1]
      · have : (Go.Lib.indexByte s c == -1) = false := by simpa using h1
        simp only [this, Bool.false_eq_true, if_false, if_neg h1]
        rw [if_neg (by omega)]
        have : ((Nat.add i 1 : Nat) : Int) = (i : Int) + 1 := by simp
        rw [this]; omega
theorem countIn_cons (c b : UInt8) (s : List UInt8) (n : Nat) : countIn c (b :: s) n = countIn c s (cnd (b == c) (Nat.add n 1) n) := rfl
theorem countIn_eq (c : UInt8) : ∀ (s : List UInt8) (n : Nat), countIn c s n = n + Go.Lib.countByte s c := by
  intro s
  induction s with
  | nil => intro n; rfl
  | cons b s ih =>
    intro n
    rw [countIn_cons, ih, cnd_of]
    unfold Go.Lib.countByte
    rw [List.count_cons]
    by_cases hb : (b == c) = true
    · simp [hb]; omega
    · simp [hb]

theorem VL.one_inv {v : Value} {l : List Value} (h : VL ρ [v] l) : ∃ v', l = [v'] ∧ V ρ v v' := by
  cases h with | cons h1 h2 => cases h2; exact ⟨_, rfl, h1⟩
theorem VL.two_inv {u v : Value} {l : List Value} (h : VL ρ [u, v] l) : ∃ u' v', l = [u', v'] ∧ V ρ u u' ∧ V ρ v v' := by
  cases h with | cons h1 h2 => obtain ⟨v', rfl, h3⟩ := h2.one_inv; exact ⟨_, _, rfl, h1, h3⟩
theorem VL.three_inv {u v z : Value} {l : List Value} (h : VL ρ [u, v, z] l) : ∃ u' v' z', l = [u', v', z'] ∧ V ρ u u' ∧ V ρ v v' ∧ V ρ z z' := by
  cases h with | cons h1 h2 => obtain ⟨v', z', rfl, h3, h4⟩ := h2.two_inv; exact ⟨_, _, _, rfl, h1, h3, h4⟩
theorem arr_of {a : Array Value} {l : List Value} (h : a.toList = l) : a = l.toArray := by rw [← h]

theorem xStr_some {args : List Value} {f : ByteArray → UInt8 → Value} {r : Value × St} (h : xStr args f st = some r) : ∃ s c, args = [.string s, .int .u8 c] ∧ r = (f s (UInt8.ofNat c.toNat), st) := by
  unfold xStr at h
  split at h
  · injection h with h; exact ⟨_, _, rfl, h.symm⟩
  · cases h

/-- an int's cell, and what stands for it -/
theorem HRel.intCell (hr : HRel ρ st w) {b o : Nat} {cs : (TypeId × Bool) × Nat × Tr Value} (hc : cellsOf st b = some cs) {l : Loc} (hl : ρ b = some l) {k : IntKind} {n : Int} (hv : cs.2.2.get (pos o) = some (.int k n)) :
    o < cs.2.1 ∧ w.cell? ⟨l.blk, l.off + o, none⟩ = some (.int k n) ∧ w.frozen? ⟨l.blk, l.off + o, none⟩ = false := by
  obtain ⟨kv, hk0⟩ := cellsOf_some hc
  obtain ⟨ob, hob, arr, te, fr, rfl, q2, q3, q4, q5, q6⟩ := hr.obj _ _ _ hk0 hl
  obtain ⟨h1, h2⟩ := q5 _ _ hv
  have h2 := h2.int_inv
  have hlt : l.off + o < arr.size := by omega
  refine ⟨h1, ?_, ?_⟩
  · have : arr[l.off + o] = .int k n := by simpa [Array.getD, hlt] using h2
    simp [World.cell?, hob, hlt, this]
  · have := q4 o (by omega)
    simp only [World.frozen?, hob]
    simpa using this

theorem run_read {a : Addr} {k : IntKind} {n : Int} (h : w.cell? a = some (.int k n)) : (Extern.Atomic.read (.int k) a).run P w = .ok (.int k n) w := by
  simp [Extern.Atomic.read, h]

theorem run_storeA {a : Addr} {k k' : IntKind} {n n' : Int} (h : w.cell? a = some (.int k n)) (hf : w.frozen? a = false) : (store a (.int k' n') .atomic).run P w = .ok () (w.setCell a (.int k' n')) := by
  rw [run_store P w a _ _ rfl, h]
  simp [hf]

theorem xCell_some {args : List Value} {f : Nat → Nat → Tr Value → Value → List Value → Option (Value × St)} {r : Value × St} (h : xCell args f st = some r) :
    ∃ b o rest cs v, args = .pointer (some ⟨b, o, none⟩) :: rest ∧ cellsOf st b = some cs ∧ cs.2.2.get (pos o) = some v ∧ f b o cs.2.2 v rest = some r := by
  unfold xCell at h
  split at h
  · simp only [bnd_eq] at h
    obtain ⟨cs, hcs, v, hv, h⟩ := h
    exact ⟨_, _, _, cs, v, rfl, hcs, hv, h⟩
  · cases h

theorem HRel.putInt {P : Program} (hr : HRel ρ st w) {b o : Nat} {cs : (TypeId × Bool) × Nat × Tr Value} (hc : cellsOf st b = some cs) {l : Loc} (hl : ρ b = some l) (ho : o < cs.2.1) {k : IntKind} {n : Int} {st' : St}
    (h : setCells st b (cs.2.2.put (some (.int k n)) (pos o)) = some st') : Step ρ st w ρ st' (w.setCell ⟨l.blk, l.off + o, none⟩ (.int k n)) := by
  have := (hr.write (P := P) hc hl (o := o) (vs := [.int k n]) (vs' := [.int k n]) (.cons (.int k n) .nil) (by simp only [List.length_cons, List.length_nil]; omega) rfl h).2
  exact this

theorem run_touchesFrozen {a : Addr} (hs : (w.shape? a.block).isSome = true) (hf : w.frozen? a = false) : (Extern.Atomic.touchesFrozen a).run P w = .ok false w := by
  simp [Extern.Atomic.touchesFrozen, viewAt, hs, hf]

theorem HRel.shape (hr : HRel ρ st w) {b : Nat} {cs : (TypeId × Bool) × Nat × Tr Value} (hc : cellsOf st b = some cs) {l : Loc} (hl : ρ b = some l) : (w.shape? l.blk).isSome = true := by
  obtain ⟨kv, hk0⟩ := cellsOf_some hc
  obtain ⟨ob, hob, arr, te, fr, rfl, q2⟩ := hr.obj _ _ _ hk0 hl
  simp [World.shape?, hob]

theorem loadT_eq (t : Extern.Atomic.T) (a : Value) : Extern.Atomic.loadT t #[a] = (do Extern.Atomic.read t (← Go.asAddr a)) := rfl
theorem storeT_eq (a v : Value) : Extern.Atomic.storeT #[a, v] = (do store (← Go.asAddr a) v .atomic; pure Extern.Atomic.none_) := rfl
theorem update_eq (op : IntKind → Int → Int → Sem Value) (k : IntKind) (b : Bool) (addr y : Value) : Extern.Atomic.update op k b #[addr, y] = (do
    let a ← Go.asAddr addr
    let old ← Extern.Atomic.read (.int k) a
    let new ← op k (← Go.asInt old) (← Go.asInt y)
    store a new .atomic
    pure (if b then new else old)) := rfl
theorem casT_eq (k : IntKind) (addr old new : Value) : ∃ (X : Sem Unit) (Y Z : Sem Bool), Extern.Atomic.casT (.int k) #[addr, old, new] = (do
    let a ← Go.asAddr addr
    if ← Extern.Atomic.touchesFrozen a then X
    let eq ← match Extern.Atomic.T.int k, ← Extern.Atomic.read (.int k) a, old with
      | _, .int _ x, .int _ y => pure (x == y)
      | .ptr, .pointer x, .pointer y => samePointer x y
      | .int _, .pointer (some _), .int _ 0 | .int _, .int _ 0, .pointer (some _) => pure false
      | .int _, .pointer (some _), _ | .int _, _, .pointer (some _) => Y
      | _, _, _ => Z
    if eq then store a new .atomic
    pure (.bool eq)) := ⟨_, _, _, rfl⟩

theorem ext_sound (ok : E.Ok P) (hr : HRel ρ st w) {k : XK} {f : FuncId} (hk : E.X.get (pos f) = some k) {args : List Value} {args' : Array Value} (ha : VL ρ args args'.toList) {v : Value} {st' : St}
    (h : ext k args st = some (v, st')) : ExtOK P ρ st w (xsem k args') v st' := by
  unfold ext at h
  split at h
  · obtain ⟨s, c, rfl, hq⟩ := xStr_some h
    obtain ⟨rfl, rfl⟩ := Prod.mk.inj hq
    obtain ⟨u', v', e1, e2, e3⟩ := ha.two_inv
    rw [arr_of e1, e2.string_inv, e3.int_inv]
    refine ExtOK.pure hr (Go.Lib.run_indexByteString s c w) ?_
    rw [indexFrom_eq]
    have : (if Go.Lib.indexByte s.data.toList (UInt8.ofNat c.toNat) = -1 then (-1 : Int) else Go.Lib.indexByte s.data.toList (UInt8.ofNat c.toNat) + (0 : Nat)) = Go.Lib.indexByte s.data.toList c.toNat.toUInt8 := by
      split
      · rename_i h; exact h.symm
      · simp
    rw [this]
    exact .int _ _
  · obtain ⟨s, c, rfl, hq⟩ := xStr_some h
    obtain ⟨rfl, rfl⟩ := Prod.mk.inj hq
    obtain ⟨u', v', e1, e2, e3⟩ := ha.two_inv
    rw [arr_of e1, e2.string_inv, e3.int_inv]
    refine ExtOK.pure hr (Go.Lib.run_countString s c w) ?_
    rw [countIn_eq, Nat.zero_add]
    exact .int _ _
  · rename_i t e
    split at h
    · rename_i n
      simp only [bnd_eq, grd_eq] at h
      obtain ⟨m, hm, hle, h⟩ := h
      injection h with h
      injection h with h1 h2
      subst h1 h2
      obtain ⟨k, hk2⟩ := asNat_some hm
      injection hk2 with hk2 hk3
      subst hk2 hk3
      obtain ⟨u', e1, e2⟩ := ha.one_inv
      rw [arr_of e1, e2.int_inv]
      have hle : m ≤ 1048576 := by simpa using hle
      obtain ⟨cs, g1, g2, g3⟩ := Go.Lib.run_makeNoZero (P := P) w #[] t e (ok.made _ _ _ hk) m (by omega)
      have hst := hr.new (n := cs.size) (o := .cells (e, false) m .leaf) (o' := .cells cs e) (fun ρ' _ => ⟨cs, e, (0, 0), rfl, by simp, g2, (fun i _ => by simp), (fun i v hv => nomatch hv), rfl, (fun h => nomatch h)⟩)
        (w.drew.drew.alloc (.cells cs e)) rfl rfl rfl rfl
      refine ⟨_, _, _, g1, ?_, hst⟩
      exact open_V (by omega) g2 (l' := ⟨w.heap.size, 0, cs.size⟩) (by simp) (by simp) rfl
    · cases h
  · split at h
    · injection h with h
      injection h with h1 h2
      subst h1 h2
      obtain ⟨u', e1, e2⟩ := ha.one_inv
      rw [arr_of e1]
      exact ExtOK.pure hr rfl e2
    · cases h
  · rename_i kk
    rw [cnd_of] at h
    split at h
    · rename_i hk1
      injection h with h
      obtain ⟨rfl, rfl⟩ := Prod.mk.inj h
      match kk with
      | 0 => exact ExtOK.pure hr rfl (V.undef ρ)
      | 1 => exact ExtOK.pure hr rfl (V.undef ρ)
      | n + 2 => simp at hk1
    · split at h
      · injection h with h
        obtain ⟨rfl, rfl⟩ := Prod.mk.inj h
        obtain ⟨u', e1, e2⟩ := ha.one_inv
        obtain ⟨l, hl, e3⟩ := e2.ptr_inv
        rw [arr_of e1, e3]
        rename_i hk1 _ _ _
        match kk with
        | 0 => exact absurd rfl hk1
        | 1 => exact absurd rfl hk1
        | 2 => exact ExtOK.pure hr rfl (V.undef ρ)
        | n + 3 => exact ExtOK.pure hr rfl (V.undef ρ)
      · cases h
  · rename_i j
    obtain ⟨b, o, rest, cs, v0, rfl, hcs, hv, h⟩ := xCell_some h
    split at h
    · simp only [grd_eq] at h
      obtain ⟨hk', h⟩ := h
      have := ikEq_true hk'
      subst this
      injection h with h
      injection h with h1 h2
      subst h1 h2
      obtain ⟨u', e1, e2⟩ := ha.one_inv
      obtain ⟨l, hl, e3⟩ := e2.ptr_inv
      obtain ⟨c1, c2, c3⟩ := hr.intCell hcs hl hv
      rw [arr_of e1, e3]
      refine ExtOK.pure hr ?_ (.int _ _)
      simp [xsem, loadT_eq, run_read c2, Go.asAddr]
    · cases h
  · obtain ⟨b, o, rest, cs, v0, rfl, hcs, hv, h⟩ := xCell_some h
    split at h
    · simp only [grd_eq, bnd_eq] at h
      obtain ⟨hk', st2, hst, h⟩ := h
      have := ikEq_true hk'
      subst this
      injection h with h
      injection h with h1 h2
      subst h1 h2
      obtain ⟨u', v', e1, e2, e4⟩ := ha.two_inv
      obtain ⟨l, hl, e3⟩ := e2.ptr_inv
      obtain ⟨c1, c2, c3⟩ := hr.intCell hcs hl hv
      rw [arr_of e1, e3, e4.int_inv]
      refine ⟨_, _, ρ, ?_, V.undef ρ, hr.putInt (P := P) hcs hl c1 hst⟩
      simp [xsem, storeT_eq, run_storeA c2 c3, Go.asAddr]
      rfl
    · cases h
  · rename_i j
    obtain ⟨b, o, rest, cs, v0, rfl, hcs, hv, h⟩ := xCell_some h
    split at h
    · simp only [grd_eq] at h
      obtain ⟨hk', h⟩ := h
      have := ikEq_true hk'
      subst this
      rename_i kx xx ky yy zz hh
      obtain ⟨u', x', y', e1, e2, e4, e5⟩ := ha.three_inv
      obtain ⟨l, hl, e3⟩ := e2.ptr_inv
      obtain ⟨c1, c2, c3⟩ := hr.intCell hcs hl hv
      have hsh := hr.shape hcs hl
      rw [arr_of e1, e3, e4.int_inv, e5.int_inv]
      have htf := run_touchesFrozen (P := P) (a := ⟨l.blk, l.off + o, none⟩) hsh c3
      rw [cnd_of] at h
      split at h
      · rename_i hz
        simp only [bnd_eq] at h
        obtain ⟨st2, hst, h⟩ := h
        injection h with h
        obtain ⟨rfl, rfl⟩ := Prod.mk.inj h
        refine ⟨_, _, ρ, ?_, V.bool _, hr.putInt (P := P) hcs hl c1 hst⟩
        have hz : zz = xx := by simpa using hz
        obtain ⟨_, _, _, hx⟩ := casT_eq j (.pointer (some ⟨l.blk, l.off + o, none⟩)) (.int kx xx) (.int ky yy)
        simp [xsem, hx, htf, run_read c2, run_storeA c2 c3, Go.asAddr, hz]
      · rename_i hz
        injection h with h
        obtain ⟨rfl, rfl⟩ := Prod.mk.inj h
        refine ExtOK.pure hr ?_ (V.bool _)
        have hz : ¬ zz = xx := by simpa using hz
        obtain ⟨_, _, _, hx⟩ := casT_eq j (.pointer (some ⟨l.blk, l.off + o, none⟩)) (.int kx xx) (.int ky yy)
        simp [xsem, hx, htf, run_read c2, Go.asAddr, hz]
    · cases h
  · rename_i j
    obtain ⟨b, o, rest, cs, v0, rfl, hcs, hv, h⟩ := xCell_some h
    split at h
    · simp only [grd_eq, bnd_eq] at h
      obtain ⟨hk', st2, hst, h⟩ := h
      have := ikEq_true hk'
      subst this
      injection h with h
      injection h with h1 h2
      subst h1 h2
      obtain ⟨u', v', e1, e2, e4⟩ := ha.two_inv
      obtain ⟨l, hl, e3⟩ := e2.ptr_inv
      obtain ⟨c1, c2, c3⟩ := hr.intCell hcs hl hv
      rw [arr_of e1, e3, e4.int_inv]
      refine ⟨_, _, ρ, ?_, V.int _ _, hr.putInt (P := P) hcs hl c1 hst⟩
      simp [xsem, update_eq, run_read c2, run_storeA c2 c3, Go.asAddr, Go.asInt, Op.intArith, asIntOf]
    · cases h
end
end Go.Ab

namespace Go.Ab

section
variable {E : Env} {P : Program} {S : Self} {ρ : Ren} {st : St} {w : World} {t : Tr Value}

/-- the first frame -/
theorem TR.start {args : List Value} {args' : Array Value} (ha : VL ρ args args'.toList) (k : Nat) : TR ρ (Tr.ofListFrom args 0 .leaf) (args' ++ Array.replicate k undef) := by
  intro i
  have hg := Tr.get_ofList args 0 Tr.leaf i (fun _ _ => rfl)
  rw [if_neg (by omega), Nat.sub_zero] at hg
  unfold getD
  rw [hg]
  cases hi : args[i]? with
  | some v =>
    obtain ⟨v', h1, h2⟩ := ha.get hi
    have : (args' ++ Array.replicate k undef)[i]? = some v' := by
      have h1' : args'[i]? = some v' := by simpa using h1
      have hlt := (Array.getElem?_eq_some_iff.1 h1').1
      rw [Array.getElem?_append_left hlt]; exact h1'
    simp only [Array.getD_eq_getD_getElem?, this, Option.getD_some]
    exact h2
  | none =>
    have hle : args'.size ≤ i := by
      have := ha.length
      have h2 := List.getElem?_eq_none_iff.1 hi
      simp only [Array.length_toList] at this
      omega
    have : (args' ++ Array.replicate k undef).getD i undef = undef := by
      simp only [Array.getD_eq_getD_getElem?]
      rw [Array.getElem?_append_right hle, Array.getElem?_replicate]
      split <;> rfl
    rw [this]
    exact V.undef ρ

theorem resultVs_cons (r : ResultVar) (rs : List ResultVar) : resultVs E t st (r :: rs) = bnd (resultV E t st r) fun v => bnd (resultVs E t st rs) fun vs => some (v :: vs) := rfl

def resOf (tm : Array Value) (r : ResultVar) : Sem Value := match r with
    | .tmp t => pure (tm.getD t undef)
    | .cell a t => do loadVar t (← Go.asAddr (tm.getD a undef))

theorem results_list (ok : E.Ok P) (hr : HRel ρ st w) {tm : Array Value} (ht : TR ρ t tm) : ∀ (rs : List ResultVar) (vs : List Value), resultVs E t st rs = some vs →
    ∃ vs', (rs.mapM (resOf tm)).run P w = .ok vs' w ∧ VL ρ vs vs' := by
  intro rs
  induction rs with
  | nil => intro vs h; injection h with h; subst h; exact ⟨[], rfl, .nil⟩
  | cons r rs ih =>
    intro vs h
    rw [resultVs_cons] at h
    simp only [bnd_eq] at h
    obtain ⟨v, hv, us, hus, h⟩ := h
    injection h with h
    subst h
    obtain ⟨us', h1, h2⟩ := ih us hus
    have key : ∃ v', (resOf tm r).run P w = .ok v' w ∧ V ρ v v' := by
      cases r with
      | tmp i => injection hv with hv; subst hv; exact ⟨_, rfl, ht i⟩
      | cell i ty =>
        simp only [resultV, bnd_eq] at hv
        obtain ⟨p, hp, hv⟩ := hv
        have e1 := ht i
        rw [asAddr_some hp] at e1
        obtain ⟨l, hl, e2⟩ := e1.ptr_inv
        obtain ⟨v', g1, g2⟩ := HRel.load (P := P) ok hr hv hl
        exact ⟨v', by simp only [resOf, e2, Sem.run_bind, Go.asAddr, Sem.run_pure, Result.andThen_ok]; exact g1, g2⟩
    obtain ⟨v', g1, g2⟩ := key
    refine ⟨v' :: us', ?_, .cons g2 h2⟩
    rw [List.mapM_cons]
    simp only [Sem.run_bind]
    rw [g1]
    simp only [Result.andThen_ok]
    rw [h1]
    rfl

theorem results_sound (ok : E.Ok P) (hr : HRel ρ st w) {tm : Array Value} (ht : TR ρ t tm) {fn : Func} {vs : List Value} (h : resultVs E t st fn.results.toList = some vs) :
    ∃ v', (results fn tm).run P w = .ok v' w ∧ V ρ (packed vs) v' := by
  obtain ⟨vs', h1, h2⟩ := results_list ok hr ht _ _ h
  have hm : (fn.results.mapM (resOf tm)).run P w = .ok vs'.toArray w := by
    rw [Array.mapM_eq_mapM_toList, Sem.run_map, h1]
    rfl
  have hdef : results fn tm = (do let vs ← fn.results.mapM (resOf tm); pure (if h : vs.size = 1 then vs[0] else .tuple vs)) := rfl
  rw [hdef]
  refine ⟨if h : vs'.toArray.size = 1 then vs'.toArray[0] else .tuple vs'.toArray, ?_, ?_⟩
  · simp only [Sem.run_bind]
    rw [hm]
    rfl
  · cases h2 with
    | nil => exact .tuple .nil
    | cons h3 h4 =>
      cases h4 with
      | nil => exact h3
      | cons h5 h6 =>
        rw [dif_neg (by simp)]
        exact .tuple (.cons h3 (.cons h5 h6))

theorem exitOf_le {n : Nat} (h : Nat.ble n 1 = true) : exitOf n = .normal ∨ exitOf n = .ret := by
  match n with
  | 0 => exact .inl rfl
  | 1 => exact .inr rfl
  | n + 2 => simp at h

/-- a deferred call -/
theorem bodyD_sound (ok : E.Ok P) (hS : CodeOK P S) (hr : HRel ρ st w) {f : FuncId} {args : List Value} {args' : Array Value} (ha : VL ρ args args'.toList) {st' : St} (h : bodyD E S f args st = some st') (u : FrameMode) :
    (∀ w, (callFunc f args').run P w = .ok (.enter f args') w) ∧ CallsDIn Fence.wide 0 P f args' u w fun e u' w' => u' = u ∧ Ret (fun _ w' => ∃ ρ', Step ρ st w ρ' st' w') e w' := by
  simp only [bodyD, bnd_eq, grd_eq, Bool.and_eq_true] at h
  obtain ⟨fn, hfn, c, hc, hle, r, hrun, ⟨hex, hds⟩, vs, hvs, h⟩ := h
  injection h with h
  subst h
  refine ⟨fun w => ok.enter f fn c hfn hc _ w, ?_⟩
  have hle : args.length ≤ fn.ntmps := by simpa using hle
  have hlen : args'.size = args.length := by have := ha.length; simp only [Array.length_toList] at this; omega
  have hsz : (args' ++ Array.replicate (fn.ntmps - args'.size) undef).size = fn.ntmps := by simp; omega
  refine callsDIn_of_wp (ok.func _ _ hfn) hc trivial ?_
  have hw := hS _ _ _ _ _ _ _ hrun ρ w { tmps := args' ++ Array.replicate (fn.ntmps - args'.size) undef, defers := [] } none (.inl ⟨rfl, rfl⟩) (by rw [hsz]; exact ok.fits _ _ _ hfn hc) (TR.start ha _) .nil hr
  refine wpIn_mono hw fun e a' w' hp => ?_
  obtain ⟨he, ρ', s1, t1, d1, n1⟩ := hp
  have hnil : a'.defers = [] := by
    have : r.2.2.1 = [] := by simpa using hds
    rw [this] at d1
    generalize a'.defers = q at d1
    cases d1
    rfl
  obtain ⟨v', g1, g2⟩ := results_sound ok s1.hrel t1 hvs
  rcases exitOf_le hex with h1 | h1
  · rw [he, h1]; exact ⟨hnil, v', g1, ρ', s1⟩
  · rw [he, h1]; exact ⟨hnil, v', g1, ρ', s1⟩

theorem leave_cons (d : Deferred) (ds : List Deferred) (st : St) : leave E S (d :: ds) st = bnd (tgKind d.target) fun k => Sum.rec
      (fun r => bnd (blkOf st r) fun b => bnd b.o.asDefd fun x => bnd x fun calls => grd calls.isEmpty (bnd (setBlk st r (.defd none)) fun st2 => leave E S ds st2))
      (fun fc => bnd (bodyD E S fc.1 (d.args.toList ++ fc.2) st) fun st2 => leave E S ds st2) k := rfl

theorem leave_sound (ok : E.Ok P) (hS : CodeOK P S) {fn : Func} {tm : Array Value} {R : Ending → World → Prop} : ∀ (ds : List Deferred) (ρ : Ren) (st : St) (w : World) (ds' : List Deferred) (st2 : St), HRel ρ st w → DsR ρ ds ds' →
    leave E S ds st = some st2 → (∀ ρ' w', Step ρ st w ρ' st2 w' → ∃ v, (results fn tm).run P w' = .ok v w' ∧ R (.returned v) w') → LeavesInM Fence.wide 0 P fn tm R ds' .returning w := by
  intro ds
  induction ds with
  | nil =>
    intro ρ st w ds' st2 hr hd h hR
    injection h with h
    subst h
    cases hd
    exact hR ρ w (Step.refl hr)
  | cons d ds ih =>
    intro ρ st w ds' st2 hr hd h hR
    cases hd with
    | cons h1 h2 =>
      rename_i d' l'
      rw [leave_cons] at h
      simp only [bnd_eq] at h
      obtain ⟨k, hk, h⟩ := h
      refine ⟨by simp, ?_⟩
      obtain ⟨tg, dargs⟩ := d
      obtain ⟨tg', dargs'⟩ := d'
      obtain ⟨h3, h4⟩ := h1
      simp only at h3 h4 hk h
      cases h3 with
      | collected hb =>
        rename_i b l
        injection hk with hk
        subst hk
        simp only [bnd_eq, grd_eq] at h
        obtain ⟨kb, hkb, x, hx, calls, hcalls, hemp, st3, hst3, h⟩ := h
        obtain ⟨ob, hob, hrel⟩ := hr.obj _ _ _ hkb hb
        have hko : kb.o = .defd x := by
          cases ho : kb.o <;> rw [ho] at hx <;> simp [AObj.asDefd] at hx
          subst hx; rfl
        subst hcalls
        rw [hko] at hrel
        obtain ⟨ds2, rfl, hds2⟩ := hrel
        have hcn : calls = [] := by simpa using hemp
        subst hcn
        cases hds2
        obtain ⟨m1, m2⟩ := hr.setObj (P := P) hst3 hb (x := .deferred none) (y := .deferred (some [])) rfl hob rfl
        refine .inl ⟨l.blk, _, rfl, ?_, ih ρ st3 _ _ st2 m2.hrel (h2.mono (m2.le hr)) h fun ρ' w' s => hR ρ' w' (m2.trans hr s)⟩
        simp only [Instr.takeDeferred, Sem.run_bind, run_getObj_of hob rfl, Result.andThen_ok, m1, Sem.run_pure]
      | fn hc =>
        rename_i f c c'
        injection hk with hk
        subst hk
        simp only [bnd_eq] at h
        obtain ⟨st3, hb, h⟩ := h
        have hargs : VL ρ (dargs.toList ++ c.toList) (dargs' ++ c').toList := by rw [Array.toList_append]; exact h4.append hc
        obtain ⟨g1, g2⟩ := bodyD_sound ok hS hr hargs hb .returning
        refine .inr ⟨fun h => (by cases h), .func f, c', f, dargs' ++ c', rfl, g1 w, fun _ _ => trivial, ?_⟩
        refine g2.mono fun e u' w' he => ?_
        obtain ⟨rfl, he⟩ := he
        cases e with
        | returned v =>
          obtain ⟨ρ', s1⟩ := he
          exact ih ρ' st3 w' _ st2 s1.hrel (h2.mono (s1.le hr)) h fun ρ2 w2 s2 => hR ρ2 w2 (s1.trans hr s2)
        | panicked ch => exact he.elim
        | outgrown => exact he.elim

theorem body_sound (ok : E.Ok P) (hS : CodeOK P S) (hr : HRel ρ st w) {f : FuncId} {args : List Value} {args' : Array Value} (ha : VL ρ args args'.toList) {v : Value} {st' : St} (h : body E S f args st = some (v, st')) :
    CallRun P f args' w fun v' w' => ∃ ρ', V ρ' v v' ∧ Step ρ st w ρ' st' w' := by
  simp only [body, bnd_eq, grd_eq] at h
  obtain ⟨fn, hfn, c, hc, hle, r, hrun, hex, st2, hlv, vs, hvs, h⟩ := h
  injection h with h
  injection h with h1 h2
  subst h1 h2
  refine .inr ⟨ok.enter f fn c hfn hc _ w, ?_⟩
  have hle : args.length ≤ fn.ntmps := by simpa using hle
  have hlen : args'.size = args.length := by have := ha.length; simp only [Array.length_toList] at this; omega
  have hsz : (args' ++ Array.replicate (fn.ntmps - args'.size) undef).size = fn.ntmps := by simp; omega
  refine callsIn_of_wp_marks (ok.func _ _ hfn) hc trivial ?_
  have hw := hS _ _ _ _ _ _ _ hrun ρ w { tmps := args' ++ Array.replicate (fn.ntmps - args'.size) undef, defers := [] } none (.inl ⟨rfl, rfl⟩) (by rw [hsz]; exact ok.fits _ _ _ hfn hc) (TR.start ha _) .nil hr
  refine wpIn_mono hw fun e a' w' hp => ?_
  obtain ⟨he, ρ', s1, t1, d1, n1⟩ := hp
  have fin : LeavesInM Fence.wide 0 P fn a'.tmps (Ret fun v' w' => ∃ ρ', V ρ' (packed vs) v' ∧ Step ρ st w ρ' st2 w') a'.defers .returning w' :=
    leave_sound ok hS _ ρ' _ w' _ _ s1.hrel d1 hlv fun ρ2 w2 s2 => by
      obtain ⟨v', g1, g2⟩ := results_sound ok s2.hrel (t1.mono (s2.le s1.hrel)) hvs
      exact ⟨v', g1, ρ2, g2, s1.trans hr s2⟩
  rcases exitOf_le hex with h1 | h1
  · rw [he, h1]; exact fin
  · rw [he, h1]; exact fin

def HookOK (P : Program) (x : Hook) : Prop :=
  ∀ f args st v st', x f args st = some (v, st') → ∀ (ρ : Ren) (w : World) (args' : Array Value), VL ρ args args'.toList → HRel ρ st w →
    CallRun P f args' w fun v' w' => ∃ ρ', V ρ' v v' ∧ Step ρ st w ρ' st' w'

theorem call_sound (ok : E.Ok P) {x : Hook} (hx : HookOK P x) (hS : CodeOK P S) : CallOK P ⟨S.code, call E x S⟩ := by
  intro f args st v st' h ρ w args' ha hr
  change call E x S f args st = some (v, st') at h
  unfold call at h
  cases hh : x f args st with
  | some r =>
    rw [hh] at h
    injection h with h
    subst h
    exact hx _ _ _ _ _ hh ρ w args' ha hr
  | none =>
    rw [hh] at h
    dsimp only at h
    cases hX : E.X.get (pos f) with
    | none =>
      rw [hX] at h
      exact body_sound ok hS hr ha h
    | some k =>
      rw [hX] at h
      obtain ⟨v', w', ρ', h1, h2, h3⟩ := ext_sound ok hr hX ha h
      refine .inl ⟨v', w', ?_, ρ', h2, h3⟩
      rw [ok.ext f k hX, h1]
      rfl

theorem code_sound (ok : E.Ok P) (hC : CallOK P S) (hS : CodeOK P S) {n : Nat} (hL : LoopOK P S n) : CodeOK P ⟨code E S, S.call⟩ := by
  intro rd fn c t ds st x h ρ w a ro hrd hc ht hd hr
  change code E S rd fn c t ds st = some x at h
  cases c with
  | skip => injection h with h; subst h; exact wpIn_skip ⟨rfl, ρ, Step.refl hr, ht, hd, rfl⟩
  | region id ops draw => exact kRegion_sound ok hC hS h hrd hc ht hd hr
  | seq a b => exact kSeq_sound hS h hrd hc ht hd hr
  | cond q a b => exact kCond_sound hS h hrd hc ht hd hr
  | block id b => exact kBlock_sound hS h hrd hc ht hd hr
  | loop b => exact wpIn_loop_rounds (n + 1) (kLoop_sound hS hL h hrd hc ht hd hr)
  | rangeFunc f ps a b => exact kRangeFunc_sound ok hC h hrd hc ht hd hr
  | exit id => injection h with h; subst h; exact wpIn_exit ⟨rfl, ρ, Step.refl hr, ht, hd, rfl⟩
  | scope b =>
    refine wpIn_scope (hS _ _ _ _ _ _ _ h ρ w a ro hrd hc ht hd hr) fun l a w hh => ?_
    obtain ⟨h1, _⟩ := hh
    revert h1
    match x.1 with
    | 0 => intro h; cases h
    | 1 => intro h; cases h
    | n + 2 => intro h; cases h
  | ret => injection h with h; subst h; exact wpIn_ret ⟨rfl, ρ, Step.refl hr, ht, hd, rfl⟩
  | label l => injection h with h; subst h; exact wpIn_label ⟨rfl, ρ, Step.refl hr, ht, hd, rfl⟩
  | goto l => exact nomatch h
  | refuse why => exact nomatch h

theorem self_sound (ok : E.Ok P) {x : Hook} (hx : HookOK P x) : ∀ n, CallOK P (self E x n) ∧ CodeOK P (self E x n) ∧ LoopOK P (self E x n) n := by
  intro n
  induction n with
  | zero =>
    refine ⟨?_, ?_, ?_⟩
    · intro f args st v st' h
      exact nomatch (show (none : Option (Value × St)) = some (v, st') from h)
    · intro rd fn c t ds st x h
      exact nomatch (show (none : CRes) = some x from h)
    · intro rd fn b t ds st x h
      exact nomatch (show (none : CRes) = some x from h)
  | succ n ih =>
    obtain ⟨h1, h2, h3⟩ := ih
    have hcode := code_sound ok h1 h2 h3
    refine ⟨fun f args st v st' h => ?_, fun rd fn c t ds st x h => hcode rd fn c t ds st x h, fun rd fn b t ds st x h ρ w a ro hrd hc ht hd hr => ?_⟩
    · exact call_sound ok hx h2 f args st v st' h
    · exact kLoop_sound h2 h3 h hrd hc ht hd hr
end
end Go.Ab

namespace Go.Ab

section
variable {E : Env} {P : Program} {S : Self} {ρ : Ren} {st : St} {w : World}

theorem litStep_inv {ih : Value → Bool} (hih : ∀ v v', ih v = true → V ρ v v' → v' = v) (v v' : Value) (h : litStep ih v = true) (hv : V ρ v v') : v' = v := by
  have all : ∀ l l' : List Value, l.all ih = true → VL ρ l l' → l' = l := by
    intro l
    induction l with
    | nil => intro l' _ h; cases h; rfl
    | cons x l ihl =>
      intro l' h hl
      simp only [List.all_cons, Bool.and_eq_true] at h
      cases hl with
      | cons h1 h2 => rw [hih _ _ h.1 h1, ihl _ h.2 h2]
  unfold litStep at h
  split at h
  · exact hv.bool_inv
  · exact hv.int_inv
  · exact hv.string_inv
  · cases hv; rfl
  · cases hv; rfl
  · cases hv; rfl
  · cases hv; rfl
  · cases hv; rfl
  · simp only [Bool.and_eq_true, Array.isEmpty_iff] at h
    obtain ⟨rfl, rfl⟩ := h
    obtain ⟨f', x', y', rfl, h1, h2, h3⟩ := hv.func_inv
    cases h1
    have e2 : x' = #[] := by have := h2; generalize hx : x'.toList = q at this; cases this; exact Array.toList_eq_nil_iff.1 hx
    have e3 : y' = #[] := by have := h3; generalize hx : y'.toList = q at this; cases this; exact Array.toList_eq_nil_iff.1 hx
    rw [e2, e3]
  · cases hv with
    | agg h1 => rw [Array.toList_inj.1 (all _ _ h h1)]
  · cases hv with
    | tuple h1 => rw [Array.toList_inj.1 (all _ _ h h1)]
  · cases h
theorem litN_inv : ∀ (n : Nat) (v v' : Value), litN n v = true → V ρ v v' → v' = v := by
  intro n
  induction n with
  | zero => exact litStep_inv (fun _ _ h _ => by cases h)
  | succ n ih => exact litStep_inv ih
theorem lit_inv {v v' : Value} (h : lit v = true) (hv : V ρ v v') : v' = v := litN_inv 4 v v' h hv
theorem lits_inv {l l' : List Value} (h : l.all lit = true) (hv : VL ρ l l') : l' = l := by
  induction l generalizing l' with
  | nil => cases hv; rfl
  | cons x l ih =>
    simp only [List.all_cons, Bool.and_eq_true] at h
    cases hv with
    | cons h1 h2 => rw [lit_inv h.1 h1, ih h.2 h2]
theorem lits_sound (ρ : Ren) {l : List Value} (h : l.all lit = true) : VL ρ l l := by
  induction l with
  | nil => exact .nil
  | cons x l ih =>
    simp only [List.all_cons, Bool.and_eq_true] at h
    exact .cons (lit_sound ρ h.1) (ih h.2)

theorem HRel.empty (w : World) : HRel (fun _ => none) ⟨.leaf, 0⟩ w where
  ren := fun _ _ h => nomatch h
  live := fun _ k h => nomatch (show (none : Option Blk) = some k from h)
  inj := fun _ _ k _ _ _ h => nomatch (show (none : Option Blk) = some k from h)
  obj := fun _ k _ h => nomatch (show (none : Option Blk) = some k from h)

/-- what was before stays, when a call was followed from an empty memory -/
theorem Step.frame {ρ1 : Ren} {st1 : St} {w' : World} (h : Step (fun _ => none) ⟨.leaf, 0⟩ w ρ1 st1 w') (hr : HRel ρ st w) : Step ρ st w ρ st w' where
  nx := Nat.le_refl _
  old := fun _ _ => rfl
  hrel := {
    ren := fun b l hb => ⟨(hr.ren b l hb).1, Nat.lt_of_lt_of_le (hr.ren b l hb).2 h.size⟩
    live := hr.live
    inj := hr.inj
    obj := fun b k l hk hl => by
      rw [h.conc l.blk (hr.ren b l hl).2 (fun _ _ _ hh => nomatch hh)]
      exact hr.obj b k l hk hl }
  abs := fun _ _ _ => rfl
  dead := fun _ _ h => h
  ver := fun b k k' h1 h2 => by rw [h1] at h2; injection h2 with h2; subst h2; exact ⟨Nat.le_refl _, fun _ => rfl⟩
  conc := fun c hc _ => h.conc c hc (fun _ _ _ hh => nomatch hh)
  size := h.size
  fresh := fun b l h1 h2 => by rw [h2] at h1; cases h1
  os := h.os
  tape := h.tape
  output := h.output

noncomputable def chk (v : Value) (x : Option (Value × St)) : Bool := Option.rec false (fun r => veqN 8 r.1 v) x
theorem chk_some {v : Value} {x : Option (Value × St)} (h : chk v x = true) : ∃ u st, x = some (u, st) ∧ veqN 8 u v = true := by
  cases x with
  | none => cases h
  | some r => exact ⟨r.1, r.2, rfl, h⟩

theorem pure_call (hC : CallOK P S) {f : FuncId} {args : List Value} {v : Value} (h : chk v (S.call f args ⟨.leaf, 0⟩) = true) (ha : args.all lit = true) (hl : lit v = true) {args' : Array Value} (hargs : VL ρ args args'.toList) (hr : HRel ρ st w) :
    CallRun P f args' w fun v' w' => ∃ ρ', V ρ' v v' ∧ Step ρ st w ρ' st w' := by
  obtain ⟨u, st1, h1, h2⟩ := chk_some h
  have e := lits_inv ha hargs
  have hc := hC f args ⟨.leaf, 0⟩ u st1 h1 (fun _ => none) w args' (by rw [e]; exact lits_sound _ ha) (HRel.empty w)
  refine hc.mono fun v' w' ⟨ρ1, hv, hs⟩ => ?_
  have hv2 := veqN_eq 8 _ _ h2
  subst hv2
  rw [lit_inv hl hv]
  exact ⟨ρ, lit_sound ρ hl, hs.frame hr⟩

noncomputable def xPure (f0 : FuncId) (args0 : List Value) (v0 : Value) : Hook := fun f args st => cnd (Nat.beq f f0 && veqL (veqN 8) args args0) (some (v0, st)) none
noncomputable def xOr (x y : Hook) : Hook := fun f args st => Option.rec (y f args st) (fun r => some r) (x f args st)

theorem HookOK.or {x y : Hook} (hx : HookOK P x) (hy : HookOK P y) : HookOK P (xOr x y) := by
  intro f args st v st' h
  unfold xOr at h
  cases hh : x f args st with
  | none => rw [hh] at h; exact hy _ _ _ _ _ h
  | some r => rw [hh] at h; injection h with h; subst h; exact hx _ _ _ _ _ hh

theorem HookOK.pure (hC : CallOK P S) {f0 : FuncId} {args0 : List Value} {v0 : Value} (h : chk v0 (S.call f0 args0 ⟨.leaf, 0⟩) = true) (ha : args0.all lit = true) (hl : lit v0 = true) : HookOK P (xPure f0 args0 v0) := by
  intro f args st v st' hx ρ w args' hargs hr
  unfold xPure at hx
  rw [cnd_of] at hx
  split at hx
  · rename_i hb
    simp only [Bool.and_eq_true] at hb
    have hf : f = f0 := Nat.eq_of_beq_eq_true hb.1
    subst hf
    injection hx with hx
    obtain ⟨rfl, rfl⟩ := Prod.mk.inj hx
    have := veqL_eq (veqN_eq 8) _ _ hb.2
    subst this
    exact pure_call hC h ha hl hargs hr
  · cases hx
end
end Go.Ab

namespace Go.Ab

section
variable {E : Env} {P : Program} {S : Self} {ρ : Ren} {st : St} {w : World} {t : Tr Value} {a : Act} {o : Oper}

theorem ER.mem' {l l' : List MapEntry} (h : ER ρ l l') {e' : MapEntry} (hm : e' ∈ l') : ∃ e ∈ l, V ρ e.key e'.key ∧ V ρ e.val e'.val ∧ e.born = e'.born := by
  induction h with
  | nil => cases hm
  | cons h1 h2 h3 _ ih =>
    rcases List.mem_cons.1 hm with rfl | hm
    · exact ⟨_, List.mem_cons_self .., h1, h2, h3⟩
    · obtain ⟨e, he, h⟩ := ih hm
      exact ⟨e, List.mem_cons_of_mem _ he, h⟩
theorem ER.mem {l l' : List MapEntry} (h : ER ρ l l') {e : MapEntry} (hm : e ∈ l) : ∃ e' ∈ l', e.born = e'.born := by
  induction h with
  | nil => cases hm
  | cons h1 h2 h3 _ ih =>
    rcases List.mem_cons.1 hm with rfl | hm
    · exact ⟨_, List.mem_cons_self .., h3⟩
    · obtain ⟨e, he, h⟩ := ih hm
      exact ⟨e, List.mem_cons_of_mem _ he, h⟩

theorem choose_map (n : Nat) (hn : 0 < n) (w : World) : ∃ j w1, j < n ∧ (choose (.mapNext n)).run P w = .ok j w1 ∧ w1.heap = w.heap ∧ w1.os = w.os ∧ w1.tape = w.tape ∧ w1.output = w.output := by
  rw [run_choose]
  split
  · exact ⟨0, w, hn, rfl, rfl, rfl, rfl, rfl⟩
  · exact ⟨_, _, Nat.mod_lt _ hn, rfl, rfl, rfl, rfl, rfl⟩

theorem run_next_map {r m : Nat} {since stepped clock : Nat} {seen : Array Nat} {es : Array MapEntry} (hr : w.heap[r]? = some (.mapIter (some m) since seen stepped)) (hm : w.heap[m]? = some (.map es clock))
    (hb : ∀ e ∈ es, e.born < since) (hst : seen = #[] ∨ ∃ e ∈ es, e.born < stepped) (ty : TypeId) :
    ((∀ e ∈ es, e.born ∈ seen) ∧ (Instr.next (.pointer (some ⟨r, 0, none⟩)) false ty).run P w = .ok (.tuple #[.bool false]) w) ∨
    (∃ e ∈ es, e.born ∉ seen ∧ ∃ w1, w1.heap = w.heap ∧ w1.os = w.os ∧ w1.tape = w.tape ∧ w1.output = w.output ∧
      (Instr.next (.pointer (some ⟨r, 0, none⟩)) false ty).run P w = ((setObj r (.mapIter (some m) since (seen.push e.born) clock)).run P w1).andThen fun _ w' => .ok (.tuple #[.bool true, e.key, e.val]) w') := by
  have hg : (!seen.isEmpty && !es.isEmpty && es.all (·.born ≥ stepped)) = false := by
    rcases hst with rfl | ⟨e, he, hlt⟩
    · rfl
    · have : es.all (·.born ≥ stepped) = false := by
        rw [Array.all_eq_false]
        obtain ⟨i, hi, rfl⟩ := Array.mem_iff_getElem.1 he
        exact ⟨i, hi, by simp; omega⟩
      rw [this, Bool.and_false]
  obtain ⟨L, hL⟩ : ∃ L : Array MapEntry, L = es.filter fun e => !seen.contains e.born := ⟨_, rfl⟩
  have hLm : ∀ e ∈ L, e ∈ es ∧ e.born ∉ seen := fun e he => by
    rw [hL] at he
    obtain ⟨h1, h2⟩ := Array.mem_filter.1 he
    exact ⟨h1, by simpa using h2⟩
  have hold : L.filter (fun e => decide (e.born < since)) = L := by
    rw [Array.filter_eq_self]
    intro e he
    have := hb e (hLm e he).1
    simpa using this
  have hnew : L.filter (fun e => decide (e.born ≥ since)) = #[] := by
    rw [Array.filter_eq_empty_iff]
    intro e he
    have := hb e (hLm e he).1
    simp; omega
  by_cases hemp : L = #[]
  · left
    refine ⟨fun e he => ?_, ?_⟩
    · have hL' := hL.symm
      rw [hemp, Array.filter_eq_empty_iff] at hL'
      have := hL' e he
      simpa using this
    · simp only [Instr.next, Sem.run_bind, run_getObj_of hr rfl, Result.andThen_ok, run_getObj_of hm rfl, hg, Bool.false_eq_true, if_false, ← hL, hold, hnew, Sem.run_pure]
      rw [hemp]
      have hs : ((if (#[] : Array MapEntry).isEmpty = true then #[none] else #[]) ++ Array.map some (#[] ++ #[]) : Array (Option MapEntry)) = #[none] := by simp
      rw [hs]
      have hc : (choose (.mapNext (#[none] : Array (Option MapEntry)).size)).run P w = .ok 0 w := run_choose_one 1 (Nat.le_refl _)
      rw [hc]
      rfl
  · right
    have hne : L.isEmpty = false := by simpa using hemp
    have hsz : 0 < L.size := Array.size_pos_iff.2 hemp
    obtain ⟨j, w1, hj, h1, h2⟩ := choose_map (P := P) L.size hsz w
    obtain ⟨hm1, hm2⟩ := hLm L[j] (Array.getElem_mem hj)
    refine ⟨L[j], hm1, hm2, w1, h2.1, h2.2.1, h2.2.2.1, h2.2.2.2, ?_⟩
    simp only [Instr.next, Sem.run_bind, run_getObj_of hr rfl, Result.andThen_ok, run_getObj_of hm rfl, hg, Bool.false_eq_true, if_false, ← hL, hold, hnew, Sem.run_pure]
    rw [hne]
    simp only [Bool.false_eq_true, if_false, Array.append_empty, Array.empty_append, Array.size_map]
    rw [h1]
    simp only [Result.andThen_ok]
    have : (L.map some)[j]? = some (some L[j]) := by simp [hj]
    rw [this]
    simp only [Sem.run_bind, Sem.run_pure]

/-- a step of a range over a map, whatever entry comes -/
theorem nextMany (ht : TR ρ t a.tmps) (hr : HRel ρ st w) {x : Operand} (ho : o.op = .next x false) {ib mb since stepped clock ver : Nat} {l : List Nat} {es : List MapEntry} (hx : opv t x = some (.pointer (some ⟨ib, 0, none⟩)))
    (hib : blkOf st ib = some ⟨ver, .mapIter (some mb) since l stepped⟩) (hmb : mapOf st mb = some (es, clock)) (hb : ∀ e ∈ es, e.born < since) (hst : l = [] ∨ ∃ e ∈ es, e.born < stepped) :
    ((∀ e ∈ es, e.born ∈ l) ∧ (execOp a.eval o).run P w = .ok (.value (.tuple #[.bool false])) w) ∨
    (∃ e ∈ es, e.born ∉ l ∧ ∃ v' w' st', setBlk st ib (.mapIter (some mb) since (l ++ [e.born]) clock) = some st' ∧ (execOp a.eval o).run P w = .ok (.value v') w' ∧ V ρ (.tuple #[.bool true, e.key, e.val]) v' ∧ Step ρ st w ρ st' w') := by
  have e1 := opv_sound ht hx
  obtain ⟨lc, hl, e2⟩ := e1.ptr_inv
  obtain ⟨ob, hob, hrel⟩ := hr.obj _ _ _ hib hl
  obtain ⟨m', rfl, hm, hoff⟩ := hrel
  rcases hm with ⟨hm, _⟩ | ⟨b', lm, hm, hlm, rfl⟩
  · cases hm
  injection hm with hm
  subst hm
  obtain ⟨es', hobm, her⟩ := hr.map hmb hlm
  have hb' : ∀ e ∈ es', e.born < since := fun e' he' => by
    obtain ⟨e, he, _, _, h3⟩ := her.mem' (Array.mem_toList_iff.2 he')
    rw [← h3]; exact hb e he
  have hst' : l.toArray = #[] ∨ ∃ e ∈ es', e.born < stepped := by
    rcases hst with rfl | ⟨e, he, hlt⟩
    · exact .inl rfl
    · obtain ⟨e', he', h3⟩ := her.mem he
      exact .inr ⟨e', Array.mem_toList_iff.1 he', by rw [← h3]; exact hlt⟩
  have hexec : (execOp a.eval o).run P w = ((Instr.next (.pointer (some ⟨lc.blk, 0, none⟩)) false o.type).run P w).andThen fun v w' => .ok (.value v) w' := by
    simp only [execOp, ho, e2, hoff, Nat.add_zero, Sem.run_bind]
    rfl
  rcases run_next_map (P := P) hob hobm hb' hst' o.type with ⟨h1, h2⟩ | ⟨e', he', hnot, w1, g1, g2, g3, g4, hrun⟩
  · refine .inl ⟨fun e he => ?_, by rw [hexec, h2]; rfl⟩
    obtain ⟨e', he', h3⟩ := her.mem he
    have := h1 e' (Array.mem_toList_iff.1 he')
    rw [h3]; simpa using this
  · obtain ⟨e, he, k1, k2, k3⟩ := her.mem' (Array.mem_toList_iff.2 he')
    refine .inr ⟨e, he, by rw [k3]; simpa using hnot, ?_⟩
    have s1 := hr.same (w' := w1) g1 g2 g3 g4
    obtain ⟨st', hset⟩ : ∃ st', setBlk st ib (.mapIter (some mb) since (l ++ [e.born]) clock) = some st' := by
      simp only [setBlk, hib]
      exact ⟨_, rfl⟩
    have hob1 : w1.heap[lc.blk]? = some (.mapIter (some lm.blk) since l.toArray stepped) := by rw [g1]; exact hob
    have hor : ORel ρ lc (.mapIter (some mb) since (l ++ [e.born]) clock) (.mapIter (some lm.blk) since (l.toArray.push e'.born) clock) := ⟨some lm.blk, by rw [k3]; simp, .inr ⟨_, _, rfl, hlm, rfl⟩, hoff⟩
    obtain ⟨r1, r2⟩ := s1.hrel.setObj (P := P) hset hl hor hob1 rfl
    refine ⟨.tuple #[.bool true, e'.key, e'.val], _, st', hset, ?_, .tuple (VL.trip (V.bool _) k1 k2), s1.trans hr r2⟩
    rw [hexec, hrun, r1]
    rfl
end
end Go.Ab

namespace Go.Ab

section
variable {E : Env} {P : Program} {S : Self} {ρ : Ren} {st : St} {w : World} {t : Tr Value} {a : Act} {o : Oper} {ds : List Deferred} {rd id : Option Nat}

theorem bnd_some_eq {α β : Type} (x : α) (f : α → Option β) : bnd (some x) f = f x := rfl
theorem grd_true {α : Type} (x : Option α) : grd true x = x := rfl
theorem exec_entry (x : Operand) (c : Ctx) : exec (.entry x) c = hEntry x c := rfl
theorem exec_extract (x : Operand) (i : Nat) (c : Ctx) : exec (.extract x i) c = hExtract x i c := rfl
theorem exec_assign (x : Operand) (c : Ctx) : exec (.assign x) c = hMove x c := rfl
theorem exec_move (x : Operand) (c : Ctx) : exec (.move x) c = hMove x c := rfl
theorem exec_buildSlice (ty : TypeId) (n : Nat) (ps : Array (Nat × Operand)) (c : Ctx) : exec (.buildSlice ty n ps) c = hBuildSlice ty n ps c := rfl
theorem exec_append (args : Array Operand) (tys : Array TypeId) (c : Ctx) : exec (.call ⟨.builtin .append, args, tys⟩) c = hAppend args.toList tys.toList c := rfl
theorem exec_callf (f : Operand) (args : Array Operand) (tys : Array TypeId) (c : Ctx) : exec (.call ⟨.value f, args, tys⟩) c = hCallV f args.toList c := rfl
theorem opv_tmp (i : Nat) : opv t (.tmp i) = some (getD t i) := rfl

theorem wanted_none {ops : List Oper} (h : o.guard = none) : wanted ops t o = true := by unfold wanted; rw [h]
theorem operList_step {ops : List Oper} {l : List Oper} {r : Out} (hg : o.guard = none) (h : exec o.op ⟨E, S, rd, none, t, ds, st⟩ = some r) :
    operList E S rd ops (o :: l) t ds st = operList E S rd ops l (putDst t o.dst r.v) r.ds r.st := by
  rw [operList_cons, wanted_none hg, h]; rfl
theorem putDst_some (t : Tr Value) (i : Nat) (v : Value) : putDst t (some i) v = t.put (some v) (pos i) := rfl

theorem find_born {es : List MapEntry} (hnd : (es.map (·.born)).Nodup) {e : MapEntry} (he : e ∈ es) : (es.find? fun x => Nat.beq x.born e.born) = some e := by
  induction es with
  | nil => cases he
  | cons x es ih =>
    rw [List.find?_cons]
    simp only [List.map_cons, List.nodup_cons] at hnd
    rcases List.mem_cons.1 he with rfl | he
    · simp
    · have hne : Nat.beq x.born e.born = false := nbeq fun h => hnd.1 (h ▸ List.mem_map_of_mem he)
      rw [hne]
      exact ih hnd.2 he

theorem hEntry_eq {x : Operand} {ib mb since clock ver : Nat} {l : List Nat} {es : List MapEntry} {e : MapEntry} (hx : opv t x = some (.pointer (some ⟨ib, 0, none⟩)))
    (hib : blkOf st ib = some ⟨ver, .mapIter (some mb) since (l ++ [e.born]) clock⟩) (hmb : mapOf st mb = some (es, clock)) (hnd : (es.map (·.born)).Nodup) (he : e ∈ es) :
    hEntry x ⟨E, S, rd, id, t, ds, st⟩ = some ⟨.tuple #[e.key, e.val], ds, st⟩ := by
  simp only [hEntry, Ctx.ev, hx, bnd_some_eq, asAddr, hib, List.getLast?_append, List.getLast?_singleton, Option.some_or, hmb, find_born hnd he]
  have : Nat.beq clock clock = true := by simp
  rw [this]
  rfl

/-- what was collected so far -/
def OutSl (et : TypeId) (st : St) (v : Value) (ks : List ByteArray) : Prop :=
  (ks = [] ∧ v = .slice none 0 0) ∨ ∃ b ver, v = .slice (some ⟨b, 0, none⟩) ks.length (capOpen 1 ks.length) ∧ ks.length ≠ 0 ∧ blkOf st b = some ⟨ver, .cells (et, false) ks.length (writeCells (ks.map Value.string) 0 .leaf)⟩

theorem readCells_of {c : Tr Value} : ∀ {n o : Nat} {vs : List Value}, vs.length = n → (∀ i, c.get (pos (o + i)) = vs[i]? ∨ vs.length ≤ i) → readCells c n o = some vs := by
  intro n
  induction n with
  | zero => intro o vs hl _; cases vs with
    | nil => rfl
    | cons => simp at hl
  | succ n ih =>
    intro o vs hl h
    cases vs with
    | nil => simp at hl
    | cons v vs =>
      rw [readCells_succ]
      have h0 := h 0
      simp only [Nat.add_zero, List.getElem?_cons_zero, List.length_cons] at h0
      rcases h0 with h0 | h0
      · rw [h0, bnd_some_eq]
        rw [ih (vs := vs) (by simpa using hl) fun i => by
          have := h (i + 1)
          simp only [List.getElem?_cons_succ, List.length_cons] at this
          rw [show o + 1 + i = o + (i + 1) by omega]
          rcases this with h1 | h1
          · exact .inl h1
          · exact .inr (by omega)]
        rfl
      · omega
theorem readCells_write (vs : List Value) : readCells (writeCells vs 0 .leaf) vs.length 0 = some vs := by
  refine readCells_of rfl fun i => ?_
  rw [writeCells_get]
  by_cases h : i < vs.length
  · left; simp [h]
  · right; omega

theorem blkOf_alloc (st : St) (o : AObj) (b : Nat) : blkOf (Go.Ab.alloc st o) b = if st.nx = b then some ⟨0, o⟩ else blkOf st b := blkOf_put st _ _ _ _
theorem append_one {et : TypeId} {v : Value} {ks : List ByteArray} {s : ByteArray} {nb nver : Nat} (h : OutSl et st v ks) (hk : ks.length < 1000)
    (hnb : blkOf st nb = some ⟨nver, .cells (et, false) 1 (writeCells [.string s] 0 .leaf)⟩) (hlt : ∀ b k, blkOf st b = some k → b < st.nx) :
    ∃ st', appendV et 1 16 v (.slice (some ⟨nb, 0, none⟩) 1 2) ⟨E, S, rd, id, t, ds, st⟩ = some ⟨.slice (some ⟨st.nx, 0, none⟩) (ks.length + 1) (capOpen 1 (ks.length + 1)), ds, st'⟩ ∧
      OutSl et st' (.slice (some ⟨st.nx, 0, none⟩) (ks.length + 1) (capOpen 1 (ks.length + 1))) (ks ++ [s]) ∧
      (∀ b k, blkOf st b = some k → (∀ sh n c, k.o ≠ .cells sh n c) → blkOf st' b = some k) := by
  have hsrc : srcCells st 1 1 (.slice (some ⟨nb, 0, none⟩) 1 2) = some [.string s] := by
    simp only [srcCells, cellsOf, hnb, bnd_some_eq, AObj.asCells]
    exact readCells_write [.string s]
  unfold appendV
  have hlen : lenOf (.slice (some ⟨nb, 0, none⟩) 1 2) = some 1 := rfl
  rcases h with ⟨rfl, rfl⟩ | ⟨b, ver, rfl, hne, hb⟩
  · simp only [asSlice, hlen, bnd_some_eq, hsrc]
    refine ⟨alloc st (.cells (et, false) ((0 + 1) * 1) (writeCells ([] ++ [.string s]) 0 .leaf)), rfl, ?_, ?_⟩
    · refine .inr ⟨st.nx, 0, rfl, by simp, ?_⟩
      rw [blkOf_alloc, if_pos rfl]
      rfl
    · intro b' k hk hc
      rw [blkOf_alloc, if_neg (fun hh => by have := hlt b' k hk; omega)]
      exact hk
  · obtain ⟨c1, c2, c3⟩ := capOpen_lo (z := 1) (n := ks.length) (by omega)
    have hodd : capExact (capOpen 1 ks.length) = false := by
      cases hh : capExact (capOpen 1 ks.length) with
      | false => rfl
      | true => have := (capExact_iff _).1 hh; omega
    have hold : srcCells st 1 ks.length (.slice (some ⟨b, 0, none⟩) ks.length (capOpen 1 ks.length)) = some (ks.map Value.string) := by
      simp only [srcCells, cellsOf, hb, bnd_some_eq, AObj.asCells, Nat.mul_one]
      have := readCells_write (ks.map Value.string)
      rwa [List.length_map] at this
    have hcs : cellsOf st b = some ((et, false), ks.length, writeCells (ks.map Value.string) 0 .leaf) := by
      simp only [cellsOf, hb, bnd_some_eq, AObj.asCells]
    refine ⟨alloc (kill st b) (.cells (et, false) ((ks.length + 1) * 1) (writeCells (ks.map Value.string ++ [.string s]) 0 .leaf)), ?_, ?_, ?_⟩
    · simp only [asSlice, hlen, bnd_some_eq, hsrc]
      have g1 : (Nat.beq [Value.string s].length (1 * 1) && [Value.string s].all one) = true := rfl
      have g2 : Nat.beq 1 0 = false := rfl
      have g3 : Nat.ble (ks.length + 1) (capLo (capOpen 1 ks.length)) = false := by
        rw [c2]
        cases hh : Nat.ble (ks.length + 1) ks.length with
        | false => rfl
        | true => have := Nat.le_of_ble_eq_true hh; omega
      rw [g1, g2, g3]
      simp only [grd_true, cnd_of, Bool.false_eq_true, if_false, growV]
      have g4 : (!Nat.beq 16 0 && Nat.ble ((ks.length + 1) * 16) 1048576) = true := by
        have : Nat.ble ((ks.length + 1) * 16) 1048576 = true := Nat.ble_eq_true_of_le (by omega)
        rw [this]; rfl
      rw [g4, hold, hodd]
      simp only [grd_true, bnd_some_eq, cnd_of, Bool.false_eq_true, if_false, hcs]
      have g5 : Nat.beq (ks.map Value.string).length (ks.length * 1) = true := by simp
      have g6 : Nat.beq (capSz (capOpen 1 ks.length)) 1 = true := by rw [c3]; rfl
      have g7 : Nat.beq et et = true := by simp
      rw [g5, g6, g7]
      rfl
    · refine .inr ⟨st.nx, 0, by simp, by simp, ?_⟩
      rw [blkOf_alloc, if_pos (show (kill st b).nx = st.nx from rfl)]
      simp
    · intro b' k hk hc
      have hbb : b' ≠ b := fun hh => by subst hh; rw [hb] at hk; injection hk with hk; subst hk; exact hc _ _ _ rfl
      rw [blkOf_alloc, if_neg (fun hh => by have := hlt b' k hk; simp only [Go.Ab.kill] at hh; omega)]
      have : blkOf (kill st b) b' = blkOf st b' := by rw [blkOf_kill, if_neg (Ne.symm hbb)]
      exact this.trans hk
end
end Go.Ab

namespace Go.Ab
open Go.Proofs Go.Sort

section
variable {E : Env} {P : Program} {S : Self} {ρ : Go.Ab.Ren} {st : St} {w : World} {t : Tr Value}

def leB (x y : List UInt8) : Bool := decide (x ≤ y)
noncomputable def strsOf (vs : List Value) : Option (List (List UInt8)) :=
  List.rec (some []) (fun v _ ih => bnd (match v with | .string s => some s.data.toList | _ => none) fun s => bnd ih fun r => some (s :: r)) vs
noncomputable def sortV (b n : Nat) (st : St) : Option (Value × St) :=
  bnd (cellsOf st b) fun cs => bnd (readCells cs.2.2 n 0) fun vs => bnd (strsOf vs) fun zs =>
    grd (Nat.ble n cs.2.1 && Nat.blt n 1048576 && !Nat.beq n 0) (bnd (setCells st b (writeCells ((zs.mergeSort fun x y => decide (x ≤ y)).map encStr) 0 cs.2.2)) fun st' => some (.tuple #[], st'))
noncomputable def xSort (fS : FuncId) : Hook := fun f args st => cnd (Nat.beq f fS) (match args with | [.slice (some ⟨b, 0, none⟩) n _] => sortV b n st | _ => none) none

def SortsStr (P : Program) (fS : FuncId) : Prop :=
  ∀ (blk off cap : Nat) (zs : List (List UInt8)) (w : World), Holds encStr w blk off zs.toArray → blk < w.heap.size → zs.length < 4611686018427387904 →
    Calls P fS #[.slice (some ⟨blk, off, none⟩) zs.length cap] w fun e w' => e = .returned (.tuple #[]) ∧ ∃ n os, w' = grow (putRow encStr (Sort.ahead w n) blk off (zs.mergeSort fun x y => decide (x ≤ y)).toArray) os

theorem strsOf_cons (v : Value) (vs : List Value) : strsOf (v :: vs) = bnd (match v with | .string s => some s.data.toList | _ => none) fun s => bnd (strsOf vs) fun r => some (s :: r) := rfl
theorem strsOf_spec : ∀ {vs : List Value} {zs : List (List UInt8)}, strsOf vs = some zs → vs = zs.map encStr := by
  intro vs
  induction vs with
  | nil => intro zs h; injection h with h; subst h; rfl
  | cons v vs ih =>
    intro zs h
    rw [strsOf_cons] at h
    simp only [bnd_eq] at h
    obtain ⟨s, hs, r, hr, h⟩ := h
    injection h with h
    subst h
    rw [ih hr]
    cases v <;> simp at hs
    subst hs
    rfl
theorem encs_V {zs : List (List UInt8)} {vs' : List Value} (h : VL ρ (zs.map encStr) vs') : vs' = zs.map encStr := by
  induction zs generalizing vs' with
  | nil => cases h; rfl
  | cons z zs ih =>
    cases h with
    | cons h1 h2 => rw [h1.string_inv, ih h2]; rfl

/-- objects that no name stands for -/
theorem HRel.grown (hr : HRel ρ st w) {w' : World} {os : Array Obj} (hw : w'.heap = w.heap ++ os) (h1 : w'.os = w.os) (h2 : w'.tape = w.tape) (h3 : w'.output = w.output) : Step ρ st w ρ st w' := by
  have hold : ∀ c, c < w.heap.size → w'.heap[c]? = w.heap[c]? := fun c hc => by rw [hw, Array.getElem?_append_left hc]
  have hsz : w.heap.size ≤ w'.heap.size := by rw [hw]; simp
  exact {
    nx := Nat.le_refl _
    old := fun _ _ => rfl
    hrel := {
      ren := fun b l hb => ⟨(hr.ren b l hb).1, Nat.lt_of_lt_of_le (hr.ren b l hb).2 hsz⟩
      live := hr.live
      inj := hr.inj
      obj := fun b k l hk hl => by
        rw [hold l.blk (hr.ren b l hl).2]
        exact hr.obj b k l hk hl }
    abs := fun _ _ _ => rfl
    dead := fun _ _ h => h
    ver := fun b k k' h1 h2 => by rw [h1] at h2; injection h2 with h2; subst h2; exact ⟨Nat.le_refl _, fun _ => rfl⟩
    conc := fun c hc _ => hold c hc
    size := hsz
    fresh := fun b l h1 h2 => by rw [h2] at h1; cases h1
    os := h1
    tape := h2
    output := h3 }

theorem xSort_ok {fS : FuncId} (hs : SortsStr P fS) (henter : ∀ args w, (callFunc fS args).run P w = .ok (.enter fS args) w) : HookOK P (xSort fS) := by
  intro f args st v st' hx ρ w args' hargs hr
  unfold xSort at hx
  rw [cnd_of] at hx
  split at hx
  · rename_i hb
    have hf : f = fS := Nat.eq_of_beq_eq_true hb
    subst hf
    split at hx
    · rename_i b n c
      simp only [sortV, bnd_eq, grd_eq, Bool.and_eq_true] at hx
      obtain ⟨cs, hcs, vs, hvs, zs, hzs, ⟨⟨g1, g2⟩, g3⟩, st2, hst, hx⟩ := hx
      injection hx with hx
      obtain ⟨rfl, rfl⟩ := Prod.mk.inj hx
      have g1 : n ≤ cs.2.1 := by simpa using g1
      have g2 : n < 1048576 := by simpa using g2
      have g3 : n ≠ 0 := fun h => by subst h; simp at g3
      obtain ⟨v', e1, e2⟩ := hargs.one_inv
      obtain ⟨l, a1, c', i1, i2, i3, i4, i5, i6⟩ := e2.slice_inv
      obtain ⟨vs', v1, v2, v3⟩ := hr.cells hcs i2 hvs
      have hvz := strsOf_spec hzs
      subst hvz
      have hv' := encs_V v2
      subst hv'
      have hlen : zs.length = n := by simpa using v1
      obtain ⟨kv, hk0⟩ := cellsOf_some hcs
      obtain ⟨ob, hob, arr, te, fr, rfl, q2, q3, q4, q5, q6⟩ := hr.obj _ _ _ hk0 i2
      have hH : Holds encStr w l.blk l.off zs.toArray := by
        intro j hj
        simp only [List.size_toArray] at hj
        constructor
        · have := v3 j (encStr zs[j]) (by simp [hj])
          simp only [Nat.add_zero] at this
          rw [this]
          simp [hj]
        · have := q4 j (by omega)
          simp only [World.frozen?, hob]
          simpa using this
      have ha : a1 = ⟨l.blk, l.off, none⟩ := i6 (by omega)
      have hc := hs l.blk l.off c' zs w hH (hr.ren _ _ i2).2 (by omega)
      refine .inr ⟨henter _ _, ?_⟩
      rw [arr_of e1, i1, ha]
      have hc2 := (callsIn_wide (n := 0)).2 hc
      rw [hlen] at hc2
      refine hc2.mono fun e w' he => ?_
      obtain ⟨rfl, m, os, rfl⟩ := he
      refine ⟨ρ, V.undef ρ, ?_⟩
      generalize hzz : (zs.mergeSort fun x y => decide (x ≤ y)) = sz at hst ⊢
      have hszl : sz.length = n := by rw [← hzz, List.length_mergeSort, hlen]
      obtain ⟨v1, sh, nn, d, hk, rfl⟩ := setCells_some hst
      rw [hk0] at hk
      injection hk with hk
      obtain ⟨sh', n', d'⟩ := cs
      simp at hk
      obtain ⟨rfl, rfl, rfl, rfl⟩ := hk
      have g1 : n ≤ n' := g1
      have q3 : n' ≤ l.avail := q3
      have sA := hr.same (w' := Sort.ahead w m) rfl rfl rfl rfl
      have hobA : (Sort.ahead w m).heap[l.blk]? = some (.cells arr te fr) := hob
      have hlt : l.blk < w.heap.size := (hr.ren _ _ i2).2
      have sB := sA.hrel.replace hk0 i2 (o := .cells sh' n' (writeCells (sz.map encStr) 0 d')) (o' := .cells (putCells encStr l.off sz.toArray arr) te fr) (w' := putRow encStr (Sort.ahead w m) l.blk l.off sz.toArray) (fun c => by
          simp only [putRow, mapBlock, Array.getElem?_modify]
          split
          · rename_i hcb; subst hcb; rw [hobA]; rfl
          · rfl) (by simp [putRow, mapBlock]) (by
          refine ⟨_, te, fr, rfl, by simp only [putCells, Array.size_mapIdx]; exact q2, q3, q4, fun i u hu => ?_, q6.1, fun ht => ?_⟩
          · rw [writeCells_get] at hu
            have hget : ∀ k, (putCells encStr l.off sz.toArray arr).getD k undef = if k < arr.size then (if l.off ≤ k ∧ k < l.off + n then encStr (sz[k - l.off]!) else arr.getD k undef) else undef := by
              intro k
              simp only [putCells, Array.getD_eq_getD_getElem?, Array.getElem?_mapIdx, List.size_toArray, hszl]
              by_cases hk : k < arr.size
              · simp [hk]
              · simp [hk]
            simp only [List.length_map, hszl] at hu
            by_cases hin : 0 ≤ i ∧ i < 0 + n
            · rw [if_pos hin] at hu
              have hi : i < sz.length := by omega
              refine ⟨by omega, ?_⟩
              rw [hget, if_pos (by omega), if_pos (by omega)]
              simp only [Nat.sub_zero, List.getElem?_map, List.getElem?_eq_getElem hi, Option.map_some] at hu
              injection hu with hu
              rw [← hu, show l.off + i - l.off = i by omega, getElem!_pos sz i hi]
              exact .string _
            · rw [if_neg hin] at hu
              obtain ⟨k1, k2⟩ := q5 i u hu
              have k1 : i < n' := k1
              refine ⟨k1, ?_⟩
              rw [hget, if_pos (by omega), if_neg (by omega)]
              exact k2
          · obtain ⟨a2, a3⟩ := q6.2 ht
            exact ⟨a2, by simp only [putCells, Array.size_mapIdx]; exact a3⟩) rfl rfl rfl
      have sC := sB.hrel.grown (w' := grow (putRow encStr (Sort.ahead w m) l.blk l.off sz.toArray) os) (os := os) rfl rfl rfl rfl
      exact sA.trans hr (sB.trans sA.hrel sC)
    · cases hx
  · cases hx
end
end Go.Ab

namespace Go.Ab

/-- an operation without a guard -/
def Is (o : Oper) (op : Op) (d : Option Tmp) : Prop := o.op = op ∧ o.dst = d ∧ o.guard = none

section
variable {E : Env} {P : Program} {S : Self} {t : Tr Value} {st : St}

structure TyFacts (E : Env) (et sty : TypeId) : Prop where
  und : E.und sty = some (.slice et)
  size : E.size et = some 1
  bytes : E.bytes et = some 16
  zero : E.zero et = some (.string ⟨#[]⟩)

theorem step_is {ops : List Oper} {l : List Oper} {o : Oper} {op : Op} {d : Option Tmp} {r : Out} {rd : Option Nat} {ds : List Deferred} (h : Is o op d) (hx : exec op ⟨E, S, rd, none, t, ds, st⟩ = some r) :
    operList E S rd ops (o :: l) t ds st = operList E S rd ops l (putDst t d r.v) r.ds r.st := by
  obtain ⟨rfl, rfl, h3⟩ := h
  exact operList_step h3 hx

structure QI (et : TypeId) (es : List MapEntry) (ib mb since clock : Nat) (el : List MapEntry) (ks : List ByteArray) (t : Tr Value) (st : St) : Prop where
  it : getD t 5 = .pointer (some ⟨ib, 0, none⟩)
  iter : ∃ ver stepped, blkOf st ib = some ⟨ver, .mapIter (some mb) since (el.map (·.born)) stepped⟩ ∧ (el = [] ∨ stepped = clock)
  map : ∃ ver, blkOf st mb = some ⟨ver, .map es clock⟩
  out : OutSl et st (getD t 1) ks
  sub : ∀ e ∈ el, e ∈ es
  nd : (el.map (·.born)).Nodup
  keys : el.map (·.key) = ks.map .string

structure ES (es : List MapEntry) (since clock : Nat) : Prop where
  nd : (es.map (·.born)).Nodup
  lt : ∀ e ∈ es, e.born < since ∧ e.born < clock
  key : ∀ e ∈ es, ∃ s, e.key = .string s
  few : es.length < 1000

theorem nodup_sub_length {l m : List Nat} (h : l.Nodup) (hs : ∀ x ∈ l, x ∈ m) : l.length ≤ m.length := by
  induction l generalizing m with
  | nil => simp
  | cons x l ih =>
    simp only [List.nodup_cons] at h
    have hx : x ∈ m := hs x (by simp)
    have := ih (m := m.erase x) h.2 fun y hy => by
      have hne : y ≠ x := fun hh => h.1 (hh ▸ hy)
      exact (List.mem_erase_of_ne hne).2 (hs y (by simp [hy]))
    rw [List.length_erase_of_mem hx] at this
    have hpos : 0 < m.length := List.length_pos_of_mem hx
    simp only [List.length_cons]
    omega

theorem eval4 {o0 o1 o2 : Oper} (h0 : Is o0 (.entry (.tmp 5)) (some 8)) (h1 : Is o1 (.extract (.tmp 8) 0) (some 9)) (h2 : Is o2 (.assign (.tmp 9)) (some 2)) {ib mb since clock ver : Nat} {l : List Nat} {es : List MapEntry} {e : MapEntry}
    (hx : getD t 5 = .pointer (some ⟨ib, 0, none⟩)) (hib : blkOf st ib = some ⟨ver, .mapIter (some mb) since (l ++ [e.born]) clock⟩) (hmb : mapOf st mb = some (es, clock)) (hnd : (es.map (·.born)).Nodup) (he : e ∈ es) (ops : List Oper) :
    ∃ t', operList E S none ops [o0, o1, o2] t [] st = some (t', [], st) ∧ getD t' 5 = getD t 5 ∧ getD t' 1 = getD t 1 ∧ getD t' 2 = e.key := by
  rw [step_is h0 (by rw [exec_entry]; exact hEntry_eq (by rw [opv_tmp, hx]) hib hmb hnd he)]
  dsimp only
  rw [putDst_some]
  have g8 : getD (t.put (some (.tuple #[e.key, e.val])) (pos 8)) 8 = .tuple #[e.key, e.val] := by rw [getD_put, if_pos rfl]
  rw [step_is h1 (r := ⟨e.key, [], st⟩) (by rw [exec_extract]; simp only [hExtract, Ctx.ev, opv_tmp, g8, bnd_some_eq, asTuple]; rfl)]
  dsimp only
  rw [putDst_some]
  generalize hq : (t.put (some (.tuple #[e.key, e.val])) (pos 8)) = q at *
  have g9 : getD (q.put (some e.key) (pos 9)) 9 = e.key := by rw [getD_put, if_pos rfl]
  rw [step_is h2 (r := ⟨e.key, [], st⟩) (by rw [exec_assign]; simp only [hMove, Ctx.ev, opv_tmp, g9, bnd_some_eq]; rfl)]
  dsimp only
  rw [putDst_some]
  refine ⟨_, rfl, ?_, ?_, ?_⟩
  · rw [getD_put, if_neg (by decide), getD_put, if_neg (by decide), ← hq, getD_put, if_neg (by decide)]
  · rw [getD_put, if_neg (by decide), getD_put, if_neg (by decide), ← hq, getD_put, if_neg (by decide)]
  · rw [getD_put, if_pos rfl]

theorem eval5 {et sty : TypeId} (ty : TyFacts E et sty) {o0 o1 o2 o3 o4 : Oper} (h0 : Is o0 (.move (.tmp 1)) (some 10)) (h1 : Is o1 (.move (.tmp 2)) (some 11)) (h2 : Is o2 (.buildSlice sty 1 #[(0, .tmp 11)]) (some 12))
    (h3 : Is o3 (.call ⟨.builtin .append, #[.tmp 10, .tmp 12], #[sty, sty]⟩) (some 13)) (h4 : Is o4 (.assign (.tmp 13)) (some 1)) {ks : List ByteArray} {s : ByteArray} (hout : OutSl et st (getD t 1) ks) (hk : ks.length < 1000)
    (hs : getD t 2 = .string s) (hlt : ∀ b k, blkOf st b = some k → b < st.nx) (ops : List Oper) :
    ∃ t' st', operList E S none ops [o0, o1, o2, o3, o4] t [] st = some (t', [], st') ∧ getD t' 5 = getD t 5 ∧ OutSl et st' (getD t' 1) (ks ++ [s]) ∧
      (∀ b k, blkOf st b = some k → (∀ sh n c, k.o ≠ .cells sh n c) → blkOf st' b = some k) := by
  rw [step_is h0 (r := ⟨getD t 1, [], st⟩) (by rw [exec_move]; simp only [hMove, Ctx.ev, opv_tmp, bnd_some_eq]; rfl)]
  dsimp only
  rw [putDst_some]
  generalize hq0 : t.put (some (getD t 1)) (pos 10) = q0
  have a1 : getD q0 2 = .string s := by rw [← hq0, getD_put, if_neg (by decide)]; exact hs
  rw [step_is h1 (r := ⟨.string s, [], st⟩) (by rw [exec_move]; simp only [hMove, Ctx.ev, opv_tmp, a1, bnd_some_eq]; rfl)]
  dsimp only
  rw [putDst_some]
  generalize hq1 : q0.put (some (.string s)) (pos 11) = q1
  have a2 : getD q1 11 = .string s := by rw [← hq1, getD_put, if_pos rfl]
  rw [step_is h2 (r := ⟨.slice (some ⟨st.nx, 0, none⟩) 1 2, [], Go.Ab.alloc st (.cells (et, false) 1 (writeCells [.string s] 0 .leaf))⟩) (by
    rw [exec_buildSlice]
    have hp : partVals q1 [(0, Operand.tmp 11)] = some [(0, .string s)] := by
      rw [partVals_cons]
      simp only [opv_tmp, a2, bnd_some_eq]
      rfl
    simp only [hBuildSlice, ty.und, bnd_some_eq, tdSlice, ty.size, ty.zero, hp]
    rfl)]
  dsimp only
  rw [putDst_some]
  generalize hq2 : q1.put (some (.slice (some ⟨st.nx, 0, none⟩) 1 2)) (pos 12) = q2
  have b10 : getD q2 10 = getD t 1 := by rw [← hq2, getD_put, if_neg (by decide), ← hq1, getD_put, if_neg (by decide), ← hq0, getD_put, if_pos rfl]
  have b12 : getD q2 12 = .slice (some ⟨st.nx, 0, none⟩) 1 2 := by rw [← hq2, getD_put, if_pos rfl]
  generalize hst1 : Go.Ab.alloc st (.cells (et, false) 1 (writeCells [.string s] 0 .leaf)) = st1
  have hblk : ∀ b, blkOf st1 b = if st.nx = b then some ⟨0, .cells (et, false) 1 (writeCells [.string s] 0 .leaf)⟩ else blkOf st b := fun b => by rw [← hst1]; exact blkOf_alloc _ _ _
  have hnx : st1.nx = st.nx + 1 := by rw [← hst1]; rfl
  have hout1 : OutSl et st1 (getD t 1) ks := by
    rcases hout with h | ⟨b, ver, h1, h2, h3⟩
    · exact .inl h
    · exact .inr ⟨b, ver, h1, h2, by rw [hblk, if_neg (fun hh => by have := hlt b _ h3; omega)]; exact h3⟩
  have hlt1 : ∀ b k, blkOf st1 b = some k → b < st1.nx := fun b k hb => by
    rw [hblk] at hb
    split at hb
    · omega
    · have := hlt b k hb; omega
  obtain ⟨st2, e1, e2, e3⟩ := append_one (E := E) (S := S) (t := q2) (ds := []) (rd := none) (id := none) (s := s) (nb := st.nx) (nver := 0) hout1 hk (by rw [hblk, if_pos rfl]) hlt1
  rw [step_is h3 (r := ⟨.slice (some ⟨st1.nx, 0, none⟩) (ks.length + 1) (capOpen 1 (ks.length + 1)), [], st2⟩) (by
    rw [exec_append]
    simp only [hAppend, List.getElem?_cons_zero, List.getElem?_cons_succ, bnd_some_eq, ty.und, tdSlice, tdSeq, grd_true, ty.size, ty.bytes, ty.zero, Ctx.ev, opv_tmp, b10, b12]
    exact e1)]
  dsimp only
  rw [putDst_some]
  generalize hq3 : q2.put (some (.slice (some ⟨st1.nx, 0, none⟩) (ks.length + 1) (capOpen 1 (ks.length + 1)))) (pos 13) = q3
  have b13 : getD q3 13 = .slice (some ⟨st1.nx, 0, none⟩) (ks.length + 1) (capOpen 1 (ks.length + 1)) := by rw [← hq3, getD_put, if_pos rfl]
  rw [step_is h4 (r := ⟨.slice (some ⟨st1.nx, 0, none⟩) (ks.length + 1) (capOpen 1 (ks.length + 1)), [], st2⟩) (by rw [exec_assign]; simp only [hMove, Ctx.ev, opv_tmp, b13, bnd_some_eq]; rfl)]
  dsimp only
  rw [putDst_some]
  refine ⟨_, _, rfl, ?_, ?_, fun b k hb hc => e3 b k (by rw [hblk, if_neg (fun hh => by have := hlt b _ hb; omega)]; exact hb) hc⟩
  · rw [getD_put, if_neg (by decide), ← hq3, getD_put, if_neg (by decide), ← hq2, getD_put, if_neg (by decide), ← hq1, getD_put, if_neg (by decide), ← hq0, getD_put, if_neg (by decide)]
  · rw [getD_put, if_pos rfl]; exact e2
end
end Go.Ab

namespace Go.Ab

section
variable {E : Env} {P : Program} {S : Self}

theorem wpOps_first {ops : Array Oper} {o : Oper} {rest : List Nat} {a : Act} {w : World} {Q : Exit → Act → World → Prop} (hops : ops[0]? = some o) (hg : o.guard = none) (hnd : ∀ k, o.op ≠ .defer k) {v' : Value} {w' : World}
    (hrun : (execOp a.eval o).run P w = .ok (.value v') w') (h : wpOpsIn (fen none) 0 P ops Q rest (a.put o.dst v') w') : wpOpsIn (fen none) 0 P ops Q (0 :: rest) a w := by
  have hw : Region.wanted o (yielded ops a.tmps) = true := by unfold Region.wanted; rw [hg]
  simp only [wpOpsIn, hops, hw, if_true]
  refine ⟨fun f _ => fen_fn none f, ?_⟩
  rw [Oper.semAt_eq _ _ _ hnd, hrun]
  exact h

/-- a range over a map is under way -/
def QR (ρ0 : Ren) (st0 : St) (w0 : World) (n : Nat) (et : TypeId) (es : List MapEntry) (ib mb since clock : Nat) (el : List MapEntry) (a : Act) (w : World) : Prop :=
  ∃ ρ' st t ks, Step ρ0 st0 w0 ρ' st w ∧ TR ρ' t a.tmps ∧ a.defers = [] ∧ a.tmps.size = n ∧ QI et es ib mb since clock el ks t st

theorem mapOf_of {st : St} {mb ver clock : Nat} {es : List MapEntry} (h : blkOf st mb = some ⟨ver, .map es clock⟩) : mapOf st mb = some (es, clock) := by
  simp only [mapOf, h, bnd_some_eq, AObj.asMap]

theorem region_run (ok : E.Ok P) (hC : CallOK P S) (hS : CodeOK P S) {id : Nat} {ops : Array Oper} {n : Nat} (hfit : ops.toList.all (dstFits n) = true) {ρ : Ren} {t : Tr Value} {st : St} {w : World} {a : Act} {x : Tr Value × List Deferred × St}
    (h : operList E S none ops.toList ops.toList t [] st = some x) (ht : TR ρ t a.tmps) (hd : a.defers = []) (hr : HRel ρ st w) (hn : a.tmps.size = n) {Q : Exit → Act → World → Prop}
    (hQ : ∀ ρ' a' w', Step ρ st w ρ' x.2.2 w' → TR ρ' x.1 a'.tmps → DsR ρ' x.2.1 a'.defers → a'.tmps.size = n → Q .normal a' w') : (Code.region id ops false).wpIn (fen none) 0 P Q a w := by
  refine wpIn_region ?_
  have := operList_sound (ro := none) ok hC hS hfit (R := Q) 0 ρ t [] st w a x h (.inl ⟨rfl, rfl⟩) ht (by rw [hd]; exact .nil) hr hn hQ
  simpa using this

theorem ds_nil {ρ : Ren} {d : List Deferred} (h : DsR ρ [] d) : d = [] := by cases h; rfl

theorem q_round (ok : E.Ok P) (hC : CallOK P S) (hS : CodeOK P S) {et sty : TypeId} (ty : TyFacts E et sty) {n : Nat} {i3 i4 i5 : Nat} {o30 o31 o40 o41 o42 o50 o51 o52 o53 o54 : Oper}
    (h30 : Is o30 (.next (.tmp 5) false) (some 6)) (h31 : Is o31 (.extract (.tmp 6) 0) (some 7))
    (h40 : Is o40 (.entry (.tmp 5)) (some 8)) (h41 : Is o41 (.extract (.tmp 8) 0) (some 9)) (h42 : Is o42 (.assign (.tmp 9)) (some 2))
    (h50 : Is o50 (.move (.tmp 1)) (some 10)) (h51 : Is o51 (.move (.tmp 2)) (some 11)) (h52 : Is o52 (.buildSlice sty 1 #[(0, .tmp 11)]) (some 12))
    (h53 : Is o53 (.call ⟨.builtin .append, #[.tmp 10, .tmp 12], #[sty, sty]⟩) (some 13)) (h54 : Is o54 (.assign (.tmp 13)) (some 1)) (hn : 14 ≤ n)
    {es : List MapEntry} {since clock ib mb : Nat} (hes : ES es since clock) {ρ0 : Ren} {st0 : St} {w0 : World} (hr0 : HRel ρ0 st0 w0) {el : List MapEntry} {a : Act} {w : World} (h : QR ρ0 st0 w0 n et es ib mb since clock el a w) :
    (Code.seq (.region i3 #[o30, o31] false) (.seq (.cond (.tmp 7) .skip (.exit 0)) (.block 1 (.seq (.region i4 #[o40, o41, o42] false) (.region i5 #[o50, o51, o52, o53, o54] false))))).wpIn (fen none) 0 P
      (Exit.then (fun a' w' => ∃ e, QR ρ0 st0 w0 n et es ib mb since clock (el ++ [e]) a' w') (fun ex a' w' => ex = .exit 0 ∧ QR ρ0 st0 w0 n et es ib mb since clock el a' w' ∧ ∀ e ∈ es, e.born ∈ el.map (·.born))) a w := by
  obtain ⟨ρ1, st, t, ks, s0, ht, hd, hsz, q⟩ := h
  obtain ⟨ver, stepped, hib, hstp⟩ := q.iter
  obtain ⟨mver, hmb⟩ := q.map
  have hr := s0.hrel
  have hlt := hr.live
  have fit : ∀ (o : Oper) (op : Op) (d : Nat), Is o op (some d) → d < n → dstFits n o = true := fun o op d h hd => by
    unfold dstFits; rw [h.2.1]; simpa using hd
  have hst : (el.map (·.born)) = [] ∨ ∃ e ∈ es, e.born < stepped := by
    rcases hstp with h | h
    · exact .inl (by rw [h]; rfl)
    · cases hel : el with
      | nil => exact .inl rfl
      | cons e _ => exact .inr ⟨e, q.sub e (by simp [hel]), by rw [h]; exact (hes.lt e (q.sub e (by simp [hel]))).2⟩
  have hkl : ks.length < 1000 := by
    have h1 : (el.map (·.born)).length ≤ (es.map (·.born)).length := nodup_sub_length q.nd fun x hx => by
      obtain ⟨e, he, rfl⟩ := List.mem_map.1 hx
      exact List.mem_map_of_mem (q.sub e he)
    have h2 := congrArg List.length q.keys
    simp only [List.length_map] at h1 h2
    have := hes.few
    omega
  refine wpIn_seq (wpIn_region ?_)
  change wpOpsIn (fen none) 0 P #[o30, o31] _ (0 :: (List.range (#[o30, o31] : Array Oper).size).drop 1) a w
  have hops0 : (#[o30, o31] : Array Oper)[0]? = some o30 := rfl
  have hnd30 : ∀ k, o30.op ≠ .defer k := fun k hk => by rw [h30.1] at hk; cases hk
  have fits3 : (#[o30, o31] : Array Oper).toList.all (dstFits n) = true := by
    simp [fit _ _ _ h30 (by omega), fit _ _ _ h31 (by omega)]
  -- the second operation
  have second : ∀ {ρ2 : Ren} {st2 : St} {w2 : World} {v v' : Value} {rest : List Value} {b : Bool}, Step ρ1 st w ρ2 st2 w2 → V ρ2 v v' → v = .tuple (Value.bool b :: rest).toArray →
      ∀ {Q : Exit → Act → World → Prop}, (∀ a' w' ρ3 t3, Step ρ2 st2 w2 ρ3 st2 w' → TR ρ3 t3 a'.tmps → a'.defers = [] → a'.tmps.size = n → getD t3 7 = .bool b → getD t3 5 = getD t 5 → getD t3 1 = getD t 1 → Q .normal a' w') →
      wpOpsIn (fen none) 0 P #[o30, o31] Q ((List.range (#[o30, o31] : Array Oper).size).drop 1) (a.put o30.dst v') w2 := by
    intro ρ2 st2 w2 v v' rest b s2 hv hvb Q hQ
    subst hvb
    have hle := s2.le hr
    have hput : TR ρ2 (t.put (some (.tuple (Value.bool b :: rest).toArray)) (pos 6)) (a.put o30.dst v').tmps := by
      rw [h30.2.1]
      exact (ht.mono hle).put (by omega) hv
    have hev : operList E S none [o30, o31] [o31] (t.put (some (.tuple (Value.bool b :: rest).toArray)) (pos 6)) [] st2 = some ((t.put (some (.tuple (Value.bool b :: rest).toArray)) (pos 6)).put (some (.bool b)) (pos 7), [], st2) := by
      have g6 : getD (t.put (some (.tuple (Value.bool b :: rest).toArray)) (pos 6)) 6 = .tuple (Value.bool b :: rest).toArray := by rw [getD_put, if_pos rfl]
      rw [step_is h31 (r := ⟨.bool b, [], st2⟩) (by
        rw [exec_extract]
        simp only [hExtract, Ctx.ev, opv_tmp, g6, bnd_some_eq, asTuple]
        rfl)]
      rfl
    refine operList_sound (ro := none) ok hC hS fits3 1 ρ2 _ [] st2 w2 _ _ hev (.inl ⟨rfl, rfl⟩) hput (by rw [Act.put_ds, hd]; exact .nil) s2.hrel (by rw [Act.put_size, hsz]) fun ρ3 a3 w3 s3 t3 d3 n3 => ?_
    refine hQ a3 w3 ρ3 _ s3 t3 (ds_nil d3) n3 ?_ ?_ ?_
    · rw [getD_put, if_pos rfl]
    · rw [getD_put, if_neg (by decide), getD_put, if_neg (by decide)]
    · rw [getD_put, if_neg (by decide), getD_put, if_neg (by decide)]
  rcases nextMany (P := P) ht hr h30.1 (by rw [opv_tmp, q.it]) hib (mapOf_of hmb) (fun e he => (hes.lt e he).1) hst with ⟨hall, hrun⟩ | ⟨e, he, hnot, v', w2, st2, hset, hrun, hv, s2⟩
  · refine wpOps_first hops0 h30.2.2 hnd30 hrun ?_
    refine second (rest := []) (b := false) (Step.refl hr) over_rel rfl fun a3 w3 ρ3 t3 s3 ht3 hd3 hn3 g7 g5 g1 => ?_
    have e7 := opv_sound ht3 (show opv t3 (.tmp 7) = some (.bool false) by rw [opv_tmp, g7])
    refine wpIn_seq (wpIn_cond e7.bool_inv ?_)
    refine wpIn_exit ?_
    exact ⟨rfl, ⟨ρ3, st, t3, ks, s0.trans hr0 s3, ht3, hd3, hn3, ⟨by rw [g5]; exact q.it, q.iter, q.map, by rw [g1]; exact q.out, q.sub, q.nd, q.keys⟩⟩, hall⟩
  · refine wpOps_first hops0 h30.2.2 hnd30 hrun ?_
    refine second (rest := [e.key, e.val]) (b := true) s2 hv rfl fun a3 w3 ρ3 t3 s3 ht3 hd3 hn3 g7 g5 g1 => ?_
    have e7 := opv_sound ht3 (show opv t3 (.tmp 7) = some (.bool true) by rw [opv_tmp, g7])
    refine wpIn_seq (wpIn_cond e7.bool_inv ?_)
    refine wpIn_skip ?_
    obtain ⟨k, hk, hst2⟩ := setBlk_some hset
    rw [hib] at hk
    injection hk with hk
    have hblk : ∀ b, blkOf st2 b = if ib = b then some ⟨ver + 1, .mapIter (some mb) since (el.map (·.born) ++ [e.born]) clock⟩ else blkOf st b := fun b => by
      rw [hst2, ← hk]; exact blkOf_put _ _ _ _ _
    have hmi : mb ≠ ib := fun hh => by rw [hh, hib] at hmb; injection hmb with hmb; injection hmb with _ hmb; cases hmb
    have hmb2 : blkOf st2 mb = some ⟨mver, .map es clock⟩ := by rw [hblk, if_neg (Ne.symm hmi)]; exact hmb
    have hib2 : blkOf st2 ib = some ⟨ver + 1, .mapIter (some mb) since (el.map (·.born) ++ [e.born]) clock⟩ := by rw [hblk, if_pos rfl]
    have hout2 : OutSl et st2 (getD t 1) ks := by
      rcases q.out with h | ⟨b, bv, h1, h2, h3⟩
      · exact .inl h
      · exact .inr ⟨b, bv, h1, h2, by rw [hblk, if_neg (fun hh => by rw [← hh, hib] at h3; injection h3 with h3; injection h3 with _ h3; cases h3)]; exact h3⟩
    obtain ⟨s, hs⟩ := hes.key e he
    obtain ⟨t4, f1, f2, f3, f4⟩ := eval4 (E := E) (S := S) (t := t3) h40 h41 h42 (by rw [g5]; exact q.it) hib2 (mapOf_of hmb2) hes.nd he [o40, o41, o42]
    have fits4 : (#[o40, o41, o42] : Array Oper).toList.all (dstFits n) = true := by
      simp [fit _ _ _ h40 (by omega), fit _ _ _ h41 (by omega), fit _ _ _ h42 (by omega)]
    have fits5 : (#[o50, o51, o52, o53, o54] : Array Oper).toList.all (dstFits n) = true := by
      simp [fit _ _ _ h50 (by omega), fit _ _ _ h51 (by omega), fit _ _ _ h52 (by omega), fit _ _ _ h53 (by omega), fit _ _ _ h54 (by omega)]
    refine wpIn_block (wpIn_seq ?_)
    refine region_run ok hC hS fits4 f1 ht3 hd3 s3.hrel hn3 fun ρ4 a4 w4 s4 t4r d4 n4 => ?_
    obtain ⟨t5, st5, k1, k2, k3, k4⟩ := eval5 (E := E) (S := S) ty h50 h51 h52 h53 h54 (t := t4) (st := st2) (ks := ks) (s := s) (by rw [f3, g1]; exact hout2) hkl (by rw [f4, hs]) (fun b k hb => s3.hrel.live b k hb) [o50, o51, o52, o53, o54]
    refine region_run ok hC hS fits5 k1 t4r (ds_nil d4) s4.hrel n4 fun ρ5 a5 w5 s5 t5r d5 n5 => ?_
    refine ⟨e, ρ5, st5, t5, ks ++ [s], ?_, t5r, ds_nil d5, n5, ?_⟩
    · exact s0.trans hr0 (s2.trans hr (s3.trans s2.hrel (s4.trans s3.hrel s5)))
    · refine ⟨by rw [k2, f2, g5]; exact q.it, ⟨ver + 1, clock, by rw [List.map_append]; exact k4 _ _ hib2 (fun _ _ _ hh => nomatch hh), .inr rfl⟩, ⟨mver, k4 _ _ hmb2 (fun _ _ _ hh => nomatch hh)⟩, k3, fun x hx => ?_, ?_, ?_⟩
      · rcases List.mem_append.1 hx with hx | hx
        · exact q.sub x hx
        · rw [List.mem_singleton.1 hx]; exact he
      · rw [List.map_append, List.nodup_append]
        refine ⟨q.nd, by simp, fun x hx y hy => ?_⟩
        simp only [List.map_cons, List.map_nil, List.mem_singleton] at hy
        rw [hy]
        exact fun hh => hnot (hh ▸ hx)
      · rw [List.map_append, List.map_append, q.keys]
        simp [hs]
end
end Go.Ab
