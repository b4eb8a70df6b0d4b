/- A deterministic evaluator of the model, part 5 of 5: whatever it answers, every run of the model answers the same; its conditions stand in each theorem. -/
import Derived.Test.YtbkigpopplepdaaGreatDoorAb4
import Derived.Sort.KeysCollected
import Derived.Laws.Externs
import Derived.JoinedOf
namespace Go.Ab
open Go.Proofs

section
variable {E : Env} {P : Program} {S : Self} {ρ : Ren} {st : St} {w : World}

/-- what was before stays, and one new row of a call that was followed from an empty memory is kept -/
theorem Step.frameNew {ρ1 : Ren} {st1 : St} {w' : World} (h : Step (fun _ => none) ⟨.leaf, 0⟩ w ρ1 st1 w') (hr : HRel ρ st w) {b : Nat} {l : Loc} {k : Blk} (hb : ρ1 b = some l) (hk : blkOf st1 b = some k) {o : AObj}
    (ho : ∀ ρ' x, ORel ρ1 l k.o x → ORel ρ' l o x) : Step ρ st w (fun x => if x = st.nx then some l else ρ x) (Go.Ab.alloc st o) w' := by
  have hge : w.heap.size ≤ l.blk := by
    rcases h.fresh b l hb rfl with h1 | ⟨b0, l0, k0, e1, _, _⟩
    · exact h1
    · cases e1
  have hne : ∀ b' l', ρ b' = some l' → b' ≠ st.nx := fun b' l' hh e => by have := (hr.ren b' l' hh).1; omega
  exact {
    nx := Nat.le_succ _
    old := fun b' hb' => by rw [if_neg (by omega)]
    hrel := {
      ren := fun b' l' hb' => by
        split at hb'
        · rename_i he; subst he; injection hb' with hb'; subst hb'
          exact ⟨Nat.lt_succ_self _, (h.hrel.ren _ _ hb).2⟩
        · exact ⟨Nat.lt_succ_of_lt (hr.ren _ _ hb').1, Nat.lt_of_lt_of_le (hr.ren _ _ hb').2 h.size⟩
      live := fun b' k' hk' => by
        rw [blkOf_alloc] at hk'
        split at hk'
        · rename_i he; subst he; exact Nat.lt_succ_self _
        · exact Nat.lt_succ_of_lt (hr.live _ _ hk')
      inj := fun b1 b2 k1 k2 l1 l2 h1 h2 h3 h4 h5 => by
        rw [blkOf_alloc] at h1 h2
        by_cases e1 : b1 = st.nx
        · by_cases e2 : b2 = st.nx
          · rw [e1, e2]
          · rw [if_pos e1] at h3; injection h3 with h3; subst h3
            rw [if_neg e2] at h4
            have := (hr.ren _ _ h4).2
            omega
        · by_cases e2 : b2 = st.nx
          · rw [if_pos e2] at h4; injection h4 with h4; subst h4
            rw [if_neg e1] at h3
            have := (hr.ren _ _ h3).2
            omega
          · rw [if_neg e1] at h3
            rw [if_neg e2] at h4
            rw [if_neg (Ne.symm e1)] at h1
            rw [if_neg (Ne.symm e2)] at h2
            exact hr.inj _ _ _ _ _ _ h1 h2 h3 h4 h5
      obj := fun b' k' l' hk' hl' => by
        rw [blkOf_alloc] at hk'
        by_cases e1 : b' = st.nx
        · rw [if_pos e1.symm] at hk'; injection hk' with hk'; subst hk'
          rw [if_pos e1] at hl'; injection hl' with hl'; subst hl'
          obtain ⟨x, hx, hx2⟩ := h.hrel.obj _ _ _ hk hb
          exact ⟨x, hx, ho _ _ hx2⟩
        · rw [if_neg (Ne.symm e1)] at hk'
          rw [if_neg e1] at hl'
          obtain ⟨x, hx, hx2⟩ := hr.obj _ _ _ hk' hl'
          refine ⟨x, ?_, hx2.mono fun c lc hc => ?_⟩
          · rw [h.conc l'.blk (hr.ren _ _ hl').2 (fun _ _ _ hh => nomatch hh)]; exact hx
          · rw [if_neg (hne c lc hc)]; exact hc }
    abs := fun b' hb' _ => by rw [blkOf_alloc, if_neg (by omega)]
    dead := fun b' hb' hd => by rw [blkOf_alloc, if_neg (by omega)]; exact hd
    ver := fun b' k1 k2 h1 h2 => by
      rw [blkOf_alloc, if_neg (fun e => by have := hr.live _ _ h1; omega)] at h2
      rw [h1] at h2; injection h2 with h2; subst h2
      exact ⟨Nat.le_refl _, fun _ => rfl⟩
    conc := fun c hc _ => h.conc c hc (fun _ _ _ hh => nomatch hh)
    size := h.size
    fresh := fun b' l' h1 h2 => by
      split at h1
      · injection h1 with h1; subst h1; exact .inl hge
      · rw [h2] at h1; cases h1
    os := h.os
    tape := h.tape
    output := h.output }

theorem sort_is {zs ks qs : List (List UInt8)} (h : zs.Perm ks) (hq : ks.Perm qs) (hp : qs.Pairwise fun a b => leB a b = true) : (zs.mergeSort fun x y => decide (x ≤ y)) = qs := by
  have tr : ∀ a b c : List UInt8, leB a b = true → leB b c = true → leB a c = true := fun a b c h1 h2 => by simp only [leB, decide_eq_true_eq] at *; exact List.le_trans h1 h2
  have to : ∀ a b : List UInt8, (leB a b || leB b a) = true := fun a b => by simp only [leB, Bool.or_eq_true, decide_eq_true_eq]; exact List.le_total a b
  refine List.Perm.eq_of_pairwise (le := fun a b => leB a b = true) (fun a b _ _ h1 h2 => ?_) (List.pairwise_mergeSort tr to zs) hp (((List.mergeSort_perm zs leB).trans h).trans hq)
  simp only [leB, decide_eq_true_eq] at h1 h2
  exact List.le_antisymm h1 h2

theorem born_inj {es : List MapEntry} (hnd : (es.map (·.born)).Nodup) {x y : MapEntry} (hx : x ∈ es) (hy : y ∈ es) (h : x.born = y.born) : x = y := by
  have h1 := find_born hnd hx
  have h2 := find_born hnd hy
  rw [h, h2] at h1
  injection h1 with h1
  exact h1.symm
theorem nodup_of_map {l : List MapEntry} (h : (l.map (·.born)).Nodup) : l.Nodup := (List.pairwise_map.1 h).imp fun h e => h (by rw [e])
theorem el_perm {es el : List MapEntry} (h1 : (es.map (·.born)).Nodup) (h2 : (el.map (·.born)).Nodup) (h3 : ∀ e ∈ el, e ∈ es) (h4 : ∀ e ∈ es, e.born ∈ el.map (·.born)) : el.Perm es := by
  refine (List.perm_ext_iff_of_nodup (nodup_of_map h2) (nodup_of_map h1)).2 fun x => ⟨h3 x, fun hx => ?_⟩
  obtain ⟨y, hy, hb⟩ := List.mem_map.1 (h4 x hx)
  rw [born_inj h1 hx (h3 y hy) hb.symm]
  exact hy

def strL (v : Value) : List UInt8 := match v with | .string s => s.data.toList | _ => []
theorem strsOf_strings (ks : List ByteArray) : strsOf (ks.map Value.string) = some (ks.map (·.data.toList)) := by
  induction ks with
  | nil => rfl
  | cons k ks ih => rw [List.map_cons, strsOf_cons]; simp only [bnd_some_eq, ih, List.map_cons]

theorem q_rounds {B : Code} {n : Nat} {et : TypeId} {es : List MapEntry} {ib mb since clock : Nat} (hes : ES es since clock) {ρ0 : Ren} {st0 : St} {w0 : World} {Q : Exit → Act → World → Prop}
    (round : ∀ el a w, QR ρ0 st0 w0 n et es ib mb since clock el a w → B.wpIn (fen none) 0 P
      (Exit.then (fun a' w' => ∃ e, QR ρ0 st0 w0 n et es ib mb since clock (el ++ [e]) a' w') (fun ex a' w' => ex = .exit 0 ∧ QR ρ0 st0 w0 n et es ib mb since clock el a' w' ∧ ∀ e ∈ es, e.born ∈ el.map (·.born))) a w)
    (hQ : ∀ el a w, QR ρ0 st0 w0 n et es ib mb since clock el a w → (∀ e ∈ es, e.born ∈ el.map (·.born)) → Q (.exit 0) a w) :
    ∀ (m : Nat) (el : List MapEntry) (a : Act) (w : World), QR ρ0 st0 w0 n et es ib mb since clock el a w → el.length + m = es.length + 1 → Code.roundsIn (fen none) 0 P B Q m a w := by
  intro m
  induction m with
  | zero =>
    intro el a w h hl
    obtain ⟨_, _, _, _, _, _, _, _, q⟩ := h
    have h1 : (el.map (·.born)).length ≤ (es.map (·.born)).length := nodup_sub_length q.nd fun x hx => by
      obtain ⟨e, he, rfl⟩ := List.mem_map.1 hx
      exact List.mem_map_of_mem (q.sub e he)
    simp only [List.length_map] at h1
    omega
  | succ m ih =>
    intro el a w h hl
    rw [roundsIn_succ]
    refine wpIn_mono (round el a w h) fun e a' w' he => ?_
    cases e with
    | normal =>
      obtain ⟨x, hx⟩ := he
      exact ih _ _ _ hx (by simp; omega)
    | exit i =>
      obtain ⟨hi, h1, h2⟩ := he
      injection hi with hi
      subst hi
      exact hQ el a' w' h1 h2
    | _ => exact absurd he.1 (by simp)

theorem eval6 {fS : FuncId} {o0 o1 : Oper} {tys : Array TypeId} (h0 : Is o0 (.move (.tmp 1)) (some 14)) (h1 : Is o1 (.call ⟨.value (.func fS), #[.tmp 14], tys⟩) (some 15)) {t : Tr Value} {v u : Value} {st' : St}
    (hv : getD t 1 = v) (hc : S.call fS [v] st = some (u, st')) (ops : List Oper) : ∃ t', operList E S none ops [o0, o1] t [] st = some (t', [], st') ∧ getD t' 1 = getD t 1 := by
  rw [step_is h0 (r := ⟨v, [], st⟩) (by rw [exec_move]; simp only [hMove, Ctx.ev, opv_tmp, bnd_some_eq, hv]; rfl)]
  dsimp only
  rw [putDst_some]
  have g : getD (t.put (some v) (pos 14)) 14 = v := by rw [getD_put, if_pos rfl]
  have ho : opvs (t.put (some v) (pos 14)) [Operand.tmp 14] = some [v] := by
    rw [opvs_cons, opv_tmp, g]; rfl
  rw [step_is h1 (r := ⟨u, [], st'⟩) (by
    rw [exec_callf]
    have hf : opv (t.put (some v) (pos 14)) (.func fS) = some (.func (.func fS) #[] #[]) := rfl
    simp only [hCallV, Ctx.ev, hf, bnd_some_eq, asFunc, ho, callFn]
    have : ([] ++ [v] ++ [] : List Value) = [v] := rfl
    simp only [List.nil_append, List.append_nil, hc, bnd_some_eq]
    rfl)]
  dsimp only
  rw [putDst_some]
  exact ⟨_, rfl, by rw [getD_put, if_neg (by decide), getD_put, if_neg (by decide)]⟩

theorem eval7 {o0 o1 : Oper} (h0 : Is o0 (.move (.tmp 1)) (some 16)) (h1 : Is o1 (.assign (.tmp 16)) (some 0)) {t : Tr Value} (ops : List Oper) :
    ∃ t', operList E S none ops [o0, o1] t [] st = some (t', [], st) ∧ getD t' 0 = getD t 1 := by
  rw [step_is h0 (r := ⟨getD t 1, [], st⟩) (by rw [exec_move]; simp only [hMove, Ctx.ev, opv_tmp, bnd_some_eq]; rfl)]
  dsimp only
  rw [putDst_some]
  have g : getD (t.put (some (getD t 1)) (pos 16)) 16 = getD t 1 := by rw [getD_put, if_pos rfl]
  rw [step_is h1 (r := ⟨getD t 1, [], st⟩) (by rw [exec_assign]; simp only [hMove, Ctx.ev, opv_tmp, g, bnd_some_eq]; rfl)]
  dsimp only
  rw [putDst_some]
  exact ⟨_, rfl, by rw [getD_put, if_pos rfl]⟩
end
end Go.Ab

namespace Go.Ab
open Go.Proofs

section
variable {E : Env} {P : Program} {S : Self} {ρ : Ren} {st : St} {w : World}

noncomputable def xQuer (fQ : FuncId) (et : TypeId) (qs : List (List UInt8)) : Hook := fun f args st => cnd (Nat.beq f fQ)
  (match args with
    | [] => some (.slice (some ⟨st.nx, 0, none⟩) qs.length (capOpen 1 qs.length), Go.Ab.alloc st (.cells (et, false) qs.length (writeCells (qs.map encStr) 0 .leaf)))
    | _ => none) none

theorem quer_ok (ok : E.Ok P) (hC : CallOK P S) (hS : CodeOK P S) {et sty : TypeId} (ty : TyFacts E et sty) {fQ fS : FuncId} {fnQ : Func} {R0 R1 R2 : Code} {i3 i4 i5 i6 i7 : Nat} {o30 o31 o40 o41 o42 o50 o51 o52 o53 o54 o60 o61 o70 o71 : Oper} {tys : Array TypeId}
    (hF : E.F.get (pos fQ) = some fnQ)
    (hb : fnQ.body = some (.seq R0 (.seq R1 (.seq (.seq R2 (.block 0 (.loop (.seq (.region i3 #[o30, o31] false) (.seq (.cond (.tmp 7) .skip (.exit 0)) (.block 1 (.seq (.region i4 #[o40, o41, o42] false) (.region i5 #[o50, o51, o52, o53, o54] false)))))))) (.seq (.region i6 #[o60, o61] false) (.seq (.region i7 #[o70, o71] false) .ret))))))
    (hn : 17 ≤ fnQ.ntmps) (hres : fnQ.results = #[.tmp 0])
    (h30 : Is o30 (.next (.tmp 5) false) (some 6)) (h31 : Is o31 (.extract (.tmp 6) 0) (some 7))
    (h40 : Is o40 (.entry (.tmp 5)) (some 8)) (h41 : Is o41 (.extract (.tmp 8) 0) (some 9)) (h42 : Is o42 (.assign (.tmp 9)) (some 2))
    (h50 : Is o50 (.move (.tmp 1)) (some 10)) (h51 : Is o51 (.move (.tmp 2)) (some 11)) (h52 : Is o52 (.buildSlice sty 1 #[(0, .tmp 11)]) (some 12))
    (h53 : Is o53 (.call ⟨.builtin .append, #[.tmp 10, .tmp 12], #[sty, sty]⟩) (some 13)) (h54 : Is o54 (.assign (.tmp 13)) (some 1))
    (h60 : Is o60 (.move (.tmp 1)) (some 14)) (h61 : Is o61 (.call ⟨.value (.func fS), #[.tmp 14], tys⟩) (some 15))
    (h70 : Is o70 (.move (.tmp 1)) (some 16)) (h71 : Is o71 (.assign (.tmp 16)) (some 0))
    {t0 t1 t2 : Tr Value} {s0 s1 s2 : St} (e0 : S.code none fQ R0 .leaf [] ⟨.leaf, 0⟩ = some (0, t0, [], s0)) (e1 : S.code none fQ R1 t0 [] s0 = some (0, t1, [], s1)) (e2 : S.code none fQ R2 t1 [] s1 = some (0, t2, [], s2))
    {ib mb since clock : Nat} {es : List MapEntry} (g1 : getD t2 1 = .slice none 0 0) (g5 : getD t2 5 = .pointer (some ⟨ib, 0, none⟩)) (gi : ∃ ver stepped, blkOf s2 ib = some ⟨ver, .mapIter (some mb) since [] stepped⟩)
    (gm : ∃ ver, blkOf s2 mb = some ⟨ver, .map es clock⟩) (hes : ES es since clock) {qs : List (List UInt8)} (hkeys : (es.map fun e => strL e.key).Perm qs) (hp : qs.Pairwise fun a b => leB a b = true) (hq0 : qs.length ≠ 0) (hq1 : qs.length < 1000)
    (hSc : ∀ b n c st r, sortV b n st = some r → S.call fS [.slice (some ⟨b, 0, none⟩) n c] st = some r) : HookOK P (xQuer fQ et qs) := by
  intro f args st v st' hx ρ w args' hargs hr
  unfold xQuer at hx
  rw [cnd_of] at hx
  split at hx
  case isFalse => cases hx
  rename_i hbf
  have hf : f = fQ := Nat.eq_of_beq_eq_true hbf
  subst hf
  split at hx
  case h_2 => cases hx
  injection hx with hx
  obtain ⟨rfl, rfl⟩ := Prod.mk.inj hx
  have hnil : args'.toList = [] := by generalize args'.toList = q at hargs; cases hargs; rfl
  have hnil : args' = #[] := by simpa using hnil
  subst hnil
  have henter := ok.enter f fnQ _ hF hb #[] w
  refine .inr ⟨henter, ?_⟩
  have hcode := ok.fits f fnQ _ hF hb
  simp only [codeOk, Bool.and_eq_true] at hcode
  obtain ⟨c0, c1, ⟨c2, c3⟩, c6, c7, _⟩ := hcode
  have hr0 := HRel.empty w
  -- the call, followed from an empty memory
  have main : CallsIn Fence.wide 0 P f #[] w (Ret fun v' w' => ∃ ρ1 st1 b ver C, V ρ1 (.slice (some ⟨b, 0, none⟩) qs.length (capOpen 1 qs.length)) v' ∧ Step (fun _ => none) ⟨.leaf, 0⟩ w ρ1 st1 w' ∧
      blkOf st1 b = some ⟨ver, .cells (et, false) qs.length C⟩ ∧ ∀ i, i < qs.length → C.get (pos i) = (qs.map encStr)[i]?) := by
    refine callsIn_of_wp_marks (ok.func _ _ hF) hb trivial ?_
    generalize hn' : fnQ.ntmps = n at *
    have hsz : (#[] ++ Array.replicate (n - (#[] : Array Value).size) undef : Array Value).size = n := by simp
    refine wpIn_seq (wpIn_mono (hS _ _ _ _ _ _ _ e0 (fun _ => none) w { tmps := #[] ++ Array.replicate (n - (#[] : Array Value).size) undef, defers := [] } none (.inl ⟨rfl, rfl⟩) (by rw [hsz]; exact c0) (TR.start .nil _) .nil hr0) fun ex a1 w1 hp1 => ?_)
    obtain ⟨rfl, ρ1, k1, t1r, d1, n1⟩ := hp1
    rw [hsz] at n1
    refine wpIn_seq (wpIn_mono (hS _ _ _ _ _ _ _ e1 ρ1 w1 a1 none (.inl ⟨rfl, rfl⟩) (by rw [n1]; exact c1) t1r d1 k1.hrel) fun ex a2 w2 hp2 => ?_)
    obtain ⟨rfl, ρ2, k2, t2r, d2, n2⟩ := hp2
    rw [n1] at n2
    refine wpIn_seq (wpIn_seq (wpIn_mono (hS _ _ _ _ _ _ _ e2 ρ2 w2 a2 none (.inl ⟨rfl, rfl⟩) (by rw [n2]; exact c2) t2r d2 k2.hrel) fun ex a3 w3 hp3 => ?_))
    obtain ⟨rfl, ρ3, k3, t3r, d3, n3⟩ := hp3
    rw [n2] at n3
    have hQR : QR (fun _ => none) ⟨.leaf, 0⟩ w n et es ib mb since clock [] a3 w3 := by
      obtain ⟨iv, isx, hi⟩ := gi
      exact ⟨ρ3, s2, t2, [], k1.trans hr0 (k2.trans k1.hrel k3), t3r, ds_nil d3, n3, ⟨g5, ⟨iv, isx, hi, .inl rfl⟩, gm, .inl ⟨rfl, g1⟩, (fun _ he => nomatch he), List.nodup_nil, rfl⟩⟩
    refine wpIn_block (wpIn_loop_rounds (es.length + 1) (q_rounds (et := et) (ib := ib) (mb := mb) hes (fun el a w h => q_round ok hC hS ty h30 h31 h40 h41 h42 h50 h51 h52 h53 h54 (by omega) hes hr0 h) (fun el a w4 hq hall => ?_) (es.length + 1) [] a3 w3 hQR (by simp)))
    show Exit.inBlock 0 _ (.exit 0) a w4
    simp only [Exit.inBlock, if_true]
    obtain ⟨ρ4, st4, t4, ks, q0, q1, q2, q3, q4⟩ := hq
    have hperm := el_perm hes.nd q4.nd q4.sub hall
    have hz : (ks.map (·.data.toList)).Perm qs := by
      have h1 : (el.map fun e => strL e.key) = ks.map (·.data.toList) := by
        have := congrArg (List.map strL) q4.keys
        rw [List.map_map, List.map_map] at this
        exact this
      rw [← h1]
      exact (hperm.map _).trans hkeys
    have hsort : ((ks.map (·.data.toList)).mergeSort fun x y => decide (x ≤ y)) = qs := sort_is hz (List.Perm.refl _) hp
    have hkl : ks.length = qs.length := by have := hz.length_eq; simpa using this
    have hout := q4.out
    rcases hout with ⟨hk0, _⟩ | ⟨b, ver, hv, hk0, hbk⟩
    · rw [hk0] at hkl; exact absurd hkl.symm hq0
    have hsv : ∃ st5 ver5 C, sortV b ks.length st4 = some (.tuple #[], st5) ∧ blkOf st5 b = some ⟨ver5, .cells (et, false) ks.length C⟩ ∧ (∀ i, i < qs.length → C.get (pos i) = (qs.map encStr)[i]?) := by
      have hcs : cellsOf st4 b = some ((et, false), ks.length, writeCells (ks.map Value.string) 0 .leaf) := by
        simp only [cellsOf, hbk, bnd_some_eq, AObj.asCells]
      have hrd : readCells (writeCells (ks.map Value.string) 0 .leaf) ks.length 0 = some (ks.map Value.string) := by
        have := readCells_write (ks.map Value.string)
        rwa [List.length_map] at this
      have hg : (Nat.ble ks.length ks.length && Nat.blt ks.length 1048576 && !Nat.beq ks.length 0) = true := by
        have a1 : Nat.ble ks.length ks.length = true := Nat.ble_eq_true_of_le (Nat.le_refl _)
        have a2 : Nat.blt ks.length 1048576 = true := Nat.ble_eq_true_of_le (by omega)
        have a3 : Nat.beq ks.length 0 = false := nbeq hk0
        rw [a1, a2, a3]; rfl
      refine ⟨{ hp := st4.hp.put (some ⟨ver + 1, .cells (et, false) ks.length (writeCells (qs.map encStr) 0 (writeCells (ks.map Value.string) 0 .leaf))⟩) (pos b), nx := st4.nx }, ver + 1, _, ?_, by rw [blkOf_put, if_pos rfl], fun i hi => ?_⟩
      · simp only [sortV, hcs, bnd_some_eq, hrd, strsOf_strings, hg, grd_true, hsort, setCells, hbk, AObj.asCells]
      · rw [writeCells_get, if_pos ⟨by omega, by simp only [List.length_map]; omega⟩, Nat.sub_zero]
    obtain ⟨st5, ver5, C, hs5, hb5, hC5⟩ := hsv
    have fit : ∀ (o : Oper) (op : Op) (d : Nat), Is o op (some d) → d < n → dstFits n o = true := fun o op d h hd => by
      unfold dstFits; rw [h.2.1]; simpa using hd
    obtain ⟨t6, f1, f2⟩ := eval6 (E := E) (S := S) (st := st4) h60 h61 hv (hSc _ _ _ _ _ hs5) [o60, o61]
    have fits6 : (#[o60, o61] : Array Oper).toList.all (dstFits n) = true := by
      simp [fit _ _ _ h60 (by omega), fit _ _ _ h61 (by omega)]
    have fits7 : (#[o70, o71] : Array Oper).toList.all (dstFits n) = true := by
      simp [fit _ _ _ h70 (by omega), fit _ _ _ h71 (by omega)]
    refine wpIn_seq (region_run ok hC hS fits6 f1 q1 q2 q0.hrel q3 fun ρ6 a6 w6 s6 t6r d6 n6 => ?_)
    obtain ⟨t7, f3, f4⟩ := eval7 (E := E) (S := S) (st := st5) h70 h71 (t := t6) [o70, o71]
    refine wpIn_seq (region_run ok hC hS fits7 f3 t6r (ds_nil d6) s6.hrel n6 fun ρ7 a7 w7 s7 t7r d7 n7 => ?_)
    refine wpIn_ret ?_
    have hdn : a7.defers = [] := ds_nil d7
    have hrv : resultVs E t7 st5 fnQ.results.toList = some [getD t7 0] := by rw [hres]; rfl
    obtain ⟨v', r1, r2⟩ := results_sound ok s7.hrel t7r hrv
    show LeavesInM Fence.wide 0 P fnQ a7.tmps _ a7.defers .returning w7
    rw [hdn]
    refine ⟨v', r1, ρ7, st5, b, ver5, C, ?_, q0.trans hr0 (s6.trans q0.hrel s7), by rw [← hkl]; exact hb5, hC5⟩
    have : packed [getD t7 0] = .slice (some ⟨b, 0, none⟩) qs.length (capOpen 1 qs.length) := by
      show getD t7 0 = _
      rw [f4, f2, hv, hkl]
    rw [← this]
    exact r2
  refine main.mono fun e w' he => ?_
  refine he.mono fun v' w' ⟨ρ1, st1, b, ver, C, hv, hs, hbk, hC5⟩ => ?_
  obtain ⟨l, a', c', i1, i2, i3, i4, i5, i6⟩ := hv.slice_inv
  have hst := hs.frameNew hr i2 hbk (o := .cells (et, false) qs.length (writeCells (qs.map encStr) 0 .leaf)) fun ρ' x hx => by
    obtain ⟨arr, t, fr, rfl, q2, q3, q4, q5, q6⟩ := hx
    refine ⟨arr, t, fr, rfl, q2, q3, q4, fun i u hu => ?_, q6⟩
    rw [writeCells_leaf] at hu
    have hi : i < qs.length := by have := (List.getElem?_eq_some_iff.1 hu).1; simpa using this
    obtain ⟨_, k2⟩ := q5 i u (by rw [hC5 i hi]; exact hu)
    refine ⟨hi, ?_⟩
    rw [List.getElem?_map, List.getElem?_eq_getElem hi] at hu
    injection hu with hu
    rw [← hu] at k2 ⊢
    rw [k2.string_inv]
    exact .string _
  refine ⟨_, ?_, hst⟩
  rw [i1]
  exact .slice (l := l) (by simp) i3 i4 i5 i6
end
end Go.Ab

namespace Go.Ab

section
variable {P : Program}

/-- a table by its numbers -/
noncomputable def ofPairs {α : Type} (l : List (Nat × α)) : Tr α := List.rec .leaf (fun p _ ih => ih.put (some p.2) (pos p.1)) l
theorem ofPairs_get {α : Type} : ∀ (l : List (Nat × α)) (i : Nat) (x : α), (ofPairs l).get (pos i) = some x → (i, x) ∈ l := by
  intro l
  induction l with
  | nil => intro i x h; exact nomatch (show (none : Option α) = some x from h)
  | cons p l ih =>
    intro i x h
    have : (ofPairs (p :: l)) = (ofPairs l).put (some p.2) (pos p.1) := rfl
    rw [this, Tr.get_put_pos] at h
    split at h
    · rename_i he
      injection h with h
      subst he h
      exact List.mem_cons_self ..
    · exact List.mem_cons_of_mem _ (ih i x h)

/-- all of a list, one by one -/
def Each {α : Type} (p : α → Prop) : List α → Prop
  | [] => True
  | x :: l => p x ∧ Each p l
theorem Each.mem {α : Type} {p : α → Prop} : ∀ {l : List α}, Each p l → ∀ x ∈ l, p x := by
  intro l
  induction l with
  | nil => intro _ x hx; cases hx
  | cons y l ih =>
    intro h x hx
    rcases List.mem_cons.1 hx with rfl | hx
    · exact h.1
    · exact ih h.2 x hx
theorem Each.append {α : Type} {p : α → Prop} : ∀ {l m : List α}, Each p l → Each p m → Each p (l ++ m)
  | [], _, _, h => h
  | _ :: _, _, h, h' => ⟨h.1, Each.append h.2 h'⟩

/-- a function with a body is entered -/
theorem enters {f : FuncId} {fn : Func} (hf : P.funcs[f]? = some fn) (hname : (fn.name == "runtime.NumGoroutine") = false) {c : Code} (hb : fn.body = some c) (args : Array Value) (w : World) : (callFunc f args).run P w = .ok (.enter f args) w := by
  have h1 : fn.name ≠ "runtime.NumGoroutine" := by simpa using hname
  simp [callFunc, hf, h1, hb]

theorem info_of {t : TypeId} {i : TypeInfo} (h : P.types[t]? = some i) : P.info? t = some i := by
  have hlt := (Array.getElem?_eq_some_iff.1 h).1
  show Tables.info? _ t = _
  unfold Tables.info?
  rw [if_pos hlt]
  exact h

/-- what is asked of the number and the text of a function with a body -/
def FuncOk (P : Program) (p : FuncId × Func) : Prop := P.funcs[p.1]? = some p.2
noncomputable def textOk (fn : Func) : Bool := Option.rec true (fun c => !(fn.name == "runtime.NumGoroutine") && codeOk fn.ntmps c) fn.body
noncomputable def textsOk (l : List (FuncId × Func)) : Bool := List.rec true (fun p _ ih => cnd (textOk p.2) ih false) l
theorem textsOk_mem : ∀ (l : List (FuncId × Func)), textsOk l = true → ∀ p ∈ l, textOk p.2 = true := by
  intro l
  induction l with
  | nil => intro _ p hp; cases hp
  | cons q l ih =>
    intro h p hp
    have h' : cnd (textOk q.2) (textsOk l) false = true := h
    rw [cnd_of] at h'
    split at h'
    · rename_i hq
      rcases List.mem_cons.1 hp with rfl | hp
      · exact hq
      · exact ih h' p hp
    · cases h'

def ExtOk (P : Program) (p : FuncId × XK) : Prop := ∀ args w, (callFunc p.1 args).run P w = ((xsem p.2 args).run P w).andThen fun v w' => .ok (.value v) w'
theorem ext_of {f : FuncId} {k : XK} {fn : Func} (hf : P.funcs[f]? = some fn) (hname : (fn.name == "runtime.NumGoroutine") = false) (hb : fn.body.isNone = true) (hn : Extern.findNext fn = none) (he : Extern.find fn = some (xsem k)) : ExtOk P (f, k) :=
  fun args w => run_callFunc_extern hf hname hb hn he args w

def MkOk (P : Program) (p : FuncId × XK) : Prop := ∀ t e, p.2 = .makeNoZero t e → P.underlying t = some (.slice e)
def isMk (k : XK) : Bool := match k with | .makeNoZero _ _ => true | _ => false
theorem mk_of {f : FuncId} {t e : TypeId} (h : P.underlying t = some (.slice e)) : MkOk P (f, .makeNoZero t e) := fun t' e' h' => by
  have h' : XK.makeNoZero t e = .makeNoZero t' e' := h'
  injection h' with h1 h2
  subst h1 h2
  exact h
theorem mk_other {f : FuncId} {k : XK} (h : isMk k = false) : MkOk P (f, k) := fun t e h' => by
  have h' : k = .makeNoZero t e := h'
  subst h'
  cases h
noncomputable def eqsOk (P : Program) (l : List (TypeId × Unit)) : Bool := List.rec true (fun p _ ih => cnd (!P.stoodInHeld p.1 && !P.eqGuardType P.depth p.1) ih false) l
theorem eqsOk_mem : ∀ (l : List (TypeId × Unit)), eqsOk P l = true → ∀ p ∈ l, P.stoodInHeld p.1 = false ∧ P.eqGuardType P.depth p.1 = false := by
  intro l
  induction l with
  | nil => intro _ p hp; cases hp
  | cons q l ih =>
    intro h p hp
    have h' : cnd (!P.stoodInHeld q.1 && !P.eqGuardType P.depth q.1) (eqsOk P l) false = true := h
    rw [cnd_of] at h'
    split at h'
    · rename_i hq
      rcases List.mem_cons.1 hp with rfl | hp
      · simpa using hq
      · exact ih h' p hp
    · cases h'

theorem env_ok {T : Tr TypeInfo} {F : Tr Func} {EQ : Tr Unit} {X : Tr XK} {ts : List TypeInfo} {fs : List (FuncId × Func)} {qs : List (TypeId × Unit)} {xs : List (FuncId × XK)}
    (hT : Tr.ofListFrom ts 0 .leaf = T) (hts : P.types = ts.toArray) (hF : ofPairs fs = F) (hfs : Each (FuncOk P) fs) (htx : textsOk fs = true) (hX : ofPairs xs = X) (hxs : Each (ExtOk P) xs)
    (hmk : Each (MkOk P) xs) (hQ : ofPairs qs = EQ) (hqs : eqsOk P qs = true) (hm : P.follows .mixedOrders = true) : Env.Ok ⟨T, F, EQ, X⟩ P where
  info := fun t i h => by
    refine info_of ?_
    have h' : T.get (pos t) = some i := h
    rw [← hT, Tr.get_ofList ts 0 .leaf t (fun _ _ => rfl), if_neg (by omega), Nat.sub_zero] at h'
    rw [hts]
    simpa using h'
  func := fun f fn h => by
    have h' : F.get (pos f) = some fn := h
    rw [← hF] at h'
    exact hfs.mem _ (ofPairs_get _ _ _ h')
  enter := fun f fn c h hb args w => by
    have h' : F.get (pos f) = some fn := h
    rw [← hF] at h'
    have hm := ofPairs_get _ _ _ h'
    have ht := textsOk_mem _ htx _ hm
    unfold textOk at ht
    simp only [hb, Bool.and_eq_true, Bool.not_eq_true'] at ht
    exact enters (hfs.mem _ hm) ht.1 hb args w
  ext := fun f k h args w => by
    have h' : X.get (pos f) = some k := h
    rw [← hX] at h'
    exact hxs.mem _ (ofPairs_get _ _ _ h') args w
  made := fun f t e h => by
    have h' : X.get (pos f) = some (.makeNoZero t e) := h
    rw [← hX] at h'
    exact hmk.mem _ (ofPairs_get _ _ _ h') t e rfl
  eq := fun t h => by
    have h' : EQ.get (pos t) = some () := h
    rw [← hQ] at h'
    exact eqsOk_mem _ hqs _ (ofPairs_get _ _ _ h')
  mixed := hm
  fits := fun f fn c h hb => by
    have h' : F.get (pos f) = some fn := h
    rw [← hF] at h'
    have ht := textsOk_mem _ htx _ (ofPairs_get _ _ _ h')
    unfold textOk at ht
    simp only [hb, Bool.and_eq_true] at ht
    exact ht.2
end
end Go.Ab

namespace Go.Ab
open Go.Proofs

/-! parts of a text -/
def cl : Code → Code | .seq a _ => a | c => c
def cr : Code → Code | .seq _ b => b | c => c
def cblk : Code → Code | .block _ b => b | c => c
def clp : Code → Code | .loop b => b | c => c
def cid : Code → Nat | .region i _ _ => i | _ => 0
def cop (c : Code) (i : Nat) : Oper := match c with | .region _ ops _ => ops.toList.getD i default | _ => default
def cbody (f : Func) : Code := match f.body with | some c => c | none => .skip

noncomputable def keyIs (v : Value) (k : List UInt8) : Bool := match v with | .string s => s.data.toList == k | _ => false
noncomputable def esGo (since clock : Nat) (es : List MapEntry) : Nat → List (List UInt8) → Bool :=
  List.rec (motive := fun _ => Nat → List (List UInt8) → Bool) (fun _ ks => ks.isEmpty)
    (fun e _ ih i ks => List.rec false (fun k ks' _ => Nat.beq e.born i && Nat.blt e.born since && Nat.blt e.born clock && keyIs e.key k && ih (Nat.add i 1) ks') ks) es
noncomputable def memOk (t : Tr Value) (st : St) (ks : List (List UInt8)) : Bool :=
  match getD t 1, getD t 5 with
  | .slice none n c, .pointer (some ⟨ib, o, none⟩) => Nat.beq n 0 && Nat.beq c 0 && Nat.beq o 0 && (match blkOf st ib with
    | some ⟨_, .mapIter (some mb) since [] _⟩ => (match blkOf st mb with | some ⟨_, .map es clock⟩ => Nat.blt es.length 1000 && esGo since clock es 0 ks | _ => false)
    | _ => false)
  | _, _ => false
noncomputable def pre (S : Self) (fQ : FuncId) (R0 R1 R2 : Code) (ks : List (List UInt8)) : Option Unit :=
  bnd (S.code none fQ R0 .leaf [] ⟨.leaf, 0⟩) fun x => grd (Nat.beq x.1 0 && x.2.2.1.isEmpty) (bnd (S.code none fQ R1 x.2.1 [] x.2.2.2) fun y => grd (Nat.beq y.1 0 && y.2.2.1.isEmpty)
    (bnd (S.code none fQ R2 y.2.1 [] y.2.2.2) fun z => grd (Nat.beq z.1 0 && z.2.2.1.isEmpty && memOk z.2.1 z.2.2.2 ks) (some ())))
noncomputable def preOk (S : Self) (fQ : FuncId) (R0 R1 R2 : Code) (ks : List (List UInt8)) : Bool := Option.rec false (fun _ => true) (pre S fQ R0 R1 R2 ks)

theorem esGo_cons (since clock : Nat) (e : MapEntry) (es : List MapEntry) (i : Nat) (k : List UInt8) (ks : List (List UInt8)) :
    esGo since clock (e :: es) i (k :: ks) = (Nat.beq e.born i && Nat.blt e.born since && Nat.blt e.born clock && keyIs e.key k && esGo since clock es (i + 1) ks) := rfl

theorem esGo_spec {since clock : Nat} : ∀ (es : List MapEntry) (i : Nat) (ks : List (List UInt8)), esGo since clock es i ks = true →
    es.map (·.born) = List.range' i es.length ∧ (∀ e ∈ es, e.born < since ∧ e.born < clock) ∧ (∀ e ∈ es, ∃ s, e.key = .string s) ∧ (es.map fun e => strL e.key) = ks := by
  intro es
  induction es with
  | nil =>
    intro i ks h
    have h' : ks.isEmpty = true := h
    refine ⟨rfl, (fun _ h => nomatch h), (fun _ h => nomatch h), ?_⟩
    simpa using h'.symm
  | cons e es ih =>
    intro i ks h
    cases ks with
    | nil => exact nomatch (show false = true from h)
    | cons k ks =>
      rw [esGo_cons] at h
      simp only [Bool.and_eq_true] at h
      obtain ⟨⟨⟨⟨h1, h2⟩, h3⟩, h4⟩, h5⟩ := h
      obtain ⟨a1, a2, a3, a4⟩ := ih _ _ h5
      have h1 : e.born = i := Nat.eq_of_beq_eq_true h1
      have h2 : e.born < since := by simpa using h2
      have h3 : e.born < clock := by simpa using h3
      have hk : ∃ s, e.key = .string s ∧ s.data.toList = k := by
        cases hv : e.key <;> rw [hv] at h4 <;> simp [keyIs] at h4
        exact ⟨_, rfl, h4⟩
      obtain ⟨s, hs, hsk⟩ := hk
      refine ⟨?_, fun x hx => ?_, fun x hx => ?_, ?_⟩
      · simp [List.range'_succ, h1, a1]
      · rcases List.mem_cons.1 hx with rfl | hx
        · exact ⟨h2, h3⟩
        · exact a2 x hx
      · rcases List.mem_cons.1 hx with rfl | hx
        · exact ⟨s, hs⟩
        · exact a3 x hx
      · rw [List.map_cons, a4, hs]
        show s.data.toList :: ks = _
        rw [hsk]

theorem isEmpty_eq {α : Type} {l : List α} (h : l.isEmpty = true) : l = [] := by simpa using h

theorem pre_spec {S : Self} {fQ : FuncId} {R0 R1 R2 : Code} {ks : List (List UInt8)} (h : preOk S fQ R0 R1 R2 ks = true) :
    ∃ t0 t1 t2 s0 s1 s2 ib mb since clock es, S.code none fQ R0 .leaf [] ⟨.leaf, 0⟩ = some (0, t0, [], s0) ∧ S.code none fQ R1 t0 [] s0 = some (0, t1, [], s1) ∧ S.code none fQ R2 t1 [] s1 = some (0, t2, [], s2) ∧
      getD t2 1 = .slice none 0 0 ∧ getD t2 5 = .pointer (some ⟨ib, 0, none⟩) ∧ (∃ ver stepped, blkOf s2 ib = some ⟨ver, .mapIter (some mb) since [] stepped⟩) ∧ (∃ ver, blkOf s2 mb = some ⟨ver, .map es clock⟩) ∧
      ES es since clock ∧ (es.map fun e => strL e.key) = ks := by
  have hp : pre S fQ R0 R1 R2 ks = some () := by
    unfold preOk at h
    cases hh : pre S fQ R0 R1 R2 ks with
    | none => rw [hh] at h; cases h
    | some u => rfl
  simp only [pre, bnd_eq, grd_eq, Bool.and_eq_true] at hp
  obtain ⟨⟨x0, t0, d0, s0⟩, h0, ⟨a0, b0⟩, ⟨x1, t1, d1, s1⟩, h1, ⟨a1, b1⟩, ⟨x2, t2, d2, s2⟩, h2, ⟨⟨a2, b2⟩, hm⟩, _⟩ := hp
  simp only at h0 h1 h2 a0 a1 a2 b0 b1 b2 hm
  have a0 : x0 = 0 := Nat.eq_of_beq_eq_true a0
  have a1 : x1 = 0 := Nat.eq_of_beq_eq_true a1
  have a2 : x2 = 0 := Nat.eq_of_beq_eq_true a2
  have b0 := isEmpty_eq b0
  have b1 := isEmpty_eq b1
  have b2 := isEmpty_eq b2
  subst a0 a1 a2 b0 b1 b2
  unfold memOk at hm
  split at hm
  · rename_i n c ib o e1 e5
    simp only [Bool.and_eq_true] at hm
    obtain ⟨⟨⟨m1, m2⟩, m3⟩, hm⟩ := hm
    have m1 : n = 0 := Nat.eq_of_beq_eq_true m1
    have m2 : c = 0 := Nat.eq_of_beq_eq_true m2
    have m3 : o = 0 := Nat.eq_of_beq_eq_true m3
    subst m1 m2 m3
    split at hm
    · rename_i ver mb since stepped hib
      split at hm
      · rename_i ver2 es clock hmb
        simp only [Bool.and_eq_true] at hm
        obtain ⟨hf, hg⟩ := hm
        obtain ⟨g1, g2, g3, g4⟩ := esGo_spec _ _ _ hg
        have hf : es.length < 1000 := by simpa using hf
        exact ⟨t0, t1, t2, s0, s1, s2, ib, mb, since, clock, es, h0, h1, h2, e1, e5, ⟨ver, stepped, hib⟩, ⟨ver2, hmb⟩, ⟨by rw [g1]; exact List.nodup_range', g2, g3, hf⟩, g4⟩
      · cases hm
    · cases hm
  · cases hm

theorem hook_call {E : Env} {x : Hook} {n : Nat} {f : FuncId} {args : List Value} {st : St} {r : Value × St} (h : x f args st = some r) : (self E x (n + 1)).call f args st = some r := by
  show call E x (self E x n) f args st = some r
  unfold call
  rw [h]
theorem xSort_at {fS : FuncId} {b n c : Nat} {st : St} {r : Value × St} (h : sortV b n st = some r) : xSort fS fS [.slice (some ⟨b, 0, none⟩) n c] st = some r := by
  unfold xSort
  have : Nat.beq fS fS = true := by simp
  rw [this]
  exact h
end Go.Ab

namespace Go.Ab

section
variable {P : Program}

/-- the numbers met so far, bit by bit -/
def SeenOk (m : Nat) (seen : List Nat) : Prop := ∀ f, m.testBit f = seen.contains f
theorem SeenOk.nil : SeenOk 0 [] := fun f => by simp
theorem SeenOk.cons {m : Nat} {seen : List Nat} (h : SeenOk m seen) (f : Nat) : SeenOk (Nat.lor m (Nat.shiftLeft 1 f)) (f :: seen) := by
  intro g
  show (m ||| 1 <<< f).testBit g = _
  rw [Nat.testBit_or, h g, List.contains_cons]
  by_cases hg : g = f
  · subst hg; simp [Nat.testBit_shiftLeft]
  · have h1 : (g == f) = false := by simpa using hg
    have h2 : (1 <<< f).testBit g = false := by
      rw [Nat.testBit_shiftLeft]
      by_cases hge : g ≥ f
      · have : ¬ (g - f = 0) := by omega
        have ht : Nat.testBit 1 (g - f) = false := by
          have := Nat.testBit_one_eq_true_iff_self_eq_zero (i := g - f)
          cases hh : Nat.testBit 1 (g - f) with
          | false => rfl
          | true => rw [this] at hh; omega
        simp [ht]
      · simp [hge]
    rw [h1, h2, Bool.or_false, Bool.false_or]

/-- the closure by tables: none where the fuel does not last -/
noncomputable def clo (tab : Tr (List Nat)) (n : Nat) : List Nat → Nat → List Nat → Option (List Nat) :=
  Nat.rec (motive := fun _ => List Nat → Nat → List Nat → Option (List Nat)) (fun _ _ _ => none)
    (fun _ ih todo m seen => List.rec (some seen)
      (fun f r _ => cnd (Nat.testBit m f) (ih r m seen) (ih (Option.rec r (fun l => l ++ r) (tab.get (pos f))) (Nat.lor m (Nat.shiftLeft 1 f)) (f :: seen))) todo) n
theorem clo_cons (tab : Tr (List Nat)) (n f m : Nat) (todo seen : List Nat) : clo tab (n + 1) (f :: todo) m seen =
    cnd (Nat.testBit m f) (clo tab n todo m seen) (clo tab n (Option.rec todo (fun l => l ++ todo) (tab.get (pos f))) (Nat.lor m (Nat.shiftLeft 1 f)) (f :: seen)) := rfl
theorem clo_sound {tab : Tr (List Nat)} (ht : ∀ f, (P.funcs[f]?).elim [] P.leadsTo = (tab.get (pos f)).getD []) : ∀ (n k : Nat) (todo : List Nat) (m : Nat) (seen r : List Nat), clo tab n todo m seen = some r → n ≤ k → SeenOk m seen →
    P.closureVia k todo seen = r.reverse := by
  intro n
  induction n with
  | zero => intro k todo m seen r h; exact nomatch (show (none : Option (List Nat)) = some r from h)
  | succ n ih =>
    intro k todo m seen r h hk hs
    cases todo with
    | nil =>
      have h' : some seen = some r := h
      injection h' with h'
      subst h'
      cases k with
      | zero => omega
      | succ k => rfl
    | cons f todo =>
      cases k with
      | zero => omega
      | succ k =>
        have hf := hs f
        rw [clo_cons, cnd_of] at h
        unfold Program.closureVia
        rw [← hf]
        split at h
        · rename_i hb
          rw [hb]
          simp only [if_true]
          exact ih k _ _ _ _ h (by omega) hs
        · rename_i hb
          have hb' : m.testBit f = false := by simpa using hb
          rw [hb']
          simp only [Bool.false_eq_true, if_false]
          have e : (Option.rec todo (fun l => l ++ todo) (tab.get (pos f)) : List Nat) = (P.funcs[f]?).elim [] P.leadsTo ++ todo := by
            rw [ht f]
            cases tab.get (pos f) <;> rfl
          rw [e] at h
          exact ih k _ _ _ _ h (by omega) (hs.cons f)

def LeadOk (P : Program) (p : Func × List Nat) : Prop := P.leadsTo p.1 = p.2
theorem lead_of {fn : Func} {l : List Nat} (h : P.leadsTo fn = l) : LeadOk P (fn, l) := h
theorem leads_tab {fl : List (Func × List Nat)} (hf : P.funcs = (fl.map (·.1)).toArray) (hl : Each (LeadOk P) fl) {tab : Tr (List Nat)} (ht : Tr.ofListFrom (fl.map (·.2)) 0 .leaf = tab) :
    ∀ f, (P.funcs[f]?).elim [] P.leadsTo = (tab.get (pos f)).getD [] := by
  intro f
  rw [← ht, Tr.get_ofList _ 0 .leaf f (fun _ _ => rfl), if_neg (by omega), Nat.sub_zero, hf]
  simp only [List.getElem?_toArray, List.getElem?_map]
  cases hx : fl[f]? with
  | none => rfl
  | some p => exact hl.mem p (List.mem_of_getElem? hx)
theorem leads_sum {fl : List (Func × List Nat)} (hf : P.funcs = (fl.map (·.1)).toArray) (hl : Each (LeadOk P) fl) : (P.funcs.toList.map fun g => (P.leadsTo g).length + 1).sum = (fl.map fun p => p.2.length + 1).sum := by
  rw [hf]
  simp only [List.map_map]
  congr 1
  apply List.map_congr_left
  intro p hp
  show (P.leadsTo p.1).length + 1 = p.2.length + 1
  rw [show P.leadsTo p.1 = p.2 from hl.mem p hp]
theorem closure_is {fl : List (Func × List Nat)} (hf : P.funcs = (fl.map (·.1)).toArray) (hl : Each (LeadOk P) fl) {tab : Tr (List Nat)} (ht : Tr.ofListFrom (fl.map (·.2)) 0 .leaf = tab) {n : Nat} {f : FuncId} {r : List Nat}
    (h : clo tab n [f] 0 [] = some r) (hn : Nat.ble n (1 + (fl.map fun p => p.2.length + 1).sum) = true) : P.closure f = r.reverse := by
  unfold Program.closure
  rw [leads_sum hf hl]
  exact clo_sound (leads_tab hf hl ht) n _ _ _ _ _ h (Nat.le_of_ble_eq_true hn) SeenOk.nil

theorem funcs_tab {fl : List (Func × List Nat)} (hf : P.funcs = (fl.map (·.1)).toArray) {TF : Tr Func} (ht : Tr.ofListFrom (fl.map (·.1)) 0 .leaf = TF) (f : FuncId) : P.funcs[f]? = TF.get (pos f) := by
  rw [← ht, Tr.get_ofList _ 0 .leaf f (fun _ _ => rfl), if_neg (by omega), Nat.sub_zero, hf]
  simp

theorem and_t {a b : Bool} (h1 : a = true) (h2 : b = true) : (a && b) = true := by rw [h1, h2]; rfl
theorem all_range {p : Nat → Bool} {n : Nat} (ls : List (Nat × Nat)) (h : Each (fun q => (List.range' q.1 q.2).all p = true) ls) (hc : ∀ t, t < n → ∃ q ∈ ls, q.1 ≤ t ∧ t < q.1 + q.2) : (List.range n).all p = true := by
  rw [List.all_eq_true]
  intro t ht
  obtain ⟨q, hq, h1, h2⟩ := hc t (List.mem_range.1 ht)
  have := List.all_eq_true.1 (h.mem q hq) t
  exact this (by rw [List.mem_range'_1]; exact ⟨h1, h2⟩)
end
end Go.Ab
