/- console.Queries gives back the fourteen queries in ascending order, whatever order the map is ranged over in. -/
import Derived.Test.YtbkigpopplepdaaGreatDoorEnv
open Go.Ab
namespace Go.Proofs.YtbkigpopplepdaaGreatDoor
noncomputable def bq : Code := cbody Tryz.f5
noncomputable def R0 : Code := cl bq
noncomputable def R1 : Code := cl (cr bq)
noncomputable def RL : Code := cl (cr (cr bq))
noncomputable def R2 : Code := cl RL
noncomputable def B : Code := clp (cblk (cr RL))
noncomputable def R3 : Code := cl B
noncomputable def R45 : Code := cblk (cr (cr B))
noncomputable def R4 : Code := cl R45
noncomputable def R5 : Code := cr R45
noncomputable def R67 : Code := cr (cr (cr bq))
noncomputable def R6 : Code := cl R67
noncomputable def R7 : Code := cl (cr R67)
theorem body5 : Tryz.f5.body = some (.seq R0 (.seq R1 (.seq (.seq R2 (.block 0 (.loop (.seq (.region (cid R3) #[cop R3 0, cop R3 1] false) (.seq (.cond (.tmp 7) .skip (.exit 0)) (.block 1 (.seq (.region (cid R4) #[cop R4 0, cop R4 1, cop R4 2] false) (.region (cid R5) #[cop R5 0, cop R5 1, cop R5 2, cop R5 3, cop R5 4] false)))))))) (.seq (.region (cid R6) #[cop R6 0, cop R6 1] false) (.seq (.region (cid R7) #[cop R7 0, cop R7 1] false) .ret))))) := by kernel_rfl
theorem i30 : Is (cop R3 0) (.next (.tmp 5) false) (some 6) := ⟨by kernel_rfl, by kernel_rfl, by kernel_rfl⟩
theorem i31 : Is (cop R3 1) (.extract (.tmp 6) 0) (some 7) := ⟨by kernel_rfl, by kernel_rfl, by kernel_rfl⟩
theorem i40 : Is (cop R4 0) (.entry (.tmp 5)) (some 8) := ⟨by kernel_rfl, by kernel_rfl, by kernel_rfl⟩
theorem i41 : Is (cop R4 1) (.extract (.tmp 8) 0) (some 9) := ⟨by kernel_rfl, by kernel_rfl, by kernel_rfl⟩
theorem i42 : Is (cop R4 2) (.assign (.tmp 9)) (some 2) := ⟨by kernel_rfl, by kernel_rfl, by kernel_rfl⟩
theorem i50 : Is (cop R5 0) (.move (.tmp 1)) (some 10) := ⟨by kernel_rfl, by kernel_rfl, by kernel_rfl⟩
theorem i51 : Is (cop R5 1) (.move (.tmp 2)) (some 11) := ⟨by kernel_rfl, by kernel_rfl, by kernel_rfl⟩
theorem i52 : Is (cop R5 2) (.buildSlice 33 1 #[(0, .tmp 11)]) (some 12) := ⟨by kernel_rfl, by kernel_rfl, by kernel_rfl⟩
theorem i53 : Is (cop R5 3) (.call ⟨.builtin .append, #[.tmp 10, .tmp 12], #[33, 33]⟩) (some 13) := ⟨by kernel_rfl, by kernel_rfl, by kernel_rfl⟩
theorem i54 : Is (cop R5 4) (.assign (.tmp 13)) (some 1) := ⟨by kernel_rfl, by kernel_rfl, by kernel_rfl⟩
theorem i60 : Is (cop R6 0) (.move (.tmp 1)) (some 14) := ⟨by kernel_rfl, by kernel_rfl, by kernel_rfl⟩
theorem i61 : Is (cop R6 1) (.call ⟨.value (.func 15), #[.tmp 14], #[33]⟩) (some 15) := ⟨by kernel_rfl, by kernel_rfl, by kernel_rfl⟩
theorem i70 : Is (cop R7 0) (.move (.tmp 1)) (some 16) := ⟨by kernel_rfl, by kernel_rfl, by kernel_rfl⟩
theorem i71 : Is (cop R7 1) (.assign (.tmp 16)) (some 0) := ⟨by kernel_rfl, by kernel_rfl, by kernel_rfl⟩
theorem ty : TyFacts E 9 33 := ⟨by kernel_rfl, by kernel_rfl, by kernel_rfl, by kernel_rfl⟩
noncomputable def qs : List (List UInt8) := [[99,97,108,108,115],[102,101,101,100,115],[108,105,110,101,97,114],[109,97,114,107,115],[111,114,100,101,114],[112,97,99,101],[114,101,115,116],[114,101,118,105,115,105,111,110,115],[115,97,102,101,116,121],[115,108,111,116,115],[115,110,97,112,115,104,111,116,115],[115,116,101,112,115],[116,101,120,116],[119,105,116,110,101,115,115]]
/-- the queries as the map was filled: calls text marks revisions order witness snapshots feeds linear safety pace slots steps rest -/
noncomputable def ks : List (List UInt8) := [[99,97,108,108,115],[116,101,120,116],[109,97,114,107,115],[114,101,118,105,115,105,111,110,115],[111,114,100,101,114],[119,105,116,110,101,115,115],[115,110,97,112,115,104,111,116,115],[102,101,101,100,115],[108,105,110,101,97,114],[115,97,102,101,116,121],[112,97,99,101],[115,108,111,116,115],[115,116,101,112,115],[114,101,115,116]]
theorem perm : ks.Perm qs := List.isPerm_iff.1 (by kernel_rfl)
theorem sorted : qs.Pairwise fun a b => leB a b = true := of_decide_eq_true (by kernel_rfl)
theorem pre_ok : preOk (self E (xSort 15) 200) 5 R0 R1 R2 ks = true := by kernel_rfl
theorem quer_of (h15 : Tryz.prog.funcs[15]? = some Tryz.f15) (hs : SortsStr Tryz.prog 15) : HookOK Tryz.prog (xQuer 5 9 qs) := by
  have hx : HookOK Tryz.prog (xSort 15) := xSort_ok hs fun args w => enters h15 (by kernel_rfl) (c := cbody Tryz.f15) (by kernel_rfl) args w
  obtain ⟨hC, hS, _⟩ := self_sound ok hx 200
  obtain ⟨t0, t1, t2, s0, s1, s2, ib, mb, since, clock, es, e0, e1, e2, g1, g5, gi, gm, hes, hk⟩ := pre_spec pre_ok
  exact quer_ok ok hC hS ty (fnQ := Tryz.f5) (by kernel_rfl) body5 (Nat.le_of_ble_eq_true (by kernel_rfl)) (by kernel_rfl) i30 i31 i40 i41 i42 i50 i51 i52 i53 i54 i60 i61 i70 i71 e0 e1 e2 g1 g5 gi gm hes (by rw [hk]; exact perm) sorted (by decide) (by decide)
    (fun b n c st r h => hook_call (n := 199) (xSort_at h))
end Go.Proofs.YtbkigpopplepdaaGreatDoor
