/- Graphs out of bytes: the deferred closure, walked. -/
import Derived.Test.YtelhjcifiahahaaJ4
import Derived.Defers
import Derived.Recover
namespace Go.Proofs.Ytelhjcifiahahaa
open Go.RowKit

set_option maxRecDepth 100000 in
set_option maxHeartbeats 1000000 in
theorem catch_idle (bg bk : Nat) (w : World) :
    CallsD Try.prog 42 #[.pointer (some ⟨bg, 0, none⟩), .pointer (some ⟨bk, 0, none⟩)] .returning w fun e u' w' => e = .returned (.tuple #[]) ∧ u' = .returning ∧ w' = w := by
  refine callsD_of_wpS Try.func42 rfl fun c₀ cs hu => ?_
  simp only [Try.ntmps42, List.size_toArray, List.length_cons, List.length_nil, Nat.reduceAdd, Nat.reduceSub, Array.replicate_succ, Array.replicate_zero, List.push_toArray, List.append_toArray, List.nil_append, List.cons_append]
  apply wpS_seq
  apply wpS_region
  simp [wpOpsS, go_sem, recoverD, hu, Exit.thenS]
  refine wpS_of_wp ?_
  go_wp2
  cases c₀
  simp_all [bodyPostS, results, Try.results42]
set_option maxRecDepth 100000 in
set_option maxHeartbeats 1000000 in
theorem catch_panic (B : Nat) (w0 w : World) (bg bk : Nat) (k : Bool) (x y : Value) (L' : List Ent) (hM : Mem B w0 w (ebox bk #[.bool k] 4 :: ebox bg #[x, y] 25 :: L')) :
    CallsD Try.prog 42 #[.pointer (some ⟨bg, 0, none⟩), .pointer (some ⟨bk, 0, none⟩)] (.panicking [{ v := .iface 81 (.agg #[]), recovered := false }]) w
      fun e u' w' => e = .returned (.tuple #[]) ∧ u' = .panicking [{ v := .iface 81 (.agg #[]), recovered := true }] ∧ Mem B w0 w' (ebox bk #[.bool false] 4 :: ebox bg #[.slice none 0 0, .slice none 0 0] 25 :: L') := by
  have hta : ∀ w : World, (Instr.typeAssert (.iface 81 (.agg #[])) 20 81 true).run Try.prog w = .ok (.tuple #[.agg #[], .bool true]) w := fun w => by kernel_rfl
  have hMa := hM.alloc_ (.cells #[] 81)
  obtain ⟨W, hW⟩ : ∃ W, w.alloc (.cells #[] 81) = W := ⟨_, rfl⟩
  rw [hW] at hMa
  have c0 : W.cell? ⟨bk, 0, none⟩ = some (.bool k) := by have := hMa.cell 0 rfl 0; simpa using this
  have f0 : W.frozen? ⟨bk, 0, none⟩ = false := hMa.free 0 rfl 0
  have g0 : W.cell? ⟨bg, 0, none⟩ = some x := by have := hMa.cell 1 rfl 0; simpa using this
  have g1 : W.cell? ⟨bg, 1, none⟩ = some y := by have := hMa.cell 1 rfl 1; simpa using this
  have e0 : W.frozen? ⟨bg, 0, none⟩ = false := hMa.free 1 rfl 0
  have e1 : W.frozen? ⟨bg, 1, none⟩ = false := hMa.free 1 rfl 1
  have zk : bk < W.heap.size := (hMa.box 0 rfl).2.1
  have zg : bg < W.heap.size := (hMa.box 1 rfl).2.1
  have n1 : ¬ bk = bg := fun h => (Ent.apart_at hMa.apart (i := 0) (j := 1) (by decide) rfl rfl) bk rfl (by rw [h]; rfl)
  have n2 : ¬ bg = bk := fun h => n1 h.symm
  have HM := Lib.hid ((((hMa.setBox 1 rfl 0 (.slice none 0 0)).setBox 1 rfl 1 (.slice none 0 0)).setBox 0 rfl 0 (.bool false)))
  have HW := Lib.hid hW
  clear hM hMa hW
  refine callsD_of_wpS Try.func42 rfl fun c₀ cs hu => ?_
  simp only [Try.ntmps42, List.size_toArray, List.length_cons, List.length_nil, Nat.reduceAdd, Nat.reduceSub, Array.replicate_succ, Array.replicate_zero, List.push_toArray, List.append_toArray, List.nil_append, List.cons_append]
  apply wpS_seq
  apply wpS_region
  simp [wpOpsS, go_sem, recoverD, hu, Exit.thenS]
  refine wpS_of_wp ?_
  go_upto_region 3 with (fail)
  rw [HW.out]
  go_wp2
  refine ⟨rfl, _, rfl, .tuple #[], ?_, rfl, rfl, HM.out⟩
  simp [results, Try.results42, go_sem]
end Go.Proofs.Ytelhjcifiahahaa
