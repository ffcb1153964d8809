/- Graphs out of bytes: the next byte, walked. -/
import Derived.Test.YtelhjcifiahahaaI6
namespace Go.Proofs.Ytelhjcifiahahaa
open Go.RowKit

/-- What is left of the bytes: a slice with room behind it. -/
def IsRest (w : World) (v : Value) (l : List Nat) : Prop := ∃ b off cap, v = .slice (some ⟨b, off, none⟩) l.length cap ∧ l.length < cap ∧ IsTup 1 encY w v l ∧ ∀ x ∈ l, x < 256
theorem isTup_tail {w : World} {b off n cap m c2 x : Nat} {l : List Nat} (h : IsTup 1 encY w (.slice (some ⟨b, off, none⟩) n cap) (x :: l)) (hm : l.length = m) : IsTup 1 encY w (.slice (some ⟨b, off + 1, none⟩) m c2) l := by
  obtain ⟨a, cap', hv, hl, hc⟩ := h
  cases hv
  subst hm
  refine ⟨_, c2, rfl, by simp at hl; omega, fun k y hy => ?_⟩
  obtain ⟨b', off', ha, h1, h2⟩ := hc (k + 1) y (by simpa using hy)
  cases ha
  refine ⟨b, off + 1, rfl, h1, fun j u hu => ?_⟩
  have := h2 j u hu
  rw [show off + (k + 1) * 1 + j = off + 1 + k * 1 + j by omega] at this
  exact this
def Broke (e : Ending) : Prop := e = .panicked [{ v := .iface 81 (.agg #[]), recovered := false }]
def rdE (rb : Nat) (v : Value) : Ent := ebox rb #[v] 58
def NextSays (w0 w' : World) (rb : Nat) (L' : List Ent) (l : List Nat) (e : Ending) : Prop :=
  match l with
  | [] => Broke e ∧ ∃ v, Mem w0.heap.size w0 w' (rdE rb v :: L')
  | x :: l' => e = .returned (.int .u8 (x : Int)) ∧ ∃ v, IsRest w0 v l' ∧ Mem w0.heap.size w0 w' (rdE rb v :: L')
set_option maxRecDepth 100000 in
set_option maxHeartbeats 1000000 in
theorem next_any (w0 w : World) (rb : Nat) (v : Value) (l : List Nat) (L' : List Ent) (hM : Mem w0.heap.size w0 w (rdE rb v :: L')) (hR : IsRest w0 v l) :
    Calls Try.prog 54 #[.pointer (some ⟨rb, 0, none⟩)] w fun e w' => NextSays w0 w' rb L' l e := by
  obtain ⟨b, off, cap, rfl, hcap, hI, h256⟩ := hR
  have c0 : w.cell? ⟨rb, 0, none⟩ = some (.slice (some ⟨b, off, none⟩) l.length cap) := by have := hM.cell 0 rfl 0; simpa using this
  have f0 : w.frozen? ⟨rb, 0, none⟩ = false := hM.free 0 rfl 0
  have zr : rb < w.heap.size := (hM.box 0 rfl).2.1
  have HM := Lib.hid hM
  cases l with
  | nil =>
    simp only [List.length_nil] at c0
    clear hM hI hcap h256
    go_enter Try.func54, Try.ntmps54
    go_wp2
    exact ⟨rfl, rfl, _, HM.out⟩
  | cons x l' =>
    obtain ⟨b', off', cap2, hv, z1, z2, hc⟩ := hI.at hM.below (k := 0) (x := x) rfl
    cases hv
    have d0 := hc 0 _ rfl
    simp only [Nat.zero_mul, Nat.add_zero] at d0
    have HI := Lib.hid hI
    have H256 := Lib.hid h256
    obtain ⟨m, hm⟩ : ∃ m, l'.length = m := ⟨_, rfl⟩
    have Hm := Lib.hid hm
    simp only [List.length_cons, hm] at c0 hcap
    clear hM hI h256 hc hm
    go_enter Try.func54, Try.ntmps54
    go_wp2
    go_ret
    have hM2 := HM.out.setBox 0 rfl 0 (.slice (some ⟨b, off + 1, none⟩) m (cap - 1))
    refine ⟨rfl, _, ⟨b, off + 1, cap - 1, by rw [Hm.out], by rw [Hm.out]; omega, ?_, fun y hy => H256.out y (List.mem_cons_of_mem _ hy)⟩, hM2⟩
    exact isTup_tail HI.out (by rw [Hm.out])
end Go.Proofs.Ytelhjcifiahahaa
