/- Epoch: is a thread behind? walked. -/
import Derived.Test.YtgmjhoekpbomiaaYb
import Derived.Test.YtgmjhoekpbomiaaZf
namespace Go.Proofs.Ytgmjhoekpbomiaa
open Go.RowKit

def lag (ep e : Int) : Bool := decide (e ≠ -1 ∧ e ≠ ep)
theorem lag1_any (Bw bP : Nat) (ep x : Int) (w : World) (h1 : w.cell? ⟨bP, 0, none⟩ = some (.pointer (some ⟨Bw, 0, none⟩))) (h2 : w.cell? ⟨Bw, 0, none⟩ = some (.int .i64 ep)) :
    Calls Try.prog 36 #[.int .i64 x, .pointer (some ⟨bP, 0, none⟩)] w fun e w' => e = .returned (.bool (lag ep x)) ∧ Below w.heap.size w w' := by
  by_cases hx : x = -1
  · have e1 : (x != -1) = false := by simp [hx]
    have hl : lag ep x = false := by unfold lag; rw [decide_eq_false_iff_not]; exact fun h => h.1 hx
    rw [hl]
    clear hl hx
    go_enter Try.func36, Try.ntmps36
    go_wp2
    go_ret
    exact ⟨rfl, Below.refl _ _⟩
  · have e1 : (x != -1) = true := by simp [hx]
    obtain ⟨t, ht⟩ : ∃ t, lag ep x = t := ⟨_, rfl⟩
    have e2 : (x != ep) = t := by rw [← ht]; unfold lag; rw [Bool.eq_iff_iff, decide_eq_true_eq]; simp [hx]
    rw [ht]
    clear ht hx
    go_enter Try.func36, Try.ntmps36
    go_wp2
    go_ret
    exact ⟨rfl, Below.refl _ _⟩
def LagIx (ep : Int) (l : List Int) (w w' : World) (e : Ending) : Prop := ∃ i : Int, e = .returned (.int .i64 i) ∧ (0 ≤ i ↔ l.any (lag ep) = true) ∧ Below w.heap.size w w'
theorem lagIx_any (v : Value) (l : List Int) (Bw bP : Nat) (ep : Int) (w : World) (hv : IsInts w v l) (h1 : w.cell? ⟨bP, 0, none⟩ = some (.pointer (some ⟨Bw, 0, none⟩))) (h2 : w.cell? ⟨Bw, 0, none⟩ = some (.int .i64 ep)) (hb : Bw < w.heap.size) (hp : bP < w.heap.size) :
    Calls Try.prog 53 #[v, .func (.func 36) #[] #[.pointer (some ⟨bP, 0, none⟩)]] w fun e w' => LagIx ep l w w' e := by
  have Hv := Lib.hid hv
  obtain ⟨a, cap, rfl, hl⟩ := hv.slice
  have H1 := Lib.hid h1
  have H2 := Lib.hid h2
  clear hv h1 h2
  go_enter Try.func53, Try.ntmps53
  go_wp2
  go_loopw [8] (fun i wr => ∃ k : Nat, k ≤ l.length ∧ i = .int .i64 k ∧ (∀ x ∈ l.take k, lag ep x = false) ∧ Below w.heap.size w wr) (fun i _ => l.length - (intOf i).toNat)
  case atStart => exact ⟨0, Nat.zero_le _, rfl, by simp, Below.refl _ _⟩
  case round =>
    obtain ⟨k, hk, rfl, hN, hB⟩ := hrel
    have HB := Lib.hid hB
    by_cases hlt : k < l.length
    · obtain ⟨g, hg⟩ := get_some _ _ hlt
      obtain ⟨b, off, cap2, hv, _, hn, c1, _⟩ := Hv.out.at hB hg
      cases hv
      have hcl := lag1_any Bw bP ep g wr ((hB.cell (p := ⟨_, _, none⟩) hp).trans H1.out) ((hB.cell (p := ⟨_, _, none⟩) hb).trans H2.out)
      obtain ⟨t, ht⟩ : ∃ t, lag ep g = t := ⟨_, rfl⟩
      rw [ht] at hcl
      have HS := Lib.hid (take_succ_some _ _ _ hg)
      have Hg := Lib.hid (List.mem_of_getElem? hg)
      have HN := Lib.hid hN
      have Ht := Lib.hid ht
      have Hcl := Lib.hid hcl
      clear hg hN hcl ht hB
      go_wp2_with fail
      refine Hcl.out.mono ?_
      rintro e w1 ⟨rfl, hb1⟩
      have HB1 := Lib.hid (HB.out.trans (hb1.mono HB.out.size))
      clear hb1
      cases t with
      | false =>
        go_wp2
        go_roundw
        case rel =>
          refine ⟨k + 1, by omega, by go_num, fun x hx => ?_, HB1.out⟩
          rw [HS.out, List.mem_append] at hx
          rcases hx with h | h
          · exact HN.out x h
          · simp at h; subst h; exact Ht.out
        case measure => simp [intOf]; omega
      | true =>
        have Hm : Hid (l.any (lag ep) = true) := Lib.hid (List.any_eq_true.2 ⟨_, Hg.out, Ht.out⟩)
        go_wp2
        go_ret
        exact ⟨k, rfl, ⟨fun _ => Hm.out, fun _ => by omega⟩, HB1.out⟩
    · obtain rfl : k = l.length := by omega
      rw [List.take_length] at hN
      have HN := Lib.hid hN
      clear hN hB
      go_wp2
      go_ret
      exact ⟨-1, rfl, ⟨fun h => by omega, fun h => by obtain ⟨x, hx, h2⟩ := List.any_eq_true.1 h; rw [HN.out x hx] at h2; cases h2⟩, HB.out⟩
theorem lagCo_any (v : Value) (l : List Int) (Bw bP : Nat) (ep : Int) (w : World) (hv : IsInts w v l) (h1 : w.cell? ⟨bP, 0, none⟩ = some (.pointer (some ⟨Bw, 0, none⟩))) (h2 : w.cell? ⟨Bw, 0, none⟩ = some (.int .i64 ep)) (hb : Bw < w.heap.size) (hp : bP < w.heap.size) :
    Calls Try.prog 35 #[v, .func (.func 36) #[] #[.pointer (some ⟨bP, 0, none⟩)]] w fun e w' => e = .returned (.bool (l.any (lag ep))) ∧ Below w.heap.size w w' := by
  have H := Lib.hid (lagIx_any v l Bw bP ep w hv h1 h2 hb hp)
  obtain ⟨t, htt⟩ : ∃ t, l.any (lag ep) = t := ⟨_, rfl⟩
  rw [htt]
  have Htt := Lib.hid htt
  clear hv h1 h2 htt
  go_enter Try.func35, Try.ntmps35
  go_wp2_with fail
  refine H.out.mono ?_
  rintro e w1 ⟨i, rfl, hi, hb1⟩
  have Hb1 := Lib.hid hb1
  clear hb1
  rw [Htt.out] at hi
  cases t with
  | true =>
    have h0 : 0 ≤ i := hi.2 rfl
    clear hi
    go_wp2
    go_ret
    exact ⟨by simp <;> omega, Hb1.out⟩
  | false =>
    have h0 : ¬ 0 ≤ i := fun h => by cases hi.1 h
    clear hi
    go_wp2
    go_ret
    exact ⟨by simp <;> omega, Hb1.out⟩
end Go.Proofs.Ytgmjhoekpbomiaa
