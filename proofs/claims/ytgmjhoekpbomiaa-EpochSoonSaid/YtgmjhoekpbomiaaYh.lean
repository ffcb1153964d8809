/- Epoch: IndexFunc over what waits, walked. -/
import Derived.Test.YtgmjhoekpbomiaaYe
namespace Go.Proofs.Ytgmjhoekpbomiaa
open Go.RowKit

def OldIx (B : Nat) (w0 : World) (Bw bP bI : Nat) (ep by_ : Int) (tv wv : Value) (ths : List Int) (W F : List (Int × Int)) (L' : List Ent) (w' : World) (e : Ending) : Prop :=
  (e = .returned (.int .i64 (-1)) ∧ (∀ x ∈ W, eold (ep - 1) x = false) ∧ ∃ fv', Mem B w0 w' (ownE Bw bP bI ep by_ tv wv fv' ths W F ++ L')) ∨
  (∃ (i : Nat) (x : Int × Int), W[i]? = some x ∧ eold (ep - 1) x = true ∧ (∀ y ∈ W.take i, eold (ep - 1) y = false) ∧ e = .returned (.int .i64 i) ∧ ∃ fv', Mem B w0 w' (ownE Bw bP bI ep by_ tv wv fv' ths W (F ++ [(x.1, by_)]) ++ L'))
set_option maxRecDepth 100000 in
set_option maxHeartbeats 1000000 in
theorem oldIx_any (B : Nat) (w0 w : World) (Bw bP bI : Nat) (ep by_ : Int) (tv wv fv : Value) (ths : List Int) (W F : List (Int × Int)) (L' : List Ent) (hM : Mem B w0 w (ownE Bw bP bI ep by_ tv wv fv ths W F ++ L')) (hep : 0 ≤ ep ∧ ep ≤ 1000) (hF : F.length ≤ 500) (hW : W.length ≤ 100) :
    Calls Try.prog 54 #[wv, .func (.func 38) #[] #[.pointer (some ⟨bP, 0, none⟩), .pointer (some ⟨bI, 0, none⟩)]] w fun e w' => OldIx B w0 Bw bP bI ep by_ tv wv ths W F L' w' e := by
  obtain ⟨aw, cw, rfl, _⟩ := (hM.isTup 2 rfl encF_len (by omega)).slice
  have HM0 := Lib.hid hM
  clear hM
  go_enter Try.func54, Try.ntmps54
  go_wp2
  go_loopw [8] (fun i wr => ∃ (k : Nat) (fv : Value), k ≤ W.length ∧ i = .int .i64 k ∧ (∀ y ∈ W.take k, eold (ep - 1) y = false) ∧ Mem B w0 wr (ownE Bw bP bI ep by_ tv (.slice aw W.length cw) fv ths W F ++ L')) (fun i _ => W.length - (intOf i).toNat)
  case atStart => exact ⟨0, fv, Nat.zero_le _, rfl, by simp, HM0.out⟩
  case round =>
    clear HM0
    obtain ⟨k, fv, hk, rfl, hN, hM⟩ := hrel
    by_cases hlt : k < W.length
    · obtain ⟨x, hx⟩ := get_some _ _ hlt
      obtain ⟨b, off, cap2, hv, _, hn, hcells⟩ := (hM.isTup 2 rfl encF_len (by omega)).at (Below.refl _ _) hx
      cases hv
      have h1 := hcells 0 _ rfl
      have h2 := hcells 1 _ rfl
      rw [Nat.add_zero] at h1
      have hcl := old1_any B w0 wr Bw bP bI ep by_ tv _ fv ths W F L' x hM hep (by omega)
      obtain ⟨t, ht⟩ : ∃ t, eold (ep - 1) x = t := ⟨_, rfl⟩
      have hof : oldF ep by_ x = if t = true then [(x.1, by_)] else [] := by unfold oldF; rw [ht]
      rw [ht, hof] at hcl
      have HS := Lib.hid (take_succ_some _ _ _ hx)
      have HX := Lib.hid hx
      have HN := Lib.hid hN
      have Ht := Lib.hid ht
      have Hcl := Lib.hid hcl
      clear hx hN hcl ht hM hcells hof
      go_wp2_with fail
      refine Hcl.out.mono ?_
      rintro e w1 ⟨rfl, fv1, hM1⟩
      have HM1 := Lib.hid hM1
      clear hM1
      cases t with
      | false =>
        go_wp2
        go_roundw
        case rel =>
          refine ⟨k + 1, fv1, by omega, by go_num, fun y hy => ?_, HM1.out.cast (by simp)⟩
          rw [HS.out, List.mem_append] at hy
          rcases hy with h | h
          · exact HN.out y h
          · simp at h; subst h; exact Ht.out
        case measure => simp [intOf]; omega
      | true =>
        go_wp2
        go_ret
        exact .inr ⟨k, x, HX.out, Ht.out, HN.out, rfl, fv1, HM1.out⟩
    · obtain rfl : k = W.length := by omega
      rw [List.take_length] at hN
      have HN := Lib.hid hN
      have HM := Lib.hid hM
      clear hN hM
      go_wp2
      go_ret
      exact .inl ⟨rfl, HN.out, fv, HM.out⟩
end Go.Proofs.Ytgmjhoekpbomiaa
