/- A memory with colours is a memory. -/
import Derived.Test.YtjnbnfmlpdnngaaC8
import Derived.Test.YtjnbnfmlpdnngaaC1
namespace Go.Proofs.Ytjnbnfmlpdnngaa
open Go.RowKit Go.Shelf
def IsT (bm : Nat) (bv : Value) (os : Os) (x : Tx) (L : List Ent) : Prop := ∃ vo cs vc vg, conts cs = os ∧
  L = ebox bm #[vo, bv, vc, vg] 81 :: rowP vo cs :: rowI 3 vc x.col :: rowI 3 vg x.gone :: objsE cs
def tMv (bm : Nat) : Value := .iface 75 (.pointer (some ⟨bm, 0, none⟩))
section
variable {B : Nat} {w0 : World} {bx bm : Nat} {regs : List V} {mv bv : Value}
theorem tm_of {os : Os} {x : Tx} {L T : List Ent} {w : World} (h : IsT bm bv os x L) (hM : HoldsM B w0 bx regs mv L T w) : TM B w0 bx regs mv bm bv os x T w := by
  obtain ⟨vo, cs, vc, vg, h1, rfl⟩ := h
  exact ⟨vo, cs, vc, vg, h1, hM⟩
theorem tm_to {os : Os} {x : Tx} {T : List Ent} {w : World} (h : TM B w0 bx regs mv bm bv os x T w) : ∃ L, IsT bm bv os x L ∧ HoldsM B w0 bx regs mv L T w := by
  obtain ⟨vo, cs, vc, vg, h1, h2⟩ := h
  exact ⟨_, ⟨vo, cs, vc, vg, h1, rfl⟩, h2⟩
end
set_option maxRecDepth 100000 in
theorem tLen (k bm : Nat) (vo : Value) (w : World) (h : w.cell? ⟨bm, 0, none⟩ = some vo) :
    (method (k + 1) 75 (.pointer (some ⟨bm, 0, none⟩)) "Len").run Try.prog w = .ok (128, vo) w :=
  method_in (S := 81) (X := 77) (E := 123) (by kernel_rfl) (fun _ _ => by kernel_rfl) Try.underlying77 (fun _ => by kernel_rfl) k bm vo w h
set_option maxRecDepth 100000 in
theorem tGet (k bm : Nat) (vo : Value) (w : World) (h : w.cell? ⟨bm, 0, none⟩ = some vo) :
    (method (k + 1) 75 (.pointer (some ⟨bm, 0, none⟩)) "Get").run Try.prog w = .ok (126, vo) w :=
  method_in (S := 81) (X := 77) (E := 123) (by kernel_rfl) (fun _ _ => by kernel_rfl) Try.underlying77 (fun _ => by kernel_rfl) k bm vo w h
theorem tNew (k bm : Nat) (w : World) :
    (method (k + 1) 75 (.pointer (some ⟨bm, 0, none⟩)) "New").run Try.prog w = .ok (129, .pointer (some ⟨bm, 0, none⟩)) w := by kernel_rfl
theorem tPut (k bm : Nat) (w : World) :
    (method (k + 1) 75 (.pointer (some ⟨bm, 0, none⟩)) "Put").run Try.prog w = .ok (130, .pointer (some ⟨bm, 0, none⟩)) w := by kernel_rfl
theorem tHold (k bm : Nat) (w : World) :
    (method (k + 1) 75 (.pointer (some ⟨bm, 0, none⟩)) "Hold").run Try.prog w = .ok (127, .pointer (some ⟨bm, 0, none⟩)) w := by kernel_rfl
set_option maxRecDepth 100000 in
theorem tface (B : Nat) (w0 : World) (bx bm : Nat) (bv : Value) (b : Int) (hB : BarAt bv b) : Face (tKd b) (IsT bm bv) (InvT b) B w0 bx (tMv bm) := by
  refine ⟨fun s h => h.fine, fun s v u hI => hI.fld, ?_, fun s i k u => rfl, fun s r u => rfl, ?_, ?_, ?_, ?_, ?_, ?_, ?_⟩
  · intro s n
    unfold tKd
    simp only
    split <;> rfl
  · rintro s L i hI ⟨vo, cs, vc, vg, hc, rfl⟩ hi
    rw [← hc] at hi
    obtain ⟨o, ho, hl⟩ := lives_cs hi
    rw [hc] at hl
    refine ⟨75, _, vo, 128, rfl, fun _ _ => rfl, fun T w h => ?_⟩
    have hM : Mem B w0 w (tA bx s.regs (tMv bm) bm bv vo cs vc s.x.col vg s.x.gone ++ (objsE cs ++ T)) := h
    refine ⟨fun k => tLen k bm vo w (hM.cell 1 rfl 0), ?_⟩
    have := olen_any B w0 w _ 2 5 vo cs hM (oAt_of (A := tA bx s.regs (tMv bm) bm bv vo cs vc s.x.col vg s.x.gone) rfl) i.toNat o ho
    rw [hl, Int.toNat_of_nonneg hi.1] at this
    exact this
  · rintro s L i k u hI ⟨vo, cs, vc, vg, hc, rfl⟩ hi hu
    rw [← hc] at hi
    obtain ⟨o, ho, hl⟩ := lives_cs hi
    rw [hc] at hl
    refine ⟨75, _, vo, 126, rfl, fun _ _ => rfl, fun T w h => ?_⟩
    have hM : Mem B w0 w (tA bx s.regs (tMv bm) bm bv vo cs vc s.x.col vg s.x.gone ++ (objsE cs ++ T)) := h
    refine ⟨fun k => tGet k bm vo w (hM.cell 1 rfl 0), ?_⟩
    have := oget_any B w0 w _ 2 5 vo cs hM (oAt_of (A := tA bx s.regs (tMv bm) bm bv vo cs vc s.x.col vg s.x.gone) rfl) i.toNat o ho k u (by rw [hl]; exact hu)
    rw [Int.toNat_of_nonneg hi.1] at this
    exact this
  · intro s L i k u hI hL hi hk hu
    refine ⟨75, _, _, 130, rfl, fun _ _ => rfl, fun T w h => ⟨fun k => tPut k bm w, ?_⟩⟩
    have hi' := Int.toNat_of_nonneg hi.1
    have hp := tput_any B w0 bx s.regs (tMv bm) bm bv b hB T w s.os s.x i.toNat k u (by rw [hi']; exact hi) (by rw [hi']; exact hk) hI.cl (by rw [hi']; exact fun v hv => hI.inr _ _ hi.obj v hv)
      (fun hr => by have h1 := hu.1 hr; have h2 := h1.lt; have h3 := h1.1; rw [hI.cl]; exact ⟨h3, by omega⟩) (tm_of hL h)
    rw [hi'] at hp
    refine hp.mono ?_
    rintro e w' ⟨rfl, h2⟩
    exact ⟨rfl, tm_to h2⟩
  · intro s L r u hI hL hr hu
    refine ⟨75, _, _, 127, rfl, fun _ _ => rfl, fun T w h => ⟨fun k => tHold k bm w, ?_⟩⟩
    refine (thold_any B w0 bx s.regs (tMv bm) bm bv T w s.os s.x r u (tm_of hL h)).mono ?_
    rintro e w' ⟨rfl, h2⟩
    exact ⟨rfl, tm_to h2⟩
  · intro s L n hI hL hn he
    have hr : 24 ≤ (thereL s.os s.os.length).length := by
      unfold tKd at he
      simp only at he
      split at he
      · assumption
      · cases he
    refine ⟨75, _, _, 129, rfl, fun _ _ => rfl, fun T w h => ⟨fun k => tNew k bm w, ?_⟩⟩
    refine (tnew_any B w0 bx s.regs (tMv bm) bm bv T w s.os s.x n hn (by have := hI.len; omega) hI.cl (tm_of hL h)).mono ?_
    intro e w' h2
    obtain ⟨h3, h4⟩ := h2.1 hr
    refine ⟨h3, ?_⟩
    have e1 : ((tKd b).new s n).1 = s := by unfold tKd; simp only; rw [if_pos hr]
    rw [e1]
    exact tm_to h4
  · intro s L n o hI hL hn he
    have hr : ¬ 24 ≤ (thereL s.os s.os.length).length := by
      intro hr
      unfold tKd at he
      simp only at he
      rw [if_pos hr] at he; cases he
    have e1 : (tKd b).new s n = (⟨s.regs, s.os ++ [some (zerosV n)], ⟨s.x.col ++ [2], s.x.gone⟩⟩, some (s.os.length : Int)) := by unfold tKd; simp only; rw [if_neg hr]
    rw [e1] at he ⊢
    cases he
    refine ⟨75, _, _, 129, rfl, fun _ _ => rfl, fun T w h => ⟨fun k => tNew k bm w, ?_⟩⟩
    refine (tnew_any B w0 bx s.regs (tMv bm) bm bv T w s.os s.x n hn (by have := hI.len; omega) hI.cl (tm_of hL h)).mono ?_
    intro e w' h2
    obtain ⟨h3, h4⟩ := h2.2 hr
    exact ⟨h3, tm_to h4⟩
  · intro s n o L1 r hI hn he hL hr8
    have hr : ¬ 24 ≤ (thereL s.os s.os.length).length := by
      intro hr
      unfold tKd at he
      simp only at he
      rw [if_pos hr] at he; cases he
    have e1 : (tKd b).new s n = (⟨s.regs, s.os ++ [some (zerosV n)], ⟨s.x.col ++ [2], s.x.gone⟩⟩, some (s.os.length : Int)) := by unfold tKd; simp only; rw [if_neg hr]
    rw [e1] at he hL ⊢
    cases he
    refine ⟨75, _, _, 127, rfl, fun _ _ => rfl, fun T w h => ⟨fun k => tHold k bm w, ?_⟩⟩
    refine (thold_any B w0 bx s.regs (tMv bm) bm bv T w (s.os ++ [some (zerosV n)]) ⟨s.x.col ++ [2], s.x.gone⟩ r ⟨true, (s.os.length : Int)⟩ (tm_of hL h)).mono ?_
    rintro e w' ⟨rfl, h2⟩
    exact ⟨rfl, tm_to h2⟩
end Go.Proofs.Ytjnbnfmlpdnngaa
