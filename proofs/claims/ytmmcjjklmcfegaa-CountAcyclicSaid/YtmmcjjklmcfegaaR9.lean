/- A memory that counts is a memory. -/
import Derived.Test.YtmmcjjklmcfegaaR7
import Derived.Test.YtmmcjjklmcfegaaR8
namespace Go.Proofs.Ytmmcjjklmcfegaa
open Go.RowKit Go.Shelf
def IsC (bx bm : Nat) (room : Int) (os : Os) (x : Cx) (L : List Ent) : Prop := ∃ vo cs vc vg, conts cs = os ∧
  L = ebox bm #[vo, .pointer (some ⟨bx, 0, none⟩), vc, .int .i64 room, .int .i64 (alive os : Int), vg] 99 :: rowP vo cs :: rowI 3 vc x.cs :: rowI 3 vg x.gone :: objsE cs
def cMv (bm : Nat) : Value := .iface 96 (.pointer (some ⟨bm, 0, none⟩))
section
variable {B : Nat} {w0 : World} {bx bm : Nat} {regs : List V} {mv : Value} {room : Int}
theorem cm_of {s : Sm Cx} {L T : List Ent} {w : World} (h : IsC bx bm room s.os s.x L) (hM : HoldsM B w0 bx regs mv L T w) : CM B w0 bx regs mv bm room (toC s) T w := by
  obtain ⟨vo, cs, vc, vg, h1, rfl⟩ := h
  exact ⟨vo, cs, vc, vg, h1, hM⟩
theorem cm_to {c : Cst} {T : List Ent} {w : World} (h : CM B w0 bx regs mv bm room c T w) : ∃ L, IsC bx bm room c.os ⟨c.cs, c.gone⟩ L ∧ HoldsM B w0 bx regs mv L T w := by
  obtain ⟨vo, cs, vc, vg, h1, h2⟩ := h
  exact ⟨_, ⟨vo, cs, vc, vg, h1, rfl⟩, h2⟩
end
set_option maxRecDepth 100000 in
theorem cLen (k bm : Nat) (vo : Value) (w : World) (h : w.cell? ⟨bm, 0, none⟩ = some vo) :
    (method (k + 1) 96 (.pointer (some ⟨bm, 0, none⟩)) "Len").run Try.prog w = .ok (154, vo) w :=
  method_in (S := 99) (X := 74) (E := 101) (by kernel_rfl) (fun _ _ => by kernel_rfl) Try.underlying74 (fun _ => by kernel_rfl) k bm vo w h
set_option maxRecDepth 100000 in
theorem cGet (k bm : Nat) (vo : Value) (w : World) (h : w.cell? ⟨bm, 0, none⟩ = some vo) :
    (method (k + 1) 96 (.pointer (some ⟨bm, 0, none⟩)) "Get").run Try.prog w = .ok (152, vo) w :=
  method_in (S := 99) (X := 74) (E := 101) (by kernel_rfl) (fun _ _ => by kernel_rfl) Try.underlying74 (fun _ => by kernel_rfl) k bm vo w h
theorem cNew (k bm : Nat) (w : World) :
    (method (k + 1) 96 (.pointer (some ⟨bm, 0, none⟩)) "New").run Try.prog w = .ok (158, .pointer (some ⟨bm, 0, none⟩)) w := by kernel_rfl
theorem cPut (k bm : Nat) (w : World) :
    (method (k + 1) 96 (.pointer (some ⟨bm, 0, none⟩)) "Put").run Try.prog w = .ok (159, .pointer (some ⟨bm, 0, none⟩)) w := by kernel_rfl
theorem cHold (k bm : Nat) (w : World) :
    (method (k + 1) 96 (.pointer (some ⟨bm, 0, none⟩)) "Hold").run Try.prog w = .ok (157, .pointer (some ⟨bm, 0, none⟩)) w := by kernel_rfl
theorem small_of {s : Sm Cx} (h : InvK s) : Small (toC s) := ⟨fun x hx => by have := h.bnd x hx; omega, by have := h.room; have := h.len; show s.x.gone.length + alive s.os ≤ 2000; omega, fun i l hl => by have := h.fine.flen i l hl; omega⟩
set_option maxRecDepth 100000 in
theorem cface (B : Nat) (w0 : World) (bx bm : Nat) (room : Int) : Face (cKd room) (IsC bx bm room) InvK B w0 bx (cMv bm) := by
  refine ⟨fun s h => h.fine, fun s v u hI => hI.fld, ?_, fun s i k u => rfl, fun s r u => rfl, ?_, ?_, ?_, ?_, ?_, ?_, ?_⟩
  · intro s n
    unfold cKd
    simp only
    split <;> rfl
  · rintro s L i hI ⟨vo, cs, vc, vg, hc, rfl⟩ hi
    rw [← hc] at hi
    obtain ⟨o, ho, hl⟩ := lives_cs hi
    rw [hc] at hl
    refine ⟨96, _, vo, 154, rfl, fun _ _ => rfl, fun T w h => ?_⟩
    have hM : Mem B w0 w (cA bx s.regs (cMv bm) bm room (alive s.os) vo cs vc s.x.cs vg s.x.gone ++ (objsE cs ++ T)) := h
    refine ⟨fun k => cLen k bm vo w (hM.cell 1 rfl 0), ?_⟩
    have := olen_any B w0 w _ 2 5 vo cs hM (oAt_of (A := cA bx s.regs (cMv bm) bm room (alive s.os) vo cs vc s.x.cs vg s.x.gone) rfl) i.toNat o ho
    rw [hl, Int.toNat_of_nonneg hi.1] at this
    exact this
  · rintro s L i k u hI ⟨vo, cs, vc, vg, hc, rfl⟩ hi hu
    rw [← hc] at hi
    obtain ⟨o, ho, hl⟩ := lives_cs hi
    rw [hc] at hl
    refine ⟨96, _, vo, 152, rfl, fun _ _ => rfl, fun T w h => ?_⟩
    have hM : Mem B w0 w (cA bx s.regs (cMv bm) bm room (alive s.os) vo cs vc s.x.cs vg s.x.gone ++ (objsE cs ++ T)) := h
    refine ⟨fun k => cGet k bm vo w (hM.cell 1 rfl 0), ?_⟩
    have := oget_any B w0 w _ 2 5 vo cs hM (oAt_of (A := cA bx s.regs (cMv bm) bm room (alive s.os) vo cs vc s.x.cs vg s.x.gone) rfl) i.toNat o ho k u (by rw [hl]; exact hu)
    rw [Int.toNat_of_nonneg hi.1] at this
    exact this
  · intro s L i k u hI hL hi hk hu
    refine ⟨96, _, _, 159, rfl, fun _ _ => rfl, fun T w h => ⟨fun k => cPut k bm w, ?_⟩⟩
    have hi' := Int.toNat_of_nonneg hi.1
    have hp := cput_any B w0 bx s.regs (cMv bm) bm room T w (toC s) i.toNat k u (by rw [hi']; exact hi) (by rw [hi']; exact hk) hu.1 hI.inv (small_of hI) hI.bnd (cm_of hL h)
    rw [hi'] at hp
    refine hp.mono ?_
    rintro e w' ⟨rfl, h2⟩
    exact ⟨rfl, cm_to h2⟩
  · intro s L r u hI hL hr hu
    refine ⟨96, _, _, 157, rfl, fun _ _ => rfl, fun T w h => ⟨fun k => cHold k bm w, ?_⟩⟩
    refine (chold_any B w0 bx s.regs (cMv bm) bm room T w (toC s) r u hI.fine.regs8 hr hu.1 hI.inv (small_of hI) hI.bnd (cm_of hL h)).mono ?_
    rintro e w' ⟨rfl, h2⟩
    exact ⟨rfl, cm_to h2⟩
  · intro s L n hI hL hn he
    have hr : room ≤ (alive s.os : Int) := by
      unfold cKd at he
      simp only at he
      split at he
      · assumption
      · cases he
    refine ⟨96, _, _, 158, rfl, fun _ _ => rfl, fun T w h => ⟨fun k => cNew k bm w, ?_⟩⟩
    refine (cnew_any B w0 bx s.regs (cMv bm) bm room T w (toC s) n hn (by have := hI.len; show s.os.length ≤ 1000; omega) hI.inv.len (cm_of hL h)).mono ?_
    intro e w' h2
    obtain ⟨h3, h4⟩ := h2.1 hr
    refine ⟨h3, ?_⟩
    have e1 : ((cKd room).new s n).1 = s := by unfold cKd; simp only; rw [if_pos hr]
    rw [e1]
    exact cm_to h4
  · intro s L n o hI hL hn he
    have hr : ¬ room ≤ (alive s.os : Int) := by
      intro hr
      unfold cKd at he
      simp only at he
      rw [if_pos hr] at he; cases he
    have e1 : (cKd room).new s n = (⟨s.regs, s.os ++ [some (zerosV n)], ⟨s.x.cs ++ [0], s.x.gone⟩⟩, some (s.os.length : Int)) := by unfold cKd; simp only; rw [if_neg hr]
    rw [e1] at he ⊢
    cases he
    refine ⟨96, _, _, 158, rfl, fun _ _ => rfl, fun T w h => ⟨fun k => cNew k bm w, ?_⟩⟩
    refine (cnew_any B w0 bx s.regs (cMv bm) bm room T w (toC s) n hn (by have := hI.len; show s.os.length ≤ 1000; omega) hI.inv.len (cm_of hL h)).mono ?_
    intro e w' h2
    obtain ⟨h3, h4⟩ := h2.2 hr
    exact ⟨h3, cm_to h4⟩
  · intro s n o L1 r hI hn he hL hr8
    have hr : ¬ room ≤ (alive s.os : Int) := by
      intro hr
      unfold cKd at he
      simp only at he
      rw [if_pos hr] at he; cases he
    have e1 : (cKd room).new s n = (⟨s.regs, s.os ++ [some (zerosV n)], ⟨s.x.cs ++ [0], s.x.gone⟩⟩, some (s.os.length : Int)) := by unfold cKd; simp only; rw [if_neg hr]
    rw [e1] at he hL ⊢
    cases he
    refine ⟨96, _, _, 157, rfl, fun _ _ => rfl, fun T w h => ⟨fun k => cHold k bm w, ?_⟩⟩
    have hb2 : ∀ x ∈ s.x.cs ++ [0], x ≤ 100000 := by
      intro x hx
      rw [List.mem_append, List.mem_singleton] at hx
      rcases hx with hx | rfl
      · exact hI.bnd x hx
      · decide
    have hsm : Small (toC ⟨s.regs, s.os ++ [some (zerosV n)], ⟨s.x.cs ++ [0], s.x.gone⟩⟩) := by
      refine ⟨fun x hx => by have := hb2 x hx; omega, ?_, fun i l hl => ?_⟩
      · have h1 := (small_of hI).room
        have h2 := hI.room
        have h3 := hI.len
        have h4 : alive (s.os ++ [some (zerosV n)]) = alive s.os + 1 := by unfold alive; rw [List.countP_append]; simp
        show s.x.gone.length + alive (s.os ++ [some (zerosV n)]) ≤ 2000
        omega
      · have := (hI.fine.push hn).flen i l hl; omega
    refine (chold_any B w0 bx s.regs (cMv bm) bm room T w (toC ⟨s.regs, s.os ++ [some (zerosV n)], ⟨s.x.cs ++ [0], s.x.gone⟩⟩) r ⟨true, (s.os.length : Int)⟩ hI.fine.regs8 hr8 (fun _ => lives_new _ _) (hI.inv.new n) hsm hb2 (cm_of hL h)).mono ?_
    rintro e w' ⟨rfl, h2⟩
    exact ⟨rfl, cm_to h2⟩
end Go.Proofs.Ytmmcjjklmcfegaa
