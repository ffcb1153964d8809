/- What can be come to in the end: how many there are. Plain. -/
import Derived.Test.YtmmcjjklmcfegaaU0
import Derived.Test.YtmmcjjklmcfegaaM9
namespace Go.Proofs.Ytmmcjjklmcfegaa

theorem nodup_sub_le {α : Type} [DecidableEq α] : ∀ (l m : List α), l.Nodup → (∀ x ∈ l, x ∈ m) → l.length ≤ m.length := by
  intro l
  induction l with
  | nil => intro m _ _; simp
  | cons x l ih =>
    intro m hn hs
    rw [List.nodup_cons] at hn
    have hx := hs x (List.mem_cons_self ..)
    have h1 := ih (m.erase x) hn.2 (fun y hy => by
      rw [List.mem_erase_of_ne (by rintro rfl; exact hn.1 hy)]
      exact hs y (List.mem_cons_of_mem _ hy))
    rw [List.length_erase_of_mem hx] at h1
    have := List.length_pos_of_mem hx
    rw [List.length_cons]; omega
theorem mem_targets_iff' {l : List V} {x : Int} : x ∈ targets l ↔ ∃ v ∈ l, v.ref = true ∧ v.n = x := by
  unfold targets
  rw [List.mem_map]
  constructor
  · rintro ⟨v, hv, rfl⟩
    rw [List.mem_filter] at hv
    exact ⟨v, hv.1, hv.2, rfl⟩
  · rintro ⟨v, hv, hr, rfl⟩
    exact ⟨v, List.mem_filter.2 ⟨hv, hr⟩, rfl⟩
/-- What Found finds of a memory is what its registers lead to. -/
theorem found_leads {t : Sm Unit} (hI : InvI t) {l dist : List Int} (hF : FoundS (gOf t.regs t.os) l dist) (x : Int) : x ∈ l ↔ RchM t.regs t.os x := by
  have h := hF.farR hI.rng
  constructor
  · have key : ∀ (n : Nat) (y : Int), y ∈ l → D (l, dist) y = n → RchM t.regs t.os y := by
      intro n
      induction n with
      | zero =>
        intro y hy hd
        rcases h.par y hy with ⟨h1, _⟩ | ⟨p, hp, _, h2⟩
        · obtain ⟨v, hv, hr, rfl⟩ := mem_targets_iff'.1 h1
          exact .root hv hr
        · have := (h.inv.found (h.inv.rng p hp)).2 hp
          omega
      | succ n ih =>
        intro y hy hd
        rcases h.par y hy with ⟨h1, _⟩ | ⟨p, hp, h1, h2⟩
        · obtain ⟨v, hv, hr, rfl⟩ := mem_targets_iff'.1 h1
          exact .root hv hr
        · have h3 := ih p hp (by omega)
          obtain ⟨v, hv, hr, rfl⟩ := mem_targets_iff'.1 h1
          rw [fieldsAt_gOf] at hv
          exact .step h3 (hI.rch_lives h3).obj hv hr
    intro hx
    have h0 := (h.inv.found (h.inv.rng x hx)).2 hx
    exact key (D (l, dist) x).toNat x hx (by omega)
  · intro hx
    refine hx.least (P := (· ∈ l)) (fun v hv hr => (h.root _ (mem_targets_iff'.2 ⟨v, hv, hr, rfl⟩)).1) (fun i o hi ho v hv hr => (h.closed i hi _ (mem_targets_iff'.2 ⟨v, ?_, hr, rfl⟩)).1)
    rw [fieldsAt_gOf]
    have : objAt t.os i = o := by unfold objAt; rw [ho]; rfl
    rw [this]; exact hv
theorem rising_nodup {l : List Int} (h : l.Pairwise (· < ·)) : l.Nodup := h.imp fun hlt => by omega
/-- There are as many at least as can be come to. -/
theorem canon_le {a t : Sm Unit} (hK : Kin a t) (hI : InvI t) {c : G} (hc : CanonS (gOf t.regs t.os) c) : c.objs.length ≤ (thereL a.os a.os.length).length := by
  obtain ⟨l, dist, hF, rfl⟩ := hc
  have hfar := hF.farR hI.rng
  have e : (renum (gOf t.regs t.os) l).objs.length = l.length := by simp [renum]
  rw [e]
  refine nodup_sub_le l _ hfar.inv.nodup fun x hx => ?_
  have h1 := (found_leads hI hF x).1 hx
  have h2 := (hK.lives h1).2 (hI.rch_lives h1)
  exact (mem_thereL (Nat.le_refl _)).2 ⟨h2, by have := h2.lt; have := h2.1; omega⟩
/-- Just as many, if nothing else is there. -/
theorem canon_eq {a t : Sm Unit} (hK : Kin a t) (hI : InvI t) {c : G} (hc : CanonS (gOf t.regs t.os) c) (hall : ∀ x, Lives a.os x → RchM a.regs a.os x) : c.objs.length = (thereL a.os a.os.length).length := by
  refine Nat.le_antisymm (canon_le hK hI hc) ?_
  obtain ⟨l, dist, hF, rfl⟩ := hc
  have e : (renum (gOf t.regs t.os) l).objs.length = l.length := by simp [renum]
  rw [e]
  refine nodup_sub_le _ l (rising_nodup (thereL_rising _ _)) fun x hx => ?_
  have h2 := ((mem_thereL (Nat.le_refl _)).1 hx).1
  exact (found_leads hI hF x).2 (hK.rch.1 (hall x h2))
end Go.Proofs.Ytmmcjjklmcfegaa
