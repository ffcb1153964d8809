/- How many are made. Plain. -/
import Derived.Test.YtmmcjjklmcfegaaU3
namespace Go.Proofs.Ytmmcjjklmcfegaa

theorem ikd_len (s : Sm Unit) (d : Dd) : (iKd.step s d).1.os.length = s.os.length + if d.kind = 1 ∧ (iKd.step s d).2.code = 0 then 1 else 0 := by
  unfold Kd.step
  split
  · rename_i hw
    rw [if_neg (fun h => hw h.2)]; rfl
  · split
    · rename_i e1
      show (s.os ++ [_]).length = _
      rw [if_pos ⟨e1, rfl⟩]; simp
    · rename_i e1
      have h0 : ∀ c : Int, (if d.kind = 1 ∧ c = 0 then 1 else 0 : Nat) = 0 := fun c => if_neg (fun h => e1 h.1)
      split
      · rw [h0]; rfl
      · split
        · rw [h0]; rfl
        · split
          · split
            · rw [h0]; rfl
            · rw [h0]; show (s.os.set _ _).length = _; rw [List.length_set]; rfl
          · split
            · split
              · rw [h0]; rfl
              · rw [h0]; rfl
            · split
              · rw [h0]; rfl
              · rw [h0]; rfl
theorem Tells.len {X : Type} {st : Sm X → Dd → Sm X × Ot} {W : Int → Bool} {s : Sm X} {d : Dd} (h : Tells st W s d) (hW : W 1 = false) : (st s d).1.os.length = s.os.length + if d.kind = 1 ∧ (st s d).2.code = 0 then 1 else 0 := by
  by_cases h1 : W d.kind = true ∨ (st s d).2.code = 6
  · have := (h.own h1).len
    rw [if_neg]
    · exact this
    · rintro ⟨h2, h3⟩
      rcases h1 with h1 | h1
      · rw [h2, hW] at h1; cases h1
      · rw [h3] at h1; cases h1
  · have h2 : W d.kind = false := by
      cases hc : W d.kind with
      | true => exact absurd (.inl hc) h1
      | false => rfl
    obtain ⟨h3, h4⟩ := h.pure_ h2 (fun e => h1 (.inr e))
    rw [h3]
    exact h4.len.trans (ikd_len (bare s) d)
theorem runs_made {X : Type} (st : Sm X → Dd → Sm X × Ot) (W : Int → Bool) (hW : W 1 = false) (s0 : Sm X) (ds : List Dd) (hT : ∀ k d, ds[k]? = some d → Tells st W (runs st s0 (ds.take k)).1 d) :
    ∀ k, k ≤ ds.length → (runs st s0 (ds.take k)).1.os.length = s0.os.length + madeN (ds.take k) (runs st s0 (ds.take k)).2 := by
  intro k
  induction k with
  | zero => intro _; rfl
  | succ k ih =>
    intro hk
    have h1 := ih (by omega)
    obtain ⟨d, hd⟩ : ∃ d, ds[k]? = some d := ⟨ds[k]'(by omega), List.getElem?_eq_getElem (by omega)⟩
    have h2 := (hT k d hd).len hW
    rw [take_succ_some _ _ _ hd, runs_snoc]
    obtain ⟨S, hS⟩ : ∃ S, runs st s0 (ds.take k) = S := ⟨_, rfl⟩
    have hl : (ds.take k).length = S.2.length := by rw [← hS, runs_len]
    rw [hS] at h1 h2 ⊢
    simp only
    rw [h2, h1]
    unfold madeN
    rw [List.zip_append hl, List.countP_append]
    simp only [List.zip_cons_cons, List.zip_nil_right, List.countP_cons, List.countP_nil, Nat.zero_add, Bool.and_eq_true, decide_eq_true_eq]
    omega
/-- What is told of the front is the front of what is told. -/
theorem runs_front {X : Type} (st : Sm X → Dd → Sm X × Ot) (s0 : Sm X) (ds : List Dd) (n : Nat) : (runs st s0 (ds.take n)).2 <+: (runs st s0 ds).2 := by
  have h := runs_append st s0 (ds.take n) (ds.drop n)
  rw [List.take_append_drop] at h
  rw [h]
  exact List.prefix_append _ _
end Go.Proofs.Ytmmcjjklmcfegaa
