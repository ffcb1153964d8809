/- Sweep: the plain law. -/
import Derived.Test.YtigdpdndnghldaaAa
namespace Go.Proofs.Ytigdpdndnghldaa

def markB (n : Int) : Bool := n / 256 % 2 == 1
def sweep1 (l : List (Int × Int)) (at_ : Nat) (o : Ob) : List (Int × Int) :=
  if markB o.1 = true then l
  else match l[l.length - 1]? with
    | some p => if p.1 + p.2 = at_ then l.set (l.length - 1) (p.1, p.2 + (1 + (o.2.length : Int))) else l ++ [((at_ : Int), 1 + (o.2.length : Int))]
    | none => l ++ [((at_ : Int), 1 + (o.2.length : Int))]
def swpR : List Ob → List (Int × Int)
  | [] => []
  | o :: r => sweep1 (swpR r) (flat r.reverse).length o
def swp (os : List Ob) : List (Int × Int) := swpR os.reverse
theorem swp_snoc (os : List Ob) (o : Ob) : swp (os ++ [o]) = sweep1 (swp os) (flat os).length o := by
  unfold swp
  rw [List.reverse_append, List.reverse_singleton, List.singleton_append, swpR, List.reverse_reverse]
def sumL (l : List (Int × Int)) : Int := (l.map (·.2)).sum
def sumM (os : List Ob) : Int := (os.map fun o => if markB o.1 = true then 1 + (o.2.length : Int) else 0).sum
structure SwInv (os : List Ob) (l : List (Int × Int)) : Prop where
  each : ∀ p ∈ l, 1 ≤ p.2 ∧ 0 ≤ p.1 ∧ p.1 + p.2 ≤ (flat os).length
  rise : ∀ (i : Nat) (p q : Int × Int), l[i]? = some p → l[i + 1]? = some q → p.1 + p.2 < q.1
  all : sumL l + sumM os = (flat os).length
  few : l.length ≤ os.length
theorem sumL_append (l m : List (Int × Int)) : sumL (l ++ m) = sumL l + sumL m := by unfold sumL; rw [List.map_append, List.sum_append]
theorem sumM_append (l m : List Ob) : sumM (l ++ m) = sumM l + sumM m := by unfold sumM; rw [List.map_append, List.sum_append]
theorem sumL_set : ∀ (l : List (Int × Int)) (i : Nat) (p : Int × Int) (x : Int), l[i]? = some p → sumL (l.set i (p.1, p.2 + x)) = sumL l + x
  | [], i, p, x, h => by simp at h
  | q :: l, 0, p, x, h => by
    simp at h; subst h
    simp [sumL]; omega
  | q :: l, i + 1, p, x, h => by
    have := sumL_set l i p x (by simpa using h)
    simp [sumL] at this ⊢
    omega
theorem SwInv.nil : SwInv [] [] := ⟨by simp, by simp, by simp [sumL, sumM, flat], by simp⟩
theorem SwInv.snoc {os : List Ob} {l : List (Int × Int)} (h : SwInv os l) (o : Ob) : SwInv (os ++ [o]) (sweep1 l (flat os).length o) := by
  have hf : (flat (os ++ [o])).length = (flat os).length + 1 + o.2.length := by rw [flat_append, List.length_append, flat_one, List.length_cons]; omega
  have hs : sumM (os ++ [o]) = sumM os + if markB o.1 = true then 1 + (o.2.length : Int) else 0 := by rw [sumM_append]; simp [sumM]
  have he : ∀ p ∈ l, 1 ≤ p.2 ∧ 0 ≤ p.1 ∧ p.1 + p.2 ≤ ((flat (os ++ [o])).length : Int) := by
    intro p hp
    have := h.each p hp
    rw [hf]; omega
  have hal := h.all
  unfold sweep1
  by_cases hm : markB o.1 = true
  · rw [if_pos hm] at hs ⊢
    refine ⟨he, h.rise, ?_, ?_⟩
    · rw [hs, hf]; omega
    · rw [List.length_append]; have := h.few; omega
  · rw [if_neg hm] at hs ⊢
    have happ : (∀ p, l[l.length - 1]? = some p → p.1 + p.2 ≠ ((flat os).length : Int)) → SwInv (os ++ [o]) (l ++ [(((flat os).length : Int), 1 + (o.2.length : Int))]) := by
      intro hne
      refine ⟨?_, ?_, ?_, ?_⟩
      · intro p hp
        rcases List.mem_append.1 hp with hp | hp
        · exact he p hp
        · simp at hp; subst hp; rw [hf]; simp only; omega
      · intro i p q hp hq
        by_cases hi : i + 1 < l.length
        · rw [List.getElem?_append_left (by omega)] at hp
          rw [List.getElem?_append_left hi] at hq
          exact h.rise i p q hp hq
        · have hql := (List.getElem?_eq_some_iff.1 hq).1
          rw [List.length_append, List.length_singleton] at hql
          have hil : i = l.length - 1 := by omega
          rw [List.getElem?_append_left (by omega)] at hp
          rw [List.getElem?_append_right (by omega), show i + 1 - l.length = 0 by omega] at hq
          simp at hq; subst hq
          have h1 := hne p (by rw [← hil]; exact hp)
          have h2 := h.each p (List.mem_of_getElem? hp)
          simp only; omega
      · rw [sumL_append, hs, hf]; simp [sumL]; unfold sumL at hal; omega
      · rw [List.length_append, List.length_append]; have := h.few; simp; omega
    cases hg : l[l.length - 1]? with
    | none => exact happ (fun p hp => by rw [hg] at hp; cases hp)
    | some p =>
      simp only
      by_cases hp : p.1 + p.2 = ((flat os).length : Int)
      · rw [if_pos hp]
        have hl := (List.getElem?_eq_some_iff.1 hg).1
        refine ⟨?_, ?_, ?_, ?_⟩
        · intro q hq
          rcases List.mem_or_eq_of_mem_set hq with hq | hq
          · exact he q hq
          · subst hq
            have := h.each p (List.mem_of_getElem? hg)
            rw [hf]; simp only; omega
        · intro i a b ha hb
          have hib := (List.getElem?_eq_some_iff.1 hb).1
          rw [List.length_set] at hib
          rw [List.getElem?_set_ne (by omega)] at ha
          by_cases hi : i + 1 = l.length - 1
          · rw [← hi, List.getElem?_set_self (by omega)] at hb
            cases hb
            exact h.rise i a p ha (by rw [hi]; exact hg)
          · rw [List.getElem?_set_ne (by omega)] at hb
            exact h.rise i a b ha hb
        · rw [sumL_set l _ p _ hg, hs, hf]; omega
        · rw [List.length_set, List.length_append]; have := h.few; omega
      · rw [if_neg hp]
        exact happ (fun q hq => by rw [hg] at hq; cases hq; exact hp)
theorem swp_inv : ∀ os : List Ob, SwInv os (swp os) := by
  suffices h : ∀ (n : Nat) (os : List Ob), os.length = n → SwInv os (swp os) from fun os => h _ os rfl
  intro n
  induction n with
  | zero => intro os h; rw [List.eq_nil_of_length_eq_zero h]; exact SwInv.nil
  | succ n ih =>
    intro os h
    obtain ⟨pre, o, rfl⟩ : ∃ pre o, os = pre ++ [o] := by
      have hne : os ≠ [] := by rintro rfl; simp at h
      exact ⟨os.dropLast, os.getLast hne, (List.dropLast_concat_getLast hne).symm⟩
    rw [swp_snoc]
    exact (ih pre (by simpa using h)).snoc o
end Go.Proofs.Ytigdpdndnghldaa
