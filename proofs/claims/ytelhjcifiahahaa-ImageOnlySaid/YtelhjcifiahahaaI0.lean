/- Graphs as bytes. Plain. -/
import Derived.Test.YtelhjcifiahahaaG0
namespace Go.Proofs.Ytelhjcifiahahaa

/-- A number of 64 bits as one without a sign. -/
def zz (n : Int) : Nat := if 0 ≤ n then (2 * n).toNat else (-2 * n - 1).toNat
/-- Seven bits a byte, the lowest first. -/
def numB (x : Nat) : List Nat := if h : x < 128 then [x] else (x % 128 + 128) :: numB (x / 128)
termination_by x
decreasing_by omega
theorem numB_lt {x : Nat} (h : x < 128) : numB x = [x] := by rw [numB, dif_pos h]
theorem numB_ge {x : Nat} (h : ¬ x < 128) : numB x = (x % 128 + 128) :: numB (x / 128) := by rw [numB, dif_neg h]
theorem numB_byte : ∀ (x : Nat), ∀ b ∈ numB x, b < 256 := by
  intro x
  induction x using Nat.strongRecOn with
  | ind x ih =>
    intro b hb
    by_cases h : x < 128
    · rw [numB_lt h] at hb; simp at hb; omega
    · rw [numB_ge h] at hb
      rcases List.mem_cons.1 hb with rfl | hb
      · omega
      · exact ih (x / 128) (by omega) b hb
theorem numB_pos (x : Nat) : 0 < (numB x).length := by
  by_cases h : x < 128
  · rw [numB_lt h]; simp
  · rw [numB_ge h]; simp
theorem numB_len : ∀ (k x : Nat), x < 128 ^ (k + 1) → (numB x).length ≤ k + 1
  | 0, x, h => by rw [numB_lt (by simpa using h)]; simp
  | k + 1, x, h => by
    by_cases hx : x < 128
    · rw [numB_lt hx]; simp
    · rw [numB_ge hx, List.length_cons]
      have := numB_len k (x / 128) (by rw [Nat.div_lt_iff_lt_mul (by decide)]; rw [Nat.pow_succ] at h; exact h)
      omega
theorem zz_lt {n : Int} (h : i64ok n) : zz n < 18446744073709551616 := by unfold zz; unfold i64ok at h; split <;> omega
theorem num_len {n : Int} (h : i64ok n) : (numB (zz n)).length ≤ 10 := numB_len 9 _ (Nat.lt_of_lt_of_le (zz_lt h) (by decide))
def valB (v : V) : List Nat := (if v.ref then 1 else 0) :: numB (zz v.n)
def listB {α : Type} (f : α → List Nat) (l : List α) : List Nat := numB (zz l.length) ++ l.flatMap f
def objB (o : List V) : List Nat := listB valB o
def bodyB (g : G) : List Nat := listB valB g.roots ++ listB objB g.objs
/-- The sums from behind. -/
def s0 : List Nat → Nat
  | [] => 0
  | b :: l => (s0 l + b) % 65521
def a0 : List Nat → Nat
  | [] => 0
  | b :: l => (a0 l + s0 (b :: l)) % 65521
theorem s0_lt : ∀ l, s0 l < 65521
  | [] => by decide
  | _ :: _ => Nat.mod_lt _ (by decide)
theorem a0_lt : ∀ l, a0 l < 65521
  | [] => by decide
  | _ :: _ => Nat.mod_lt _ (by decide)
def sumB (b : List Nat) : List Nat := [a0 b % 256, a0 b / 256]
def graphB (g : G) : List Nat := bodyB g ++ sumB (bodyB g)
theorem flatMap_len {α : Type} (f : α → List Nat) (c : Nat) : ∀ (l : List α), (∀ x ∈ l, (f x).length ≤ c) → (l.flatMap f).length ≤ l.length * c
  | [], _ => by simp
  | x :: l, h => by
    rw [List.flatMap_cons, List.length_append, List.length_cons, Nat.add_mul]
    have h1 := h x List.mem_cons_self
    have h2 := flatMap_len f c l fun y hy => h y (List.mem_cons_of_mem _ hy)
    omega
theorem i64_len {α : Type} {l : List α} (h : l.length ≤ 1000000) : i64ok (l.length : Int) := by unfold i64ok; omega
theorem listB_len {α : Type} (f : α → List Nat) (c : Nat) (l : List α) (h : ∀ x ∈ l, (f x).length ≤ c) (hl : l.length ≤ 1000000) : (listB f l).length ≤ 10 + l.length * c := by
  unfold listB
  rw [List.length_append]
  have h1 := num_len (i64_len hl)
  have h2 := flatMap_len f c l h
  omega
theorem valB_len {v : V} (h : i64ok v.n) : (valB v).length ≤ 11 := by
  have := num_len h; unfold valB; simp; exact this
theorem listB_byte {α : Type} {f : α → List Nat} {l : List α} (h : ∀ x ∈ l, ∀ b ∈ f x, b < 256) : ∀ b ∈ listB f l, b < 256 := by
  intro b hb
  rcases List.mem_append.1 hb with hb | hb
  · exact numB_byte _ b hb
  · obtain ⟨x, hx, hb⟩ := List.mem_flatMap.1 hb
    exact h x hx b hb
theorem valB_byte (v : V) : ∀ b ∈ valB v, b < 256 := by
  intro b hb
  rcases List.mem_cons.1 hb with rfl | hb
  · split <;> omega
  · exact numB_byte _ b hb
theorem bodyB_byte (g : G) : ∀ b ∈ bodyB g, b < 256 := by
  intro b hb
  rcases List.mem_append.1 hb with hb | hb
  · exact listB_byte (fun x _ => valB_byte x) b hb
  · exact listB_byte (fun o _ => listB_byte fun x _ => valB_byte x) b hb
theorem graphB_byte (g : G) : ∀ b ∈ graphB g, b < 256 := by
  intro b hb
  rcases List.mem_append.1 hb with hb | hb
  · exact bodyB_byte g b hb
  · have := a0_lt (bodyB g)
    unfold sumB at hb
    simp only [List.mem_cons, List.not_mem_nil, or_false] at hb
    rcases hb with rfl | rfl <;> omega
theorem body_pos (g : G) : 2 ≤ (bodyB g).length := by
  unfold bodyB listB
  simp only [List.length_append]
  have := numB_pos (zz g.roots.length)
  have := numB_pos (zz g.objs.length)
  omega
theorem body_len {g : G} (hr : g.roots.length ≤ 8) (ho : g.objs.length ≤ 24) (hf : ∀ o ∈ g.objs, o.length ≤ 4) (hn : ∀ v ∈ allV g, i64ok v.n) : (bodyB g).length ≤ 2000 := by
  unfold bodyB
  rw [List.length_append]
  have h1 := listB_len valB 11 g.roots (fun v hv => valB_len (hn v (List.mem_append_left _ hv))) (by omega)
  have h2 := listB_len objB 54 g.objs (fun o ho2 => by
    have h3 := listB_len valB 11 o (fun v hv => valB_len (hn v (List.mem_append_right _ (List.mem_flatten.2 ⟨o, ho2, hv⟩)))) (by have := hf o ho2; omega)
    have := hf o ho2
    unfold objB
    omega) (by omega)
  omega
/-! One byte turned. -/
def sI : List Nat → Int
  | [] => 0
  | b :: l => sI l + b
def aI : List Nat → Int
  | [] => 0
  | b :: l => aI l + sI (b :: l)
theorem s0_is : ∀ l, (s0 l : Int) = sI l % 65521
  | [] => by decide
  | b :: l => by have := s0_is l; unfold s0 sI; omega
theorem a0_is : ∀ l, (a0 l : Int) = aI l % 65521
  | [] => by decide
  | b :: l => by have := a0_is l; have := s0_is (b :: l); unfold a0 aI; omega
theorem sI_set : ∀ (l : List Nat) (i b x : Nat), l[i]? = some b → sI (l.set i x) = sI l + ((x : Int) - b)
  | [], i, b, x, h => by simp at h
  | y :: l, 0, b, x, h => by
    simp at h; subst h
    rw [List.set_cons_zero]; unfold sI; omega
  | y :: l, i + 1, b, x, h => by
    rw [List.set_cons_succ]
    have := sI_set l i b x (by simpa using h)
    unfold sI; omega
theorem aI_set : ∀ (l : List Nat) (i b x : Nat), l[i]? = some b → aI (l.set i x) = aI l + ((i : Int) + 1) * ((x : Int) - b)
  | [], i, b, x, h => by simp at h
  | y :: l, 0, b, x, h => by
    simp at h; subst h
    rw [List.set_cons_zero]; unfold aI sI; omega
  | y :: l, i + 1, b, x, h => by
    rw [List.set_cons_succ]
    have h1 := aI_set l i b x (by simpa using h)
    have h2 := sI_set (y :: l) (i + 1) b x h
    rw [List.set_cons_succ] at h2
    unfold aI
    rw [h1, h2]
    have : ((i + 1 : Nat) : Int) + 1 = ((i : Int) + 1) + 1 := by omega
    rw [this, Int.add_mul ((i : Int) + 1) 1]
    omega
theorem cop_all : ∀ d : Nat, d < 256 → d ≠ 0 → Nat.gcd 65521 d = 1 := by decide +kernel
theorem mul_no {k : Nat} {d : Int} (hk : 1 ≤ k) (hk2 : k < 65521) (hd : d ≠ 0) (hd1 : -256 < d) (hd2 : d < 256) : ((k : Int) * d) % 65521 ≠ 0 := by
  intro h
  have h1 : (65521 : Int) ∣ (k : Int) * d := Int.dvd_of_emod_eq_zero h
  have h2 : (65521 : Nat) ∣ k * d.natAbs := by
    have := Int.natAbs_dvd_natAbs.2 h1
    rwa [Int.natAbs_mul, Int.natAbs_natCast] at this
  have h3 : Nat.Coprime 65521 d.natAbs := cop_all d.natAbs (by omega) (by omega)
  have h4 := h3.dvd_of_dvd_mul_right h2
  exact absurd (Nat.le_of_dvd (by omega) h4) (by omega)
theorem turned_sum {l : List Nat} {i b x : Nat} (hl : l.length < 65521) (hb : l[i]? = some b) (h1 : b < 256) (h2 : x < 256) (hne : b ≠ x) : a0 (l.set i x) ≠ a0 l := by
  intro h
  have hi := (List.getElem?_eq_some_iff.1 hb).1
  have h3 := a0_is (l.set i x)
  have h4 := a0_is l
  rw [aI_set l i b x hb] at h3
  have h5 := mul_no (k := i + 1) (d := (x : Int) - b) (by omega) (by omega) (by omega) (by omega) (by omega)
  have h6 : ((i + 1 : Nat) : Int) = (i : Int) + 1 := by omega
  rw [h6] at h5
  obtain ⟨m, hm⟩ : ∃ m, ((i : Int) + 1) * ((x : Int) - b) = m := ⟨_, rfl⟩
  rw [hm] at h3 h5
  rw [h] at h3
  omega
end Go.Proofs.Ytelhjcifiahahaa
