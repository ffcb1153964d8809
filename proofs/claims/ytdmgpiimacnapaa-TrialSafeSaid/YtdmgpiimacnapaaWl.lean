/- The plain law of WeakPlain. -/
import Derived.Test.YtdmgpiimacnapaaWi
import Derived.Test.YtdmgpiimacnapaaSo
namespace Go.Proofs.Ytdmgpiimacnapaa
open Go.RowKit Go.Shelf

theorem rise_ext : ∀ (l m : List Int), l.Pairwise (· < ·) → m.Pairwise (· < ·) → (∀ x, x ∈ l ↔ x ∈ m) → l = m
  | [], [], _, _, _ => rfl
  | [], b :: m, _, _, h => absurd ((h b).2 List.mem_cons_self) (by simp)
  | a :: l, [], _, _, h => absurd ((h a).1 List.mem_cons_self) (by simp)
  | a :: l, b :: m, hl, hm, h => by
    obtain ⟨hl1, hl2⟩ := List.pairwise_cons.1 hl
    obtain ⟨hm1, hm2⟩ := List.pairwise_cons.1 hm
    have e : a = b := by
      rcases List.mem_cons.1 ((h a).1 List.mem_cons_self) with h1 | h1
      · exact h1
      · rcases List.mem_cons.1 ((h b).2 List.mem_cons_self) with h2 | h2
        · exact h2.symm
        · have := hl1 b h2; have := hm1 a h1; omega
    subst e
    rw [rise_ext l m hl2 hm2 fun x => ⟨fun hx => ?_, fun hx => ?_⟩]
    · rcases List.mem_cons.1 ((h x).1 (List.mem_cons_of_mem _ hx)) with h1 | h1
      · have := hl1 x hx; omega
      · exact h1
    · rcases List.mem_cons.1 ((h x).2 (List.mem_cons_of_mem _ hx)) with h1 | h1
      · have := hm1 x hx; omega
      · exact h1
theorem sorted_lt {l : List Int} (h : l.Nodup) : (sorted l).Pairwise (· < ·) := by
  have h1 : (sorted l).Pairwise (· ≤ ·) := by
    have := List.pairwise_mergeSort (le := fun x y : Int => decide (x ≤ y)) (by intro a b c h1 h2; simp at *; omega) (by intro a b; simp; omega) l
    exact this.imp (by intro a b h; simpa using h)
  have h2 : (sorted l).Nodup := (List.mergeSort_perm l _).symm.nodup h
  exact List.Pairwise.imp₂ (fun a b (h1 : a ≤ b) (h2 : a ≠ b) => by omega) h1 h2
theorem of_targets {l : List V} {j : Int} (h : j ∈ targets l) : (⟨true, j⟩ : V) ∈ l := by
  unfold targets at h
  obtain ⟨⟨r, n⟩, hx, rfl⟩ := List.mem_map.1 h
  obtain ⟨h1, h2⟩ := List.mem_filter.1 hx
  obtain rfl : r = true := h2
  exact h1
theorem Far.leastS {g : G} {l dist : List Int} (h : Far g l dist) (S : Int → Prop) (hr : ∀ j ∈ targets g.roots, S j) (hc : ∀ i, S i → ∀ j ∈ targets (fieldsAt g i), S j) : ∀ y ∈ l, S y := by
  have key : ∀ (n : Nat) (y : Int), y ∈ l → D (l, dist) y = n → S y := by
    intro n
    induction n with
    | zero =>
      intro y hy hd
      rcases h.par y hy with ⟨h1, _⟩ | ⟨p, hp, _, h2⟩
      · exact hr y h1
      · have := (h.inv.found (h.inv.rng p hp)).2 hp
        omega
    | succ n ih =>
      intro y hy hd
      rcases h.par y hy with ⟨h1, _⟩ | ⟨p, hp, h1, h2⟩
      · exact hr y h1
      · exact hc p (ih p hp (by omega)) y h1
  intro y hy
  have := (h.inv.found (h.inv.rng y hy)).2 hy
  exact key (D (l, dist) y).toNat y hy (by omega)
theorem InStrong.zero {g : G} {n : Nat} {S : Int → Prop} {i : Int} {v : V} (h : v ∈ fieldsAt g i) : InStrong g (List.replicate n 0) S i v := .inl ⟨kindAt_zero _ _, h⟩
/-- Where all are plain, what is kept is what is found. -/
theorem WeakS.far {g : G} {n : Nat} {K : List Bool} (h : WeakS g (List.replicate n 0) K) {l dist : List Int} (hF : Far g l dist) : sorted l = listK K := by
  refine rise_ext _ _ (sorted_lt hF.inv.nodup) (listK_rising K) fun x => ?_
  rw [mem_sorted, mem_listK]
  constructor
  · intro hx
    refine hF.leastS (fun y => kp K y = true) (fun j hj => h.inv.root _ (of_targets hj) rfl) (fun i hi j hj => ?_) x hx
    exact h.keeps i _ hi (InStrong.zero (of_targets hj)) rfl
  · intro hx
    refine h.inv.least (fun y => y ∈ l) ?_ (fun v hv hr => (hF.root _ (mem_targets hv hr)).1) x hx
    intro i v hi hv hr
    exact (hF.closed i hi _ (mem_targets hv.field hr)).1
/-- .. and what the plain reading reaches. -/
theorem WeakS.reach {g : G} (hG : Good g) {n : Nat} {K : List Bool} (h : WeakS g (List.replicate n 0) K) {l : List Int} (hR : ReachR g l) : l = listK K := by
  have hv : ∀ v ∈ allV g, v.ref = true → ∃ j : Nat, v.n = (j : Int) ∧ j < g.objs.length := by
    intro v hv hr
    have := hG.target (l := [v]) (i := v.n) (by intro x hx; simp at hx; subst hx; exact hv) (mem_targets (List.mem_cons_self ..) hr)
    exact ⟨v.n.toNat, by omega, by omega⟩
  refine rise_ext _ _ hR.rising (listK_rising K) fun x => ?_
  constructor
  · intro hx
    have h0 := hR.rng x hx
    have := hR.sound x hx (fun y => (y : Int) ∈ listK K) ⟨fun j _ hj => mem_listK.2 (h.inv.root _ (refersB_iff.1 hj) rfl), fun i j _ _ hi hr => mem_listK.2 (h.keeps i _ (mem_listK.1 hi) (InStrong.zero (refersB_iff.1 hr)) rfl)⟩
    rwa [show ((x.toNat : Nat) : Int) = x by omega] at this
  · intro hx
    refine h.inv.least (fun y => y ∈ l) ?_ ?_ x (mem_listK.1 hx)
    · intro i v hi hv2 hr
      have h0 := hR.rng i hi
      obtain ⟨j, hj, hjl⟩ := hv v (fields_all g i v hv2.field) hr
      obtain ⟨k, rfl⟩ : ∃ k : Nat, i = (k : Int) := ⟨i.toNat, by omega⟩
      rw [hj]
      refine hR.closed.2 k j (by omega) hjl hi (refersB_iff.2 ?_)
      have := hv2.field
      obtain ⟨r, n2⟩ := v
      simp only at hr hj
      subst hr hj
      exact this
    · intro v hv2 hr
      obtain ⟨j, hj, hjl⟩ := hv v (roots_all g v hv2) hr
      rw [hj]
      refine hR.closed.1 j hjl (refersB_iff.2 ?_)
      obtain ⟨r, n2⟩ := v
      simp only at hr hj
      subst hr hj
      exact hv2
theorem kindOf_zeroG {g : G} (h : Good g) : KindOf g (List.replicate g.objs.length 0) := by
  refine ⟨h, by simp, ?_⟩
  intro x hx
  have := (List.mem_replicate.1 hx).2
  subst this
  exact ⟨by omega, by omega⟩
/-- weak.Kept, at any kinds. -/
def KeptEither (g : G) (ks : List Int) (w w' : World) (e : Ending) : Prop :=
  ∃ vl c L, e = .returned (.tuple #[vl, .int .i64 c]) ∧ IsInts w' vl L ∧ Below w.heap.size w w' ∧ ((c != 0) = true ∨ ((c != 0) = false ∧ ∃ K, WeakS g ks K ∧ L = listK K))
theorem kept_either (g : G) (v u : Value) (ks : List Int) (w : World) (hg : IsGraph w v g) (hroom : RoomG w v g) (hu : IsInts w u ks) :
    Calls Try.prog 21 #[v, u] w fun e w' => KeptEither g ks w w' e := by
  by_cases hk : KindOf g ks
  · refine (kept_reads g v u ks w hg hroom hu hk).mono ?_
    rintro e w1 ⟨vl, K, rfl, hW, hl, hb⟩
    exact ⟨vl, 0, _, rfl, hl, hb, .inr ⟨rfl, K, hW, rfl⟩⟩
  · refine (kept_no g v u ks w hg hu hk).mono ?_
    rintro e w1 ⟨⟨c, _, hc, rfl⟩, hb⟩
    exact ⟨_, c, [], rfl, ⟨none, 0, rfl, by simp, by simp⟩, hb, .inl hc⟩
end Go.Proofs.Ytdmgpiimacnapaa
