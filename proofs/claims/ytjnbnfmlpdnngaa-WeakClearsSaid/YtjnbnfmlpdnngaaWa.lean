/- The plain law of weak: what is kept. -/
import Derived.Test.YtjnbnfmlpdnngaaPv
namespace Go.Proofs.Ytjnbnfmlpdnngaa
open Go.RowKit Go.Shelf

/-- Is an object kept? -/
def kp (K : List Bool) (i : Int) : Bool := decide (0 ≤ i) && K.getD i.toNat false
def aliveB (K : List Bool) (v : V) : Bool := !v.ref || kp K v.n
def kindAt (ks : List Int) (i : Int) : Int := ks.getD i.toNat 0
/-- The fields of an object that keep, by now. -/
def strongL (g : G) (ks : List Int) (K : List Bool) (i : Int) : List V :=
  if kindAt ks i = 0 then fieldsAt g i
  else if kindAt ks i = 2 then (match fieldsAt g i with | [] => [] | f :: fs => if aliveB K f then fs else [])
  else []
/-- .. by a set. -/
def InStrong (g : G) (ks : List Int) (S : Int → Prop) (i : Int) (v : V) : Prop :=
  (kindAt ks i = 0 ∧ v ∈ fieldsAt g i) ∨ (kindAt ks i = 2 ∧ ∃ f fs, fieldsAt g i = f :: fs ∧ (f.ref = true → S f.n) ∧ v ∈ fs)
theorem mem_strong {g : G} {ks : List Int} {K : List Bool} {i : Int} {v : V} : v ∈ strongL g ks K i ↔ InStrong g ks (fun j => kp K j = true) i v := by
  unfold strongL InStrong
  by_cases h0 : kindAt ks i = 0
  · rw [if_pos h0]
    constructor
    · intro h; exact .inl ⟨h0, h⟩
    · rintro (⟨_, h⟩ | ⟨h, _⟩)
      · exact h
      · omega
  · rw [if_neg h0]
    by_cases h2 : kindAt ks i = 2
    · rw [if_pos h2]
      cases hf : fieldsAt g i with
      | nil =>
        constructor
        · intro h; cases h
        · rintro (⟨h, _⟩ | ⟨_, f, fs, h, _⟩)
          · exact (h0 h).elim
          · cases h
      | cons f fs =>
        by_cases ha : aliveB K f = true
        · simp only [ha, if_true]
          have ha2 : f.ref = true → kp K f.n = true := by
            intro hr; simpa [aliveB, hr] using ha
          constructor
          · intro h; exact .inr ⟨h2, f, fs, rfl, ha2, h⟩
          · rintro (⟨h, _⟩ | ⟨_, f', fs', h, _, hm⟩)
            · exact (h0 h).elim
            · cases h; exact hm
        · have ha3 : aliveB K f = false := by simpa using ha
          simp only [ha3, Bool.false_eq_true, if_false]
          constructor
          · intro h; cases h
          · rintro (⟨h, _⟩ | ⟨_, f', fs', h, hk, hm⟩)
            · exact (h0 h).elim
            · cases h
              exact (ha (by
                unfold aliveB
                cases hr : f.ref with
                | false => rfl
                | true => simp [hk hr])).elim
    · rw [if_neg h2]
      constructor
      · intro h; cases h
      · rintro (⟨h, _⟩ | ⟨h, _⟩)
        · exact (h0 h).elim
        · exact (h2 h).elim
theorem InStrong.mono {g : G} {ks : List Int} {S S' : Int → Prop} {i : Int} {v : V} (h : InStrong g ks S i v) (hS : ∀ j, S j → S' j) : InStrong g ks S' i v := by
  rcases h with h | ⟨h1, f, fs, h2, h3, h4⟩
  · exact .inl h
  · exact .inr ⟨h1, f, fs, h2, fun hr => hS _ (h3 hr), h4⟩
theorem InStrong.field {g : G} {ks : List Int} {S : Int → Prop} {i : Int} {v : V} (h : InStrong g ks S i v) : v ∈ fieldsAt g i := by
  rcases h with ⟨_, h⟩ | ⟨_, f, fs, h2, _, h4⟩
  · exact h
  · rw [h2]; exact List.mem_cons_of_mem _ h4
/-- A set that has all to which fields of its own that keep are references. -/
def Keeps (g : G) (ks : List Int) (S : Int → Prop) : Prop := ∀ i v, S i → InStrong g ks S i v → v.ref = true → S v.n
def Sub (K : List Bool) (S : Int → Prop) : Prop := ∀ j, kp K j = true → S j
def cnt (K : List Bool) : Nat := K.countP (fun b => b)
/-- What a walk from some values on does. -/
structure KeepS (g : G) (ks : List Int) (K K' : List Bool) (vs : List V) (more : Bool) : Prop where
  len : K'.length = K.length
  sub : Sub K (fun j => kp K' j = true)
  has : ∀ v ∈ vs, v.ref = true → kp K' v.n = true
  least : ∀ S, Keeps g ks S → Sub K S → (∀ v ∈ vs, v.ref = true → S v.n) → Sub K' S
  no : more = false → K' = K
  yes : more = true → cnt K < cnt K'
theorem KeepS.nil (g : G) (ks : List Int) (K : List Bool) : KeepS g ks K K [] false := ⟨rfl, fun _ h => h, by simp, fun _ _ h _ => h, fun _ => rfl, fun h => by cases h⟩
theorem kp_set (K : List Bool) {i : Nat} (hi : i < K.length) (j : Int) : kp (K.set i true) j = (kp K j || decide (j = (i : Int))) := by
  unfold kp
  rw [List.getD_eq_getElem?_getD, List.getD_eq_getElem?_getD, List.getElem?_set]
  by_cases h0 : 0 ≤ j
  · by_cases h : i = j.toNat
    · have h2 : j = (i : Int) := by omega
      rw [if_pos h, if_pos (h ▸ hi)]
      simp [h2]
    · have h2 : ¬ j = (i : Int) := by omega
      rw [if_neg h]; simp [h2]
  · have h2 : ¬ j = (i : Int) := by omega
    simp [h0, h2]
theorem cnt_set (K : List Bool) {i : Nat} (hi : K[i]? = some false) : cnt (K.set i true) = cnt K + 1 := by
  unfold cnt
  obtain ⟨hl, he⟩ := List.getElem?_eq_some_iff.1 hi
  rw [List.countP_set hl, he]
  have : K.countP (fun b => b) ≥ 0 := Nat.zero_le _
  simp
/-- One value more whose object is kept already, or that is none. -/
theorem KeepS.skip {g : G} {ks : List Int} {K K' : List Bool} {vs : List V} {more : Bool} (h : KeepS g ks K K' vs more) (v : V) (hv : v.ref = true → kp K' v.n = true) : KeepS g ks K K' (vs ++ [v]) more := by
  refine ⟨h.len, h.sub, ?_, fun S hS hK hvs => h.least S hS hK (fun u hu => hvs u (List.mem_append_left _ hu)), h.no, h.yes⟩
  intro u hu hr
  rcases List.mem_append.1 hu with hu | hu
  · exact h.has u hu hr
  · obtain rfl := List.mem_singleton.1 hu; exact hv hr
/-- One more whose object is kept now, with all that it keeps. -/
theorem KeepS.take {g : G} {ks : List Int} {K K1 K3 : List Bool} {vs : List V} {more more2 : Bool} (h : KeepS g ks K K1 vs more) {i : Nat} (hi : K1[i]? = some false)
    (h2 : KeepS g ks (K1.set i true) K3 (strongL g ks (K1.set i true) i) more2) : KeepS g ks K K3 (vs ++ [⟨true, (i : Int)⟩]) true := by
  have hl := (List.getElem?_eq_some_iff.1 hi).1
  have s12 : ∀ j, kp K1 j = true → kp (K1.set i true) j = true := fun j hj => by rw [kp_set K1 hl, hj]; rfl
  have hi2 : kp (K1.set i true) (i : Int) = true := by rw [kp_set K1 hl]; simp
  have hc : cnt K1 < cnt K3 := by
    have h3 := cnt_set K1 hi
    cases hm : more2 with
    | false => rw [h2.no hm, h3]; omega
    | true => have := h2.yes hm; omega
  refine ⟨by rw [h2.len, List.length_set, h.len], fun j hj => h2.sub j (s12 j (h.sub j hj)), ?_, ?_, (fun e => by cases e), ?_⟩
  · intro u hu hr
    rcases List.mem_append.1 hu with hu | hu
    · exact h2.sub _ (s12 _ (h.has u hu hr))
    · obtain rfl := List.mem_singleton.1 hu; exact h2.sub _ hi2
  · intro S hS hK hvs
    have hSi : S (i : Int) := hvs ⟨true, (i : Int)⟩ (by simp) rfl
    have h1S := h.least S hS hK (fun u hu => hvs u (List.mem_append_left _ hu))
    have h2S : Sub (K1.set i true) S := by
      intro j hj
      rw [kp_set K1 hl] at hj
      rcases Bool.or_eq_true_iff.1 hj with hj | hj
      · exact h1S j hj
      · have hj2 : j = (i : Int) := by simpa using hj
        rw [hj2]; exact hSi
    refine h2.least S hS h2S ?_
    intro u hu hr
    exact hS (i : Int) u hSi ((mem_strong.1 hu).mono h2S) hr
  · intro _
    cases hm : more with
    | false => rw [← h.no hm]; exact hc
    | true => have := h.yes hm; omega
theorem cnt_le (K : List Bool) : cnt K ≤ K.length := List.countP_le_length
/-- What is known while pairs are looked at again and again. -/
structure OpenInv (g : G) (ks : List Int) (K : List Bool) : Prop where
  len : K.length = g.objs.length
  root : ∀ v ∈ g.roots, v.ref = true → kp K v.n = true
  least : ∀ S, Keeps g ks S → (∀ v ∈ g.roots, v.ref = true → S v.n) → Sub K S
theorem OpenInv.start {g : G} {ks : List Int} {K : List Bool} {more : Bool} (h : KeepS g ks (List.replicate g.objs.length false) K g.roots more) : OpenInv g ks K := by
  refine ⟨by rw [h.len, List.length_replicate], h.has, fun S hS hr => h.least S hS ?_ hr⟩
  intro j hj
  unfold kp at hj
  rw [List.getD_eq_getElem?_getD, List.getElem?_replicate] at hj
  split at hj <;> simp at hj
theorem OpenInv.step {g : G} {ks : List Int} {K K' : List Bool} {i : Int} {more : Bool} (h : OpenInv g ks K) (hi : kp K i = true) (hk : KeepS g ks K K' (strongL g ks K i) more) : OpenInv g ks K' := by
  refine ⟨by rw [hk.len, h.len], fun v hv hr => hk.sub _ (h.root v hv hr), fun S hS hr => ?_⟩
  have hs := h.least S hS hr
  exact hk.least S hS hs (fun v hv hvr => hS i v (hs i hi) ((mem_strong.1 hv).mono hs) hvr)
/-- One pass over all objects. -/
structure PassInv (g : G) (ks : List Int) (K0 K : List Bool) (i : Nat) (more : Bool) : Prop where
  inv : OpenInv g ks K
  no : more = false → K = K0 ∧ ∀ j : Nat, j < i → kp K (j : Int) = true → ∀ v ∈ strongL g ks K j, v.ref = true → kp K v.n = true
  yes : more = true → cnt K0 < cnt K
theorem PassInv.start {g : G} {ks : List Int} {K : List Bool} (h : OpenInv g ks K) : PassInv g ks K K 0 false := ⟨h, fun _ => ⟨rfl, fun _ h => absurd h (Nat.not_lt_zero _)⟩, fun h => by cases h⟩
theorem PassInv.skip {g : G} {ks : List Int} {K0 K : List Bool} {i : Nat} {more : Bool} (h : PassInv g ks K0 K i more) (hi : kp K (i : Int) = false) : PassInv g ks K0 K (i + 1) more := by
  refine ⟨h.inv, fun hm => ⟨(h.no hm).1, fun j hj hk => ?_⟩, h.yes⟩
  rcases Nat.lt_or_ge j i with h1 | h1
  · exact (h.no hm).2 j h1 hk
  · obtain rfl : j = i := by omega
    rw [hi] at hk; cases hk
theorem PassInv.some {g : G} {ks : List Int} {K0 K K' : List Bool} {i : Nat} {more : Bool} (h : PassInv g ks K0 K i more) (hi : kp K (i : Int) = true) (hk : KeepS g ks K K' (strongL g ks K i) true) : PassInv g ks K0 K' (i + 1) true := by
  refine ⟨h.inv.step hi hk, fun h => (by cases h), fun _ => ?_⟩
  have h2 := hk.yes rfl
  cases hm : more with
  | false => rw [← (h.no hm).1]; exact h2
  | true => have := h.yes hm; omega
theorem PassInv.none {g : G} {ks : List Int} {K0 K K' : List Bool} {i : Nat} {more : Bool} (h : PassInv g ks K0 K i more) (hk : KeepS g ks K K' (strongL g ks K i) false) : PassInv g ks K0 K' (i + 1) more := by
  obtain rfl := hk.no rfl
  refine ⟨h.inv, fun hm => ⟨(h.no hm).1, fun j hj hkj => ?_⟩, h.yes⟩
  rcases Nat.lt_or_ge j i with h1 | h1
  · exact (h.no hm).2 j h1 hkj
  · obtain rfl : j = i := by omega
    exact hk.has
/-- What is kept: the least set that has all that roots, and fields that keep, are references to. -/
structure WeakS (g : G) (ks : List Int) (K : List Bool) : Prop where
  inv : OpenInv g ks K
  keeps : Keeps g ks (fun j => kp K j = true)
theorem PassInv.done {g : G} {ks : List Int} {K0 K : List Bool} (h : PassInv g ks K0 K g.objs.length false) : WeakS g ks K := by
  refine ⟨h.inv, ?_⟩
  intro i v hi hv hr
  have hlt : 0 ≤ i ∧ i.toNat < g.objs.length := by
    unfold kp at hi
    rw [Bool.and_eq_true, List.getD_eq_getElem?_getD] at hi
    refine ⟨by simpa using hi.1, ?_⟩
    rw [← h.inv.len]
    apply Nat.lt_of_not_le
    intro hge
    rw [List.getElem?_eq_none hge] at hi
    simp at hi
  obtain ⟨n, rfl⟩ : ∃ n : Nat, i = (n : Int) := ⟨i.toNat, by omega⟩
  exact (h.no rfl).2 n (by omega) hi v (mem_strong.2 hv) hr
theorem WeakS.unique {g : G} {ks : List Int} {K K' : List Bool} (h : WeakS g ks K) (h' : WeakS g ks K') : ∀ i, kp K i = true ↔ kp K' i = true :=
  fun i => ⟨h.inv.least _ h'.keeps h'.inv.root i, h'.inv.least _ h.keeps h.inv.root i⟩
end Go.Proofs.Ytjnbnfmlpdnngaa
