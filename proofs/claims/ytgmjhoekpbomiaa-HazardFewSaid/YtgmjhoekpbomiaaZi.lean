/- Hazard: the plain law. -/
import Derived.Test.YtgmjhoekpbomiaaZa
namespace Go.Proofs.Ytgmjhoekpbomiaa

/-- What a thread guards ahead of deed k. -/
def guardAt (l : List Deed) (cs : List Int) (w : Int) : Nat → Int
  | 0 => -1
  | k + 1 => match l[k]?, cs[k]? with
    | some d, some c => if d.who = w ∧ c = 0 ∧ d.kind = 1 then d.item else if d.who = w ∧ c = 0 ∧ d.kind = 2 then -1 else guardAt l cs w k
    | _, _ => guardAt l cs w k
theorem guardAt_more (l : List Deed) (cs : List Int) (y w : Int) : ∀ k, k ≤ cs.length → guardAt l (cs ++ [y]) w k = guardAt l cs w k
  | 0, _ => rfl
  | k + 1, h => by
    show (match l[k]?, (cs ++ [y])[k]? with | some d, some c => _ | _, _ => _) = (match l[k]?, cs[k]? with | some d, some c => _ | _, _ => _)
    rw [List.getElem?_append_left (by omega), guardAt_more l cs y w k (by omega)]
theorem guardAt_succ {l : List Deed} {cs : List Int} {k : Nat} {d : Deed} {c : Int} (hd : l[k]? = some d) (hc : cs[k]? = some c) (w : Int) :
    guardAt l cs w (k + 1) = if d.who = w ∧ c = 0 ∧ d.kind = 1 then d.item else if d.who = w ∧ c = 0 ∧ d.kind = 2 then -1 else guardAt l cs w k := by
  show (match l[k]?, cs[k]? with | some d, some c => _ | _, _ => _) = _
  rw [hd, hc]
structure HInv (T : Nat) (l : List Deed) (k : Nat) (s : HS) (cs : List Int) : Prop where
  len : cs.length = k
  gl : s.guards.length = T
  wl : s.waits.length = T
  ol : s.gone.length = 100
  guard : ∀ i : Nat, i < T → s.guards.getD i 0 = guardAt l cs i k
  freed : ∀ p ∈ s.freed, ∃ i : Nat, i < k ∧ p.2 = (i : Int) ∧ (∃ d, l[i]? = some d ∧ d.kind = 4) ∧ ∀ w : Nat, w < T → guardAt l cs w i ≠ p.1
  perm : (s.freed.map (·.1) ++ s.waits.flatten).Perm (retiredTo l cs 3 k)
  nodup : (retiredTo l cs 3 k).Nodup
  gone : ∀ x ∈ retiredTo l cs 3 k, 0 ≤ x ∧ x < 100 ∧ s.gone.getD x.toNat false = true
theorem HInv.start (T : Nat) (l : List Deed) : HInv T l 0 (hstart T) [] := by
  refine ⟨rfl, by simp [hstart], by simp [hstart], by simp [hstart], ?_, by simp [hstart], ?_, by simp [retiredTo], by simp [retiredTo]⟩
  · intro i hi
    simp [hstart, guardAt, hi]
  · have : (List.replicate T ([] : List Int)).flatten = [] := by induction T with
      | zero => rfl
      | succ n ih => rw [List.replicate_succ, List.flatten_cons, ih]; rfl
    simp [hstart, retiredTo, this]
theorem flatten_set {α : Type} : ∀ (l : List (List α)) (i : Nat) (x : List α), i < l.length → ∃ a b, l.flatten = a ++ l.getD i [] ++ b ∧ (l.set i x).flatten = a ++ x ++ b
  | [], i, x, h => by simp at h
  | y :: l, 0, x, _ => ⟨[], l.flatten, by simp, by simp⟩
  | y :: l, i + 1, x, h => by
    obtain ⟨a, b, h1, h2⟩ := flatten_set l i x (by simpa using h)
    exact ⟨y ++ a, b, by rw [List.flatten_cons, h1, List.getD_cons_succ]; simp, by rw [List.set_cons_succ, List.flatten_cons, h2]; simp⟩
theorem filter_parts (ws : List Int) (p : Int → Bool) : ((ws.filter fun x => !p x) ++ ws.filter p).Perm ws := by
  induction ws with
  | nil => exact List.Perm.refl _
  | cons x ws ih =>
    rw [List.filter_cons, List.filter_cons]
    cases p x with
    | true => exact (List.perm_middle).trans (ih.cons x)
    | false => exact ih.cons x
theorem getD_set {α : Type} {l : List α} {i : Nat} (hi : i < l.length) (x d : α) (j : Nat) : (l.set i x).getD j d = if j = i then x else l.getD j d := by
  rw [List.getD_eq_getElem?_getD, List.getElem?_set, List.getD_eq_getElem?_getD]
  by_cases h : i = j
  · subst h; simp [hi]
  · rw [if_neg h, if_neg (fun e => h e.symm)]
theorem hcode_zero {T : Nat} {gone : List Bool} {d : Deed} (h : hcode T gone d = 0) : (1 ≤ d.kind ∧ d.kind ≤ 4) ∧ (0 ≤ d.who ∧ d.who < (T : Int)) ∧ ((d.kind = 1 ∨ d.kind = 3) → (0 ≤ d.item ∧ d.item < 100) ∧ gone.getD d.item.toNat false = false) := by
  unfold hcode at h
  split at h
  · omega
  split at h
  · omega
  split at h
  · omega
  rename_i h1 h2 h3
  refine ⟨by omega, by omega, fun hk => ?_⟩
  have hn : hneeds d = true := by unfold hneeds; rw [decide_eq_true_eq]; exact hk
  refine ⟨?_, ?_⟩
  · have : ¬ (d.item < 0 ∨ 100 ≤ d.item) := fun h => h2 (.inr (.inr ⟨hn, h⟩))
    omega
  · cases hg : gone.getD d.item.toNat false with
    | false => rfl
    | true => exact (h3 ⟨hn, hg⟩).elim
theorem HInv.step {T : Nat} {l : List Deed} {k : Nat} {s : HS} {cs : List Int} (h : HInv T l k s cs) {d : Deed} (hd : l[k]? = some d) : HInv T l (k + 1) (hstep T s d k) (cs ++ [hcode T s.gone d]) := by
  have hcs : (cs ++ [hcode T s.gone d])[k]? = some (hcode T s.gone d) := by rw [List.getElem?_append_right (by rw [h.len]; exact Nat.le_refl _), h.len]; simp
  have hga : ∀ w, guardAt l (cs ++ [hcode T s.gone d]) w (k + 1) = if d.who = w ∧ hcode T s.gone d = 0 ∧ d.kind = 1 then d.item else if d.who = w ∧ hcode T s.gone d = 0 ∧ d.kind = 2 then -1 else guardAt l cs w k := by
    intro w
    rw [guardAt_succ hd hcs, guardAt_more _ _ _ _ _ (by rw [h.len]; exact Nat.le_refl _)]
  have hgb : ∀ (i : Nat) w, i < k → guardAt l (cs ++ [hcode T s.gone d]) w i = guardAt l cs w i := fun i w hi => guardAt_more _ _ _ _ _ (by rw [h.len]; omega)
  have hrt : retiredTo l (cs ++ [hcode T s.gone d]) 3 (k + 1) = retiredTo l cs 3 k ++ if d.kind = 3 ∧ hcode T s.gone d = 0 then [d.item] else [] := by
    rw [retiredTo_succ l _ 3 k d _ hd hcs, retiredTo_more _ _ _ _ _ (by rw [h.len]; exact Nat.le_refl _)]
  have hfr : ∀ p ∈ s.freed, ∃ i : Nat, i < k + 1 ∧ p.2 = (i : Int) ∧ (∃ d, l[i]? = some d ∧ d.kind = 4) ∧ ∀ w : Nat, w < T → guardAt l (cs ++ [hcode T s.gone d]) w i ≠ p.1 := by
    intro p hp
    obtain ⟨i, hi, h1, h2, h3⟩ := h.freed p hp
    exact ⟨i, by omega, h1, h2, fun w hw => by rw [hgb i _ hi]; exact h3 w hw⟩
  by_cases hc : hcode T s.gone d = 0
  · obtain ⟨hk, hw, hi⟩ := hcode_zero hc
    have hst : hstep T s d k = hact s d k := by unfold hstep; rw [if_pos hc]
    rw [hst]
    obtain ⟨i, hwi⟩ : ∃ i : Nat, d.who = (i : Int) := ⟨d.who.toNat, by omega⟩
    have hiT : i < T := by omega
    have hwt : d.who.toNat = i := by omega
    have hkk : d.kind = 1 ∨ d.kind = 2 ∨ d.kind = 3 ∨ d.kind = 4 := by omega
    unfold hact
    rcases hkk with hk1 | hk1 | hk1 | hk1
    · rw [if_pos hk1]
      have hr0 : retiredTo l (cs ++ [hcode T s.gone d]) 3 (k + 1) = retiredTo l cs 3 k := by rw [hrt, if_neg (by omega), List.append_nil]
      refine ⟨by simp [h.len], by simp [h.gl], h.wl, h.ol, ?_, hfr, by rw [hr0]; exact h.perm, by rw [hr0]; exact h.nodup, by rw [hr0]; exact h.gone⟩
      intro j hj
      simp only [hwt]
      rw [getD_set (by rw [h.gl]; exact hiT), hga]
      by_cases e : j = i
      · subst e; rw [if_pos rfl, if_pos ⟨hwi, hc, hk1⟩]
      · rw [if_neg e, if_neg (fun h2 => e (by omega)), if_neg (fun h2 => e (by omega))]; exact h.guard j hj
    · rw [if_neg (by omega), if_pos hk1]
      have hr0 : retiredTo l (cs ++ [hcode T s.gone d]) 3 (k + 1) = retiredTo l cs 3 k := by rw [hrt, if_neg (by omega), List.append_nil]
      refine ⟨by simp [h.len], by simp [h.gl], h.wl, h.ol, ?_, hfr, by rw [hr0]; exact h.perm, by rw [hr0]; exact h.nodup, by rw [hr0]; exact h.gone⟩
      intro j hj
      simp only [hwt]
      rw [getD_set (by rw [h.gl]; exact hiT), hga]
      by_cases e : j = i
      · subst e; rw [if_pos rfl, if_neg (by omega), if_pos ⟨hwi, hc, hk1⟩]
      · rw [if_neg e, if_neg (fun h2 => e (by omega)), if_neg (fun h2 => e (by omega))]; exact h.guard j hj
    · rw [if_neg (by omega), if_neg (by omega), if_pos hk1]
      have hr0 : retiredTo l (cs ++ [hcode T s.gone d]) 3 (k + 1) = retiredTo l cs 3 k ++ [d.item] := by rw [hrt, if_pos ⟨hk1, hc⟩]
      obtain ⟨hi1, hi2⟩ := hi (.inr hk1)
      have hnot : d.item ∉ retiredTo l cs 3 k := fun hm => by rw [(h.gone _ hm).2.2] at hi2; cases hi2
      refine ⟨by simp [h.len], h.gl, by simp [h.wl], by simp [h.ol], ?_, hfr, ?_, ?_, ?_⟩
      · intro j hj
        rw [hga, if_neg (by omega), if_neg (by omega)]; exact h.guard j hj
      · rw [hr0]
        obtain ⟨a, b, h1, h2⟩ := flatten_set s.waits i (s.waits.getD i [] ++ [d.item]) (by rw [h.wl]; exact hiT)
        simp only [hwt]
        rw [h2]
        have hp := h.perm
        rw [h1] at hp
        refine List.Perm.trans ?_ (hp.append_right [d.item])
        simp only [List.append_assoc]
        refine List.Perm.append_left _ (List.Perm.append_left _ (List.Perm.append_left _ ?_))
        exact List.perm_append_comm
      · rw [hr0, List.nodup_append]
        exact ⟨h.nodup, by simp, by intro a ha b hb; simp at hb; subst hb; exact fun e => hnot (e ▸ ha)⟩
      · rw [hr0]
        intro x hx
        rcases List.mem_append.1 hx with h2 | h2
        · obtain ⟨h3, h4, h5⟩ := h.gone x h2
          refine ⟨h3, h4, ?_⟩
          simp only
          rw [getD_set (by rw [h.ol]; omega)]
          split
          · rfl
          · exact h5
        · simp at h2; subst h2
          refine ⟨hi1.1, hi1.2, ?_⟩
          simp only
          rw [getD_set (by rw [h.ol]; omega), if_pos rfl]
    · rw [if_neg (by omega), if_neg (by omega), if_neg (by omega)]
      have hr0 : retiredTo l (cs ++ [hcode T s.gone d]) 3 (k + 1) = retiredTo l cs 3 k := by rw [hrt, if_neg (by omega), List.append_nil]
      refine ⟨by simp [h.len], h.gl, by simp [h.wl], h.ol, ?_, ?_, ?_, by rw [hr0]; exact h.nodup, by rw [hr0]; exact h.gone⟩
      · intro j hj
        rw [hga, if_neg (by omega), if_neg (by omega)]; exact h.guard j hj
      · intro p hp
        simp only [hwt] at hp
        rcases List.mem_append.1 hp with h2 | h2
        · exact hfr p h2
        · unfold hfreed at h2
          obtain ⟨x, hx, rfl⟩ := List.mem_map.1 h2
          refine ⟨k, by omega, rfl, ⟨d, hd, hk1⟩, fun w hw2 => ?_⟩
          rw [guardAt_more _ _ _ _ _ (by rw [h.len]; exact Nat.le_refl _), ← h.guard w hw2]
          have h3 := (List.mem_filter.1 hx).2
          intro e
          simp at h3
          refine h3 ?_
          simp only at e
          rw [← e, List.getD_eq_getElem?_getD, List.getElem?_eq_getElem (by rw [h.gl]; exact hw2)]
          exact List.getElem_mem _
      · rw [hr0]
        obtain ⟨a, b, h1, h2⟩ := flatten_set s.waits i (hkept s.guards (s.waits.getD i [])) (by rw [h.wl]; exact hiT)
        simp only [hwt]
        rw [h2]
        refine List.Perm.trans ?_ h.perm
        rw [h1, List.map_append]
        have e1 : (hfreed s.guards (s.waits.getD i []) k).map (·.1) = (s.waits.getD i []).filter fun x => !decide (x ∈ s.guards) := by
          unfold hfreed; rw [List.map_map]; simp [Function.comp_def]
        rw [e1]
        have hp := filter_parts (s.waits.getD i []) (fun x => decide (x ∈ s.guards))
        unfold hkept
        refine List.perm_iff_count.2 fun x => ?_
        have := hp.count_eq x
        simp only [List.count_append] at this ⊢
        omega
  · have hst : hstep T s d k = s := by unfold hstep; rw [if_neg hc]
    rw [hst]
    have hr0 : retiredTo l (cs ++ [hcode T s.gone d]) 3 (k + 1) = retiredTo l cs 3 k := by rw [hrt, if_neg (fun h => hc h.2), List.append_nil]
    refine ⟨by simp [h.len], h.gl, h.wl, h.ol, ?_, hfr, by rw [hr0]; exact h.perm, by rw [hr0]; exact h.nodup, by rw [hr0]; exact h.gone⟩
    intro j hj
    rw [hga, if_neg (fun h => hc h.2.1), if_neg (fun h => hc h.2.1)]; exact h.guard j hj
theorem hrun_inv (T : Nat) (l : List Deed) : ∀ k, k ≤ l.length → HInv T l k (hrun T l k).1 (hrun T l k).2
  | 0, _ => HInv.start T l
  | k + 1, h => by
    have hd : l[k]? = some l[k] := List.getElem?_eq_getElem (by omega)
    rw [hrun_succ hd]
    exact (hrun_inv T l k (by omega)).step hd
end Go.Proofs.Ytgmjhoekpbomiaa
