/- What each step keeps; counting's own, plainly. -/
import Derived.Test.YtmmcjjklmcfegaaR0
namespace Go.Proofs.Ytmmcjjklmcfegaa

/-- What each way of a step keeps, a step keeps. -/
theorem step_keep {X : Type} (K : Kd X) (J : Sm X → Prop) (s : Sm X) (d : Dd) (hIJ : J s) (hF : Fine s.regs s.os)
    (fld : ∀ v u, v ∈ s.regs → v.ref = true → u ∈ objAt s.os v.n → OkV s.os u)
    (hset : ∀ (r : Int) v, 0 ≤ r → r < 8 → OkV s.os v → J (K.set s r v))
    (hput : ∀ i (k : Nat) u, Lives s.os i → k < (objAt s.os i).length → OkV s.os u → J (K.put s i k u))
    (hnewN : ∀ n : Nat, n ≤ 4 → (K.new s n).2 = none → J (K.new s n).1)
    (hnewS : ∀ (n : Nat) o (r : Int), n ≤ 4 → 0 ≤ r → r < 8 → (K.new s n).2 = some o → J (K.set (K.new s n).1 r ⟨true, o⟩)) : J (K.step s d).1 := by
  unfold Kd.step
  split
  · exact hIJ
  · rename_i hw
    have hw0 : wrongC d = 0 := Classical.byContradiction hw
    obtain ⟨k1, k7, hto, hfr, hn, hn2⟩ := wrong_zero hw0
    split
    · rename_i e1
      have hn4 := hn e1
      have ht := hto (by omega)
      have a1 := hnewN d.n.toNat (by omega)
      have a2 := hnewS d.n.toNat
      split
      · rename_i t ht'
        rw [ht'] at a1; exact a1 rfl
      · rename_i t o ht'
        have := a2 o d.to_ (by omega) ht.1 ht.2 (by rw [ht'])
        rw [ht'] at this; exact this
    · rename_i e1
      split
      · rename_i e2
        have ht := hto (by omega)
        exact hset _ _ ht.1 ht.2 ⟨(fun h => by cases h), fun _ => hn2 e2⟩
      · rename_i e2
        have hf := hfr (by omega)
        have hokf := hF.reg hf.1 hf.2
        split
        · rename_i e3
          have ht := hto (by omega)
          exact hset _ _ ht.1 ht.2 hokf
        · split
          · rename_i e4
            have ht := hto (by omega)
            split
            · exact hIJ
            · rename_i hfc
              have hfc0 : fieldC s.os (Proofs.Ytmmcjjklmcfegaa.reg s.regs d.to_) d.at_ = 0 := Classical.byContradiction hfc
              obtain ⟨f1, f2, f3⟩ := field_zero hfc0
              exact hput _ _ _ ((hF.reg ht.1 ht.2).1 f1) (by omega) hokf
          · split
            · rename_i e5
              have ht := hto (by omega)
              split
              · exact hIJ
              · rename_i hfc
                have hfc0 : fieldC s.os (Proofs.Ytmmcjjklmcfegaa.reg s.regs d.frm) d.at_ = 0 := Classical.byContradiction hfc
                obtain ⟨f1, f2, f3⟩ := field_zero hfc0
                refine hset _ _ ht.1 ht.2 (fld _ _ (List.mem_of_getElem? (reg_get hf.1 (by rw [hF.regs8]; exact hf.2))) f1 ?_)
                rw [List.getD_eq_getElem?_getD, List.getElem?_eq_getElem (by omega)]
                exact List.getElem_mem _
            · split
              · exact hIJ
              · exact hIJ

def up1 (c : List Int) (v : V) : List Int := if v.ref then c.set v.n.toNat (c.getD v.n.toNat 0 + 1) else c
theorem up1_len (c : List Int) (v : V) : (up1 c v).length = c.length := by unfold up1; split <;> simp
theorem getD_at {c : List Int} {j : Nat} {k : Int} (h : c[j]? = some k) : c.getD j 0 = k := by rw [List.getD_eq_getElem?_getD, h]; rfl
theorem up1_at {c : List Int} {v : V} {j : Nat} {k : Int} (h0 : v.ref = true → 0 ≤ v.n) (h : c[j]? = some k) : (up1 c v)[j]? = some (k + if v.ref = true ∧ v.n = (j : Int) then 1 else 0) := by
  unfold up1
  cases hr : v.ref with
  | false => simp [h]
  | true =>
    have hv := h0 hr
    simp only [if_true, true_and]
    have hlt := (List.getElem?_eq_some_iff.1 h).1
    by_cases e : v.n = (j : Int)
    · rw [if_pos e, e, Int.toNat_natCast, List.getElem?_set_self hlt, getD_at h]
    · rw [if_neg e, List.getElem?_set_ne (by omega), h]; simp
theorem up1_bnd {c : List Int} {v : V} {M : Int} (h : ∀ x ∈ c, x ≤ M) (hv : v.ref = true → ∃ x, c[v.n.toNat]? = some x ∧ x + 1 ≤ M) : ∀ x ∈ up1 c v, x ≤ M := by
  intro x hx
  unfold up1 at hx
  split at hx
  · rename_i hr
    obtain ⟨y, hy, hy2⟩ := hv hr
    rcases List.mem_or_eq_of_mem_set hx with hx | rfl
    · exact h x hx
    · rw [getD_at hy]; exact hy2
  · exact h x hx
theorem cnt_one (v : V) (j : Int) : cnt [v] j = if v.ref = true ∧ v.n = j then 1 else 0 := by rw [cnt_cons, cnt_nil]; rfl

structure Cx where
  cs : List Int
  gone : List Int
def toC (s : Sm Cx) : Cst := ⟨s.os, s.x.cs, s.x.gone⟩
def ofC (regs : List V) (c : Cst) : Sm Cx := ⟨regs, c.os, ⟨c.cs, c.gone⟩⟩
noncomputable def cKd (room : Int) : Kd Cx where
  new := fun s n => if room ≤ (alive s.os : Int) then (s, none) else (⟨s.regs, s.os ++ [some (zerosV n)], ⟨s.x.cs ++ [0], s.x.gone⟩⟩, some (s.os.length : Int))
  put := fun s i k u => ofC s.regs (dnF [(objAt s.os i).getD k ⟨false, 0⟩] ⟨s.os.set i.toNat (some ((objAt s.os i).set k u)), up1 s.x.cs u, s.x.gone⟩)
  hold := fun s r u => ofC s.regs (dnF [s.regs.getD r ⟨false, 0⟩] ⟨s.os, up1 s.x.cs u, s.x.gone⟩)

/-- A register takes a value: what is to be taken off is what it had. -/
theorem InvP.hold {rg : List V} {s : Cst} (h : InvP rg s []) {r : Nat} (hr : r < rg.length) {u : V} (hu : u.ref = true → Lives s.os u.n) : InvP (rg.set r u) ⟨s.os, up1 s.cs u, s.gone⟩ [rg.getD r ⟨false, 0⟩] := by
  have hg : rg[r]? = some (rg.getD r ⟨false, 0⟩) := by rw [List.getD_eq_getElem?_getD, List.getElem?_eq_getElem hr]; rfl
  refine ⟨by rw [up1_len]; exact h.len, fun v hv hvr => ?_, h.flds, fun j l hl => ?_⟩
  · rw [List.mem_append] at hv
    rcases hv with hv | hv
    · rcases List.mem_or_eq_of_mem_set hv with hv | rfl
      · exact h.held v (List.mem_append_left _ hv) hvr
      · exact hu hvr
    · rw [List.mem_singleton] at hv
      subst hv
      exact h.held _ (List.mem_append_left _ (List.mem_of_getElem? hg)) hvr
  · have h1 := up1_at (fun hur => (hu hur).1) (h.count j l hl)
    have h2 := cnt_set hg u (j : Int)
    have h3 := cnt_one u (j : Int)
    rw [h1]
    congr 1
    rw [cnt_nil]
    split at h3
    · rename_i e; rw [if_pos e]; push_cast; omega
    · rename_i e; rw [if_neg e]; push_cast; omega
/-- A field takes a value. -/
theorem InvP.put {rg : List V} {s : Cst} (h : InvP rg s []) {i : Int} (hi : Lives s.os i) {k : Nat} (hk : k < (objAt s.os i).length) {u : V} (hu : u.ref = true → Lives s.os u.n) :
    InvP rg ⟨s.os.set i.toNat (some ((objAt s.os i).set k u)), up1 s.cs u, s.gone⟩ [(objAt s.os i).getD k ⟨false, 0⟩] := by
  have hob := hi.obj
  have hg : (objAt s.os i)[k]? = some ((objAt s.os i).getD k ⟨false, 0⟩) := by rw [List.getD_eq_getElem?_getD, List.getElem?_eq_getElem hk]; rfl
  refine ⟨by rw [up1_len, List.length_set]; exact h.len, fun v hv hvr => ?_, fun j l hl v hv hvr => ?_, fun j l hl => ?_⟩
  · rw [List.mem_append, List.mem_singleton] at hv
    rcases hv with hv | rfl
    · exact (h.held v (List.mem_append_left _ hv) hvr).put _
    · exact (h.flds _ _ hob _ (List.mem_of_getElem? hg) hvr).put _
  · rcases put_get hl hi with h1 | rfl
    · exact (h.flds _ _ h1 v hv hvr).put _
    · rcases List.mem_or_eq_of_mem_set hv with hv | rfl
      · exact (h.flds _ _ hob v hv hvr).put _
      · exact (hu hvr).put _
  · have hold : ∃ l', s.os[j]? = some (some l') := by
      by_cases e : i.toNat = j
      · exact ⟨_, e ▸ hob⟩
      · change (s.os.set i.toNat _)[j]? = _ at hl
        rw [List.getElem?_set_ne e] at hl; exact ⟨l, hl⟩
    obtain ⟨l', hl'⟩ := hold
    have h1 := up1_at (fun hur => (hu hur).1) (h.count j l' hl')
    have h2 := cnt_set hg u (j : Int)
    have h3 := cnt_one u (j : Int)
    have h4 := allO_set hob (some ((objAt s.os i).set k u)) (j : Int)
    simp only [Option.getD_some] at h4
    rw [h1]
    congr 1
    rw [cnt_nil]
    show _ = ((_ + _ + cnt (allO (s.os.set i.toNat _)) (j : Int) : Nat) : Int)
    split at h3
    · rename_i e; rw [if_pos e]; push_cast; omega
    · rename_i e; rw [if_neg e]; push_cast; omega
theorem allO_push (os : Os) (l : List V) : allO (os ++ [some l]) = allO os ++ l := by simp [allO]
theorem cnt_zerosV (n : Nat) (j : Int) : cnt (zerosV n) j = 0 := by
  unfold cnt targets zerosV
  rw [List.filter_replicate]; simp
/-- One more object. -/
theorem InvP.new {rg : List V} {s : Cst} (h : InvP rg s []) (n : Nat) : InvP rg ⟨s.os ++ [some (zerosV n)], s.cs ++ [0], s.gone⟩ [] := by
  refine ⟨by simp [h.len], fun v hv hvr => (h.held v hv hvr).push _, fun i l hl v hv hvr => ?_, fun j l hl => ?_⟩
  · rcases push_get hl with h1 | rfl
    · exact (h.flds i l h1 v hv hvr).push _
    · rw [mem_zeros hv] at hvr; cases hvr
  · change (s.cs ++ [0])[j]? = _
    change (s.os ++ [some (zerosV n)])[j]? = _ at hl
    rw [show allO (⟨s.os ++ [some (zerosV n)], s.cs ++ [0], s.gone⟩ : Cst).os = allO s.os ++ zerosV n from allO_push _ _, cnt_append, cnt_zerosV]
    rcases Nat.lt_or_ge j s.os.length with h1 | h1
    · rw [List.getElem?_append_left h1] at hl
      rw [List.getElem?_append_left (by rw [h.len]; exact h1), h.count j l hl]; simp
    · have h2 : j = s.os.length := by
        have := (List.getElem?_eq_some_iff.1 hl).1
        simp at this; omega
      have z1 : cnt rg (j : Int) = 0 := by
        refine Classical.byContradiction fun hne => ?_
        obtain ⟨x, hx, he⟩ := List.mem_map.1 (List.count_pos_iff.1 (Nat.pos_of_ne_zero hne))
        obtain ⟨hx, hr⟩ := List.mem_filter.1 hx
        have := (h.held x (List.mem_append_left _ hx) hr).lt
        omega
      have z2 : cnt (allO s.os) (j : Int) = 0 := by
        refine Classical.byContradiction fun hne => ?_
        obtain ⟨x, hx, he⟩ := List.mem_map.1 (List.count_pos_iff.1 (Nat.pos_of_ne_zero hne))
        obtain ⟨hx, hr⟩ := List.mem_filter.1 hx
        obtain ⟨l', hl', hxl⟩ := List.mem_flatten.1 hx
        obtain ⟨o, ho, rfl⟩ := List.mem_map.1 hl'
        cases o with
        | none => cases hxl
        | some l2 =>
          obtain ⟨i, hi⟩ := List.getElem?_of_mem ho
          have := (h.flds i l2 hi x hxl hr).lt
          omega
      rw [List.getElem?_append_right (by rw [h.len]; omega), z1, z2, h.len, h2]; simp [cnt_nil]
end Go.Proofs.Ytmmcjjklmcfegaa
