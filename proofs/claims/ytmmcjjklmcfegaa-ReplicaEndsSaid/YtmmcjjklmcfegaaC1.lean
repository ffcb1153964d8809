/- Colours: what is always so. Plain. -/
import Derived.Test.YtmmcjjklmcfegaaC0
import Derived.Test.YtmmcjjklmcfegaaS0
namespace Go.Proofs.Ytmmcjjklmcfegaa

structure InvT (b : Int) (s : Sm Tx) : Prop where
  fine : Fine s.regs s.os
  cl : s.x.col.length = s.os.length
  len : s.os.length ≤ 900
  led : ∀ i, RchM s.regs s.os i → Lives s.os i
  hues : Hues s.x.col
  bar : BarI b s.regs s.os s.x.col
  nodup : s.x.gone.Nodup
  gone : ∀ x, x ∈ s.x.gone ↔ 0 ≤ x ∧ x < (s.os.length : Int) ∧ ¬ Lives s.os x
theorem InvT.inr {b : Int} {s : Sm Tx} (h : InvT b s) : ∀ (i : Nat) (l : List V), s.os[i]? = some (some l) → ∀ v ∈ l, InR s.x.col.length v := by
  intro i l hl v hv hr
  rw [h.cl]; exact h.fine.rng i l hl v hv hr
theorem InvT.regR {b : Int} {s : Sm Tx} (h : InvT b s) : ∀ v ∈ s.regs, InR s.x.col.length v := by
  intro v hv hr
  have h1 := (h.fine.regs v hv).1 hr
  have h2 := h1.lt
  have h3 := h1.1
  rw [h.cl]; exact ⟨h3, by omega⟩
theorem InvT.fld {b : Int} {s : Sm Tx} (h : InvT b s) {v u : V} (hv : v ∈ s.regs) (hr : v.ref = true) (hu : u ∈ objAt s.os v.n) : OkV s.os u := by
  have hl := ((h.fine.regs v hv).1 hr).obj
  exact ⟨fun hur => h.led _ (.step (.root hv hr) hl hu hur), fun hur => h.fine.num _ _ hl u hu hur⟩
/-- What registers lead to is kept, or there is no grey one and it is no white one. -/
theorem InvT.kp {b : Int} {s : Sm Tx} (h : InvT b s) (hb : b = 3) {i : Int} (hi : RchM s.regs s.os i) : Kp s.os s.x.col i := (h.bar.1 hb).led h.hues h.led hi
theorem mono_shades {os : Os} {c : List Int} {l : List V} (hl : ∀ v ∈ l, InR c.length v) : Mono os c os (shades c l) := by
  refine ⟨fun i h0 h => by rw [shades_keep hl h0 h]; exact h, fun i h => h, fun p l' v h0 _ _ _ h1 h2 => absurd (shades_two hl h0 h2) h1, fun p l' v h0 h1 h2 h3 => .inr ⟨l', h1, h2⟩⟩
theorem bar_shades {b : Int} {s : Sm Tx} (h : InvT b s) {l : List V} (hl : ∀ v ∈ l, InR s.x.col.length v) : BarI b s.regs s.os (shades s.x.col l) := by
  have hm := mono_shades (os := s.os) hl
  refine ⟨fun hb => ?_, fun hb => ?_⟩
  · have hS := h.bar.1 hb
    refine ⟨fun v hv hr => hm.kp (h.hues.shades l) h.inr (h.regR v hv hr).1 (hS.regs v hv hr), fun i l' v hl' h2 hv hr => ?_⟩
    exact hm.kp (h.hues.shades l) h.inr (h.inr i l' hl' v hv hr).1 (hS.black i l' v hl' (shades_two hl (by omega) h2) hv hr)
  · intro i l' v hl' h2 hv hr
    exact hm.m1 _ (h.inr i l' hl' v hv hr).1 (h.bar.2 hb i l' v hl' (shades_two hl (by omega) h2) hv hr)
/-- A round's work. -/
theorem InvT.work {b : Int} {s : Sm Tx} (h : InvT b s) : InvT b (workS s).1 := by
  unfold workS
  split
  · exact h
  · rename_i i hi
    have hm0 : i ∈ hueL s.os s.x.col 1 s.os.length := List.mem_of_mem_head? (by rw [hi]; exact rfl)
    obtain ⟨hli, hgi⟩ := mem_hueL.1 hm0
    have hob := hli.obj
    have hi0 := hli.1
    have hil : i < (s.x.col.length : Int) := by have := hli.lt; rw [h.cl]; omega
    have hl : ∀ v ∈ objAt s.os i, InR s.x.col.length v := fun v hv => h.inr _ _ hob v hv
    have hsl : i < ((shades s.x.col (objAt s.os i)).length : Int) := by rw [shades_len]; exact hil
    have hat : ∀ j, 0 ≤ j → cAt ((shades s.x.col (objAt s.os i)).set i.toNat 2) j = if j = i then 2 else cAt (shades s.x.col (objAt s.os i)) j := fun j hj => cAt_set _ hi0 hsl hj 2
    have hhit : ∀ v ∈ objAt s.os i, v.ref = true → cAt ((shades s.x.col (objAt s.os i)).set i.toNat 2) v.n ≠ 0 := by
      intro v hv hr
      rw [hat _ (hl v hv hr).1]
      split
      · decide
      · exact shades_hit hl hv hr
    have hm : Mono s.os s.x.col s.os ((shades s.x.col (objAt s.os i)).set i.toNat 2) := by
      refine ⟨fun j h0 hj => ?_, fun j hj => hj, fun p l v h0 hp hv hr h1 h2 => ?_, fun p l v h0 hp hv hr => .inr ⟨l, hp, hv⟩⟩
      · rw [hat j h0]
        split
        · decide
        · rw [shades_keep hl h0 hj]; exact hj
      · rw [hat p h0] at h2
        split at h2
        · rename_i e
          subst e
          have : l = objAt s.os p := by unfold objAt; rw [hp]; rfl
          subst this
          exact hhit v hv hr
        · exact absurd (shades_two hl h0 h2) h1
    have hh : Hues ((shades s.x.col (objAt s.os i)).set i.toNat 2) := (h.hues.shades _).set _ (.inr (.inr rfl))
    refine ⟨h.fine, by show (List.set _ _ _).length = _; rw [List.length_set, shades_len]; exact h.cl, h.len, h.led, hh, ⟨fun hb => ?_, fun hb => ?_⟩, h.nodup, h.gone⟩
    · have hS := h.bar.1 hb
      refine ⟨fun v hv hr => hm.kp hh h.inr (h.regR v hv hr).1 (hS.regs v hv hr), fun j l v hlj h2 hv hr => ?_⟩
      change cAt ((shades s.x.col (objAt s.os i)).set i.toNat 2) (j : Int) = 2 at h2
      rw [hat _ (by omega)] at h2
      split at h2
      · rename_i e
        subst e
        have : l = objAt s.os (j : Int) := by rw [objAt_nat hlj]
        subst this
        exact .inl (hhit v hv hr)
      · exact hm.kp hh h.inr (h.inr j l hlj v hv hr).1 (hS.black j l v hlj (shades_two hl (by omega) h2) hv hr)
    · intro j l v hlj h2 hv hr
      change cAt ((shades s.x.col (objAt s.os i)).set i.toNat 2) (j : Int) = 2 at h2
      rw [hat _ (by omega)] at h2
      split at h2
      · rename_i e
        subst e
        have : l = objAt s.os (j : Int) := by rw [objAt_nat hlj]
        subst this
        exact hhit v hv hr
      · exact hm.m1 _ (h.inr j l hlj v hv hr).1 (h.bar.2 hb j l v hlj (shades_two hl (by omega) h2) hv hr)
/-- Where no grey one is left, what registers lead to is no white one. -/
theorem InvT.marked {b : Int} {s : Sm Tx} (h : InvT b s) (hg : hueL s.os (shades s.x.col s.regs) 1 s.os.length = []) {i : Int} (hi : RchM s.regs s.os i) : cAt (shades s.x.col s.regs) i ≠ 0 := by
  have hB := bar_shades h h.regR
  have hh := h.hues.shades s.regs
  by_cases hb : b = 3
  · rcases (hB.1 hb).led hh h.led hi with h1 | h1
    · exact h1
    · exact (no_prot hg h1).elim
  · have : cAt (shades s.x.col s.regs) i ≠ 0 ∧ RchM s.regs s.os i := by
      refine hi.least (P := fun i => cAt (shades s.x.col s.regs) i ≠ 0 ∧ RchM s.regs s.os i) (fun v hv hr => ⟨shades_hit h.regR hv hr, .root hv hr⟩) ?_
      rintro j l ⟨h1, h2⟩ hl v hv hr
      have hlj := h.led j h2
      have h3 : cAt (shades s.x.col s.regs) j = 2 := by
        rcases hh.at j with h4 | h4 | h4
        · exact absurd h4 h1
        · have : j ∈ hueL s.os (shades s.x.col s.regs) 1 s.os.length := mem_hueL.2 ⟨hlj, h4⟩
          rw [hg] at this; cases this
        · exact h4
      exact ⟨hB.2 hb j.toNat l v hl (by rw [Int.toNat_of_nonneg hlj.1]; exact h3) hv hr, .step h2 hl hv hr⟩
    exact this.1
/-- A sweep. -/
theorem sweep_kin {b : Int} {s : Sm Tx} (h : InvT b s) : Kin (bare (sweepS s).1) (bare s) := by
  unfold sweepS
  split
  · exact Kin.refl _
  · rename_i hg
    have hg' : hueL s.os (shades s.x.col s.regs) 1 s.os.length = [] := Classical.byContradiction hg
    refine ⟨rfl, kill_len _ _, fun i hi => ?_⟩
    show (killL s.os _)[i.toNat]? = s.os[i.toNat]?
    have hli := h.led i hi
    rw [kill_get _ _ (fun x hx => (mem_hueL.1 hx).1.1), if_neg]
    rintro ⟨h1, _⟩
    rw [Int.toNat_of_nonneg hli.1] at h1
    exact h.marked hg' hi (mem_hueL.1 h1).2
theorem hueL_nodup (os : Os) (c : List Int) (h : Int) (k : Nat) : (hueL os c h k).Nodup := by
  unfold hueL
  exact (List.Pairwise.imp (fun hlt => by omega) (thereL_rising os k)).sublist List.filter_sublist
theorem InvT.sweep {b : Int} {s : Sm Tx} (h : InvT b s) : InvT b (sweepS s).1 := by
  have hk := sweep_kin h
  unfold sweepS at hk ⊢
  split
  · exact ⟨h.fine, by show (shades _ _).length = _; rw [shades_len]; exact h.cl, h.len, h.led, h.hues.shades _, bar_shades h h.regR, h.nodup, h.gone⟩
  · rename_i hg
    rw [if_neg hg] at hk
    have hWn : ∀ x ∈ hueL s.os (shades s.x.col s.regs) 0 s.os.length, 0 ≤ x := fun x hx => (mem_hueL.1 hx).1.1
    obtain ⟨Wl, hWl⟩ : ∃ Wl, hueL s.os (shades s.x.col s.regs) 0 s.os.length = Wl := ⟨_, rfl⟩
    have hWm : ∀ x, x ∈ Wl → Lives s.os x := fun x hx => by rw [← hWl] at hx; exact (mem_hueL.1 hx).1
    have hWd : Wl.Nodup := by rw [← hWl]; exact hueL_nodup _ _ _ _
    rw [hWl] at hk hWn ⊢
    have hget := kill_get s.os Wl hWn
    have hshr : ∀ (i : Nat) (l : List V), (killL s.os Wl)[i]? = some (some l) → s.os[i]? = some (some l) := by
      intro i l hl
      rw [hget] at hl
      split at hl
      · cases hl
      · exact hl
    have hlen : (killL s.os Wl).length = s.os.length := kill_len _ _
    have hled : ∀ i, RchM s.regs (killL s.os Wl) i → Lives (killL s.os Wl) i := by
      intro i hi
      have h1 : RchM s.regs s.os i := hk.rch.1 hi
      exact (hk.lives h1).2 (h.led i h1)
    have hlv : ∀ x, Lives (killL s.os Wl) x ↔ Lives s.os x ∧ x ∉ Wl := by
      intro x
      constructor
      · rintro ⟨h0, l, hl⟩
        refine ⟨⟨h0, l, hshr _ _ hl⟩, fun hx => ?_⟩
        have hlt := (List.getElem?_eq_some_iff.1 (hshr _ _ hl)).1
        rw [hget, if_pos ⟨by rw [Int.toNat_of_nonneg h0]; exact hx, hlt⟩] at hl
        cases hl
      · rintro ⟨⟨h0, l, hl⟩, hx⟩
        refine ⟨h0, l, ?_⟩
        rw [hget, if_neg (fun h => hx (by have := h.1; rwa [Int.toNat_of_nonneg h0] at this))]
        exact hl
    have hat : ∀ j, 0 ≤ j → cAt (beginC s.x.col.length s.regs) j = if j ∈ targets s.regs then 1 else 0 := fun j hj => beginC_at h.regR hj
    refine ⟨⟨h.fine.regs8, fun v hv => ⟨fun hr => hled _ (.root hv hr), (h.fine.regs v hv).2⟩, fun i l hl => h.fine.flen i l (hshr i l hl), fun i l hl => h.fine.num i l (hshr i l hl), fun i l hl v hv hr => ?_⟩, ?_, ?_, hled, beginC_hues _ _, ⟨fun _ => ⟨?_, ?_⟩, fun _ => ?_⟩, ?_, ?_⟩
    · show 0 ≤ v.n ∧ v.n < ((killL s.os Wl).length : Int)
      rw [hlen]; exact h.fine.rng i l (hshr i l hl) v hv hr
    · show (beginC _ _).length = (killL _ _).length
      rw [beginC_len, hlen]; exact h.cl
    · show (killL _ _).length ≤ 900
      rw [hlen]; exact h.len
    · intro v hv hr
      left
      rw [hat _ (h.regR v hv hr).1, if_pos (by unfold targets; exact List.mem_map.2 ⟨v, List.mem_filter.2 ⟨hv, hr⟩, rfl⟩)]
      decide
    · intro i l v _ h2 _ _
      change cAt (beginC s.x.col.length s.regs) (i : Int) = 2 at h2
      rw [hat _ (by omega)] at h2
      split at h2 <;> cases h2
    · intro i l v _ h2 _ _
      change cAt (beginC s.x.col.length s.regs) (i : Int) = 2 at h2
      rw [hat _ (by omega)] at h2
      split at h2 <;> cases h2
    · show (s.x.gone ++ Wl).Nodup
      rw [List.nodup_append]
      refine ⟨h.nodup, hWd, ?_⟩
      rintro x hx y hy rfl
      exact ((h.gone x).1 hx).2.2 (hWm x hy)
    · intro x
      show x ∈ s.x.gone ++ Wl ↔ 0 ≤ x ∧ x < ((killL s.os Wl).length : Int) ∧ ¬ Lives (killL s.os Wl) x
      rw [List.mem_append, h.gone, hlen, hlv]
      constructor
      · rintro (⟨h1, h2, h3⟩ | h1)
        · exact ⟨h1, h2, fun h4 => h3 h4.1⟩
        · have h2 := hWm x h1
          have h3 := h2.lt
          have h4 := h2.1
          exact ⟨h4, by omega, fun h5 => h5.2 h1⟩
      · rintro ⟨h1, h2, h3⟩
        by_cases h4 : Lives s.os x
        · by_cases h5 : x ∈ Wl
          · exact .inr h5
          · exact absurd ⟨h4, h5⟩ h3
        · exact .inl ⟨h1, h2, h4⟩
/-- Registers' turn, a field's turn, one more. -/
theorem InvT.set {b : Int} {s : Sm Tx} (h : InvT b s) {r : Int} {v : V} (hv : OkV s.os v) (hr : v.ref = true → RchM s.regs s.os v.n) : InvT b ((tKd b).set s r v) := by
  refine ⟨h.fine.setReg _ hv, h.cl, h.len, fun i hi => h.led i (rch_set hr hi), h.hues, ⟨fun hb => ?_, fun hb => h.bar.2 hb⟩, h.nodup, h.gone⟩
  have hS := h.bar.1 hb
  refine ⟨fun u hu hur => ?_, hS.black⟩
  rcases List.mem_or_eq_of_mem_set hu with hu | rfl
  · exact hS.regs u hu hur
  · exact h.kp hb (hr hur)
theorem InvT.newS {b : Int} {s : Sm Tx} (h : InvT b s) (hl9 : s.os.length < 900) {n : Nat} (hn : n ≤ 4) (r : Int) : InvT b ((tKd b).set ⟨s.regs, s.os ++ [some (zerosV n)], ⟨s.x.col ++ [2], s.x.gone⟩⟩ r ⟨true, (s.os.length : Int)⟩) := by
  have hcat : ∀ j, 0 ≤ j → j < (s.os.length : Int) → cAt (s.x.col ++ [2]) j = cAt s.x.col j := by
    intro j h0 h1
    unfold cAt
    rw [List.getD_eq_getElem?_getD, List.getD_eq_getElem?_getD, List.getElem?_append_left (by rw [h.cl]; omega)]
  have hcn : cAt (s.x.col ++ [2]) (s.os.length : Int) = 2 := by
    unfold cAt
    rw [List.getD_eq_getElem?_getD, Int.toNat_natCast, List.getElem?_append_right (by rw [h.cl]; exact Nat.le_refl _), h.cl]; simp
  have hlow : ∀ j, 0 ≤ j → cAt s.x.col j ≠ 0 → j < (s.os.length : Int) := by
    intro j h0 hj
    refine Classical.byContradiction fun hn => hj ?_
    unfold cAt
    rw [List.getD_eq_getElem?_getD, List.getElem?_eq_none (by rw [h.cl]; omega)]; rfl
  have hh : Hues (s.x.col ++ [2]) := by
    intro x hx
    rw [List.mem_append, List.mem_singleton] at hx
    rcases hx with hx | rfl
    · exact h.hues x hx
    · exact .inr (.inr rfl)
  have hold : ∀ (i : Nat) (l : List V), (s.os ++ [some (zerosV n)])[i]? = some (some l) → (s.os[i]? = some (some l) ∧ i < s.os.length) ∨ (l = zerosV n) := by
    intro i l hl
    rcases push_get hl with h1 | h1
    · exact .inl ⟨h1, (List.getElem?_eq_some_iff.1 h1).1⟩
    · exact .inr h1
  have hm : Mono s.os s.x.col (s.os ++ [some (zerosV n)]) (s.x.col ++ [2]) := by
    refine ⟨fun i h0 hi => by rw [hcat i h0 (hlow i h0 hi)]; exact hi, fun i hi => hi.push _, fun p l v h0 hp hv hr h1 h2 => ?_, fun p l v h0 hp hv hr => .inr ⟨l, ?_, hv⟩⟩
    · have := (List.getElem?_eq_some_iff.1 hp).1
      rw [hcat p h0 (by omega)] at h2
      exact absurd h2 h1
    · rw [List.getElem?_append_left (List.getElem?_eq_some_iff.1 hp).1]; exact hp
  refine ⟨(h.fine.push hn).setReg _ ⟨fun _ => lives_new _ _, fun h => by cases h⟩, ?_, ?_, ?_, hh, ⟨fun hb => ⟨?_, ?_⟩, fun hb => ?_⟩, h.nodup, ?_⟩
  · show (s.x.col ++ [2]).length = (s.os ++ [_]).length
    simp [h.cl]
  · show (s.os ++ [_]).length ≤ 900
    simp; omega
  · intro i hi
    rcases rch_new hi with h1 | rfl
    · exact (h.led i h1).push _
    · exact lives_new _ _
  · intro v hv hr
    rcases List.mem_or_eq_of_mem_set hv with hv | rfl
    · exact hm.kp hh h.inr (h.regR v hv hr).1 ((h.bar.1 hb).regs v hv hr)
    · left
      show cAt (s.x.col ++ [2]) (s.os.length : Int) ≠ 0
      rw [hcn]; decide
  · intro i l v hl h2 hv hr
    rcases hold i l hl with ⟨h1, h3⟩ | rfl
    · change cAt (s.x.col ++ [2]) (i : Int) = 2 at h2
      rw [hcat _ (by omega) (by omega)] at h2
      exact hm.kp hh h.inr (h.inr i l h1 v hv hr).1 ((h.bar.1 hb).black i l v h1 h2 hv hr)
    · rw [mem_zeros hv] at hr; cases hr
  · intro i l v hl h2 hv hr
    rcases hold i l hl with ⟨h1, h3⟩ | rfl
    · change cAt (s.x.col ++ [2]) (i : Int) = 2 at h2
      rw [hcat _ (by omega) (by omega)] at h2
      exact hm.m1 _ (h.inr i l h1 v hv hr).1 (h.bar.2 hb i l v h1 h2 hv hr)
    · rw [mem_zeros hv] at hr; cases hr
  · intro x
    show x ∈ s.x.gone ↔ 0 ≤ x ∧ x < ((s.os ++ [some (zerosV n)]).length : Int) ∧ ¬ Lives (s.os ++ [some (zerosV n)]) x
    rw [h.gone, List.length_append]
    have hpush : ∀ x : Int, x < s.os.length → (Lives (s.os ++ [some (zerosV n)]) x ↔ Lives s.os x) := by
      intro x hx
      constructor
      · rintro ⟨h2, l, hl⟩
        rw [List.getElem?_append_left (by omega)] at hl
        exact ⟨h2, l, hl⟩
      · exact fun h => h.push _
    constructor
    · rintro ⟨h2, h3, h4⟩
      exact ⟨h2, by simp; omega, fun h => h4 ((hpush x h3).1 h)⟩
    · rintro ⟨h2, h3, h4⟩
      have h3' : x < (s.os.length : Int) + 1 := by simpa using h3
      by_cases e : x = (s.os.length : Int)
      · exact absurd (e ▸ lives_new s.os (zerosV n)) h4
      · have h5 : x < (s.os.length : Int) := by omega
        exact ⟨h2, h5, fun h => h4 ((hpush x h5).2 h)⟩
theorem InvT.putT {b : Int} {s : Sm Tx} (h : InvT b s) (hb3 : b = 1 ∨ b = 2 ∨ b = 3) {i : Int} (hi : Lives s.os i) (hir : RchM s.regs s.os i) {k : Nat} (hk : k < (objAt s.os i).length) {u : V} (hu : OkV s.os u) (hur : u.ref = true → RchM s.regs s.os u.n) : InvT b ((tKd b).put s i k u) := by
  have hob := hi.obj
  have hg : (objAt s.os i)[k]? = some ((objAt s.os i).getD k ⟨false, 0⟩) := by rw [List.getD_eq_getElem?_getD, List.getElem?_eq_getElem hk]; rfl
  obtain ⟨old, ho⟩ : ∃ old, (objAt s.os i).getD k ⟨false, 0⟩ = old := ⟨_, rfl⟩
  rw [ho] at hg
  have hoR : InR s.x.col.length old := h.inr _ _ hob old (List.mem_of_getElem? hg)
  have huR : InR s.x.col.length u := fun hr => by
    have h1 := hu.1 hr
    have h2 := h1.lt
    have h3 := h1.1
    rw [h.cl]; exact ⟨h3, by omega⟩
  have hi0 := hi.1
  have hil : i < (s.x.col.length : Int) := by have := hi.lt; rw [h.cl]; omega
  have hlv : ∀ x, Lives (s.os.set i.toNat (some ((objAt s.os i).set k u))) x ↔ Lives s.os x := by
    intro x
    constructor
    · rintro ⟨h0, l, hl⟩
      by_cases e : i.toNat = x.toNat
      · exact ⟨h0, _, by rw [← e]; exact hob⟩
      · rw [List.getElem?_set_ne e] at hl; exact ⟨h0, l, hl⟩
    · exact fun h => h.put _
  have hcl : (barC b s.x.col i old u).length = s.x.col.length := by
    unfold barC
    repeat' split
    all_goals first | rfl | exact shade_len _ _ | exact List.length_set ..
  have hh : Hues (barC b s.x.col i old u) := by
    unfold barC
    repeat' split
    all_goals first | exact h.hues | exact h.hues.shade _ | exact h.hues.set _ (.inr (.inl rfl))
  have hold : ∀ (j : Nat) (l : List V), (s.os.set i.toNat (some ((objAt s.os i).set k u)))[j]? = some (some l) → (s.os[j]? = some (some l) ∧ (j : Int) ≠ i) ∨ ((j : Int) = i ∧ l = (objAt s.os i).set k u) := by
    intro j l hl
    by_cases e : i.toNat = j
    · right
      rw [← e, List.getElem?_set_self hi.lt] at hl
      exact ⟨by omega, (Option.some.inj (Option.some.inj hl)).symm⟩
    · left
      rw [List.getElem?_set_ne e] at hl
      exact ⟨hl, by omega⟩
  have hput : (tKd b).put s i k u = ⟨s.regs, s.os.set i.toNat (some ((objAt s.os i).set k u)), ⟨barC b s.x.col i old u, s.x.gone⟩⟩ := by
    show (⟨_, _, ⟨barC b s.x.col i _ u, _⟩⟩ : Sm Tx) = _
    rw [ho]
  rw [hput]
  have hnbw : b ≠ 3 → Nbw (s.os.set i.toNat (some ((objAt s.os i).set k u))) (barC b s.x.col i old u) := by
    intro hb
    have hN := h.bar.2 hb
    intro j l v hl h2 hv hr
    rcases hb3 with rfl | rfl | rfl
    · have e1 : barC 1 s.x.col i old u = shade s.x.col u := by unfold barC; rw [if_pos rfl]
      rw [e1] at h2 ⊢
      have h3 := shade_two huR (by omega) h2
      rcases hold j l hl with ⟨h4, _⟩ | ⟨h4, rfl⟩
      · have h5 := hN j l v h4 h3 hv hr
        rw [shade_keep huR (h.inr j l h4 v hv hr).1 h5]; exact h5
      · rcases List.mem_or_eq_of_mem_set hv with hv | rfl
        · have h5 := hN i.toNat _ v hob (by rw [Int.toNat_of_nonneg hi0, ← h4]; exact h3) hv hr
          rw [shade_keep huR (h.inr _ _ hob v hv hr).1 h5]; exact h5
        · exact shade_hit huR hr
    · have e1 : barC 2 s.x.col i old u = (if cAt s.x.col i = 2 ∧ (u.ref = true ∧ cAt s.x.col u.n = 0) then s.x.col.set i.toNat 1 else s.x.col) := by unfold barC; rw [if_neg (by decide), if_pos rfl]
      rw [e1] at h2 ⊢
      split at h2
      · rename_i hc
        rw [if_pos hc]
        rw [cAt_set _ hi0 hil (by omega)] at h2
        split at h2
        · cases h2
        · rename_i hji
          rcases hold j l hl with ⟨h4, _⟩ | ⟨h4, _⟩
          · have h5 := hN j l v h4 h2 hv hr
            rw [cAt_set _ hi0 hil (h.inr j l h4 v hv hr).1]
            split
            · decide
            · exact h5
          · exact absurd h4 hji
      · rename_i hc
        rw [if_neg hc]
        rcases hold j l hl with ⟨h4, _⟩ | ⟨h4, rfl⟩
        · exact hN j l v h4 h2 hv hr
        · rw [h4] at h2
          rcases List.mem_or_eq_of_mem_set hv with hv | rfl
          · exact hN i.toNat _ v hob (by rw [Int.toNat_of_nonneg hi0]; exact h2) hv hr
          · exact fun e => hc ⟨h2, hr, e⟩
    · exact absurd rfl hb
  have hsnap : b = 3 → Snap s.regs (s.os.set i.toNat (some ((objAt s.os i).set k u))) (barC b s.x.col i old u) := by
    intro hb
    have hS := h.bar.1 hb
    have e1 : barC b s.x.col i old u = shade s.x.col old := by unfold barC; rw [if_neg (by omega), if_neg (by omega)]
    rw [e1] at hh ⊢
    have hm : Mono s.os s.x.col (s.os.set i.toNat (some ((objAt s.os i).set k u))) (shade s.x.col old) := by
      refine ⟨fun j h0 hj => by rw [shade_keep hoR h0 hj]; exact hj, fun j hj => (hlv j).2 hj, fun p l v h0 hp hv hr h1 h2 => absurd (shade_two hoR h0 h2) h1, fun p l v h0 hp hv hr => ?_⟩
      by_cases e : p = i
      · subst e
        have : l = objAt s.os p := by unfold objAt; rw [hp]; rfl
        subst this
        by_cases e2 : v = old
        · left; rw [e2] at hr ⊢; exact shade_hit hoR hr
        · right
          refine ⟨_, List.getElem?_set_self hi.lt, ?_⟩
          obtain ⟨q, hq⟩ := List.getElem?_of_mem hv
          refine List.mem_of_getElem? (i := q) ?_
          rw [List.getElem?_set_ne]
          · exact hq
          · rintro rfl
            rw [hg] at hq
            exact e2 (Option.some.inj hq).symm
      · right
        exact ⟨l, by rw [List.getElem?_set_ne (by omega)]; exact hp, hv⟩
    refine ⟨fun v hv hr => hm.kp hh h.inr (h.regR v hv hr).1 (hS.regs v hv hr), fun j l v hl h2 hv hr => ?_⟩
    have h3 := shade_two hoR (by omega) h2
    rcases hold j l hl with ⟨h4, _⟩ | ⟨h4, rfl⟩
    · exact hm.kp hh h.inr (h.inr j l h4 v hv hr).1 (hS.black j l v h4 h3 hv hr)
    · rcases List.mem_or_eq_of_mem_set hv with hv | rfl
      · exact hm.kp hh h.inr (h.inr _ _ hob v hv hr).1 (hS.black i.toNat _ v hob (by rw [Int.toNat_of_nonneg hi0, ← h4]; exact h3) hv hr)
      · exact hm.kp hh h.inr (huR hr).1 (h.kp hb (hur hr))
  refine ⟨h.fine.put hi k hu, ?_, ?_, fun j hj => (hlv j).2 (h.led j (rch_put hi hir hur hj)), hh, ⟨hsnap, hnbw⟩, h.nodup, ?_⟩
  · show (barC _ _ _ _ _).length = (s.os.set _ _).length
    rw [hcl, List.length_set]; exact h.cl
  · show (s.os.set _ _).length ≤ 900
    rw [List.length_set]; exact h.len
  · intro x
    show x ∈ s.x.gone ↔ 0 ≤ x ∧ x < ((s.os.set _ _).length : Int) ∧ ¬ Lives (s.os.set i.toNat (some ((objAt s.os i).set k u))) x
    rw [List.length_set, hlv]; exact h.gone x
end Go.Proofs.Ytmmcjjklmcfegaa
