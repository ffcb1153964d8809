/- Counting: what is always so. Plain. -/
import Derived.Test.YtmmcjjklmcfegaaR4
namespace Go.Proofs.Ytmmcjjklmcfegaa

theorem allO_len {os : Os} (h : ∀ (i : Nat) (l : List V), os[i]? = some (some l) → l.length ≤ 4) : (allO os).length ≤ 4 * os.length := by
  unfold allO
  induction os with
  | nil => simp
  | cons o os ih =>
    have h1 := ih fun i l hl => h (i + 1) l (by rw [List.getElem?_cons_succ]; exact hl)
    rw [List.map_cons, List.flatten_cons, List.length_append, List.length_cons]
    have h2 : (o.getD []).length ≤ 4 := by
      cases o with
      | none => simp
      | some l => exact h 0 l rfl
    omega
/-- What is always so of a machine whose memory counts. -/
structure InvK (s : Sm Cx) : Prop where
  fine : Fine s.regs s.os
  inv : InvP s.regs (toC s) []
  len : s.os.length ≤ 900
  room : s.x.gone.length + alive s.os = s.os.length
  bnd : ∀ x ∈ s.x.cs, x ≤ 100000
  pos : ∀ (j : Nat) (k : Int), s.x.cs[j]? = some k → Lives s.os j → 0 < k
  nodup : s.x.gone.Nodup
  gone : ∀ x, x ∈ s.x.gone ↔ 0 ≤ x ∧ x < (s.os.length : Int) ∧ ¬ Lives s.os x
theorem Fine.shr {regs : List V} {os os' : Os} (h : Fine regs os) (hl : os'.length = os.length) (hs : ∀ (i : Nat) (l : List V), os'[i]? = some (some l) → os[i]? = some (some l)) (hv : ∀ v ∈ regs, v.ref = true → Lives os' v.n) : Fine regs os' :=
  ⟨h.regs8, fun v hv' => ⟨hv v hv', (h.regs v hv').2⟩, fun i l hl' => h.flen i l (hs i l hl'), fun i l hl' => h.num i l (hs i l hl'), fun i l hl' v hv' hr => by rw [hl]; exact h.rng i l (hs i l hl') v hv' hr⟩
/-- What is so behind all that loses references. -/
theorem invK_after {rg p : List V} {c : Cst} (hI : InvP rg c p) (hF : Fine rg c.os) (hlen : c.os.length ≤ 900) (hroom : c.gone.length + alive c.os = c.os.length) (hb : ∀ x ∈ c.cs, x ≤ 100000)
    (hpos : ∀ (j : Nat) (k : Int), c.cs[j]? = some k → Lives c.os j → 0 < k) (hnd : c.gone.Nodup) (hg : ∀ x, x ∈ c.gone ↔ 0 ≤ x ∧ x < (c.os.length : Int) ∧ ¬ Lives c.os x) : InvK (ofC rg (dnF p c)) := by
  obtain ⟨_, hE⟩ := dnF_end (p := p) (q := []) (rg := rg) (s := c) (by rw [List.append_nil]; exact hI)
  refine ⟨hF.shr hE.len hE.shr fun v hv hr => hE.inv.held v (List.mem_append_left _ hv) hr, hE.inv, ?_, ?_, hE.bnd _ hb, ?_, ?_, ?_⟩
  · show (dnF p c).os.length ≤ 900
    rw [hE.len]; exact hlen
  · show (dnF p c).gone.length + alive (dnF p c).os = (dnF p c).os.length
    rw [hE.len, hE.room]; exact hroom
  · intro j k hk hl
    rcases hE.pos (fun _ => False) (fun j k hk hl => .inl (hpos j k hk hl)) j k hk hl with h | h
    · exact h
    · cases h
  · obtain ⟨n, h1, h2, h3⟩ := hE.gone
    show (dnF p c).gone.Nodup
    rw [h1, List.nodup_append]
    refine ⟨hnd, h2, ?_⟩
    rintro x hx y hy rfl
    exact ((hg x).1 hx).2.2 ((h3 x).1 hy).1
  · obtain ⟨n, h1, h2, h3⟩ := hE.gone
    intro x
    show x ∈ (dnF p c).gone ↔ 0 ≤ x ∧ x < ((dnF p c).os.length : Int) ∧ ¬ Lives (dnF p c).os x
    rw [h1, List.mem_append, hg, h3, hE.len]
    constructor
    · rintro (⟨h4, h5, h6⟩ | ⟨h4, h5⟩)
      · exact ⟨h4, h5, fun h => h6 (lives_shr hE.shr h)⟩
      · have := h4.lt
        have h0 := h4.1
        exact ⟨h4.1, by omega, h5⟩
    · rintro ⟨h4, h5, h6⟩
      by_cases h7 : Lives c.os x
      · exact .inr ⟨h7, h6⟩
      · exact .inl ⟨h4, h5, h7⟩
theorem InvK.count_le {s : Sm Cx} (h : InvK s) {i : Int} (hi : Lives s.os i) : ∃ x, s.x.cs[i.toNat]? = some x ∧ 0 ≤ x ∧ x + 1 ≤ 100000 := by
  refine ⟨_, h.inv.at hi, by omega, ?_⟩
  have h1 := cnt_le s.regs i
  have h2 := cnt_le (allO s.os) i
  have h3 := allO_len h.fine.flen
  have h4 := h.fine.regs8
  have h5 := h.len
  show ((cnt s.regs i + cnt [] i + cnt (allO s.os) i : Nat) : Int) + 1 ≤ 100000
  rw [cnt_nil]; omega
theorem InvK.hold {room : Int} {s : Sm Cx} (h : InvK s) {r : Int} (h0 : 0 ≤ r) (h1 : r < 8) {v : V} (hv : OkV s.os v) : InvK ((cKd room).set s r v) := by
  have hr : r.toNat < s.regs.length := by rw [h.fine.regs8]; omega
  refine invK_after (rg := s.regs.set r.toNat v) (p := [s.regs.getD r.toNat ⟨false, 0⟩]) (c := ⟨s.os, up1 s.x.cs v, s.x.gone⟩) (h.inv.hold hr hv.1) (h.fine.setReg _ hv) h.len h.room ?_ ?_ h.nodup h.gone
  · exact up1_bnd h.bnd fun hvr => by obtain ⟨x, hx, _, hx2⟩ := h.count_le (hv.1 hvr); exact ⟨x, hx, hx2⟩
  · intro j k hk hj
    have hjl := hj
    obtain ⟨_, l, hl⟩ := hj
    rw [Int.toNat_natCast] at hl
    have h2 := h.inv.count j l hl
    have h3 := h.pos j _ h2 hjl
    have h4 := up1_at (v := v) (fun hvr => (hv.1 hvr).1) h2
    have h5 : (up1 s.x.cs v)[j]? = some k := hk
    have h6 : (toC s).cs = s.x.cs := rfl
    rw [h6] at h4
    rw [h4] at h5
    have h7 := Option.some.inj h5
    split at h7 <;> omega
theorem InvK.putK {room : Int} {s : Sm Cx} (h : InvK s) {i : Int} (hi : Lives s.os i) {k : Nat} (hk : k < (objAt s.os i).length) {u : V} (hu : OkV s.os u) : InvK ((cKd room).put s i k u) := by
  have hal : alive (s.os.set i.toNat (some ((objAt s.os i).set k u))) = alive s.os := alive_some hi.obj
  refine invK_after (rg := s.regs) (p := [(objAt s.os i).getD k ⟨false, 0⟩]) (c := ⟨s.os.set i.toNat (some ((objAt s.os i).set k u)), up1 s.x.cs u, s.x.gone⟩) (h.inv.put hi hk hu.1) (h.fine.put hi k hu) ?_ ?_ ?_ ?_ h.nodup ?_
  · show (s.os.set _ _).length ≤ 900
    rw [List.length_set]; exact h.len
  · show _ + alive (s.os.set _ _) = (s.os.set _ _).length
    rw [hal, List.length_set]; exact h.room
  · exact up1_bnd h.bnd fun hvr => by obtain ⟨x, hx, _, hx2⟩ := h.count_le (hu.1 hvr); exact ⟨x, hx, hx2⟩
  · intro j k' hk' hj
    have hjl : Lives s.os (j : Int) := by
      obtain ⟨_, l, hl⟩ := hj
      rcases put_get hl hi with h1 | h1
      · exact ⟨by omega, l, h1⟩
      · by_cases e : i.toNat = (j : Int).toNat
        · exact ⟨by omega, _, by rw [← e]; exact hi.obj⟩
        · change (s.os.set i.toNat _)[(j : Int).toNat]? = _ at hl
          rw [List.getElem?_set_ne e] at hl; exact ⟨by omega, l, hl⟩
    have h2 := h.inv.at hjl
    rw [Int.toNat_natCast] at h2
    have h3 := h.pos j _ h2 hjl
    have h4 := up1_at (v := u) (fun hvr => (hu.1 hvr).1) h2
    have h5 : (up1 s.x.cs u)[j]? = some k' := hk'
    have h6 : (toC s).cs = s.x.cs := rfl
    rw [h6] at h4
    rw [h4] at h5
    have h7 := Option.some.inj h5
    split at h7 <;> omega
  · intro x
    rw [h.gone]
    show _ ↔ 0 ≤ x ∧ x < ((s.os.set _ _).length : Int) ∧ ¬ Lives (s.os.set i.toNat _) x
    rw [List.length_set]
    have : Lives (s.os.set i.toNat (some ((objAt s.os i).set k u))) x ↔ Lives s.os x := by
      constructor
      · rintro ⟨h0, l, hl⟩
        by_cases e : i.toNat = x.toNat
        · exact ⟨h0, _, by rw [← e]; exact hi.obj⟩
        · rw [List.getElem?_set_ne e] at hl; exact ⟨h0, l, hl⟩
      · exact fun h => h.put _
    rw [this]
theorem InvK.newK {room : Int} {s : Sm Cx} (h : InvK s) (hl9 : s.os.length < 900) {n : Nat} {o r : Int} (hn : n ≤ 4) (h0 : 0 ≤ r) (h1 : r < 8) (he : ((cKd room).new s n).2 = some o) : InvK ((cKd room).set ((cKd room).new s n).1 r ⟨true, o⟩) := by
  unfold cKd at he ⊢
  simp only at he ⊢
  split at he
  · cases he
  · rename_i hroom
    rw [if_neg hroom]
    have he := Option.some.inj he
    subst he
    have hr : r.toNat < s.regs.length := by rw [h.fine.regs8]; omega
    have hno := lives_new s.os (zerosV n)
    have hcl : s.x.cs.length = s.os.length := h.inv.len
    have hpush : ∀ x : Int, x < s.os.length → (Lives (s.os ++ [some (zerosV n)]) x ↔ Lives s.os x) := by
      intro x hx
      constructor
      · rintro ⟨h2, l, hl⟩
        rw [List.getElem?_append_left (by omega)] at hl
        exact ⟨h2, l, hl⟩
      · exact fun h => h.push _
    refine invK_after (rg := s.regs.set r.toNat ⟨true, (s.os.length : Int)⟩) (p := [s.regs.getD r.toNat ⟨false, 0⟩]) (c := ⟨s.os ++ [some (zerosV n)], up1 (s.x.cs ++ [0]) ⟨true, (s.os.length : Int)⟩, s.x.gone⟩)
      ((h.inv.new n).hold hr fun _ => hno) ((h.fine.push hn).setReg _ ⟨fun _ => hno, fun h => by cases h⟩) ?_ ?_ ?_ ?_ h.nodup ?_
    · show (s.os ++ [_]).length ≤ 900
      simp; omega
    · show _ + alive (s.os ++ [some (zerosV n)]) = (s.os ++ [_]).length
      have := h.room
      unfold alive at this ⊢
      rw [List.countP_append]; simp; omega
    · refine up1_bnd (c := s.x.cs ++ [0]) (v := ⟨true, (s.os.length : Int)⟩) (M := 100000) ?_ fun _ => ⟨0, ?_, by decide⟩
      · intro x hx
        rw [List.mem_append, List.mem_singleton] at hx
        rcases hx with hx | rfl
        · exact h.bnd x hx
        · decide
      · show (s.x.cs ++ [0])[((s.os.length : Int)).toNat]? = _
        rw [Int.toNat_natCast, List.getElem?_append_right (by omega), hcl]; simp
    · intro j k hk hj
      have hlt := hj.lt
      have hlt2 : j < s.os.length + 1 := by simpa using hlt
      have h5 : (up1 (s.x.cs ++ [0]) ⟨true, (s.os.length : Int)⟩)[j]? = some k := hk
      rcases Nat.lt_or_ge j s.os.length with h2 | h2
      · have hjl := (hpush (j : Int) (by omega)).1 hj
        have h3 := h.inv.at hjl
        rw [Int.toNat_natCast] at h3
        have h4 := h.pos j _ h3 hjl
        have h6 : (s.x.cs ++ [0])[j]? = some _ := (List.getElem?_append_left (by omega)).trans h3
        have h7 := up1_at (v := ⟨true, (s.os.length : Int)⟩) (fun _ => by show (0 : Int) ≤ (s.os.length : Int); omega) h6
        rw [h7] at h5
        have h8 := Option.some.inj h5
        split at h8 <;> omega
      · have hj' : j = s.os.length := by omega
        have h6 : (s.x.cs ++ [0])[j]? = some 0 := by rw [List.getElem?_append_right (by omega), hcl, hj']; simp
        have h7 := up1_at (v := ⟨true, (s.os.length : Int)⟩) (fun _ => by show (0 : Int) ≤ (s.os.length : Int); omega) h6
        rw [h7, if_pos ⟨rfl, by show (s.os.length : Int) = (j : Int); omega⟩] at h5
        have h8 := Option.some.inj h5
        omega
    · intro x
      rw [h.gone]
      show _ ↔ 0 ≤ x ∧ x < ((s.os ++ [_]).length : Int) ∧ ¬ Lives (s.os ++ [some (zerosV n)]) x
      rw [List.length_append]
      constructor
      · rintro ⟨h2, h3, h4⟩
        exact ⟨h2, by simp; omega, fun h => h4 ((hpush x h3).1 h)⟩
      · rintro ⟨h2, h3, h4⟩
        have h3' : x < (s.os.length : Int) + 1 := by simpa using h3
        by_cases e : x = (s.os.length : Int)
        · exact absurd (e ▸ hno) h4
        · have h5 : x < (s.os.length : Int) := by omega
          exact ⟨h2, h5, fun h => h4 ((hpush x h5).2 h)⟩
theorem InvK.fld {s : Sm Cx} (h : InvK s) {v u : V} (hv : v ∈ s.regs) (hr : v.ref = true) (hu : u ∈ objAt s.os v.n) : OkV s.os u := by
  have hl := ((h.fine.regs v hv).1 hr).obj
  exact ⟨fun hur => h.inv.flds _ _ hl u hu hur, fun hur => h.fine.num _ _ hl u hu hur⟩
theorem InvK.step {room : Int} {s : Sm Cx} (h : InvK s) (hl : s.os.length < 900) (d : Dd) : InvK ((cKd room).step s d).1 := by
  refine step_keep (cKd room) InvK s d h h.fine (fun v u => h.fld) (fun r v h0 h1 hv => h.hold h0 h1 hv) (fun i k u hi hk hu => h.putK hi hk hu) ?_ (fun n o r hn h0 h1 he => h.newK hl hn h0 h1 he)
  intro n hn he
  unfold cKd at he ⊢
  simp only at he ⊢
  split at he
  · rename_i hroom; rw [if_pos hroom]; exact h
  · cases he
end Go.Proofs.Ytmmcjjklmcfegaa
