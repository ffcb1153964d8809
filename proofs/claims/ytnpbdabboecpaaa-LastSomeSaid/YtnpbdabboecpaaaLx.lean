/- last.Last's refusals; its plain laws. -/
import Derived.Test.YtnpbdabboecpaaaLb
import Derived.Test.YtnpbdabboecpaaaDr
import Derived.Test.YtnpbdabboecpaaaOi
namespace Go.Proofs.Ytnpbdabboecpaaa
open Go.RowKit Go.Shelf

def LastNo (w w' : World) (e : Ending) : Prop := ∃ c : Int, (c != 0) = true ∧ e = .returned (.tuple #[.slice none 0 0, .slice none 0 0, .int .i64 c]) ∧ Below w.heap.size w w'
set_option maxRecDepth 100000 in
set_option maxHeartbeats 1000000 in
theorem last_no (g : G) (v u : Value) (wl : List Int) (w : World) (hg : IsGraph w v g) (hu : IsInts w u wl) (hk : ¬ LastOk g wl) :
    Calls Try.prog 25 #[v, u] w fun e w' => LastNo w w' e := by
  have Hg := Lib.hid hg
  obtain ⟨vo, vr, rfl, ho, hr⟩ := hg
  obtain ⟨ao, co, rfl, hlo⟩ := ho.slice
  obtain ⟨ar, cr, rfl, hlr⟩ := hr.slice
  obtain ⟨au, cu, rfl, hlu⟩ := hu.slice
  have Hu := Lib.hid hu
  have Hk := Lib.hid hk
  clear ho hr hu hk
  have hM0 := (Mem.start w).alloc #[.slice ao g.objs.length co, .slice ar g.roots.length cr] 25
  by_cases hG : Good g
  · have HG := Lib.hid hG
    have hn := hG.objs
    go_enter Try.func25, Try.ntmps25
    go_wp2_with fail
    refine (gcheck_yes _ g _ (Hg.out.later hM0.below) HG.out).mono ?_
    rintro e w1 ⟨rfl, hb1⟩
    have hM1 := hM0.call hb1
    obtain ⟨p0, p1⟩ := hM1.cells2 0 rfl
    have HM1 := Lib.hid hM1
    by_cases hfl : wl.length ≤ 24
    · have hcn := lastContains_any (.slice au wl.length cu) wl w.heap.size ao g.objs.length co w1 p0 (by omega) (Hu.out.later hM1.below)
      rw [show wl.any (outB g.objs.length) = true from by
        apply Classical.byContradiction
        intro h
        refine Hk.out ⟨hG, hfl, fun x hx => ?_⟩
        have h2 := List.any_eq_false.1 (by simpa using h) x hx
        simp [outB] at h2
        omega] at hcn
      have Hcn := Lib.hid hcn
      clear hM0 hM1 hb1 hcn hG
      go_wp2_with fail
      refine Hcn.out.mono ?_
      rintro e w2 ⟨rfl, rfl⟩
      go_wp2
      refine bodyPost_ret (v := .tuple #[.slice none 0 0, .slice none 0 0, .int .i64 2]) (by simp [results, Try.results25, go_sem]) rfl ⟨2, rfl, rfl, HM1.out.below⟩
    · have hz : decide (24 < (wl.length : Int)) = true := by simp; omega
      clear hM0 hM1 hb1 hG
      go_wp2
      refine bodyPost_ret (v := .tuple #[.slice none 0 0, .slice none 0 0, .int .i64 1]) (by simp [results, Try.results25, go_sem]) rfl ⟨1, rfl, rfl, HM1.out.below⟩
  · have HG := Lib.hid hG
    clear hG
    go_enter Try.func25, Try.ntmps25
    go_wp2_with fail
    refine (gcheck_no _ g _ (Hg.out.later hM0.below) HG.out).mono ?_
    rintro e w1 ⟨⟨c, rfl, hc⟩, hb1⟩
    have hM1 := hM0.call hb1
    have hc2 : (c != 0) = true := by simp [bne, hc]
    go_wp2
    refine bodyPost_ret (v := .tuple #[.slice none 0 0, .slice none 0 0, .int .i64 c]) (by simp [results, Try.results25, go_sem]) rfl ⟨c, hc2, rfl, hM1.below⟩

theorem TS.step {g : G} {fr : List Int} {i j : Int} (h : TS g fr i) (hj : j ∈ targets (fieldsAt g i)) : TS g fr j := fun S hS hr => hS i (h S hS hr) j hj
theorem LeadP.trans {g : G} {a b c : Int} (h : LeadP g a b) (h2 : LeadP g b c) : LeadP g a c := fun S hS hr => h2 S hS (fun j hj => hS b (h S hS hr) j hj)
theorem ReachR.reachP {g : G} (hG : Good g) {lr : List Int} (hR : ReachR g lr) (x : Int) : x ∈ lr ↔ ReachP g x := by
  constructor
  · intro hx
    have h0 := hR.rng x hx
    have := hR.sound x hx (fun n => ReachP g (n : Int)) ⟨fun j _ hj => TS.of_mem (mem_targets (x := ⟨true, j⟩) (refersB_iff.1 hj) rfl), fun i j _ _ hi hr => TS.step hi (mem_targets (x := ⟨true, j⟩) (refersB_iff.1 hr) rfl)⟩
    rwa [show ((x.toNat : Nat) : Int) = x by omega] at this
  · intro hx
    refine (hx (fun y => y ∈ lr ∧ 0 ≤ y) ?_ ?_).1
    · rintro i ⟨hi, hi0⟩ j hj
      have hj2 := target_in hG hj
      have hi2 := hR.rng i hi
      obtain ⟨k, rfl⟩ : ∃ k : Nat, j = (k : Int) := ⟨j.toNat, by omega⟩
      obtain ⟨a, rfl⟩ : ∃ a : Nat, i = (a : Int) := ⟨i.toNat, by omega⟩
      exact ⟨hR.closed.2 a k (by omega) (by omega) hi (refersB_iff.2 (of_targets hj)), by omega⟩
    · intro j hj
      have hj2 := hG.target (fun x hx => roots_all g x hx) hj
      obtain ⟨k, rfl⟩ : ∃ k : Nat, j = (k : Int) := ⟨j.toNat, by omega⟩
      exact ⟨hR.closed.1 k (by omega) (refersB_iff.2 (of_targets hj)), by omega⟩
theorem LastS.readyI {g : G} {wl R S : List Int} (h : LastS g wl R S) {x : Int} (hx : x ∈ R) : LostP g wl x ∧ ¬ HeldP g wl x := by
  have h0 := h.rngR x hx
  have := (h.ready x.toNat (by omega)).1 (by rwa [show ((x.toNat : Nat) : Int) = x by omega])
  rwa [show ((x.toNat : Nat) : Int) = x by omega] at this
theorem LastS.savedI {g : G} {wl R S : List Int} (h : LastS g wl R S) {x : Int} (hx : x ∈ S) : SavedP g wl x := by
  have h0 := h.rngS x hx
  have := (h.saved x.toNat (by omega)).1 (by rwa [show ((x.toNat : Nat) : Int) = x by omega])
  rwa [show ((x.toNat : Nat) : Int) = x by omega] at this
theorem LastS.mkS {g : G} {wl R S : List Int} (h : LastS g wl R S) {x : Int} (h0 : 0 ≤ x ∧ x < (g.objs.length : Int)) (hx : SavedP g wl x) : x ∈ S := by
  have := (h.saved x.toNat (by omega)).2 (by rwa [show ((x.toNat : Nat) : Int) = x by omega])
  rwa [show ((x.toNat : Nat) : Int) = x by omega] at this
theorem LastS.mkR {g : G} {wl R S : List Int} (h : LastS g wl R S) {x : Int} (h0 : 0 ≤ x ∧ x < (g.objs.length : Int)) (hx : LostP g wl x ∧ ¬ HeldP g wl x) : x ∈ R := by
  have := (h.ready x.toNat (by omega)).2 (by rwa [show ((x.toNat : Nat) : Int) = x by omega])
  rwa [show ((x.toNat : Nat) : Int) = x by omega] at this
theorem LostP.mono {g : G} {a b : List Int} (h : ∀ x ∈ a, x ∈ b) {x : Int} (hx : LostP g a x) : LostP g b x := ⟨h x hx.1, hx.2⟩
theorem LastS.in {g : G} {wl R S : List Int} (h : LastS g wl R S) : ∀ x ∈ R, x ∈ S := fun x hx => h.mkS (h.rngR x hx) ⟨x, (h.readyI hx).1, .inl rfl⟩
theorem LastS.more {g : G} {a b R S Q T : List Int} (h : LastS g a R S) (h2 : LastS g b Q T) (hab : ∀ x ∈ a, x ∈ b) : ∀ x ∈ S, x ∈ T := by
  intro x hx
  obtain ⟨i, hi, hi2⟩ := h.savedI hx
  exact h2.mkS (h.rngS x hx) ⟨i, hi.mono hab, hi2⟩
theorem LastS.ready_less {g : G} {a b R S Q T : List Int} (h : LastS g a R S) (h2 : LastS g b Q T) (hab : ∀ x ∈ a, x ∈ b) : ∀ x ∈ Q, x ∈ a → x ∈ R := by
  intro x hx ha
  obtain ⟨h3, h4⟩ := h2.readyI hx
  refine h.mkR (h2.rngR x hx) ⟨⟨ha, h3.2⟩, ?_⟩
  rintro ⟨i, hi, hi2⟩
  exact h4 ⟨i, hi.mono hab, hi2⟩
theorem LastS.has {g : G} {a R S : List Int} (h : LastS g a R S) {x : Int} (h0 : 0 ≤ x ∧ x < (g.objs.length : Int)) (hx : x ∈ a) (hr : ¬ ReachP g x) : x ∈ S := h.mkS h0 ⟨x, ⟨hx, hr⟩, .inl rfl⟩
theorem LastS.out {g : G} {a R S : List Int} (h : LastS g a R S) {x : Int} (hx : x ∈ S) : ¬ ReachP g x := by
  obtain ⟨i, hi, rfl | h2⟩ := h.savedI hx
  · exact hi.2
  · exact h2.2
theorem LastS.closed {g : G} {a R S : List Int} (h : LastS g a R S) {x y : Int} (hx : x ∈ S) (hy : LeadP g x y) (h0 : 0 ≤ y ∧ y < (g.objs.length : Int)) (hr : ¬ ReachP g y) : y ∈ S := by
  obtain ⟨i, hi, rfl | h2⟩ := h.savedI hx
  · exact h.mkS h0 ⟨x, hi, .inr ⟨hy, hr⟩⟩
  · exact h.mkS h0 ⟨i, hi, .inr ⟨h2.1.trans hy, hr⟩⟩
theorem LastS.not_ready {g : G} {a R S : List Int} (h : LastS g a R S) {x y : Int} (hx : x ∈ S) (hy : LeadP g x y) (hne : y ≠ x) (ha : x ∈ a) : y ∉ R := fun hR => (h.readyI hR).2 ⟨x, ⟨ha, h.out hx⟩, hy, hne⟩
/-- Has, its answer by a name. -/
theorem has_said (v : Value) (l : List Int) (x : Int) (w : World) (hl : IsInts w v l) (t : Bool) (ht : t = true ↔ x ∈ l) :
    Calls Try.prog 15 #[v, .int .i64 x] w fun e w' => e = .returned (.bool t) ∧ w = w' := by
  have h := has_any v l x w hl
  rw [show hasB l x = t from by unfold hasB; rw [Bool.eq_iff_iff, decide_eq_true_eq]; exact ht.symm] at h
  exact h
theorem dec_iff (p : Prop) : ∃ t : Bool, t = true ↔ p := by
  by_cases h : p
  · exact ⟨true, fun _ => h, fun _ => rfl⟩
  · exact ⟨false, fun h2 => (by cases h2), fun h2 => (h h2).elim⟩
end Go.Proofs.Ytnpbdabboecpaaa
