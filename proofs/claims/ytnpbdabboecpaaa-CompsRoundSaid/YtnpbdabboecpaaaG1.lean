/- The references on graphs, walked: bad, all, GraphCheck, Refers, Has. -/
import Derived.Test.YtnpbdabboecpaaaEi
import Derived.Test.YtnpbdabboecpaaaRows
import Derived.Test.YtnpbdabboecpaaaG0
namespace Go.Proofs.Ytnpbdabboecpaaa
open Go.RowKit
theorem elemVals : Elem Try.prog 23 60 2 16 (.agg #[.bool false, .int .i64 0]) := ⟨by kernel_rfl, info_parts (by kernel_rfl), rfl, by decide⟩

set_option maxHeartbeats 400000 in
theorem bad_any (v : V) (n : Int) (w : World) :
    Calls Try.prog 45 #[.agg #[.bool v.ref, .int .i64 v.n], .int .i64 n] w fun e w' => e = .returned (.int .i64 (badC v n)) ∧ Below w.heap.size w w' := by
  obtain ⟨r, m⟩ := v
  unfold badC
  cases r
  · go_enter Try.func45, Try.ntmps45
    go_wp2
    all_goals (go_ret; exact ⟨congrArg (fun x => Ending.returned (.int .i64 x)) (by simp <;> omega), (by repeat (first | exact Below.refl _ _ | refine Below.setCell ?_ (by first | exact Nat.le_refl _ | (simp; done) | (simp; omega) | (simp at *; omega)) _ | refine Below.alloc ?_ (by first | exact Nat.le_refl _ | (simp; done) | (simp; omega) | (simp at *; omega)) _ | refine Below.drew ?_ | refine Below.trans ?_ (Below.mono (by assumption) (by first | exact Nat.le_refl _ | (simp; done) | (simp; omega) | (simp at *; omega)))))⟩)
  · go_enter Try.func45, Try.ntmps45
    go_wp2
    all_goals (go_ret; exact ⟨congrArg (fun x => Ending.returned (.int .i64 x)) (by simp <;> omega), (by repeat (first | exact Below.refl _ _ | refine Below.setCell ?_ (by first | exact Nat.le_refl _ | (simp; done) | (simp; omega) | (simp at *; omega)) _ | refine Below.alloc ?_ (by first | exact Nat.le_refl _ | (simp; done) | (simp; omega) | (simp at *; omega)) _ | refine Below.drew ?_ | refine Below.trans ?_ (Below.mono (by assumption) (by first | exact Nat.le_refl _ | (simp; done) | (simp; omega) | (simp at *; omega)))))⟩)

theorem take_len_le {α : Type} (l : List α) (k : Nat) : (l.take k).length ≤ l.length := by rw [List.length_take]; omega

theorem flatten_le {α : Type} (L : List (List α)) (m : Nat) (h : ∀ x ∈ L, x.length ≤ m) : L.flatten.length ≤ m * L.length := by
  induction L with
  | nil => simp
  | cons a L ih =>
    have h1 := h a (by simp)
    have h2 := ih (fun x hx => h x (by simp [hx]))
    rw [List.flatten_cons, List.length_append, List.length_cons, Nat.mul_add]
    omega

set_option maxHeartbeats 400000 in
theorem all_any (v : Value) (g : G) (w : World) (hg : IsGraph w v g) (h1 : g.objs.length ≤ 24) (h2 : g.roots.length ≤ 8) (h3 : ∀ o ∈ g.objs, o.length ≤ 4) :
    Calls Try.prog 44 #[v] w fun e w' => ∃ r, e = .returned r ∧ w'.ownsRow w.heap.size 60 2 r (allV g).length ((allV g).flatMap cellsV) ∧ Below w.heap.size w w' := by
  obtain ⟨vo, vr, rfl, ho, hr⟩ := hg
  obtain ⟨ao, co, rfl, hlo⟩ := ho.slice
  obtain ⟨ar, cr, rfl, hlr⟩ := hr.slice
  have Ho := Lib.hid ho
  have Hr := Lib.hid hr
  have H3 := Lib.hid h3
  clear ho hr h3
  go_enter Try.func44, Try.ntmps44
  go_wp2
  go_loopw [3, 13] (fun r i wr => ∃ k : Nat, k ≤ g.roots.length ∧ i = .int .i64 k ∧ Mem w.heap.size w wr [rowV 60 r (g.roots.take k), ebox w.heap.size #[.slice ao g.objs.length co, .slice ar g.roots.length cr] 25]) (fun _ i _ => g.roots.length - (intOf i).toNat)
  case atStart => exact ⟨0, Nat.zero_le _, rfl, ((Mem.start w).alloc _ _).nilV _⟩
  case round =>
    obtain ⟨k, hk, rfl, hM⟩ := hrel
    by_cases hlt : k < g.roots.length
    · obtain ⟨x, hx⟩ := get_some _ _ hlt
      obtain ⟨b, off, cap, hv, hb, hn, c1, c2, _⟩ := Hr.out.at hM.below hx
      cases hv
      have hs := take_succ_some _ _ _ hx
      have HS := Lib.hid hs
      clear hs hx
      have hM1 := fun o => hM.alloc_ o
      go_wp2_with (at_builtin; refine Mem.wp_appV elemVals rfl (.tmp 17) (.tmp 19) rfl (hM1 _) 0 rfl rfl _ x _ _ rfl (by simp) (by simp; omega) ?_; intro ad n1 cp w1 hn1 hM3 hs1 hk1 ha1)
      go_roundw
      case rel => exact ⟨k + 1, by omega, by go_num, hM3.cast (by rw [HS.out]; rfl)⟩
      case measure => simp [intOf]; omega
    · obtain rfl : k = g.roots.length := by omega
      have q0 := hM.cell 1 rfl 0
      have hw := (hM.box 1 rfl).2.1
      simp at q0
      go_wp2
      have HB := hM.below
      go_loopw [3, 25] (fun r i wr => ∃ j : Nat, j ≤ g.objs.length ∧ i = .int .i64 j ∧ Mem w.heap.size w wr [rowV 60 r (g.roots ++ (g.objs.take j).flatten)]) (fun _ i _ => g.objs.length - (intOf i).toNat)
      case atStart => exact ⟨0, Nat.zero_le _, rfl, (hM.drop (L' := [rowV _ _ _]) (by simp; exact .inl rfl)).cast (by simp)⟩
      case round =>
        obtain ⟨j, hj, rfl, hMj⟩ := hrel
        by_cases hlt : j < g.objs.length
        · obtain ⟨o, hx⟩ := get_some _ _ hlt
          rename_i wr
          obtain ⟨b, off, cap, u, hv, hb, hn, c1, hu⟩ := Ho.out.at hMj.below hx
          cases hv
          obtain ⟨ao2, co2, rfl, hlo2⟩ := hu.slice
          have hs := take_succ_some _ _ _ hx
          have hsm : o.length ≤ 4 := H3.out o (List.mem_of_getElem? hx)
          have hacc : (g.roots ++ (g.objs.take j).flatten).length ≤ 8 + 4 * 24 := by
            have := flatten_le (g.objs.take j) 4 (fun x hx => H3.out x (List.mem_of_mem_take hx))
            have h5 := take_len_le g.objs j
            rw [List.length_append]
            omega
          have HS := Lib.hid hs
          have HU := Lib.hid hu
          clear hs hx hu
          go_wp2
          go_loopw [3, 32] (fun r i wr => ∃ k : Nat, k ≤ o.length ∧ i = .int .i64 k ∧ Mem w.heap.size w wr [rowV 60 r (g.roots ++ (g.objs.take j).flatten ++ o.take k)]) (fun _ i _ => o.length - (intOf i).toNat)
          case atStart => exact ⟨0, Nat.zero_le _, rfl, by simpa using hMj.alloc_ _⟩
          case round =>
            obtain ⟨k, hk, rfl, hM⟩ := hrel
            by_cases hlt2 : k < o.length
            · obtain ⟨x, hx⟩ := get_some _ _ hlt2
              rename_i wr3
              obtain ⟨b2, off2, cap2, hv, hb2, hn2, c2, c3, _⟩ := HU.out.at hM.below hx
              cases hv
              have hs := take_succ_some _ _ _ hx
              have HS2 := Lib.hid hs
              have hacc2 : (g.roots ++ (g.objs.take j).flatten ++ o.take k).length ≤ 200 := by rw [List.length_append]; have := take_len_le o k; omega
              clear hs hx
              have hM1 := fun o => hM.alloc_ o
              go_wp2_with (at_builtin; refine Mem.wp_appV elemVals rfl (.tmp 36) (.tmp 38) rfl (hM1 _) 0 rfl rfl _ x _ _ rfl (by simp) (by omega) ?_; intro ad n1 cp w1 hn1 hM3 hs1 hk1 ha1)
              go_roundw
              case rel => exact ⟨k + 1, by omega, by go_num, hM3.cast (by rw [HS2.out, ← List.append_assoc]; rfl)⟩
              case measure => simp [intOf]; omega
            · obtain rfl : k = o.length := by omega
              go_wp2
              go_roundw
              case rel => exact ⟨j + 1, by omega, by go_num, hM.cast (by rw [HS.out]; simp)⟩
              case measure => simp [intOf]; omega
        · obtain rfl : j = g.objs.length := by omega
          go_wp2
          go_ret
          exact ⟨_, rfl, by simpa [allV] using hMj.ownV 0 rfl, hMj.below⟩

theorem badC_cases (v : V) (n : Int) : badC v n = 0 ∨ badC v n = 2 ∨ badC v n = 3 := by
  unfold badC; split <;> split <;> simp
theorem bad_eq (v : V) (n c : Int) (w : World) (h : badC v n = c) :
    Calls Try.prog 45 #[.agg #[.bool v.ref, .int .i64 v.n], .int .i64 n] w fun e w' => e = .returned (.int .i64 c) ∧ Below w.heap.size w w' := by
  subst h; exact bad_any v n w

/-- The code that GraphCheck tells. -/
def Checked (g : G) (e : Ending) : Prop := ∃ c : Int, e = .returned (.int .i64 c) ∧ (c = 0 ↔ Good g)

set_option maxHeartbeats 400000 in
theorem check_large (v : Value) (g : G) (w : World) (hg : IsGraph w v g) (h1 : 24 < g.objs.length ∨ 8 < g.roots.length) :
    Calls Try.prog 30 #[v] w fun e w' => Checked g e ∧ Below w.heap.size w w' := by
  obtain ⟨vo, vr, rfl, ho, hr⟩ := hg
  obtain ⟨ao, co, rfl, hlo⟩ := ho.slice
  obtain ⟨ar, cr, rfl, hlr⟩ := hr.slice
  have hbad : ¬ Good g := fun h => by have := h.objs; have := h.roots; omega
  have Hbad := Lib.hid hbad
  clear hbad ho hr
  by_cases h2 : 24 < g.objs.length
  · clear h1
    go_enter Try.func30, Try.ntmps30
    go_wp2
    go_ret
    exact ⟨⟨1, rfl, by simp [Hbad.out]⟩, (by repeat (first | exact Below.refl _ _ | refine Below.setCell ?_ (by first | exact Nat.le_refl _ | (simp; done) | (simp; omega) | (simp at *; omega)) _ | refine Below.alloc ?_ (by first | exact Nat.le_refl _ | (simp; done) | (simp; omega) | (simp at *; omega)) _ | refine Below.drew ?_ | refine Below.trans ?_ (Below.mono (by assumption) (by first | exact Nat.le_refl _ | (simp; done) | (simp; omega) | (simp at *; omega)))))⟩
  · have h3 : 8 < g.roots.length := by omega
    have h4 : g.objs.length ≤ 24 := by omega
    clear h1 h2
    go_enter Try.func30, Try.ntmps30
    go_wp2
    go_ret
    exact ⟨⟨1, rfl, by simp [Hbad.out]⟩, (by repeat (first | exact Below.refl _ _ | refine Below.setCell ?_ (by first | exact Nat.le_refl _ | (simp; done) | (simp; omega) | (simp at *; omega)) _ | refine Below.alloc ?_ (by first | exact Nat.le_refl _ | (simp; done) | (simp; omega) | (simp at *; omega)) _ | refine Below.drew ?_ | refine Below.trans ?_ (Below.mono (by assumption) (by first | exact Nat.le_refl _ | (simp; done) | (simp; omega) | (simp at *; omega)))))⟩

def Worst (l : List V) (n : Int) (k : Nat) (c : Int) : Prop := c = 0 ↔ ∀ y ∈ l.take k, badC y n = 0
theorem worst_step {l : List V} {n : Int} {k : Nat} {x : V} {c c' e : Int} (hs : l.take (k + 1) = l.take k ++ [x]) (hcs : Worst l n k c) (he : badC x n = e)
    (h : c' = 0 ↔ c = 0 ∧ e = 0) : Worst l n (k + 1) c' := by
  unfold Worst at *
  rw [hs, h, hcs, ← he]
  simp [List.mem_append, or_imp, forall_and]
theorem allV_le (g : G) (h1 : g.objs.length ≤ 24) (h2 : g.roots.length ≤ 8) (h3 : ∀ o ∈ g.objs, o.length ≤ 4) : (allV g).length ≤ 1000000 := by
  have := flatten_le g.objs 4 h3
  unfold allV; rw [List.length_append]; omega
theorem IsVals.ok {w : World} {v : Value} {l : List V} (h : IsVals w v l) : ∀ x ∈ l, i64ok x.n := by
  obtain ⟨a, cap, rfl, hl, hc⟩ := h
  intro x hx
  obtain ⟨k, hk⟩ := List.getElem?_of_mem hx
  obtain ⟨b, off, _, _, _, _, h⟩ := hc k x hk
  exact h
theorem IsGraph.ok {w : World} {v : Value} {g : G} (h : IsGraph w v g) : ∀ x ∈ allV g, i64ok x.n := by
  obtain ⟨vo, vr, rfl, ho, hr⟩ := h
  intro x hx
  rcases List.mem_append.1 hx with h | h
  · exact hr.ok x h
  · obtain ⟨o, ho1, ho2⟩ := List.mem_flatten.1 h
    obtain ⟨a, cap, rfl, hl, hc⟩ := ho
    obtain ⟨k, hk⟩ := List.getElem?_of_mem ho1
    obtain ⟨b, off, u, _, _, _, hu⟩ := hc k o hk
    exact hu.ok x ho2

set_option maxHeartbeats 400000 in
theorem check_small (v : Value) (g : G) (w : World) (hg : IsGraph w v g) (h1 : g.objs.length ≤ 24) (h2 : g.roots.length ≤ 8) :
    Calls Try.prog 30 #[v] w fun e w' => Checked g e ∧ Below w.heap.size w w' := by
  have hg0 := hg
  obtain ⟨vo, vr, rfl, ho, hr⟩ := hg
  obtain ⟨ao, co, rfl, hlo⟩ := ho.slice
  obtain ⟨ar, cr, rfl, hlr⟩ := hr.slice
  have Ho := Lib.hid ho
  have Hg := Lib.hid hg0
  clear ho hr hg0
  go_enter Try.func30, Try.ntmps30
  go_wp2
  go_loopw [22] (fun i wr => ∃ k : Nat, k ≤ g.objs.length ∧ i = .int .i64 k ∧ (∀ o ∈ g.objs.take k, o.length ≤ 4) ∧ Mem w.heap.size w wr [ebox w.heap.size #[.slice ao g.objs.length co, .slice ar g.roots.length cr] 25]) (fun i _ => g.objs.length - (intOf i).toNat)
  case atStart => exact ⟨0, Nat.zero_le _, rfl, by simp, (Mem.start w).alloc _ _⟩
  case round =>
    obtain ⟨k, hk, rfl, hfit, hM⟩ := hrel
    have Hfit := Lib.hid hfit
    clear hfit
    by_cases hlt : k < g.objs.length
    · obtain ⟨o, hx⟩ := get_some _ _ hlt
      obtain ⟨b, off, cap, u, hv, hb, hn, c1, hu⟩ := Ho.out.at hM.below hx
      cases hv
      obtain ⟨ao2, co2, rfl, hlo2⟩ := hu.slice
      have HS := Lib.hid (take_succ_some _ _ _ hx)
      have hmem := List.mem_of_getElem? hx
      have Hmem := Lib.hid hmem
      clear hx hu hmem
      by_cases h4 : o.length ≤ 4
      · go_wp2
        go_roundw
        case rel => exact ⟨k + 1, by omega, by go_num, by rw [HS.out]; intro x hx; rcases List.mem_append.1 hx with h | h; exact Hfit.out x h; simp at h; subst h; exact h4, hM.alloc_ _⟩
        case measure => simp [intOf]; omega
      · have h5 : 4 < o.length := by omega
        clear h4
        go_wp2
        go_ret
        exact ⟨⟨1, rfl, by simp; intro h; have := h.fields o Hmem.out; omega⟩, (hM.alloc_ _).below⟩
    · obtain rfl : k = g.objs.length := by omega
      have hall : ∀ o ∈ g.objs, o.length ≤ 4 := by have := Hfit.out; rwa [List.take_length] at this
      have Hall := Lib.hid hall
      clear hall
      have q0 := hM.cell 0 rfl 0
      have q1 := hM.cell 0 rfl 1
      have hw := (hM.box 0 rfl).2.1
      simp at q0 q1
      go_wp2_with fail
      refine (all_any _ g _ (Hg.out.later hM.below) h1 h2 Hall.out).mono ?_
      rename_i wA
      rintro e wB ⟨r, rfl, hrow, hbA⟩
      have hi := isVals_of_own hrow (allV_le g h1 h2 Hall.out) Hg.out.ok
      have hMB := hM.call hbA
      obtain ⟨aa, ca, rfl, hla⟩ := hi.slice
      have Hi := Lib.hid hi
      have p0 : wB.cell? ⟨w.heap.size, 0, none⟩ = some (.slice ao g.objs.length co) := by have := hMB.cell 0 rfl 0; simpa using this
      clear hi hrow
      go_wp2
      go_loopw [5, 34] (fun ws i wr => ∃ (k : Nat) (c : Int), k ≤ (allV g).length ∧ ws = .int .i64 c ∧ i = .int .i64 k ∧ (c = 0 ∨ c = 3) ∧ Worst (allV g) g.objs.length k c ∧ Below wB.heap.size wB wr) (fun _ i _ => (allV g).length - (intOf i).toNat)
      case atStart => exact ⟨0, 0, Nat.zero_le _, rfl, rfl, by simp, by simp [Worst], Below.refl _ _⟩
      case round =>
        obtain ⟨k, c, hk, rfl, rfl, hc, hcs, hB⟩ := hrel
        have Hcs := Lib.hid hcs
        clear hcs
        by_cases hlt2 : k < (allV g).length
        · obtain ⟨x, hx⟩ := get_some _ _ hlt2
          obtain ⟨b2, off2, cap2, hv, hb2, hn2, c2, c3, _⟩ := Hi.out.at hB hx
          cases hv
          have HS := Lib.hid (take_succ_some _ _ _ hx)
          have Hmem := Lib.hid (List.mem_of_getElem? hx)
          clear hx
          have hw2 : w.heap.size < wr.heap.size := Nat.lt_of_lt_of_le (hMB.box 0 rfl).2.1 hB.size
          have p1 : wr.cell? ⟨w.heap.size, 0, none⟩ = some (.slice ao g.objs.length co) := (hB.cell (p := ⟨_, _, none⟩) (hMB.box 0 rfl).2.1).trans p0
          rcases hc with rfl | rfl <;> rcases badC_cases x g.objs.length with he | he | he
          all_goals
            have He := Lib.hid he
            clear he
            go_wp2_with fail
            refine (bad_eq x _ _ _ He.out).mono ?_
            rintro e w3 ⟨rfl, hb3⟩
            go_wp2
          · go_roundw
            case rel => exact ⟨k + 1, _, by omega, rfl, by go_num, by simp, worst_step HS.out Hcs.out He.out (by simp), (hB.alloc (Nat.le_trans hB.size (Nat.le_refl _)) _).trans (hb3.mono (by simp; have := hB.size; omega))⟩
            case measure => simp [intOf]; omega
          · go_ret
            exact ⟨⟨2, rfl, by simp; intro h; have h5 := h.vals x Hmem.out; rw [He.out] at h5; omega⟩, hMB.below.trans (((hB.alloc (Nat.le_trans hB.size (Nat.le_refl _)) _).trans (hb3.mono (by simp; have := hB.size; omega))).mono hMB.base)⟩
          · go_roundw
            case rel => exact ⟨k + 1, _, by omega, rfl, by go_num, by simp, worst_step HS.out Hcs.out He.out (by simp), (hB.alloc (Nat.le_trans hB.size (Nat.le_refl _)) _).trans (hb3.mono (by simp; have := hB.size; omega))⟩
            case measure => simp [intOf]; omega
          · go_roundw
            case rel => exact ⟨k + 1, _, by omega, rfl, by go_num, by simp, worst_step HS.out Hcs.out He.out (by simp), (hB.alloc (Nat.le_trans hB.size (Nat.le_refl _)) _).trans (hb3.mono (by simp; have := hB.size; omega))⟩
            case measure => simp [intOf]; omega
          · go_ret
            exact ⟨⟨2, rfl, by simp; intro h; have h5 := h.vals x Hmem.out; rw [He.out] at h5; omega⟩, hMB.below.trans (((hB.alloc (Nat.le_trans hB.size (Nat.le_refl _)) _).trans (hb3.mono (by simp; have := hB.size; omega))).mono hMB.base)⟩
          · go_roundw
            case rel => exact ⟨k + 1, _, by omega, rfl, by go_num, by simp, worst_step HS.out Hcs.out He.out (by simp), (hB.alloc (Nat.le_trans hB.size (Nat.le_refl _)) _).trans (hb3.mono (by simp; have := hB.size; omega))⟩
            case measure => simp [intOf]; omega
        · obtain rfl : k = (allV g).length := by omega
          have hv : c = 0 ↔ ∀ x ∈ allV g, badC x g.objs.length = 0 := by have := Hcs.out; unfold Worst at this; rwa [List.take_length] at this
          have Hv := Lib.hid hv
          clear hv
          go_wp2
          go_ret
          exact ⟨⟨c, rfl, ⟨fun h => ⟨h1, h2, Hall.out, Hv.out.1 h⟩, fun h => Hv.out.2 h.vals⟩⟩, (hMB.below.trans (hB.mono hMB.base))⟩

/-- May a graph be? As GraphCheck tells it. -/
theorem check_any (v : Value) (g : G) (w : World) (hg : IsGraph w v g) :
    Calls Try.prog 30 #[v] w fun e w' => Checked g e ∧ Below w.heap.size w w' := by
  by_cases h : 24 < g.objs.length ∨ 8 < g.roots.length
  · exact check_large v g w hg h
  · exact check_small v g w hg (by omega) (by omega)

set_option maxHeartbeats 400000 in
theorem good_yes (v : Value) (g : G) (w : World) (hg : IsGraph w v g) (h : Good g) :
    Calls Try.prog 11 #[v] w fun e w' => e = .returned (.bool true) ∧ Below w.heap.size w w' := by
  have hg0 := hg
  obtain ⟨vo, vr, rfl, ho, hr⟩ := hg
  obtain ⟨ao, co, rfl, hlo⟩ := ho.slice
  obtain ⟨ar, cr, rfl, hlr⟩ := hr.slice
  have Hg := Lib.hid hg0
  clear ho hr hg0
  go_enter Try.func11, Try.ntmps11
  go_wp2_with fail
  refine (check_any _ g _ (Hg.out.later ((Below.refl _ _).alloc (Nat.le_refl _) _))).mono ?_
  rintro e w1 ⟨⟨c, rfl, hc⟩, hb⟩
  obtain rfl : c = 0 := hc.2 h
  clear hc
  go_wp2
  go_ret
  exact ⟨rfl, (by repeat (first | exact Below.refl _ _ | refine Below.setCell ?_ (by first | exact Nat.le_refl _ | (simp; done) | (simp; omega) | (simp at *; omega)) _ | refine Below.alloc ?_ (by first | exact Nat.le_refl _ | (simp; done) | (simp; omega) | (simp at *; omega)) _ | refine Below.drew ?_ | refine Below.trans ?_ (Below.mono (by assumption) (by first | exact Nat.le_refl _ | (simp; done) | (simp; omega) | (simp at *; omega)))))⟩
set_option maxHeartbeats 400000 in
theorem good_no (v : Value) (g : G) (w : World) (hg : IsGraph w v g) (h : ¬ Good g) :
    Calls Try.prog 11 #[v] w fun e w' => e = .returned (.bool false) ∧ Below w.heap.size w w' := by
  have hg0 := hg
  obtain ⟨vo, vr, rfl, ho, hr⟩ := hg
  obtain ⟨ao, co, rfl, hlo⟩ := ho.slice
  obtain ⟨ar, cr, rfl, hlr⟩ := hr.slice
  have Hg := Lib.hid hg0
  clear ho hr hg0
  go_enter Try.func11, Try.ntmps11
  go_wp2_with fail
  refine (check_any _ g _ (Hg.out.later ((Below.refl _ _).alloc (Nat.le_refl _) _))).mono ?_
  rintro e w1 ⟨⟨c, rfl, hc⟩, hb⟩
  have hc0 : (c == 0) = false := by simp; intro e; exact h (hc.1 e)
  clear hc h
  go_wp2
  go_ret
  exact ⟨rfl, (by repeat (first | exact Below.refl _ _ | refine Below.setCell ?_ (by first | exact Nat.le_refl _ | (simp; done) | (simp; omega) | (simp at *; omega)) _ | refine Below.alloc ?_ (by first | exact Nat.le_refl _ | (simp; done) | (simp; omega) | (simp at *; omega)) _ | refine Below.drew ?_ | refine Below.trans ?_ (Below.mono (by assumption) (by first | exact Nat.le_refl _ | (simp; done) | (simp; omega) | (simp at *; omega)))))⟩
end Go.Proofs.Ytnpbdabboecpaaa
