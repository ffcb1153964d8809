/- Hazard: does, walked. -/
import Derived.Test.YtgmjhoekpbomiaaZc
namespace Go.Proofs.Ytgmjhoekpbomiaa
open Go.RowKit

def HSof (ths : List Th) (gone : List Bool) (fr : List (Int × Int)) : HS := ⟨ths.map (·.g), ths.map (·.ws), gone, fr⟩
structure HOk (ths : List Th) (gone : List Bool) (fr : List (Int × Int)) : Prop where
  goneL : gone.length = 100
  thsL : ths.length ≤ 100
  frL : fr.length ≤ 1000
  wsL : ∀ t ∈ ths, t.ws.length ≤ 900 ∧ ∀ x ∈ t.ws, i64ok x
def DoesSays (B : Nat) (w0 : World) (Bw : Nat) (tv : Value) (gone : List Bool) (fr : List (Int × Int)) (ths : List Th) (d : Deed) (b : Int) (L' : List Ent) (w' : World) (e : Ending) : Prop :=
  ∃ fv' gone' fr' ths', e = .returned (.int .i64 (hcode ths.length gone d)) ∧ HSof ths' gone' fr' = hstep ths.length (HSof ths gone fr) d b ∧ Mem B w0 w' (ownH Bw tv fv' gone' fr' ths' ++ L')
section
variable {B : Nat} {w0 w : World} {Bw : Nat} {tv fv : Value} {gone : List Bool} {fr : List (Int × Int)} {ths : List Th} {L' : List Ent}
/-- Refused: nothing has turned. -/
theorem DoesSays.no {d : Deed} {b c : Int} (h : Mem B w0 w (ownH Bw tv fv gone fr ths ++ L')) (hc : hcode ths.length gone d = c) (h0 : c ≠ 0) : DoesSays B w0 Bw tv gone fr ths d b L' w (.returned (.int .i64 c)) := by
  refine ⟨fv, gone, fr, ths, by rw [hc], ?_, h⟩
  unfold hstep
  rw [if_neg]
  intro h1
  have : hcode ths.length gone d = 0 := h1
  omega
theorem hcode_kind {T : Nat} {d : Deed} (h : d.kind < 1 ∨ 4 < d.kind) : hcode T gone d = 5 := by unfold hcode; rw [if_pos h]
theorem hcode_who {T : Nat} {d : Deed} (h : ¬ (d.kind < 1 ∨ 4 < d.kind)) (h2 : d.who < 0 ∨ (T : Int) ≤ d.who ∨ (hneeds d = true ∧ (d.item < 0 ∨ 100 ≤ d.item))) : hcode T gone d = 2 := by unfold hcode; rw [if_neg h, if_pos h2]
theorem hcode_gone {T : Nat} {d : Deed} (h : ¬ (d.kind < 1 ∨ 4 < d.kind)) (h2 : ¬ (d.who < 0 ∨ (T : Int) ≤ d.who ∨ (hneeds d = true ∧ (d.item < 0 ∨ 100 ≤ d.item)))) (h3 : hneeds d = true ∧ gone.getD d.item.toNat false = true) : hcode T gone d = 8 := by unfold hcode; rw [if_neg h, if_neg h2, if_pos h3]
theorem hcode_ok {T : Nat} {d : Deed} (h : ¬ (d.kind < 1 ∨ 4 < d.kind)) (h2 : ¬ (d.who < 0 ∨ (T : Int) ≤ d.who ∨ (hneeds d = true ∧ (d.item < 0 ∨ 100 ≤ d.item)))) (h3 : ¬ (hneeds d = true ∧ gone.getD d.item.toNat false = true)) : hcode T gone d = 0 := by unfold hcode; rw [if_neg h, if_neg h2, if_neg h3]
end
set_option maxRecDepth 100000 in
set_option maxHeartbeats 1000000 in
theorem does_kind (B : Nat) (w0 w : World) (Bw : Nat) (tv fv : Value) (gone : List Bool) (fr : List (Int × Int)) (ths : List Th) (kind who item : Int) (b : Int) (L' : List Ent) (hM : Mem B w0 w (ownH Bw tv fv gone fr ths ++ L'))
    (hk : kind < 1 ∨ 4 < kind) :
    Calls Try.prog 24 #[.pointer (some ⟨Bw, 0, none⟩), .agg #[.int .i64 kind, .int .i64 who, .int .i64 item], .int .i64 b] w fun e w' => DoesSays B w0 Bw tv gone fr ths ⟨kind, who, item⟩ b L' w' e := by
  have HR := Lib.hid (DoesSays.no (b := b) (d := ⟨kind, who, item⟩) (hM.alloc_ (.cells #[.int .i64 kind, .int .i64 who, .int .i64 item] 34)) (hcode_kind hk) (by decide))
  clear hM
  rcases hk with hk | hk
  · go_enter Try.func24, Try.ntmps24
    go_wp2
    go_ret
    exact HR.out
  · have hk2 : ¬ kind < 1 := by omega
    go_enter Try.func24, Try.ntmps24
    go_wp2
    go_ret
    exact HR.out
set_option maxRecDepth 100000 in
set_option maxHeartbeats 1000000 in
theorem does_who (B : Nat) (w0 w : World) (Bw : Nat) (tv fv : Value) (gone : List Bool) (fr : List (Int × Int)) (ths : List Th) (kind who item : Int) (b : Int) (L' : List Ent) (hM : Mem B w0 w (ownH Bw tv fv gone fr ths ++ L'))
    (hk : kind = 1 ∨ kind = 2 ∨ kind = 3 ∨ kind = 4) (gt capt : Nat) (htv : tv = .slice (some ⟨gt, 0, none⟩) ths.length capt) (hg : gone.length = 100) (hw : who < 0 ∨ (ths.length : Int) ≤ who) :
    Calls Try.prog 24 #[.pointer (some ⟨Bw, 0, none⟩), .agg #[.int .i64 kind, .int .i64 who, .int .i64 item], .int .i64 b] w fun e w' => DoesSays B w0 Bw tv gone fr ths ⟨kind, who, item⟩ b L' w' e := by
  have hM0 := hM.alloc_ (.cells #[.int .i64 kind, .int .i64 who, .int .i64 item] 34)
  have HR := fun n => Lib.hid (DoesSays.no (b := b) (d := ⟨kind, who, item⟩) (hM0.drewN n) (hcode_who (by simp only; omega) (by rcases hw with h | h; exact .inl h; exact .inr (.inl h))) (by decide))
  have c0 : (w.alloc (.cells #[.int .i64 kind, .int .i64 who, .int .i64 item] 34)).cell? ⟨Bw, 0, none⟩ = some (.slice (some ⟨gt, 0, none⟩) ths.length capt) := by
    have := hM0.cell 0 rfl 0
    rw [(worldC_at tv fv hg).1, htv] at this; exact this
  clear hM hM0 htv hg
  rcases hk with rfl | rfl | rfl | rfl
  all_goals
    rcases hw with hw | hw
    · go_enter Try.func24, Try.ntmps24
      go_wp2
      go_quiet (fail)
      go_wp2
      go_ret
      exact (HR nq).out
    · have hw2 : decide (who < 0) = false := decide_eq_false (by omega)
      have hw3 : decide ((ths.length : Int) ≤ who) = true := decide_eq_true (by omega)
      go_enter Try.func24, Try.ntmps24
      go_wp2
      go_quiet (fail)
      go_wp2
      go_ret
      exact (HR nq).out
set_option maxRecDepth 100000 in
set_option maxHeartbeats 1000000 in
theorem does_item (B : Nat) (w0 w : World) (Bw : Nat) (tv fv : Value) (gone : List Bool) (fr : List (Int × Int)) (ths : List Th) (kind who item : Int) (b : Int) (L' : List Ent) (hM : Mem B w0 w (ownH Bw tv fv gone fr ths ++ L'))
    (hk : kind = 1 ∨ kind = 3) (gt capt : Nat) (htv : tv = .slice (some ⟨gt, 0, none⟩) ths.length capt) (hg : gone.length = 100) (hw0 : 0 ≤ who) (hw1 : who < (ths.length : Int)) (hi : item < 0 ∨ 100 ≤ item) :
    Calls Try.prog 24 #[.pointer (some ⟨Bw, 0, none⟩), .agg #[.int .i64 kind, .int .i64 who, .int .i64 item], .int .i64 b] w fun e w' => DoesSays B w0 Bw tv gone fr ths ⟨kind, who, item⟩ b L' w' e := by
  have hM0 := hM.alloc_ (.cells #[.int .i64 kind, .int .i64 who, .int .i64 item] 34)
  have HR := fun n => Lib.hid (DoesSays.no (b := b) (d := ⟨kind, who, item⟩) (hM0.drewN n) (hcode_who (by simp only; omega) (.inr (.inr ⟨by unfold hneeds; rw [decide_eq_true_eq]; exact hk, hi⟩))) (by decide))
  have c0 : (w.alloc (.cells #[.int .i64 kind, .int .i64 who, .int .i64 item] 34)).cell? ⟨Bw, 0, none⟩ = some (.slice (some ⟨gt, 0, none⟩) ths.length capt) := by
    have := hM0.cell 0 rfl 0
    rw [(worldC_at tv fv hg).1, htv] at this; exact this
  have hw2 : decide (who < 0) = false := decide_eq_false (by omega)
  have hw3 : decide ((ths.length : Int) ≤ who) = false := decide_eq_false (by omega)
  clear hM hM0 htv hg
  rcases hk with rfl | rfl
  all_goals
    rcases hi with hi | hi
    · go_enter Try.func24, Try.ntmps24
      go_wp2
      go_quiet (fail)
      go_wp2
      go_ret
      exact (HR nq).out
    · have hi2 : decide (item < 0) = false := decide_eq_false (by omega)
      have hi3 : decide (100 ≤ item) = true := decide_eq_true (by omega)
      go_enter Try.func24, Try.ntmps24
      go_wp2
      go_quiet (fail)
      go_wp2
      go_ret
      exact (HR nq).out
set_option maxRecDepth 100000 in
set_option maxHeartbeats 1000000 in
theorem does_gone (B : Nat) (w0 w : World) (Bw : Nat) (tv fv : Value) (gone : List Bool) (fr : List (Int × Int)) (ths : List Th) (kind who : Int) (m : Nat) (b : Int) (L' : List Ent) (hM : Mem B w0 w (ownH Bw tv fv gone fr ths ++ L'))
    (hk : kind = 1 ∨ kind = 3) (gt capt : Nat) (htv : tv = .slice (some ⟨gt, 0, none⟩) ths.length capt) (hg : gone.length = 100) (hw0 : 0 ≤ who) (hw1 : who < (ths.length : Int)) (hi : m < 100) (hgo : gone.getD m false = true) :
    Calls Try.prog 24 #[.pointer (some ⟨Bw, 0, none⟩), .agg #[.int .i64 kind, .int .i64 who, .int .i64 (m : Int)], .int .i64 b] w fun e w' => DoesSays B w0 Bw tv gone fr ths ⟨kind, who, m⟩ b L' w' e := by
  have hM0 := hM.alloc_ (.cells #[.int .i64 kind, .int .i64 who, .int .i64 (m : Int)] 34)
  have HR := fun n k => Lib.hid (DoesSays.no (b := b) (d := ⟨kind, who, m⟩) ((hM0.drewN n).drewN k) (hcode_gone (by simp only; omega) (by simp only; rintro (h | h | ⟨_, h⟩) <;> omega) ⟨by unfold hneeds; rw [decide_eq_true_eq]; exact hk, by simpa using hgo⟩) (by decide))
  have c0 : (w.alloc (.cells #[.int .i64 kind, .int .i64 who, .int .i64 (m : Int)] 34)).cell? ⟨Bw, 0, none⟩ = some (.slice (some ⟨gt, 0, none⟩) ths.length capt) := by
    have := hM0.cell 0 rfl 0
    rw [(worldC_at tv fv hg).1, htv] at this; exact this
  have c1 : (w.alloc (.cells #[.int .i64 kind, .int .i64 who, .int .i64 (m : Int)] 34)).cell? ⟨Bw, 1 + m, none⟩ = some (.bool true) := by
    have := hM0.cell 0 rfl (1 + m)
    rw [(worldC_at tv fv hg).2.1 m hi, hgo] at this; exact this
  have hw2 : decide (who < 0) = false := decide_eq_false (by omega)
  have hw3 : decide ((ths.length : Int) ≤ who) = false := decide_eq_false (by omega)
  have hi2 : decide ((m : Int) < 0) = false := decide_eq_false (by omega)
  have hi3 : decide (100 ≤ (m : Int)) = false := decide_eq_false (by omega)
  clear hM hM0 htv hg
  rcases hk with rfl | rfl
  all_goals
    go_enter Try.func24, Try.ntmps24
    go_wp2
    go_quiet (fail)
    go_wp2
    go_quiet (fail)
    go_wp2
    go_ret
    exact (HR _ _).out
theorem ptr_cell {B : Nat} {w0 w : World} {Bw : Nat} {fv : Value} {gone : List Bool} {fr : List (Int × Int)} {ths : List Th} {L' : List Ent} {gt capt : Nat} (hM : Mem B w0 w (ownH Bw (.slice (some ⟨gt, 0, none⟩) ths.length capt) fv gone fr ths ++ L')) {i : Nat} {t : Th} (ht : ths[i]? = some t) :
    w.cell? ⟨gt, i, none⟩ = some (.pointer (some ⟨t.b, 0, none⟩)) := by
  have hr : w.ownsRow B 63 1 (.slice (some ⟨gt, 0, none⟩) ths.length capt) (ths.map (·.b)).length ((ths.map (·.b)).map ptr) := hM.row 1 rfl
  have hi := (List.getElem?_eq_some_iff.1 ht).1
  have hr2 : w.ownsRow B 63 1 (.slice (some ⟨gt, 0, none⟩) (ths.map (·.b)).length capt) (ths.map (·.b)).length ((ths.map (·.b)).map ptr) := by simpa using hr
  rw [hr2.cellAt i (by simp; omega)]
  simp [ht, ptr]
theorem hstep_ok {T : Nat} {s : HS} {d : Deed} {b : Int} (h : hcode T s.gone d = 0) : hstep T s d b = hact s d b := by unfold hstep; rw [if_pos h]
set_option maxRecDepth 100000 in
set_option maxHeartbeats 1000000 in
theorem does_guard (B : Nat) (w0 w : World) (Bw : Nat) (fv : Value) (gone : List Bool) (fr : List (Int × Int)) (ths : List Th) (i m : Nat) (t : Th) (b : Int) (L' : List Ent) (gt capt : Nat) (hM : Mem B w0 w (ownH Bw (.slice (some ⟨gt, 0, none⟩) ths.length capt) fv gone fr ths ++ L'))
    (hO : HOk ths gone fr) (ht : ths[i]? = some t) (hi : m < 100) (hgo : gone.getD m false = false) :
    Calls Try.prog 24 #[.pointer (some ⟨Bw, 0, none⟩), .agg #[.int .i64 1, .int .i64 (i : Int), .int .i64 (m : Int)], .int .i64 b] w fun e w' => DoesSays B w0 Bw (.slice (some ⟨gt, 0, none⟩) ths.length capt) gone fr ths ⟨1, i, m⟩ b L' w' e := by
  have hil := (List.getElem?_eq_some_iff.1 ht).1
  have hM0 := hM.alloc_ (.cells #[.int .i64 1, .int .i64 (i : Int), .int .i64 (m : Int)] 34)
  have hT := hO.thsL
  have hcode0 : hcode ths.length gone ⟨1, i, m⟩ = 0 := hcode_ok (by simp only; omega) (by simp only; rintro (h | h | ⟨_, h⟩) <;> omega) (by simp only; rintro ⟨_, h⟩; rw [Int.toNat_natCast, hgo] at h; cases h)
  have HR := fun n => Lib.hid (show DoesSays B w0 Bw (.slice (some ⟨gt, 0, none⟩) ths.length capt) gone fr ths ⟨1, i, m⟩ b L' (((w.alloc (.cells #[.int .i64 1, .int .i64 (i : Int), .int .i64 (m : Int)] 34)).drewN n).setCell ⟨t.b, 0, none⟩ (.int .i64 (m : Int))) (.returned (.int .i64 0)) from by
    refine ⟨fv, gone, fr, ths.set i { t with g := m }, by rw [hcode0], ?_, ?_⟩
    · rw [hstep_ok (s := HSof ths gone fr) hcode0]
      unfold HSof hact
      rw [if_pos rfl]
      simp only [List.map_set, Int.toNat_natCast]
      congr 1
      have h2 : (ths.map (·.ws))[i]? = some t.ws := by rw [List.getElem?_map, ht]; rfl
      obtain ⟨h3, h4⟩ := List.getElem?_eq_some_iff.1 h2
      rw [← h4, List.set_getElem_self]
    · have h5 := (hM0.drewN n).setBox (3 + 2 * i) (own_box ht) 0 (.int .i64 (m : Int))
      exact h5.cast (own_set_box ht { t with g := m } rfl rfl))
  have c0 : (w.alloc (.cells #[.int .i64 1, .int .i64 (i : Int), .int .i64 (m : Int)] 34)).cell? ⟨Bw, 0, none⟩ = some (.slice (some ⟨gt, 0, none⟩) ths.length capt) := by
    have := hM0.cell 0 rfl 0
    rw [(worldC_at _ fv hO.goneL).1] at this; exact this
  have c1 : (w.alloc (.cells #[.int .i64 1, .int .i64 (i : Int), .int .i64 (m : Int)] 34)).cell? ⟨Bw, 1 + m, none⟩ = some (.bool false) := by
    have := hM0.cell 0 rfl (1 + m)
    rw [(worldC_at _ fv hO.goneL).2.1 m hi, hgo] at this; exact this
  have c2 := ptr_cell hM0 ht
  have c3 : (w.alloc (.cells #[.int .i64 1, .int .i64 (i : Int), .int .i64 (m : Int)] 34)).frozen? ⟨t.b, 0, none⟩ = false := hM0.free (3 + 2 * i) (own_box ht) 0
  have c4 : (w.alloc (.cells #[.int .i64 1, .int .i64 (i : Int), .int .i64 (m : Int)] 34)).cell? ⟨t.b, 0, none⟩ = some (.int .i64 t.g) := by have := hM0.cell (3 + 2 * i) (own_box ht) 0; simpa using this
  have z1 : t.b < w.heap.size := (hM.box (3 + 2 * i) (own_box ht)).2.1
  have hw2 : decide ((i : Int) < 0) = false := decide_eq_false (by omega)
  have hw3 : decide ((ths.length : Int) ≤ (i : Int)) = false := decide_eq_false (by omega)
  have hw4 : decide (ths.length ≤ i) = false := decide_eq_false (by omega)
  have hi2 : decide ((m : Int) < 0) = false := decide_eq_false (by omega)
  have hi3 : decide (100 ≤ (m : Int)) = false := decide_eq_false (by omega)
  clear hM hM0 hO ht hgo hcode0
  go_enter Try.func24, Try.ntmps24
  go_wp2
  go_quiet (fail)
  go_wp2
  go_quiet (fail)
  go_wp2
  go_quiet (fail)
  go_wp2
  go_ret
  exact (HR _).out
set_option maxRecDepth 100000 in
set_option maxHeartbeats 1000000 in
theorem does_clear (B : Nat) (w0 w : World) (Bw : Nat) (fv : Value) (gone : List Bool) (fr : List (Int × Int)) (ths : List Th) (i : Nat) (item : Int) (t : Th) (b : Int) (L' : List Ent) (gt capt : Nat) (hM : Mem B w0 w (ownH Bw (.slice (some ⟨gt, 0, none⟩) ths.length capt) fv gone fr ths ++ L'))
    (hO : HOk ths gone fr) (ht : ths[i]? = some t) :
    Calls Try.prog 24 #[.pointer (some ⟨Bw, 0, none⟩), .agg #[.int .i64 2, .int .i64 (i : Int), .int .i64 item], .int .i64 b] w fun e w' => DoesSays B w0 Bw (.slice (some ⟨gt, 0, none⟩) ths.length capt) gone fr ths ⟨2, i, item⟩ b L' w' e := by
  have hil := (List.getElem?_eq_some_iff.1 ht).1
  have hM0 := hM.alloc_ (.cells #[.int .i64 2, .int .i64 (i : Int), .int .i64 item] 34)
  have hT := hO.thsL
  have hcode0 : hcode ths.length gone ⟨2, i, item⟩ = 0 := hcode_ok (by simp only; omega) (by simp only; rintro (h | h | ⟨h, _⟩); omega; omega; simp [hneeds] at h) (by simp [hneeds])
  have HR := fun n => Lib.hid (show DoesSays B w0 Bw (.slice (some ⟨gt, 0, none⟩) ths.length capt) gone fr ths ⟨2, i, item⟩ b L' (((w.alloc (.cells #[.int .i64 2, .int .i64 (i : Int), .int .i64 item] 34)).drewN n).setCell ⟨t.b, 0, none⟩ (.int .i64 (-1))) (.returned (.int .i64 0)) from by
    refine ⟨fv, gone, fr, ths.set i { t with g := -1 }, by rw [hcode0], ?_, ?_⟩
    · rw [hstep_ok (s := HSof ths gone fr) hcode0]
      unfold HSof hact
      rw [if_neg (by simp), if_pos rfl]
      simp only [List.map_set, Int.toNat_natCast]
      congr 1
      have h2 : (ths.map (·.ws))[i]? = some t.ws := by rw [List.getElem?_map, ht]; rfl
      obtain ⟨h3, h4⟩ := List.getElem?_eq_some_iff.1 h2
      rw [← h4, List.set_getElem_self]
    · have h5 := (hM0.drewN n).setBox (3 + 2 * i) (own_box ht) 0 (.int .i64 (-1))
      exact h5.cast (own_set_box ht { t with g := -1 } rfl rfl))
  have c0 : (w.alloc (.cells #[.int .i64 2, .int .i64 (i : Int), .int .i64 item] 34)).cell? ⟨Bw, 0, none⟩ = some (.slice (some ⟨gt, 0, none⟩) ths.length capt) := by
    have := hM0.cell 0 rfl 0
    rw [(worldC_at _ fv hO.goneL).1] at this; exact this
  have c2 := ptr_cell hM0 ht
  have c3 : (w.alloc (.cells #[.int .i64 2, .int .i64 (i : Int), .int .i64 item] 34)).frozen? ⟨t.b, 0, none⟩ = false := hM0.free (3 + 2 * i) (own_box ht) 0
  have c4 : (w.alloc (.cells #[.int .i64 2, .int .i64 (i : Int), .int .i64 item] 34)).cell? ⟨t.b, 0, none⟩ = some (.int .i64 t.g) := by have := hM0.cell (3 + 2 * i) (own_box ht) 0; simpa using this
  have z1 : t.b < w.heap.size := (hM.box (3 + 2 * i) (own_box ht)).2.1
  have hw2 : decide ((i : Int) < 0) = false := decide_eq_false (by omega)
  have hw3 : decide ((ths.length : Int) ≤ (i : Int)) = false := decide_eq_false (by omega)
  have hw4 : decide (ths.length ≤ i) = false := decide_eq_false (by omega)
  clear hM hM0 hO ht hcode0
  go_enter Try.func24, Try.ntmps24
  go_wp2
  go_quiet (fail)
  go_wp2
  go_quiet (fail)
  go_wp2
  go_quiet (fail)
  go_wp2
  go_ret
  exact (HR _).out
set_option maxRecDepth 100000 in
set_option maxHeartbeats 1000000 in
theorem does_scan (B : Nat) (w0 w : World) (Bw : Nat) (fv : Value) (gone : List Bool) (fr : List (Int × Int)) (ths : List Th) (i : Nat) (item : Int) (t : Th) (b : Int) (L' : List Ent) (gt capt : Nat) (hM : Mem B w0 w (ownH Bw (.slice (some ⟨gt, 0, none⟩) ths.length capt) fv gone fr ths ++ L'))
    (hO : HOk ths gone fr) (ht : ths[i]? = some t) :
    Calls Try.prog 24 #[.pointer (some ⟨Bw, 0, none⟩), .agg #[.int .i64 4, .int .i64 (i : Int), .int .i64 item], .int .i64 b] w fun e w' => DoesSays B w0 Bw (.slice (some ⟨gt, 0, none⟩) ths.length capt) gone fr ths ⟨4, i, item⟩ b L' w' e := by
  have hil := (List.getElem?_eq_some_iff.1 ht).1
  have hM0 := hM.alloc_ (.cells #[.int .i64 4, .int .i64 (i : Int), .int .i64 item] 34)
  have hT := hO.thsL
  have hcode0 : hcode ths.length gone ⟨4, i, item⟩ = 0 := hcode_ok (by simp only; omega) (by simp only; rintro (h | h | ⟨h, _⟩); omega; omega; simp [hneeds] at h) (by simp [hneeds])
  have HR : Hid (∀ n w' e, ScanSays B w0 Bw (.slice (some ⟨gt, 0, none⟩) ths.length capt) gone fr ths i t b L' w' e → e = .returned (.tuple #[]) ∧ DoesSays B w0 Bw (.slice (some ⟨gt, 0, none⟩) ths.length capt) gone fr ths ⟨4, i, item⟩ b L' w' (.returned (.int .i64 n)) ∨ n ≠ 0) := Lib.hid (by
    rintro n w' e ⟨fv', wv', rfl, hM5⟩
    by_cases hn : n = 0
    · subst hn
      refine .inl ⟨rfl, fv', gone, _, _, by rw [hcode0], ?_, hM5⟩
      rw [hstep_ok (s := HSof ths gone fr) hcode0]
      unfold HSof hact
      rw [if_neg (by simp), if_neg (by simp), if_neg (by simp)]
      have h2 : (ths.map (·.g))[i]? = some t.g := by rw [List.getElem?_map, ht]; rfl
      obtain ⟨h3, h4⟩ := List.getElem?_eq_some_iff.1 h2
      have h6 : (ths.map (·.ws)).getD i [] = t.ws := by rw [List.getD_eq_getElem?_getD, List.getElem?_map, ht]; rfl
      simp only [List.map_set, Int.toNat_natCast, h6]
      congr 1
      rw [← h4, List.set_getElem_self]
    · exact .inr hn)
  have Hsc := fun n => Lib.hid (scan_any B w0 _ Bw _ fv gone fr ths i t b L' (hM0.drewN n) ht hO.goneL hO.thsL (by have := (hO.wsL t (List.mem_of_getElem? ht)).1; omega) hO.frL (hO.wsL t (List.mem_of_getElem? ht)).2)
  have c0 : (w.alloc (.cells #[.int .i64 4, .int .i64 (i : Int), .int .i64 item] 34)).cell? ⟨Bw, 0, none⟩ = some (.slice (some ⟨gt, 0, none⟩) ths.length capt) := by
    have := hM0.cell 0 rfl 0
    rw [(worldC_at _ fv hO.goneL).1] at this; exact this
  have c2 := ptr_cell hM0 ht
  have z1 : t.b < w.heap.size := (hM.box (3 + 2 * i) (own_box ht)).2.1
  have hw2 : decide ((i : Int) < 0) = false := decide_eq_false (by omega)
  have hw3 : decide ((ths.length : Int) ≤ (i : Int)) = false := decide_eq_false (by omega)
  have hw4 : decide (ths.length ≤ i) = false := decide_eq_false (by omega)
  clear hM hM0 hO ht hcode0
  go_enter Try.func24, Try.ntmps24
  go_wp2
  go_quiet (fail)
  go_wp2
  go_quiet (fail)
  go_wp2
  go_quiet (fail)
  go_wp2_with fail
  refine ((Hsc _).out).mono ?_
  rintro e w9 h9
  rcases HR.out 0 _ _ h9 with ⟨rfl, h10⟩ | h10
  · have H10 := Lib.hid h10
    clear h9 h10
    go_wp2
    go_ret
    exact H10.out
  · exact absurd rfl h10
end Go.Proofs.Ytgmjhoekpbomiaa
