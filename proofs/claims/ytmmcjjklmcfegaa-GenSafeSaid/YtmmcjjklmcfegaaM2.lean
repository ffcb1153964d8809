/- heap.Machine: set, field, walked over any memory. -/
import Derived.Test.YtmmcjjklmcfegaaM1
import Derived.Handy
namespace Go.Proofs.Ytmmcjjklmcfegaa
open Go.RowKit Go.Shelf

/-- The machine's box: the registers, and the memory behind its interface. -/
def mcells (regs : List V) (mv : Value) : Array Value := (regs.flatMap cellsV ++ [mv]).toArray
def mbox (bx : Nat) (regs : List V) (mv : Value) : Ent := ebox bx (mcells regs mv) 87
/-- A method of the value behind an interface answers. -/
def MethAt (mv : Value) (name : String) (I : List Ent → World → Prop) (args : Array Value) (R : List Ent → World → Ending → World → Prop) : Prop :=
  ∃ (t : TypeId) (v r : Value) (f : FuncId), mv = .iface t v ∧ (∀ args w, (callFunc f args).run Try.prog w = .ok (.enter f args) w) ∧ ∀ T w, I T w → (∀ k, (method (k + 1) t v name).run Try.prog w = .ok (f, r) w) ∧ Calls Try.prog f (#[r] ++ args) w (R T w)
/-- What the machine holds, with what else is owned. -/
def HoldsM (B : Nat) (w0 : World) (bx : Nat) (regs : List V) (mv : Value) (L T : List Ent) (w : World) : Prop := Mem B w0 w (mbox bx regs mv :: (L ++ T))
section
variable {B : Nat} {w0 w : World} {L : List Ent}
theorem Mem.regAt (h : Mem B w0 w L) (k : Nat) {bx : Nat} {regs : List V} {mv : Value} (hk : L[k]? = some (mbox bx regs mv)) {r : Nat} {v : V} (hr : regs[r]? = some v) :
    w.cell? ⟨bx, r * 2, none⟩ = some (.bool v.ref) ∧ w.cell? ⟨bx, r * 2 + 1, none⟩ = some (.int .i64 v.n) ∧ (∀ j, w.frozen? ⟨bx, j, none⟩ = false) ∧ bx < w.heap.size := by
  obtain ⟨h1, h2⟩ := getElem_cellsV regs r v hr
  have hlt : r < regs.length := (List.getElem?_eq_some_iff.1 hr).1
  have hl := length_cellsV regs
  refine ⟨?_, ?_, fun j => h.free k hk j, (h.box k hk).2.1⟩
  · rw [h.cell k hk]
    show (mcells regs mv)[r * 2]? = _
    unfold mcells
    rw [List.getElem?_toArray, List.getElem?_append_left (by omega)]; exact h1
  · rw [h.cell k hk]
    show (mcells regs mv)[r * 2 + 1]? = _
    unfold mcells
    rw [List.getElem?_toArray, List.getElem?_append_left (by omega)]; exact h2
theorem Mem.memAt (h : Mem B w0 w L) (k : Nat) {bx : Nat} {regs : List V} {mv : Value} (hk : L[k]? = some (mbox bx regs mv)) (h8 : regs.length = 8) : w.cell? ⟨bx, 16, none⟩ = some mv := by
  rw [h.cell k hk]
  show (mcells regs mv)[16]? = _
  have hl := length_cellsV regs
  unfold mcells
  rw [List.getElem?_toArray, List.getElem?_append_right (by omega), hl, h8]; rfl
theorem flat_set : ∀ (l : List V) (r : Nat) (v : V), r < l.length → ((l.flatMap cellsV).set (r * 2) (.bool v.ref)).set (r * 2 + 1) (.int .i64 v.n) = (l.set r v).flatMap cellsV
  | [], r, v, h => by simp at h
  | x :: l, 0, v, _ => by simp [cellsV]
  | x :: l, r + 1, v, h => by
    have ih := flat_set l r v (by simpa using h)
    rw [List.flatMap_cons, List.set_cons_succ, List.flatMap_cons]
    have h2 : (cellsV x).length = 2 := rfl
    rw [List.set_append_right _ _ (by rw [h2]; omega), List.set_append_right _ _ (by rw [h2]; omega), h2, show (r + 1) * 2 - 2 = r * 2 by omega, show (r + 1) * 2 + 1 - 2 = r * 2 + 1 by omega, ih]
theorem Mem.setReg (h : Mem B w0 w L) (k : Nat) {bx : Nat} {regs : List V} {mv : Value} (hk : L[k]? = some (mbox bx regs mv)) {r : Nat} (hr : r < regs.length) (v : V) :
    Mem B w0 ((w.setCell ⟨bx, r * 2, none⟩ (.bool v.ref)).setCell ⟨bx, r * 2 + 1, none⟩ (.int .i64 v.n)) (L.set k (mbox bx (regs.set r v) mv)) := by
  have h1 := h.setBox k hk (r * 2) (.bool v.ref)
  have hkl : k < L.length := (List.getElem?_eq_some_iff.1 hk).1
  have h2 := h1.setBox k (by rw [List.getElem?_set_self hkl]) (r * 2 + 1) (.int .i64 v.n)
  refine h2.cast ?_
  rw [List.set_set]
  congr 1
  unfold mbox mcells
  have hl := length_cellsV regs
  congr 1
  simp only [List.setIfInBounds_toArray]
  rw [List.set_append_left _ _ (by omega), List.set_append_left _ _ (by rw [List.length_set]; omega), flat_set regs r v hr]
/-- A box comes to stand behind the second and third of what is owned, or ahead again. -/
theorem Mem.tuck {x y : Ent} {A T : List Ent} (h : Mem B w0 w (x :: y :: (A ++ T))) : Mem B w0 w (y :: (A ++ x :: T)) := h.perm (by
  refine List.Perm.trans (List.Perm.cons _ List.perm_middle) ?_
  exact List.Perm.swap _ _ _)
theorem Mem.untuck {x y : Ent} {A T : List Ent} (h : Mem B w0 w (y :: (A ++ x :: T))) : Mem B w0 w (x :: y :: (A ++ T)) := h.perm (by
  refine List.Perm.trans (List.Perm.swap _ _ _) ?_
  exact List.Perm.cons _ List.perm_middle.symm)
end

set_option maxRecDepth 100000 in
set_option maxHeartbeats 1000000 in
theorem set_any (bx : Nat) (regs : List V) (mv : Value) (r : Nat) (v : V) (B : Nat) (w0 w : World) (L : List Ent) (T : List Ent) (R : List Ent → Prop) (h8 : regs.length = 8) (hr : r < 8)
    (hM : Mem B w0 w (mbox bx regs mv :: (L ++ T)))
    (hold : MethAt mv "Hold" (HoldsM B w0 bx regs mv L) #[.int .i64 r, .agg #[.bool v.ref, .int .i64 v.n]] fun T _ e w' => e = .returned (.tuple #[]) ∧ ∃ L', R L' ∧ HoldsM B w0 bx regs mv L' T w') :
    Calls Try.prog 64 #[.pointer (some ⟨bx, 0, none⟩), .int .i64 r, .agg #[.bool v.ref, .int .i64 v.n]] w fun e w' => e = .returned (.tuple #[]) ∧ ∃ L', R L' ∧ Mem B w0 w' (mbox bx (regs.set r v) mv :: (L' ++ T)) := by
  have hM0 := hM.alloc #[.bool v.ref, .int .i64 v.n] 80
  have hM1 : Mem B w0 (w.alloc (.cells #[.bool v.ref, .int .i64 v.n] 80)) (mbox bx regs mv :: (L ++ (ebox w.heap.size #[.bool v.ref, .int .i64 v.n] 80 :: T))) := hM0.tuck
  have p0 := hM0.cell 0 rfl 0
  have p1 := hM0.cell 0 rfl 1
  obtain ⟨W, hW⟩ : ∃ W, w.alloc (.cells #[.bool v.ref, .int .i64 v.n] 80) = W := ⟨_, rfl⟩
  have hbx : bx < w.heap.size := (hM.box 0 rfl).2.1
  have hsz : w.heap.size < W.heap.size := by rw [← hW]; simp
  rw [hW] at hM1 p0 p1
  have m0 := hM1.memAt 0 rfl h8
  obtain ⟨t, mp, rv, f, rfl, hent, hall⟩ := hold
  obtain ⟨hm, hc⟩ := hall _ _ hM1.drew
  have Hc := Lib.hid hc
  have HM1 := Lib.hid hM1
  have HW := Lib.hid hW
  have hbW : bx < W.heap.size := by omega
  clear hc hM1 hM0 hM hall hW
  go_enter Try.func64, Try.ntmps64
  go_wp2_with fail
  rw [HW.out]
  go_still_tail 6, (by kernel_rfl)
  go_wp2_with fail
  refine Hc.out.mono ?_
  rintro e w1 ⟨rfl, L', hR, hM2⟩
  obtain ⟨x, hx⟩ := get_some regs r (by omega)
  obtain ⟨r0, r1, hf, hb1⟩ := hM2.regAt 0 rfl hx
  have hM3 : Mem B w0 w1 (ebox w.heap.size #[.bool v.ref, .int .i64 v.n] 80 :: mbox bx regs (.iface t mp) :: (L' ++ T)) := hM2.untuck
  have q0 := hM3.cell 0 rfl 0
  have q1 := hM3.cell 0 rfl 1
  have hsz1 := (hM3.box 0 rfl).2.1
  have f0 := hf (r * 2)
  have f1 := hf (r * 2 + 1)
  have HM3 := Lib.hid hM3
  have HR := Lib.hid hR
  have e1 : (r : Int) < 8 := by omega
  clear hx hM2 hM3 hR hm p0 p1 m0
  go_wp2_with fail
  go_still_tail 6, (by kernel_rfl)
  go_wp2_with fail
  have hM4 := ((HM3.out.setReg 1 rfl (regs := regs) (show r < regs.length by omega) v).drew).drop (List.sublist_cons_self _ _)
  refine bodyPost_end (results_none rfl _ _ _) rfl ?_
  exact ⟨rfl, L', HR.out, hM4⟩

set_option maxRecDepth 100000 in
set_option maxHeartbeats 1000000 in
theorem field_any (bx : Nat) (regs : List V) (mv : Value) (os : Os) (v : V) (at_ : Int) (B : Nat) (w0 w : World) (L : List Ent) (T : List Ent) (h8 : regs.length = 8)
    (hM : Mem B w0 w (mbox bx regs mv :: (L ++ T)))
    (hlen : v.ref = true → MethAt mv "Len" (HoldsM B w0 bx regs mv L) #[.int .i64 v.n] fun _ w e w' => e = .returned (.int .i64 ((objAt os v.n).length : Int)) ∧ w' = w) :
    Calls Try.prog 65 #[.pointer (some ⟨bx, 0, none⟩), .agg #[.bool v.ref, .int .i64 v.n], .int .i64 at_] w fun e w' => e = .returned (.int .i64 (fieldC os v at_)) ∧ Below w.heap.size w w' := by
  obtain ⟨c, hc⟩ : ∃ c, fieldC os v at_ = c := ⟨_, rfl⟩
  rw [hc]
  unfold fieldC at hc
  obtain ⟨vr, vn⟩ := v
  simp only at hc hlen ⊢
  have hB0 := (Below.refl w.heap.size w).alloc (Nat.le_refl _) (.cells #[.bool vr, .int .i64 vn] 80)
  have HB0 := Lib.hid hB0
  cases vr with
  | false =>
    obtain rfl : c = 5 := by simpa using hc.symm
    clear hc hlen hB0
    go_enter Try.func65, Try.ntmps65
    go_wp2
    go_ret
    exact ⟨rfl, HB0.out⟩
  | true =>
    simp only [Bool.true_eq_false, if_false] at hc
    have hM0 := hM.alloc #[.bool true, .int .i64 vn] 80
    have hM1 := hM0.tuck
    have p0 := hM0.cell 0 rfl 0
    have p1 := hM0.cell 0 rfl 1
    obtain ⟨W, hW⟩ : ∃ W, w.alloc (.cells #[.bool true, .int .i64 vn] 80) = W := ⟨_, rfl⟩
    have hbx : bx < w.heap.size := (hM.box 0 rfl).2.1
    have hsz : w.heap.size < W.heap.size := by rw [← hW]; simp
    rw [hW] at hM1 p0 p1 HB0
    have m0 := hM1.memAt 0 rfl h8
    obtain ⟨t, mp, rv, f, rfl, hent, hall⟩ := hlen rfl
    obtain ⟨n, hn⟩ : ∃ n : Nat, (objAt os vn).length = n := ⟨_, rfl⟩
    rw [hn] at hall hc
    have hmD : ∀ q k, (method (k + 1) t mp "Len").run Try.prog (W.drewN q) = .ok (f, rv) (W.drewN q) := fun q k => (hall _ _ (hM1.drewN q)).1 k
    have Q : Hid (∀ q, Calls Try.prog f #[rv, .int .i64 vn] (W.drewN q) fun e w' => e = .returned (.int .i64 (n : Int)) ∧ w' = W.drewN q) := Lib.hid (fun q => (hall _ _ (hM1.drewN q)).2)
    have HW := Lib.hid hW
    have hbW : bx < W.heap.size := by omega
    clear hM1 hM0 hM hall hW hn hB0
    by_cases h1 : at_ < 0
    · obtain rfl : c = 3 := by rw [if_pos (.inl h1)] at hc; exact hc.symm
      clear hmD Q
      go_enter Try.func65, Try.ntmps65
      go_wp2_with fail
      rw [HW.out]
      go_quiet (fail)
      go_wp2
      go_ret
      exact ⟨rfl, below_drewN HB0.out _⟩
    · by_cases h2 : (n : Int) ≤ at_
      · obtain rfl : c = 3 := by rw [if_pos (.inr h2)] at hc; exact hc.symm
        have h3 : ¬ at_ < (n : Int) := by omega
        go_enter Try.func65, Try.ntmps65
        go_wp2_with fail
        rw [HW.out]
        go_quiet (first | (exact Calls.quiet_of_same (Q.out _)) | fail)
        go_wp2
        go_ret
        exact ⟨rfl, below_drewN HB0.out _⟩
      · obtain rfl : c = 0 := by rw [if_neg (by omega)] at hc; exact hc.symm
        have h3 : at_ < (n : Int) := by omega
        go_enter Try.func65, Try.ntmps65
        go_wp2_with fail
        rw [HW.out]
        go_quiet (first | (exact Calls.quiet_of_same (Q.out _)) | fail)
        go_wp2
        go_ret
        exact ⟨rfl, below_drewN HB0.out _⟩
end Go.Proofs.Ytmmcjjklmcfegaa
