/- arena.Check's closure, walked. -/
import Derived.Test.YtgdodbdipbomfaaAf
namespace Go.Proofs.Ytgdodbdipbomfaa
open Go.RowKit Go.Shelf Go.Maps

attribute [local go_sem ↓] Go.wp_at_zero Go.wp_at_succ
theorem Part.fields {ws : List Int} {os : List Ob} {k : Nat} {n : Int} {fs : List Int} (h : Part ws os k) (h2 : Part ws (os ++ [(n, fs)]) (k + 1 + fs.length)) :
    ws[k]? = some n ∧ (∀ j x, fs[j]? = some x → ws[k + 1 + j]? = some x) ∧ k + 1 + fs.length ≤ ws.length := by
  obtain ⟨_, _, _, hk⟩ := h
  have hle := h2.le
  obtain ⟨rest, h1, _, _⟩ := h2
  rw [flat_append, flat_one, List.append_assoc, List.cons_append] at h1
  refine ⟨?_, fun j x hx => ?_, hle⟩
  · rw [h1, hk, List.getElem?_append_right (Nat.le_refl _)]; simp
  · rw [h1, hk, List.getElem?_append_right (by omega), show (flat os).length + 1 + j - (flat os).length = j + 1 by omega, List.getElem?_cons_succ, List.getElem?_append_left (List.getElem?_eq_some_iff.1 hx).1]; exact hx
def ownC (bm b3 b4 b1 : Nat) (vw vr : Value) (rs : List Int) (os : List Ob) (fv : Value) : List Ent :=
  [gmap mapB bm os.length (lookF (entries os 0)), ebox b3 #[.map (some bm)] 114, ebox b4 #[fv] 22, rowW 60 fv (rs ++ fieldsOf os), ebox b1 #[vw, vr] 24]
theorem fieldsOf_snoc (os : List Ob) (o : Ob) : fieldsOf (os ++ [o]) = fieldsOf os ++ o.2 := by unfold fieldsOf; rw [List.flatMap_append]; simp
set_option maxRecDepth 100000 in
set_option maxHeartbeats 1000000 in
theorem check1_any (w0 wr : World) (bm b3 b4 b1 : Nat) (vw vr : Value) (ws rs : List Int) (hw : IsW w0 vw ws) (hsm : ws.length ≤ 256) (hrs : rs.length ≤ 8) (os : List Ob) (fv : Value) (n : Int) (fs : List Int) (k : Nat) (L' : List Ent)
    (hP : Part ws os k) (hP2 : Part ws (os ++ [(n, fs)]) (k + 1 + fs.length)) (hh : isHead n) (hfl : (fs.length : Int) = n % 256) (hM : Mem w0.heap.size w0 wr (ownC bm b3 b4 b1 vw vr rs os fv ++ L')) :
    Calls Try.prog 73 (#[.int .i64 k, headV n] ++ #[.pointer (some ⟨b3, 0, none⟩), .pointer (some ⟨b4, 0, none⟩), .pointer (some ⟨b1, 0, none⟩)]) wr fun e w' => e = .returned (.bool true) ∧ ∃ fv', Mem w0.heap.size w0 w' (ownC bm b3 b4 b1 vw vr rs (os ++ [(n, fs)]) fv' ++ L') := by
  obtain ⟨hn, hfs, hfit⟩ := hP.fields hP2
  obtain ⟨b, off, cw, rfl, _, hb, _, _⟩ := hw.at hM.below hn
  have hcw := hw.cap
  obtain ⟨m, hm⟩ : ∃ m, fs.length = m := ⟨_, rfl⟩
  have hm4 : m ≤ 4 := by have := hh.1; omega
  have hmn : n % 256 = m := by omega
  have hkk : k = (flat os).length := by obtain ⟨_, _, _, h⟩ := hP; exact h
  have hlen : (rs ++ fieldsOf os).length ≤ 264 := by
    have h1 := fieldsOf_len os
    have h2 := hP.le
    rw [List.length_append]; omega
  have hcnt : os.length ≤ 256 := by
    have h1 : os.length ≤ (flat os).length := (Laid.count (ws := flat os) (os := os) ⟨rfl, by obtain ⟨_, _, h, _⟩ := hP; exact h⟩)
    have h2 := hP.le
    omega
  show Calls Try.prog 73 #[.int .i64 k, headV n, .pointer (some ⟨b3, 0, none⟩), .pointer (some ⟨b4, 0, none⟩), .pointer (some ⟨b1, 0, none⟩)] wr _
  rw [headV, hmn]
  have hM1 := hM.alloc #[.int .i64 m, .bool (n / 256 % 2 == 1), .int .i64 (n / 512 % 8)] 50
  obtain ⟨W1, hW1⟩ : ∃ W1, wr.alloc (.cells #[.int .i64 m, .bool (n / 256 % 2 == 1), .int .i64 (n / 512 % 8)] 50) = W1 := ⟨_, rfl⟩
  obtain ⟨bh, hbh⟩ : ∃ bh, wr.heap.size = bh := ⟨_, rfl⟩
  have k3 : wr.cell? ⟨b3, 0, none⟩ = some (.map (some bm)) := by have := hM.cell 1 rfl 0; simpa using this
  have kz3 : b3 < wr.heap.size := (hM.box 1 rfl).2.1
  have hw1 := hw.later hM1.below
  rw [hW1, hbh] at hM1
  rw [hW1] at hw1
  have HM1 := Lib.hid hM1
  have Hfs := Lib.hid hfs
  have Hkk := Lib.hid hkk
  have Hm := Lib.hid hm
  have Hw := Lib.hid hw
  have HW1 := Lib.hid hW1
  have Hbh := Lib.hid hbh
  have hk64 : i64ok (k : Int) := by unfold i64ok; omega
  have Hk64 := Lib.hid hk64
  rw [hm] at hfit
  clear hM hM1 hw1 hw hfs hkk hm hW1 hbh hh hfl hmn hn hP hP2 hk64
  go_enter Try.func73, Try.ntmps73
  go_wp2_with (at_mapUpdate; rw [HW1.out]; refine Mem.wp_putG (M := mapB) rfl (.tmp 8) (.tmp 9) _ rfl HM1.out 1 rfl (by omega) rfl (k : Int) (.int .i64 m) rfl rfl Hk64.out ?_; intro w5 hM5 hs5)
  rw [Hbh.out]
  have hM6 := hM5.drew
  have c12 : w5.drew.cell? ⟨b4, 0, none⟩ = some fv := by have := hM6.cell 3 rfl 0; simpa using this
  have f12 : w5.drew.frozen? ⟨b4, 0, none⟩ = false := hM6.free 3 rfl 0
  have c14 : w5.drew.cell? ⟨b1, 0, none⟩ = some (.slice (some ⟨b, off, none⟩) ws.length cw) := by have := hM6.cell 5 rfl 0; simpa using this
  have c20 : w5.drew.cell? ⟨bh, 0, none⟩ = some (.int .i64 m) := by have := hM6.cell 0 rfl 0; simpa using this
  have z4 : b4 < w5.drew.heap.size := (hM6.box 3 rfl).2.1
  have HU := Lib.hid ((Hw.out.later hM6.below).part rfl (k + 1) fs Hfs.out (by rw [Hm.out]; omega))
  rw [Hm.out] at HU
  obtain ⟨af, nf, cf, rfl⟩ := own_slice (hM6.row 4 rfl)
  have Hlf : Hid ((rs ++ fieldsOf os).length + fs.length ≤ 1000000) := Lib.hid (by rw [Hm.out]; omega)
  have HM6 := Lib.hid hM6
  obtain ⟨lo, hlo⟩ : ∃ lo, k + 1 = lo := ⟨_, rfl⟩
  obtain ⟨hi, hhi⟩ : ∃ hi, lo + m = hi := ⟨_, rfl⟩
  have e1 : IntKind.i64.wrap ((k : Int) + 1) = (lo : Int) := by rw [IntWalk.i64_in _ (by omega)]; omega
  have e2 : IntKind.i64.wrap ((lo : Int) + m) = (hi : Int) := by rw [IntWalk.i64_in _ (by omega)]; omega
  have e3 : lo ≤ hi := by omega
  have e4 : hi ≤ cw := by omega
  have e5 : (lo : Int) ≤ hi := by omega
  have e6 : (hi : Int) ≤ cw := by omega
  rw [hlo, show m = hi - lo by omega] at HU
  have Hx : Hid (cw = lo → IsW w5.drew (.slice (some ⟨b, off, none⟩) 0 0) fs) := Lib.hid (by
    intro h
    have h0 : fs = [] := List.eq_nil_of_length_eq_zero (by rw [Hm.out]; omega)
    subst h0
    exact ⟨⟨_, _, rfl, Nat.zero_le _⟩, _, _, rfl, by simp, by simp⟩)
  clear hM5 hM6 HM1 k3 kz3 Hw HW1 Hk64 hhi
  have Hfin : Hid (∀ w8 v8, Mem w0.heap.size w0 w8 ((((ebox bh #[.int .i64 m, .bool (n / 256 % 2 == 1), .int .i64 (n / 512 % 8)] 50 :: (ownC bm b3 b4 b1 (.slice (some ⟨b, off, none⟩) ws.length cw) vr rs os (.slice af nf cf) ++ L')).set 1 (gmap mapB bm (os.length + 1) fun u => if u = (k : Int) then some (.int .i64 m) else lookF (entries os 0) u)).set 4 (rowW 60 v8 (rs ++ fieldsOf os ++ fs))).set 3 (ebox b4 #[v8] 22)) →
      ∃ fv', Mem w0.heap.size w0 w8 (ownC bm b3 b4 b1 (.slice (some ⟨b, off, none⟩) ws.length cw) vr rs (os ++ [(n, fs)]) fv' ++ L')) := Lib.hid (by
    intro w8 v8 h
    refine ⟨v8, (h.drop (List.sublist_cons_self _ _)).cast ?_⟩
    show _ = [gmap mapB bm (os ++ [(n, fs)]).length (lookF (entries (os ++ [(n, fs)]) 0)), ebox b3 #[.map (some bm)] 114, ebox b4 #[v8] 22, rowW 60 v8 (rs ++ fieldsOf (os ++ [(n, fs)])), ebox b1 #[.slice (some ⟨b, off, none⟩) ws.length cw, vr] 24] ++ L'
    rw [entries_snoc, lookF_snoc, fieldsOf_snoc, List.length_append, ← List.append_assoc, Nat.zero_add, ← Hkk.out, Hm.out]
    rfl)
  by_cases hx0 : cw = lo
  · have HU2 := Lib.hid (Hx.out hx0)
    have e7 : hi ≤ lo := by omega
    have e8 : (hi : Int) ≤ lo := by omega
    clear e4 e6
    go_region_law (first
      | (refine Mem.step_appWs elemWords rfl (.tmp 12) (.tmp 22) rfl HM6.out 4 rfl rfl rfl HU2.out Hlf.out ?_
         intro v7 w7 hM7 hs7 hk7
         have f7 : w7.frozen? ⟨b4, 0, none⟩ = false := hM7.free 3 rfl 0
         have c7 : w7.cell? ⟨b4, 0, none⟩ = some (.slice af nf cf) := by have := hM7.cell 3 rfl 0; simpa using this
         obtain ⟨a7, n7, cp7, rfl⟩ := own_slice (hM7.row 4 rfl)
         have HM8 := Lib.hid (hM7.setBox 3 rfl 0 (.slice a7 n7 cp7))
         clear hM7))
    all_goals
      go_wp2
      go_ret
      exact ⟨rfl, Hfin.out _ _ HM8.out⟩
  · go_region_law (first
      | (refine Mem.step_appWs elemWords rfl (.tmp 12) (.tmp 22) rfl HM6.out 4 rfl rfl rfl HU.out Hlf.out ?_
         intro v7 w7 hM7 hs7 hk7
         have f7 : w7.frozen? ⟨b4, 0, none⟩ = false := hM7.free 3 rfl 0
         have c7 : w7.cell? ⟨b4, 0, none⟩ = some (.slice af nf cf) := by have := hM7.cell 3 rfl 0; simpa using this
         obtain ⟨a7, n7, cp7, rfl⟩ := own_slice (hM7.row 4 rfl)
         have HM8 := Lib.hid (hM7.setBox 3 rfl 0 (.slice a7 n7 cp7))
         clear hM7))
    all_goals
      go_wp2
      go_ret
      exact ⟨rfl, Hfin.out _ _ HM8.out⟩
end Go.Proofs.Ytgdodbdipbomfaa
