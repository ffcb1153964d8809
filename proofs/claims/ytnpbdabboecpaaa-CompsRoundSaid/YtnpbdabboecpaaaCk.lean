/- graph.Check, walked. -/
import Derived.Test.YtnpbdabboecpaaaIt2
namespace Go.Proofs.Ytnpbdabboecpaaa
open Go.RowKit Go.Shelf

set_option maxHeartbeats 400000 in
theorem large_any (a : Option Addr) (len cap : Nat) (w : World) :
    Calls Try.prog 46 #[.agg #[.slice a len cap]] w fun e w' => e = .returned (.bool (decide (4 < len))) ∧ Below w.heap.size w w' := by
  go_enter Try.func46, Try.ntmps46
  go_wp2
  go_ret
  exact ⟨by simp <;> omega, (by repeat (first | exact Below.refl _ _ | refine Below.setCell ?_ (by first | exact Nat.le_refl _ | (simp; done) | (simp; omega) | (simp at *; omega)) _ | refine Below.alloc ?_ (by first | exact Nat.le_refl _ | (simp; done) | (simp; omega) | (simp at *; omega)) _ | refine Below.drew ?_ | refine Below.trans ?_ (Below.mono (by assumption) (by first | exact Nat.le_refl _ | (simp; done) | (simp; omega) | (simp at *; omega)))))⟩

def Large (l : List (List V)) (i : Int) : Prop := 0 ≤ i ↔ ∃ o ∈ l, 4 < o.length
def AnyLarge (P : Int → Prop) (e : Ending) : Prop := ∃ i : Int, e = .returned (.int .i64 i) ∧ P i
set_option maxHeartbeats 400000 in
theorem indexLarge_any (v : Value) (l : List (List V)) (w : World) (hl : IsObjs w v l) :
    Calls Try.prog 61 #[v, .func (.func 46) #[] #[]] w fun e w' => AnyLarge (Large l) e ∧ Below w.heap.size w w' := by
  obtain ⟨a, cap, rfl, hm⟩ := hl.slice
  have Hl := Lib.hid hl
  clear hl
  go_enter Try.func61, Try.ntmps61
  go_wp2
  go_loopw [8] (fun i wr => ∃ k : Nat, k ≤ l.length ∧ i = .int .i64 k ∧ NotYet l k (fun o => decide (4 < o.length)) ∧ Below w.heap.size w wr) (fun i _ => l.length - (intOf i).toNat)
  case atStart => exact ⟨0, Nat.zero_le _, rfl, NotYet.zero _ _, Below.refl _ _⟩
  case round =>
    obtain ⟨k, hk, rfl, hN, hB⟩ := hrel
    by_cases hlt : k < l.length
    · obtain ⟨o, hx⟩ := get_some _ _ hlt
      obtain ⟨b, off, cap2, u, hv, hb, hn, c1, hu⟩ := Hl.out.at hB hx
      cases hv
      obtain ⟨ao2, co2, rfl, hlo2⟩ := hu.slice
      have HS := Lib.hid (take_succ_some _ _ _ hx)
      have Hx := Lib.hid (List.mem_of_getElem? hx)
      clear hx hu
      by_cases h4 : 4 < o.length
      · have h5 := Lib.hid h4
        go_wp2_with fail
        refine (large_any _ _ _ _).mono ?_
        rintro e w1 ⟨rfl, hb1⟩
        go_wp2
        go_ret
        exact ⟨⟨k, rfl, ⟨fun _ => ⟨o, Hx.out, h5.out⟩, fun _ => by omega⟩⟩, hB.trans (hb1.mono hB.size)⟩
      · have h5 : ¬ 4 < o.length := h4
        have hd : decide (4 < o.length) = false := by simpa using h4
        go_wp2_with fail
        refine (large_any _ _ _ _).mono ?_
        rintro e w1 ⟨rfl, hb1⟩
        go_wp2
        go_roundw
        case rel => exact ⟨k + 1, by omega, by go_num, hN.succ HS.out hd, hB.trans (hb1.mono hB.size)⟩
        case measure => simp [intOf]; omega
    · obtain rfl : k = l.length := by omega
      have hno : ¬ ∃ o ∈ l, 4 < o.length := fun ⟨o, ho, h4⟩ => by have := hN.all o ho; simp at this; omega
      have Hno := Lib.hid hno
      clear hno
      go_wp2
      go_ret
      exact ⟨⟨-1, rfl, ⟨fun h => by omega, fun h => (Hno.out h).elim⟩⟩, hB⟩

set_option maxHeartbeats 400000 in
theorem containsLarge_yes (v : Value) (l : List (List V)) (w : World) (hl : IsObjs w v l) (h : ∃ o ∈ l, 4 < o.length) :
    Calls Try.prog 47 #[v, .func (.func 46) #[] #[]] w fun e w' => e = .returned (.bool true) ∧ Below w.heap.size w w' := by
  have H := Lib.hid h
  have Hl := Lib.hid hl
  clear h hl
  go_enter Try.func47, Try.ntmps47
  go_wp2_with fail
  refine (indexLarge_any _ _ _ Hl.out).mono ?_
  rintro e w1 ⟨⟨i, rfl, hi⟩, hb⟩
  have h0 := hi.2 H.out
  clear hi
  go_wp2
  go_ret
  exact ⟨by simp <;> omega, hb⟩
set_option maxHeartbeats 400000 in
theorem containsLarge_no (v : Value) (l : List (List V)) (w : World) (hl : IsObjs w v l) (h : ¬ ∃ o ∈ l, 4 < o.length) :
    Calls Try.prog 47 #[v, .func (.func 46) #[] #[]] w fun e w' => e = .returned (.bool false) ∧ Below w.heap.size w w' := by
  have H := Lib.hid h
  have Hl := Lib.hid hl
  clear h hl
  go_enter Try.func47, Try.ntmps47
  go_wp2_with fail
  refine (indexLarge_any _ _ _ Hl.out).mono ?_
  rintro e w1 ⟨⟨i, rfl, hi⟩, hb⟩
  have h0 : ¬ 0 ≤ i := fun h => H.out (hi.1 h)
  clear hi
  go_wp2
  go_ret
  exact ⟨by simp <;> omega, hb⟩

theorem values_any (n : Nat) (vo vr : Value) (w : World) :
    CallsIn Fence.wide n Try.prog 48 #[.agg #[vo, vr]] w fun e w' => e = .returned (.func (.func 62) #[] #[.pointer (some ⟨w.heap.size, 0, none⟩)]) ∧ w.alloc (.cells #[vo, vr] 25) = w' := by
  refine callsIn_of_wp Try.func48 rfl trivial ?_ rfl
  simp only [Try.ntmps48, List.size_toArray, List.length_cons, List.length_nil, Nat.reduceAdd, Nat.reduceSub, Array.replicate_succ, Array.replicate_zero, List.push_toArray, List.append_toArray, List.nil_append, List.cons_append]
  gi_wp2
  go_ret
  exact ⟨rfl, rfl⟩

/-- The contract of the iterator: it reads what lay below its own box, and the box. -/
theorem values_stops (n : Nat) (hn : 1 ≤ n) (g : G) (vo vr : Value) (w0 : World) (ho : IsObjs w0 vo g.objs) (hr : IsVals w0 vr g.roots) :
    SeqStopsK Fence.wide n Try.prog 62 #[.pointer (some ⟨w0.heap.size, 0, none⟩)] (fun x : Vg g => #[.agg #[.bool x.1.ref, .int .i64 x.1.n]]) (Below (w0.heap.size + 1))
      (fun ys => ys.map (·.1) = allV g) (fun pre => pre.map (·.1) <+: allV g) ((allV g).length + 1) (w0.alloc (.cells #[vo, vr] 25)) := fun lp J Jx W hW hJ hJx hY h0 => by
  have hW0 : Below w0.heap.size w0 W := ((Below.refl _ w0).alloc (Nat.le_refl _) _).trans (hW.mono (by simp))
  have hlt : w0.heap.size < (w0.alloc (.cells #[vo, vr] 25)).heap.size := by simp
  exact values1_in n hn lp _ g vo vr w0 ho hr J Jx W hJ hY hW0 (Nat.lt_of_lt_of_le hlt hW.size) rfl
    ((hW.cell (p := ⟨_, 0, none⟩) hlt).trans (by simp)) ((hW.cell (p := ⟨_, 1, none⟩) hlt).trans (by simp)) h0
end Go.Proofs.Ytnpbdabboecpaaa
