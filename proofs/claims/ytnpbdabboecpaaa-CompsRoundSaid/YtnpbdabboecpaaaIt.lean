/- graph.Targets: its iterator's contract; a range over it. -/
import Derived.Test.YtnpbdabboecpaaaIa
namespace Go.Proofs.Ytnpbdabboecpaaa
open Go.RowKit Go.Shelf

attribute [local go_sem] Oper.semAt_some

set_option maxRecDepth 100000 in
set_option maxHeartbeats 2000000 in
theorem targets1_in (n : Nat) (hn : 1 ≤ n) (lp Bs : Nat) (L : List V) (vs : Value) (w0 : World) (hL : IsVals w0 vs L) (J Jx : List (Tg L) → World → Prop) (W0 : World)
    (hJ : AbidesFrom W0.heap.size J) (_hJx : AbidesFrom W0.heap.size Jx)
    (hY : ∀ pre x W, J pre W → pre.length < L.length + 1 → YieldAt Fence.wide (n - 1) Try.prog lp #[.int .i64 x.1] W fun e W' =>
      (e = .returned (.bool true) ∧ J (pre ++ [x]) W' ∧ Below w0.heap.size W W') ∨ (e = .returned (.bool false) ∧ Jx (pre ++ [x]) W'))
    (hW : Below w0.heap.size w0 W0) (hBs : W0.cell? ⟨Bs, 0, none⟩ = some vs) (h0 : J [] W0) :
    CallsIn Fence.wide n Try.prog 56 #[.func (.yield lp) #[] #[], .pointer (some ⟨Bs, 0, none⟩)] W0 fun e W' => (∃ v, e = .returned v) ∧
      ((∃ ys : List (Tg L), ys.map (·.1) = targets L ∧ J ys W') ∨ (∃ pre : List (Tg L), pre.map (·.1) <+: targets L ∧ Jx pre W')) := by
  obtain ⟨a, cap, rfl, hm⟩ := hL.slice
  have HL := Lib.hid hL
  clear hL
  refine callsIn_of_wp Try.func56 rfl trivial ?_ rfl
  simp only [Try.ntmps56, List.size_toArray, List.length_cons, List.length_nil, Nat.reduceAdd, Nat.reduceSub, Array.replicate_succ, Array.replicate_zero, List.push_toArray, List.append_toArray, List.nil_append, List.cons_append]
  gi_wp2
  gi_loopw [7] (fun i wr => ∃ (k : Nat) (pre : List (Tg L)), k ≤ L.length ∧ i = .int .i64 k ∧ pre.map (·.1) = targets (L.take k) ∧ J pre wr ∧ Below w0.heap.size w0 wr)
    (fun i _ => L.length - (intOf i).toNat)
  case atStart => exact ⟨0, [], Nat.zero_le _, rfl, rfl, h0, hW⟩
  case round =>
    obtain ⟨k, pre, hk, rfl, hpre, hJs, hB⟩ := hrel
    have Hpre := Lib.hid hpre
    clear hpre
    by_cases hlt : k < L.length
    · obtain ⟨x, hx⟩ := get_some _ _ hlt
      obtain ⟨b, off, cap2, hv, hb, hn2, c1, c2, _⟩ := HL.out.at hB hx
      cases hv
      have HS := Lib.hid (targets_succ (take_succ_some _ _ _ hx))
      have Hmem := Lib.hid (List.mem_of_getElem? hx)
      clear hx
      obtain ⟨r, m⟩ := x
      cases r
      · have hpre2 := Hpre.out.trans (by simpa using HS.out.symm)
        have Hp2 := Lib.hid hpre2
        have hJ2 := fun o => hJ pre wr (wr.alloc o) none hJs (World.grownBy_alloc wr o none) (fun r e => by cases e)
        clear hpre2
        gi_wp2
        refine ⟨fun _ h => (by cases h), ?_⟩
        gi_wp2
        go_roundw
        case rel => exact ⟨k + 1, pre, by omega, by go_num, Hp2.out, hJ2 _, hB.alloc (Nat.le_trans (Nat.le_refl _) hB.size) _⟩
        case measure => simp [intOf]; omega
      · obtain ⟨xx, hxx⟩ : ∃ xx : Tg L, xx.1 = m := ⟨⟨m, mem_targets Hmem.out rfl⟩, rfl⟩
        have Hxx := Lib.hid hxx
        have hJ2 := hJ pre wr (wr.alloc (.cells #[.bool true, .int .i64 m] 60)) none hJs (World.grownBy_alloc wr _ none) (fun r e => by cases e)
        have hlen : pre.length < L.length + 1 := by
          have h1 : pre.length = (targets (L.take k)).length := by rw [← Hpre.out, List.length_map]
          have h2 : (targets (L.take k)).length ≤ (L.take k).length := by unfold targets; rw [List.length_map]; exact List.length_filter_le _ _
          have h3 := take_len_le L k
          omega
        have hpre2 : (pre ++ [xx]).map (·.1) = targets (L.take (k + 1)) := by rw [List.map_append, Hpre.out, HS.out]; simp [hxx]
        have Hp2 := Lib.hid hpre2
        obtain ⟨fn, tmps, assign, body, hy, hR⟩ := hY pre xx _ hJ2 hlen
        rw [hxx] at hy
        clear hxx hpre2
        gi_wp2
        refine hR.mono ?_
        rintro e W3 (⟨rfl, hJ3, hk3⟩ | ⟨rfl, hJx3⟩)
        · gi_wp2
          go_roundw
          case rel => exact ⟨k + 1, _, by omega, by go_num, Hp2.out, hJ3, (hB.alloc hB.size _).trans hk3⟩
          case measure => simp [intOf]; omega
        · gi_wp2
          refine bodyPost_ret (results_none rfl _ _ _) rfl ?_
          exact ⟨⟨_, rfl⟩, .inr ⟨_, by rw [Hp2.out]; exact targets_prefix _ _, hJx3⟩⟩
    · obtain rfl : k = L.length := by omega
      have hall : pre.map (·.1) = targets L := by have := Hpre.out; rwa [List.take_length] at this
      have Hall := Lib.hid hall
      clear hall
      gi_wp2
      go_end0
      exact ⟨⟨_, rfl⟩, .inl ⟨_, Hall.out, hJs⟩⟩

/-- graph.Targets(l): the slice is boxed; the function value captures the box. -/
theorem targets_any (n : Nat) (a : Option Addr) (len cap : Nat) (w : World) :
    CallsIn Fence.wide n Try.prog 38 #[.slice a len cap] w fun e w' => e = .returned (.func (.func 56) #[] #[.pointer (some ⟨w.heap.size, 0, none⟩)]) ∧ w.alloc (.cells #[.slice a len cap] 23) = w' := by
  refine callsIn_of_wp Try.func38 rfl trivial ?_ rfl
  simp only [Try.ntmps38, List.size_toArray, List.length_cons, List.length_nil, Nat.reduceAdd, Nat.reduceSub, Array.replicate_succ, Array.replicate_zero, List.push_toArray, List.append_toArray, List.nil_append, List.cons_append]
  gi_wp2
  go_ret
  exact ⟨rfl, rfl⟩

/-- The contract of the iterator. -/
theorem targets_stops (n : Nat) (hn : 1 ≤ n) (Bs : Nat) (L : List V) (vs : Value) (w0 : World) (hL : IsVals w0 vs L) (w : World) (hw : Below w0.heap.size w0 w) (hlt : Bs < w.heap.size) (hBs : w.cell? ⟨Bs, 0, none⟩ = some vs) :
    SeqStopsK Fence.wide n Try.prog 56 #[.pointer (some ⟨Bs, 0, none⟩)] (fun x : Tg L => #[Value.int .i64 x.1]) (Below w0.heap.size)
      (fun ys => ys.map (·.1) = targets L) (fun pre => pre.map (·.1) <+: targets L) (L.length + 1) w := fun lp J Jx W hW hJ hJx hY h0 =>
  targets1_in n hn lp Bs L vs w0 hL J Jx W hJ hJx hY (hw.trans (hW.mono hw.size)) ((hW.cell (p := ⟨Bs, 0, none⟩) hlt).trans hBs) h0
end Go.Proofs.Ytnpbdabboecpaaa
