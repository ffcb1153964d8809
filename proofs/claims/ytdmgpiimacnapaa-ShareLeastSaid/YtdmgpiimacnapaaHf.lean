/- share.apart's closure `all`: the pairs that the map does not hold. -/
import Derived.Test.YtdmgpiimacnapaaHe
import Derived.Test.YtdmgpiimacnapaaHc
import Derived.Test.YtdmgpiimacnapaaFd
namespace Go.Proofs.Ytdmgpiimacnapaa
open Go.RowKit Go.Shelf

attribute [local go_sem] Oper.semAt_some

def rowN (n a : Nat) : List (Int × Int) := (List.range n).map fun (b : Nat) => ((a : Int), (b : Int))
def pairsTo (n a : Nat) : List (Int × Int) := (List.range a).flatMap (rowN n)
theorem pairsTo_all (n : Nat) : pairsTo n n = pairsN n := rfl
theorem pairsTo_succ (n a : Nat) : pairsTo n (a + 1) = pairsTo n a ++ rowN n a := by simp [pairsTo, List.range_succ]
theorem rowN_take {n a b : Nat} (h : b < n) : (rowN n a).take (b + 1) = (rowN n a).take b ++ [((a : Int), (b : Int))] := take_succ_some _ _ _ (by simp [rowN, h])
theorem rowN_all (n a : Nat) : (rowN n a).take n = rowN n a := List.take_of_length_le (by simp [rowN])
def unkOf (m : Int × Int → Option Nat) (l : List (Int × Int)) : List (Int × Int) := l.filter fun p => (m p).isNone
theorem unkOf_step (m : Int × Int → Option Nat) (l : List (Int × Int)) (p : Int × Int) : unkOf m (l ++ [p]) = unkOf m l ++ if (m p).isNone then [p] else [] := by
  unfold unkOf
  rw [List.filter_append]
  cases h : (m p).isNone <;> simp [h]
theorem pref_to {n a : Nat} (h : a < n) (b : Nat) : pairsTo n a ++ (rowN n a).take b <+: pairsN n := by
  have h1 : pairsTo n a ++ (rowN n a).take b <+: pairsTo n (a + 1) := by
    rw [pairsTo_succ]
    exact List.prefix_append_right_inj _ |>.2 (List.take_prefix _ _)
  refine h1.trans ?_
  rw [← pairsTo_all]
  unfold pairsTo
  obtain ⟨d, rfl⟩ : ∃ d, n = a + 1 + d := ⟨n - (a + 1), by omega⟩
  have : List.range (a + 1) <+: List.range (a + 1 + d) := ⟨_, (List.range_add (n := a + 1) (m := d)).symm⟩
  obtain ⟨t, ht⟩ := this
  exact ⟨_, by rw [← ht, List.flatMap_append]⟩
theorem pref_unk {n a : Nat} (m : Int × Int → Option Nat) (h : a < n) (b : Nat) : unkOf m (pairsTo n a ++ (rowN n a).take b) <+: unk n m := List.IsPrefix.filter _ (pref_to h b)

abbrev Pu (n : Nat) (m : Int × Int → Option Nat) := { p : Int × Int // p ∈ unk n m }
set_option maxRecDepth 100000 in
set_option maxHeartbeats 4000000 in
theorem all1_in (n : Nat) (hn : 1 ≤ n) (lp Bg Bm b cnt : Nat) (ao : Option Addr) (co : Nat) (N : Nat) (hN : N ≤ 24) (m : Int × Int → Option Nat) (w0 : World) (hg : w0.cell? ⟨Bg, 0, none⟩ = some (.slice ao N co)) (hBg : Bg < w0.heap.size)
    (hm : w0.cell? ⟨Bm, 0, none⟩ = some (.map (some b))) (hBm : Bm < w0.heap.size) (hmap : (gmap mapPair b cnt (mapF m)).ok 0 w0) (J Jx : List (Pu N m) → World → Prop) (W0 : World)
    (hJ : AbidesFrom W0.heap.size J)
    (hY : ∀ pre x W, J pre W → pre.length < (unk N m).length + 1 → YieldAt Fence.wide (n - 1) Try.prog lp #[pairV x.1] W fun e W' =>
      (e = .returned (.bool true) ∧ J (pre ++ [x]) W' ∧ Below w0.heap.size W W') ∨ (e = .returned (.bool false) ∧ Jx (pre ++ [x]) W'))
    (hW : Below w0.heap.size w0 W0) (h0 : J [] W0) :
    CallsIn Fence.wide n Try.prog 63 #[.func (.yield lp) #[] #[], .pointer (some ⟨Bg, 0, none⟩), .pointer (some ⟨Bm, 0, none⟩)] W0 fun e W' => (∃ v, e = .returned v) ∧
      ((∃ ys : List (Pu N m), ys.map (·.1) = unk N m ∧ J ys W') ∨ (∃ pre : List (Pu N m), pre.map (·.1) <+: unk N m ∧ Jx pre W')) := by
  refine callsIn_of_wp Try.func63 rfl trivial ?_ rfl
  simp only [Try.ntmps63, List.size_toArray, List.length_cons, List.length_nil, Nat.reduceAdd, Nat.reduceSub, Array.replicate_succ, Array.replicate_zero, List.push_toArray, List.append_toArray, List.nil_append, List.cons_append]
  have q0 := (hW.cell (p := ⟨Bg, 0, none⟩) hBg).trans hg
  gi_wp2
  gi_loopw [11] (fun i wr => ∃ (a : Nat) (pre : List (Pu N m)), a ≤ N ∧ i = .int .i64 a ∧ pre.map (·.1) = unkOf m (pairsTo N a) ∧ J pre wr ∧ Below w0.heap.size w0 wr)
    (fun i _ => N - (intOf i).toNat)
  case atStart => exact ⟨0, [], Nat.zero_le _, rfl, rfl, h0, hW⟩
  case round =>
    obtain ⟨a, pre, ha, rfl, hpre, hJs, hB⟩ := hrel
    have Hpre := Lib.hid hpre
    clear hpre
    have q1 := (hB.cell (p := ⟨Bg, 0, none⟩) hBg).trans hg
    by_cases hlt : a < N
    · gi_wp2
      gi_loopw [17] (fun i wr => ∃ (c : Nat) (pre : List (Pu N m)), c ≤ N ∧ i = .int .i64 c ∧ pre.map (·.1) = unkOf m (pairsTo N a ++ (rowN N a).take c) ∧ J pre wr ∧ Below w0.heap.size w0 wr)
        (fun i _ => N - (intOf i).toNat)
      case atStart => exact ⟨0, pre, Nat.zero_le _, rfl, by simpa using Hpre.out, hJs, hB⟩
      case round =>
        obtain ⟨c, pre, hc, rfl, hpre, hJs, hB⟩ := hrel
        have Hpre := Lib.hid hpre
        clear hpre
        have q2 := (hB.cell (p := ⟨Bm, 0, none⟩) hBm).trans hm
        by_cases hltc : c < N
        · have hl := (gmap_look (gmap_later hmap hB) (x := ((a : Int), (c : Int))) ⟨⟨by simp only; omega, by simp only; omega⟩, by simp only; omega, by simp only; omega⟩).2
          simp only [mapPair, pairV, mapF] at hl
          have hS : unkOf m (pairsTo N a ++ (rowN N a).take (c + 1)) = unkOf m (pairsTo N a ++ (rowN N a).take c) ++ if (m ((a : Int), (c : Int))).isNone then [((a : Int), (c : Int))] else [] := by
            rw [rowN_take hltc, ← List.append_assoc, unkOf_step]
          have HS := Lib.hid hS
          have HP := Lib.hid (pref_unk m hlt (c + 1))
          clear hS
          cases hmc : m ((a : Int), (c : Int)) with
          | some j =>
            rw [hmc] at hl
            try simp only [Option.map_some, Option.getD_some, Option.isSome_some] at hl
            have hp2 : pre.map (·.1) = unkOf m (pairsTo N a ++ (rowN N a).take (c + 1)) := by rw [Hpre.out, HS.out, hmc]; simp
            have Hp2 := Lib.hid hp2
            clear hp2 hmc
            gi_wp2
            refine ⟨fun _ h => (by cases h), ?_⟩
            gi_wp2
            go_roundw
            case rel => exact ⟨c + 1, pre, by omega, by go_num, Hp2.out, hJs, hB⟩
            case measure => simp [intOf]; omega
          | none =>
            rw [hmc] at hl
            try simp only [Option.map_none, Option.getD_none, Option.isSome_none] at hl
            have hin : ((a : Int), (c : Int)) ∈ unk N m := List.mem_filter.2 ⟨mem_pairsN.2 ⟨⟨by simp only; omega, by simp only; omega⟩, by simp only; omega, by simp only; omega⟩, by rw [hmc]; rfl⟩
            obtain ⟨xx, hxx⟩ : ∃ xx : Pu N m, xx.1 = ((a : Int), (c : Int)) := ⟨⟨_, hin⟩, rfl⟩
            have hp2 : (pre ++ [xx]).map (·.1) = unkOf m (pairsTo N a ++ (rowN N a).take (c + 1)) := by rw [List.map_append, Hpre.out, HS.out, hmc]; simp [hxx]
            have hlen : pre.length < (unk N m).length + 1 := by
              have h1 := HP.out.length_le
              rw [← hp2] at h1
              simp at h1
              omega
            have Hp2 := Lib.hid hp2
            obtain ⟨fn, tmps, assign, body, hy, hR⟩ := hY pre xx _ hJs hlen
            rw [hxx] at hy
            unfold pairV at hy
            clear hp2 hmc hin hxx
            gi_wp2
            refine hR.mono ?_
            rintro e W3 (⟨rfl, hJ3, hk3⟩ | ⟨rfl, hJx3⟩)
            · gi_wp2
              go_roundw
              case rel => exact ⟨c + 1, _, by omega, by go_num, Hp2.out, hJ3, hB.trans hk3⟩
              case measure => simp [intOf]; omega
            · gi_wp2
              refine bodyPost_ret (results_none rfl _ _ _) rfl ?_
              exact ⟨⟨_, rfl⟩, .inr ⟨_, by rw [Hp2.out]; exact HP.out, hJx3⟩⟩
        · obtain rfl : c = N := by omega
          have hp2 : pre.map (·.1) = unkOf m (pairsTo c (a + 1)) := by rw [Hpre.out, pairsTo_succ, rowN_all]
          have Hp2 := Lib.hid hp2
          clear hp2
          gi_wp2
          go_roundw
          case rel => exact ⟨a + 1, pre, by omega, by go_num, Hp2.out, hJs, hB⟩
          case measure => simp [intOf]; omega
    · obtain rfl : a = N := by omega
      have hall : pre.map (·.1) = unk a m := Hpre.out
      have Hall := Lib.hid hall
      clear hall
      gi_wp2
      go_end0
      exact ⟨⟨_, rfl⟩, .inl ⟨_, Hall.out, hJs⟩⟩
end Go.Proofs.Ytdmgpiimacnapaa
