/- slices.Repeat of one bool, walked. -/
import Derived.Test.YtmmcjjklmcfegaaSh
import Derived.Test.YtmmcjjklmcfegaaBase13
import Derived.Laws.CopyOwn
import Derived.BigQuiet
import Derived.StillTailTactics
import Derived.Deep.RegionHeld3
import Derived.IntWalk
namespace Go.Proofs.Ytmmcjjklmcfegaa
open Go.RowKit Go.Shelf

theorem Mem.boolAt0 {B : Nat} {w0 w : World} {L : List Ent} (h : Mem B w0 w L) (k : Nat) {g n cap : Nat} {K : List Bool} (hk : L[k]? = some (rowK (.slice (some ⟨g, 0, none⟩) n cap) K)) {j : Nat} {x : Bool} (hx : K[j]? = some x) :
    w.cell? ⟨g, j, none⟩ = some (.bool x) ∧ w.frozen? ⟨g, j, none⟩ = false := by
  obtain ⟨g', cap', hv, h1, h2, _⟩ := h.boolK k hk hx
  cases hv
  exact ⟨h1, h2⟩
section
variable {P : Program} {B : Nat} {w0 w : World} {L : List Ent} {t : TypeId} {z : Value}
/-- copy into a row of ints of the call's own. -/
theorem Mem.run_copyK (T : Elem P t 4 1 1 z) (ty : TypeId) (h : Mem B w0 w L) (k : Nat) {g n cap : Nat} {l : List Bool} (hk : L[k]? = some (rowK (.slice (some ⟨g, 0, none⟩) n cap) l))
    (off dLen dCap : Nat) (a : Addr) (sLen sCap : Nat) (cs : List Bool) (hn : cs.length = Nat.min sLen dLen) (hsrc : ∀ (j : Nat) (v : Bool), cs[j]? = some v → w.cell? (a.add j) = some (.bool v)) (hfit : off + cs.length ≤ l.length) :
    ∃ w', (Builtin.copy_ #[t, t] ty #[.slice (some ⟨g, off, none⟩) dLen dCap, .slice (some a) sLen sCap]).run P w = .ok (goInt cs.length) w' ∧
      Mem B w0 w' (L.set k (rowK (.slice (some ⟨g, 0, none⟩) n cap) (l.take off ++ cs ++ l.drop (off + cs.length)))) ∧ w'.heap.size = w.heap.size := by
  obtain ⟨i, hi, hz, hs, hb⟩ := T.info
  have hr : w.ownsRow B 4 1 (.slice (some ⟨g, 0, none⟩) n cap) l.length (l.map .bool) := h.row k hk
  rcases hr.2 with ⟨h0, _⟩ | ⟨g', cap', cur, hv, hB, hg, hnc, hcm, hcs, htk⟩
  · cases h0
  · cases hv
    rw [Nat.mul_one] at htk hcs
    have hlc : l.length ≤ cur.size := by omega
    have hrun := run_copy_row (P := P) w t t ty 4 g off dLen dCap a sLen sCap cur 4 (cs.map .bool) T.under (by rw [hi]; simp [hs]) hg (by simpa using hn)
      (by intro j v hj; rw [List.getElem?_map] at hj; cases hc : cs[j]? with
          | none => rw [hc] at hj; cases hj
          | some x => rw [hc] at hj; cases hj; exact hsrc j x hc) (by simp; omega) (by intro v hv; obtain ⟨x, _, rfl⟩ := List.mem_map.1 hv; rfl)
    rw [List.length_map] at hrun
    have hlen : (l.take off ++ cs ++ l.drop (off + cs.length)).length = l.length := by simp; omega
    have hcur : cur.toList = l.map .bool ++ cur.toList.drop l.length := by rw [← htk, List.take_append_drop]
    refine ⟨_, hrun, h.turn k hk (x' := rowK (.slice (some ⟨g, 0, none⟩) l.length cap) (l.take off ++ cs ++ l.drop (off + cs.length)))
      ⟨rfl, rfl, rfl, by simp [World.setRow], fun b hb hne => setRow_other _ _ _ _ (fun e => hne (by rw [e]; rfl))⟩ (row_ok.2 ⟨by simp, .inr ⟨g, cap, _, by rw [hlen], hB, setRow_heap _ _ _ _ _ _ hg, by rw [hlen]; exact hnc, hcm, ?_, ?_⟩⟩) (fun b hb => .inl hb), by simp [World.setRow]⟩
    · simp; omega
    · have e1 : cur.toList.take off = (l.take off).map .bool := by
        rw [hcur, List.take_append_of_le_length (by simp; omega), List.map_take]
      have e2 : cur.toList.drop (off + cs.length) = (l.drop (off + cs.length)).map .bool ++ cur.toList.drop l.length := by
        conv => lhs; rw [hcur]
        rw [List.drop_append_of_le_length (by simp; omega), List.map_drop]
      rw [hlen, Nat.mul_one, List.toList_toArray, e1, e2, ← List.append_assoc, ← List.map_append, ← List.map_append]
      rw [List.take_append_of_le_length (by simp; omega), List.take_of_length_le (by simp; omega)]
theorem Mem.wp_copyK (T : Elem P t 4 1 1 z) {ops : Array Oper} {rest : List Oper} {o : Oper} {a : Act} {Q : Exit → Act → World → Prop} (hgd : o.guard = none) (d s : Operand)
    (ho : o.op = .call { callee := .builtin .copy, args := #[d, s], argTypes := #[t, t] }) (h : Mem B w0 w L) (k : Nat) {g n cap : Nat} {l : List Bool} (hk : L[k]? = some (rowK (.slice (some ⟨g, 0, none⟩) n cap) l))
    (off dLen dCap : Nat) (ad : Addr) (sLen sCap : Nat) (hd : a.eval d = .slice (some ⟨g, off, none⟩) dLen dCap) (hs : a.eval s = .slice (some ad) sLen sCap) (cs : List Bool) (c : Nat) (hc : cs.length = c) (hn : c = Nat.min sLen dLen)
    (hsrc : ∀ (j : Nat) (v : Bool), cs[j]? = some v → w.cell? (ad.add j) = some (.bool v)) (hfit : off + c ≤ l.length)
    (hh : ∀ w', Mem B w0 w' (L.set k (rowK (.slice (some ⟨g, 0, none⟩) n cap) (l.take off ++ cs ++ l.drop (off + c)))) → w'.heap.size = w.heap.size → wpList P ops Q rest (a.put o.dst (goInt c)) w') : wpList P ops Q (o :: rest) a w := by
  subst hc
  refine wpList_plain hgd fun K hK => ?_
  obtain ⟨w', hr, h2, h3⟩ := h.run_copyK T o.type k hk off dLen dCap ad sLen sCap cs hn hsrc hfit
  unfold Oper.wp
  simp [execOp, ho, resolve, invoke, builtin, hd, hs, hr, Result.andThen]
  exact hK _ _ (hh w' h2 h3)
theorem Mem.step_copyK (T : Elem P t 4 1 1 z) {ops : Array Oper} {o : Oper} {a : Act} {K : Act → World → Prop} {Q : Exit → Act → World → Prop} {E : Prop} (hgd : o.guard = none) (d s : Operand)
    (ho : o.op = .call { callee := .builtin .copy, args := #[d, s], argTypes := #[t, t] }) (h : Mem B w0 w L) (k : Nat) {g n cap : Nat} {l : List Bool} (hk : L[k]? = some (rowK (.slice (some ⟨g, 0, none⟩) n cap) l))
    (off dLen dCap : Nat) (ad : Addr) (sLen sCap : Nat) (hd : a.eval d = .slice (some ⟨g, off, none⟩) dLen dCap) (hs : a.eval s = .slice (some ad) sLen sCap) (cs : List Bool) (c : Nat) (hc : cs.length = c) (hn : c = Nat.min sLen dLen)
    (hsrc : ∀ (j : Nat) (v : Bool), cs[j]? = some v → w.cell? (ad.add j) = some (.bool v)) (hfit : off + c ≤ l.length)
    (hh : ∀ w', Mem B w0 w' (L.set k (rowK (.slice (some ⟨g, 0, none⟩) n cap) (l.take off ++ cs ++ l.drop (off + c)))) → w'.heap.size = w.heap.size → K (a.put o.dst (goInt c)) w') :
    if Region.wanted o (yielded ops a.tmps) = true then Oper.wp P o a w K Q else E := by
  have hw : Region.wanted o (yielded ops a.tmps) = true := by simp [Region.wanted, hgd]
  rw [if_pos hw]
  subst hc
  obtain ⟨w', hr, h2, h3⟩ := h.run_copyK T o.type k hk off dLen dCap ad sLen sCap cs hn hsrc hfit
  unfold Oper.wp
  simp [execOp, ho, resolve, invoke, builtin, hd, hs, hr, Result.andThen]
  exact hh w' h2 h3
end

theorem rep_stepK (x : Bool) (k c n : Nat) (h2 : k + c ≤ n) : (List.replicate k x ++ List.replicate (n - k) false).take k ++ List.replicate c x ++ (List.replicate k x ++ List.replicate (n - k) false).drop (k + c) = List.replicate (k + c) x ++ List.replicate (n - (k + c)) false := by
  rw [List.take_append_of_le_length (by simp), List.take_of_length_le (by simp), List.drop_append, List.drop_of_length_le (by simp), List.nil_append, List.length_replicate, List.drop_replicate, List.replicate_append_replicate]
  congr 2; omega

theorem mul_one_nK (n : Nat) (hn : n ≤ 1000) (w : World) : Calls Try.prog 80 #[.int .u64 1, .int .u64 n] w fun e w' => e = .returned (.tuple #[.int .u64 0, .int .u64 n]) ∧ w = w' := by
  refine (Try.bits_Mul 1 n (by omega) (by omega) w).mono ?_
  rintro e w' ⟨rfl, rfl⟩
  refine ⟨?_, rfl⟩
  rw [show 1 * n / 18446744073709551616 = 0 by omega, show 1 * n % 18446744073709551616 = n by omega]
  rfl

set_option maxRecDepth 100000 in
set_option maxHeartbeats 1000000 in
theorem repeatK_any (x : Bool) (b off cap n : Nat) (hn : n ≤ 1000) (w : World) (hb : b < w.heap.size) (c1 : w.cell? ⟨b, off, none⟩ = some (.bool x)) :
    Calls Try.prog 52 #[.slice (some ⟨b, off, none⟩) 1 cap, .int .i64 n] w fun e w' => ∃ v', e = .returned v' ∧ Mem w.heap.size w w' [rowK v' (List.replicate n x)] := by
  have hM0 := Mem.start w
  have hdn : decide ((n : Int) < 0) = false := by simp
  have hdb : decide ((9223372036854775807 : Int) < n) = false := by simp; omega
  go_enter Try.func52, Try.ntmps52
  go_wp2_with fail
  refine (mul_one_nK n hn _).mono ?_
  rintro e w1 ⟨rfl, rfl⟩
  obtain ⟨k0, hk0⟩ : ∃ k0, min 1 n = k0 := ⟨_, rfl⟩
  have hk1 : k0 ≤ n := by omega
  have hk2 : n = 0 ∨ 1 ≤ k0 := by omega
  have hk3 : k0 ≤ 1 := by omega
  have Hk0 := Lib.hid hk0
  clear hk0
  go_wp2_with (first
    | (at_make; refine Mem.wp_makeK elemFlagsK rfl _ _ rfl hM0 _ _ n rfl rfl (by go_num) (by go_num) hn ?_; intro w1 hM1 hb1
       have d1 : w1.cell? ⟨b, off, none⟩ = some (.bool x) := (hb1.cell (p := ⟨b, off, none⟩) hb).trans c1)
    | (with_reducible refine Mem.wp_copyK elemFlagsK rfl (.tmp 31) (.tmp 32) rfl hM1 0 rfl 0 n n ⟨b, off, none⟩ 1 cap rfl rfl (List.replicate k0 x) k0 ?_ ?_ ?_ ?_ ?_))
  · exact List.length_replicate
  · exact Hk0.out.symm
  · intro j v hj
    have hjl := (List.getElem?_eq_some_iff.1 hj).1
    simp at hjl
    obtain rfl : j = 0 := by omega
    rw [List.getElem?_replicate, if_pos hjl] at hj
    cases hj
    simpa [Addr.add] using d1
  · simp; omega
  intro w2 hM2 hs2
  have hM3 : Mem w.heap.size w w2 [rowK (.slice (some ⟨w.heap.size, 0, none⟩) n n) (List.replicate k0 x ++ List.replicate (n - k0) false)] := hM2.cast (by simp)
  have HM3 := Lib.hid hM3
  clear hM2 hM3 hM1 d1 hb1
  go_wp2
  go_loopw [8] (fun s wr => ∃ k : Nat, k ≤ n ∧ s = .int .i64 k ∧ (n = 0 ∨ 1 ≤ k) ∧ Mem w.heap.size w wr [rowK (.slice (some ⟨w.heap.size, 0, none⟩) n n) (List.replicate k x ++ List.replicate (n - k) false)]) (fun s _ => n - (intOf s).toNat)
  case atStart => exact ⟨k0, hk1, rfl, hk2, HM3.out⟩
  case round =>
    clear HM3
    obtain ⟨k, hk, rfl, hk4, hM⟩ := hrel
    by_cases hlt : k < n
    · obtain ⟨c, hc⟩ : ∃ c, min k (n - k) = c := ⟨_, rfl⟩
      have hc1 : 1 ≤ c := by omega
      have hc2 : c ≤ k := by omega
      have hc3 : k + c ≤ n := by omega
      have hcsrc : ∀ (j : Nat) (v : Bool), (List.replicate c x)[j]? = some v → wr.drew.cell? ((⟨w.heap.size, 0, none⟩ : Addr).add j) = some (.bool v) := by
        intro j v hj
        have hjl := (List.getElem?_eq_some_iff.1 hj).1
        rw [List.length_replicate] at hjl
        rw [List.getElem?_replicate, if_pos hjl] at hj
        cases hj
        have h1 := hM.boolAt0 0 rfl (j := j) (x := x) (by rw [List.getElem?_append_left (by simp; omega), List.getElem?_replicate, if_pos (by omega)])
        rcases Nat.eq_zero_or_pos j with rfl | hj0
        · simpa [Addr.add] using h1.1
        · have hj1 : ¬ j = 0 := by omega
          simpa [Addr.add, hj1] using h1.1
      have HM := Lib.hid hM.drew
      have Hc := Lib.hid hc
      have Hsrc := Lib.hid hcsrc
      have hklen : k + c ≤ (List.replicate k x ++ List.replicate (n - k) false).length := by simp; omega
      have Hklen := Lib.hid hklen
      clear hdn hdb
      have hnk : ¬ n = k := by omega
      have hk0' : (0 : Int) ≤ (k : Int) := by omega
      have hkn' : (k : Int) ≤ (n : Int) := by omega
      have hsum : IntKind.i64.wrap ((k : Int) + (c : Int)) = (k : Int) + c := IntWalk.i64_in _ (by omega)
      clear hc hM hk4 hcsrc hklen
      go_wp2
      go_region_held3 (fun _ => True) (trivial) ((refine Mem.step_copyK elemFlagsK rfl (.tmp 41) (.tmp 44) rfl HM.out 0 rfl k (n - k) (n - k) ⟨w.heap.size, 0, none⟩ k n (by rfl) (by rfl) (List.replicate c x) c List.length_replicate Hc.out.symm Hsrc.out Hklen.out ?_; intro w2 hM2 hs2))
      have hM3 : Mem w.heap.size w w2 [rowK (.slice (some ⟨w.heap.size, 0, none⟩) n n) (List.replicate (k + c) x ++ List.replicate (n - (k + c)) false)] := hM2.cast (by rw [← rep_stepK x k c n hc3]; rfl)
      have HM3 := Lib.hid hM3
      clear hM2 hM3 hsum
      go_wp2
      go_roundw
      case rel => exact ⟨k + c, by omega, by go_num, by omega, HM3.out⟩
      case measure => simp [intOf]; omega
    · obtain rfl : k = n := by omega
      go_wp2
      go_ret
      exact ⟨_, rfl, hM.cast (by simp)⟩
end Go.Proofs.Ytmmcjjklmcfegaa
