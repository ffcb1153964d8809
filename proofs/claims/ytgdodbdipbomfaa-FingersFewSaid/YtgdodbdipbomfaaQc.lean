/- Two fingers: words that change place; the closure turn, walked. -/
import Derived.Test.YtgdodbdipbomfaaQa
import Derived.Test.YtgdodbdipbomfaaBase2
import Derived.Test.YtgdodbdipbomfaaBase3
import Derived.Laws.CopyOwn
namespace Go.Proofs.Ytgdodbdipbomfaa
open Go.RowKit Go.Shelf Go.Maps

/-- All objects have one size. -/
def Alike (os : List Ob) (z : Nat) : Prop := ∀ k : Nat, k < os.length → szO os k = z
theorem Alike.place {os : List Ob} {z : Nat} (h : Alike os z) : ∀ {k : Nat}, k ≤ os.length → place os k = k * z
  | 0, _ => by rw [place_zero]; omega
  | k + 1, hk => by
    obtain ⟨o, ho⟩ := get_some os k (by omega)
    have h1 := h k (by omega)
    unfold szO at h1
    rw [obj_at' ho] at h1
    rw [place_succ ho, h.place (show k ≤ os.length by omega), Nat.succ_mul]; omega
theorem Alike.placeF {os : List Ob} {z : Nat} (h : Alike os z) {A : List Int} (hA : ∀ x ∈ A, 0 ≤ x ∧ x < (os.length : Int)) : ∀ {k : Nat}, k ≤ A.length → placeF os A k = k * z
  | 0, _ => by unfold Go.Proofs.Ytgdodbdipbomfaa.placeF; simp
  | k + 1, hk => by
    obtain ⟨x, hx⟩ := get_some A k (by omega)
    have hr := hA x (List.mem_of_getElem? hx)
    obtain ⟨i, rfl⟩ : ∃ i : Nat, x = i := ⟨x.toNat, by omega⟩
    rw [placeF_succ os hx, h.placeF hA (show k ≤ A.length by omega), h i (by omega), Nat.succ_mul]
/-- Words half gone through: the new ones up to s, the old ones from there on. -/
def half (a b : List Int) (s : Nat) : List Int := a.take s ++ b.drop s
theorem half_zero (a b : List Int) : half a b 0 = b := by simp [half]
theorem half_all {a b : List Int} (h : a.length = b.length) : half a b a.length = a := by unfold half; rw [List.take_length, List.drop_of_length_le (by omega), List.append_nil]
theorem half_len {a b : List Int} (h : a.length = b.length) (s : Nat) (hs : s ≤ a.length) : (half a b s).length = b.length := by unfold half; simp; omega
theorem half_get {a b : List Int} {s t : Nat} (hs : s ≤ a.length) (hst : s ≤ t) : (half a b s)[t]? = b[t]? := by
  unfold half
  rw [List.getElem?_append_right (by simp; omega), List.length_take, Nat.min_eq_left hs, List.getElem?_drop]
  congr 1; omega
theorem half_old {a b : List Int} {s t : Nat} (hst : t < s) (hs : s ≤ a.length) : (half a b s)[t]? = a[t]? := by
  unfold half
  rw [List.getElem?_append_left (by simp; omega), List.getElem?_take_of_lt hst]
theorem half_set {a b : List Int} (h : a.length = b.length) {s : Nat} {x : Int} (hx : a[s]? = some x) : (half a b s).set s x = half a b (s + 1) := by
  have hs := (List.getElem?_eq_some_iff.1 hx).1
  refine List.ext_getElem? fun t => ?_
  rcases Nat.lt_trichotomy t s with h1 | h1 | h1
  · rw [List.getElem?_set_ne (by omega), half_old h1 (by omega), half_old (by omega) (by omega)]
  · subst h1
    rw [List.getElem?_set_self (by rw [half_len h _ (by omega)]; omega), half_old (by omega) (by omega), hx]
  · rw [List.getElem?_set_ne (by omega), half_get (by omega) (by omega), half_get (by omega) (by omega)]
theorem half_64 {a b : List Int} (ha : ∀ x ∈ a, w64 x) (hb : ∀ x ∈ b, w64 x) (s : Nat) : ∀ x ∈ half a b s, w64 x := by
  intro x hx
  rcases List.mem_append.1 hx with h | h
  · exact ha x (List.mem_of_mem_take h)
  · exact hb x (List.mem_of_mem_drop h)

section
variable {P : Program} {B : Nat} {w0 w : World} {L : List Ent} {t e : TypeId} {z : Value}
/-- copy into a row of words of the call's own. -/
theorem Mem.run_copyW (T : Elem P t e 1 8 z) (ty : TypeId) (h : Mem B w0 w L) (k : Nat) {g n cap : Nat} {l : List Int} (hk : L[k]? = some (rowW e (.slice (some ⟨g, 0, none⟩) n cap) l))
    (off dLen dCap : Nat) (a : Addr) (sLen sCap : Nat) (cs : List Int) (hn : cs.length = Nat.min sLen dLen) (hsrc : ∀ (j : Nat) (v : Int), cs[j]? = some v → w.cell? (a.add j) = some (.int .u64 v)) (hfit : off + cs.length ≤ l.length) :
    ∃ w', (Builtin.copy_ #[t, t] ty #[.slice (some ⟨g, off, none⟩) dLen dCap, .slice (some a) sLen sCap]).run P w = .ok (goInt cs.length) w' ∧
      Mem B w0 w' (L.set k (rowW e (.slice (some ⟨g, 0, none⟩) n cap) (l.take off ++ cs ++ l.drop (off + cs.length)))) ∧ w'.heap.size = w.heap.size := by
  obtain ⟨i, hi, hz, hs, hb⟩ := T.info
  have hr := h.ownW k hk
  rcases hr.2 with ⟨h0, _⟩ | ⟨g', cap', cur, hv, hB, hg, hnc, hcm, hcs, htk⟩
  · cases h0
  · cases hv
    rw [Nat.mul_one] at htk hcs
    have hlc : l.length ≤ cur.size := by omega
    have hrun := run_copy_row (P := P) w t t ty e g off dLen dCap a sLen sCap cur e (cs.map (.int .u64)) T.under (by rw [hi]; simp [hs]) hg (by simpa using hn)
      (by intro j v hj; rw [List.getElem?_map] at hj; cases hc : cs[j]? with
          | none => rw [hc] at hj; cases hj
          | some x => rw [hc] at hj; cases hj; exact hsrc j x hc) (by simp; omega) (by intro v hv; obtain ⟨x, _, rfl⟩ := List.mem_map.1 hv; rfl)
    rw [List.length_map] at hrun
    have hlen : (l.take off ++ cs ++ l.drop (off + cs.length)).length = l.length := by simp; omega
    have hcur : cur.toList = l.map (.int .u64) ++ cur.toList.drop l.length := by rw [← htk, List.take_append_drop]
    refine ⟨_, hrun, h.turn k hk (x' := rowW e (.slice (some ⟨g, 0, none⟩) l.length cap) (l.take off ++ cs ++ l.drop (off + cs.length)))
      ⟨rfl, rfl, rfl, by simp [World.setRow], fun b hb hne => setRow_other _ _ _ _ (fun e => hne (by rw [e]; rfl))⟩ (row_ok.2 ⟨by simp, .inr ⟨g, cap, _, by rw [hlen], hB, setRow_heap _ _ _ _ _ _ hg, by rw [hlen]; exact hnc, hcm, ?_, ?_⟩⟩) (fun b hb => .inl hb), by simp [World.setRow]⟩
    · simp; omega
    · have e1 : cur.toList.take off = (l.take off).map (.int .u64) := by
        rw [hcur, List.take_append_of_le_length (by simp; omega), List.map_take]
      have e2 : cur.toList.drop (off + cs.length) = (l.drop (off + cs.length)).map (.int .u64) ++ cur.toList.drop l.length := by
        conv => lhs; rw [hcur]
        rw [List.drop_append_of_le_length (by simp; omega), List.map_drop]
      rw [hlen, Nat.mul_one, List.toList_toArray, e1, e2, ← List.append_assoc, ← List.map_append, ← List.map_append]
      rw [List.take_append_of_le_length (by simp; omega), List.take_of_length_le (by simp; omega)]
theorem Mem.step_copyW (T : Elem P t e 1 8 z) {ops : Array Oper} {o : Oper} {a : Act} {K : Act → World → Prop} {Q : Exit → Act → World → Prop} {E : Prop} (hgd : o.guard = none) (d s : Operand)
    (ho : o.op = .call { callee := .builtin .copy, args := #[d, s], argTypes := #[t, t] }) (h : Mem B w0 w L) (k : Nat) {g n cap : Nat} {l : List Int} (hk : L[k]? = some (rowW e (.slice (some ⟨g, 0, none⟩) n cap) l))
    (off dLen dCap : Nat) (ad : Addr) (sLen sCap : Nat) (hd : a.eval d = .slice (some ⟨g, off, none⟩) dLen dCap) (hs : a.eval s = .slice (some ad) sLen sCap) (cs : List Int) (c : Nat) (hc : cs.length = c) (hn : c = Nat.min sLen dLen)
    (hsrc : ∀ (j : Nat) (v : Int), cs[j]? = some v → w.cell? (ad.add j) = some (.int .u64 v)) (hfit : off + c ≤ l.length)
    (hh : ∀ w', Mem B w0 w' (L.set k (rowW e (.slice (some ⟨g, 0, none⟩) n cap) (l.take off ++ cs ++ l.drop (off + c)))) → w'.heap.size = w.heap.size → K (a.put o.dst (goInt c)) w') :
    if Region.wanted o (yielded ops a.tmps) = true then Oper.wp P o a w K Q else E := by
  have hw : Region.wanted o (yielded ops a.tmps) = true := by simp [Region.wanted, hgd]
  rw [if_pos hw]
  subst hc
  obtain ⟨w', hr, h2, h3⟩ := h.run_copyW T o.type k hk off dLen dCap ad sLen sCap cs hn hsrc hfit
  unfold Oper.wp
  simp [execOp, ho, resolve, invoke, builtin, hd, hs, hr, Result.andThen]
  exact hh w' h2 h3
end

/-- The map tells of each object that stands where. -/
def TellsW (w : World) (bm : Nat) (os : List Ob) (f : Int → Option Value) : Prop := ∀ (i : Nat) (X : World), i < os.length → Below w.heap.size w X →
  (Instr.lookup 75 (.map (some bm)) (.int .i64 (place os i : Nat)) true).run Try.prog X = .ok (.tuple #[(f (place os i : Nat)).getD (.int .i64 0), .bool (f (place os i : Nat)).isSome]) X
set_option maxRecDepth 100000 in
set_option maxHeartbeats 1000000 in
theorem qturn_any (w : World) (b4 bm : Nat) (os : List Ob) (z : Nat) (A : List Int) (x : Int) (hz : Alike os z) (hl : (flat os).length ≤ 256) (hn : A.Nodup) (hA : ∀ x ∈ A, 0 ≤ x ∧ x < (os.length : Int)) (hAl : A.length ≤ os.length)
    (hx64 : w64 x) (hx : x % 2 = 1 ∨ x % 2 = 0 ∧ x < 512 ∧ ∃ i : Nat, i < os.length ∧ x / 2 = place os i ∧ (i : Int) ∈ A) (hT : ∀ i : Nat, i < os.length → (Instr.lookup 75 (.map (some bm)) (.int .i64 (place os i : Nat)) true).run Try.prog w = .ok (.tuple #[(wentF os A (place os i : Nat)).getD (.int .i64 0), .bool (wentF os A (place os i : Nat)).isSome]) w)
    (hc : w.cell? ⟨b4, 0, none⟩ = some (.map (some bm))) (hcz : b4 < w.heap.size) :
    Calls Try.prog 82 #[.int .u64 x, .pointer (some ⟨b4, 0, none⟩)] w fun e w' => e = .returned (.int .u64 (mvW os A x)) ∧ w' = w := by
  rcases hx with hodd | ⟨heven, hsm, i, hi, hxi, hiA⟩
  · have HR := Lib.hid (aref_int x w hx64.1 hx64.2 hodd)
    have hmv : mvW os A x = x := if_pos hodd
    rw [hmv]
    clear hodd hx64 hT hn hA hAl hmv hz hl
    go_enter Try.func82, Try.ntmps82
    go_wp2_with fail
    refine HR.out.mono ?_
    rintro e w1 ⟨rfl, rfl⟩
    clear HR
    go_wp2
    go_ret
    exact ⟨rfl, rfl⟩
  · have hR := aref_ref x w hx64.1 hsm heven
    rw [hxi] at hR
    have HR := Lib.hid hR
    obtain ⟨k, hk⟩ := List.getElem?_of_mem hiA
    have hkl := (List.getElem?_eq_some_iff.1 hk).1
    have hp := plc_at hn hk
    have hl1 := hT i hi
    have hpk := place_mono (os := os) (show k ≤ os.length by omega)
    rw [place_all] at hpk
    have hmv : mvW os A x = (place os k : Int) * 2 := by
      unfold mvW
      rw [if_neg (by omega), hxi, idx_place hi, hp, Int.toNat_natCast, hz.placeF hA (Nat.le_of_lt hkl), ← hz.place (show k ≤ os.length by omega)]; omega
    have hw : wentF os A (place os i : Nat) = if k ≠ i then some (.int .i64 (place os k : Nat)) else none := by
      unfold wentF
      rw [idx_place hi, hp, Int.toNat_natCast]
      by_cases e : k = i
      · rw [if_neg (by simp [e]), if_neg (by simp [e])]
      · rw [if_pos ⟨starts_mem.2 ⟨i, hi, rfl⟩, hiA, by omega⟩, if_pos e]
    rw [hw] at hl1
    obtain ⟨q, hq⟩ : ∃ q, place os i = q := ⟨_, rfl⟩
    obtain ⟨p, hpe⟩ : ∃ p, place os k = p := ⟨_, rfl⟩
    rw [hq] at HR hl1
    rw [hpe] at hl1 hmv hpk
    rw [hmv]
    by_cases e : k = i
    · rw [if_neg (by simp [e])] at hl1
      have hxp : (p : Int) * 2 = x := by rw [← hpe, e, hq]; omega
      have Hxp := Lib.hid hxp
      have hl2 : (Instr.lookup 75 (.map (some bm)) (.int .i64 q) true).run Try.prog w = .ok (.tuple #[.int .i64 0, .bool false]) w := hl1
      clear hx64 hT hn hA hAl hmv hz hl hp hk hkl hw hl1 heven hsm hxi hiA hi hR hq hpe e hxp hpk
      go_enter Try.func82, Try.ntmps82
      go_wp2_with fail
      refine HR.out.mono ?_
      rintro e w1 ⟨rfl, rfl⟩
      clear HR
      go_wp2
      go_ret
      exact ⟨by rw [Hxp.out]; rfl, rfl⟩
    · rw [if_pos e] at hl1
      have hl2 : (Instr.lookup 75 (.map (some bm)) (.int .i64 q) true).run Try.prog w = .ok (.tuple #[.int .i64 p, .bool true]) w := hl1
      clear hx64 hT hn hA hAl hmv hz hp hk hkl hw hl1 heven hsm hxi hiA hi hR hq hpe e
      go_enter Try.func82, Try.ntmps82
      go_wp2_with fail
      refine HR.out.mono ?_
      rintro e w1 ⟨rfl, rfl⟩
      clear HR
      go_wp2
      go_ret
      exact ⟨rfl, rfl⟩
end Go.Proofs.Ytgdodbdipbomfaa
