/- Free words: Take, walked. -/
import Derived.Test.YtmbcfbehchpfbaaUj
import Derived.Test.YtmbcfbehchpfbaaMe
import Derived.BigRegion
import Derived.Deep.DeepCutAuto
namespace Go.Proofs.Ytmbcfbehchpfbaa
open Go.RowKit

def tkV (tk : Int → Option Nat) : Int → Option Value := fun x => (tk x).map fun n : Nat => Value.int .i64 (n : Int)
def ownL (Bl Bm : Nat) (v : Value) (m : Nat) (s : FSt) : List Ent := [ebox Bl #[v, .map (some Bm), .int .i64 (s.last : Int)] 73, rowB v s.fr, gmap mapII Bm m (tkV s.tk)]
structure FOk (s : FSt) : Prop where
  len : s.fr.length ≤ 255
  num : ∀ b ∈ s.fr, b.1 + b.2 ≤ 256
  last : s.last ≤ 256
/-- One of a block's two cells turned. -/
theorem set_one {fr : List (Nat × Nat)} {i j : Nat} {b y : Nat × Nat} {u : Value} (hb : fr[i]? = some b) (h : (j = 0 ∧ encB y = (encB b).set 0 u) ∨ (j = 1 ∧ encB y = (encB b).set 1 u)) : (fr.flatMap encB).set (i * 2 + j) u = (fr.set i y).flatMap encB := by
  have hy : encB y = (encB b).set j u := by rcases h with ⟨rfl, h⟩ | ⟨rfl, h⟩ <;> exact h
  have hj : j < 2 := by omega
  clear h
  induction fr generalizing i with
  | nil => simp at hb
  | cons x fr ih =>
    cases i with
    | zero =>
      simp at hb; subst hb
      rw [List.set_cons_zero, List.flatMap_cons, List.flatMap_cons, hy, Nat.zero_mul, Nat.zero_add, List.set_append_left _ _ (by rw [encB_len]; exact hj)]
    | succ i =>
      rw [List.set_cons_succ, List.flatMap_cons, List.flatMap_cons, List.set_append_right _ _ (by rw [encB_len]; omega), encB_len, show (i + 1) * 2 + j - 2 = i * 2 + j by omega, ih (by simpa using hb)]
theorem own_taken (Bl Bm m p nn : Nat) (v : Value) (fr : List (Nat × Nat)) (tk : Int → Option Nat) :
    [ebox Bl #[v, .map (some Bm), .int .i64 ((p : Int) + (nn : Int))] 73, rowB v fr, gmap mapII Bm (m + 1) (fun u => if u = (p : Int) then some (.int .i64 (nn : Int)) else tkV tk u)] = ownL Bl Bm v (m + 1) ⟨fr, fun x => if x = (p : Int) then some nn else tk x, p + nn⟩ := by
  unfold ownL
  have e : (fun u : Int => if u = (p : Int) then some (Value.int .i64 (nn : Int)) else tkV tk u) = tkV (fun x => if x = (p : Int) then some nn else tk x) := by
    funext u
    unfold tkV
    by_cases h : u = (p : Int)
    · simp [h]
    · simp [h]
  rw [e]
  simp
def TakeSays (B : Nat) (w0 : World) (Bl Bm m : Nat) (s : FSt) (L' : List Ent) (r : Option (Nat × FSt)) (e : Ending) (w' : World) : Prop :=
  match r with
  | none => e = .returned (.tuple #[.int .i64 0, .bool false]) ∧ ∃ v, Mem B w0 w' (ownL Bl Bm v m s ++ L')
  | some (p, s') => e = .returned (.tuple #[.int .i64 (p : Int), .bool true]) ∧ ∃ v, Mem B w0 w' (ownL Bl Bm v (m + 1) s' ++ L')
set_option maxRecDepth 100000 in
set_option maxHeartbeats 2000000 in
theorem take_words (B : Nat) (w0 w : World) (Bl Bm m : Nat) (v : Value) (s : FSt) (pol : Int) (nn : Nat) (L' : List Ent) (hM : Mem B w0 w (ownL Bl Bm v m s ++ L')) (hO : FOk s) (hp : 1 ≤ pol ∧ pol ≤ 4) (hn1 : 1 ≤ nn) (hn2 : nn ≤ 256) (hm : m ≤ 1000) :
    Calls Try.prog 33 #[.pointer (some ⟨Bl, 0, none⟩), .int .i64 (nn : Int), .int .i64 pol] w (TakeSays B w0 Bl Bm m s L' (takeF pol s nn)) := by
  have c0 : w.cell? ⟨Bl, 0, none⟩ = some v := by have := hM.cell 0 rfl 0; simpa using this
  have c2 : w.cell? ⟨Bl, 2, none⟩ = some (.int .i64 (s.last : Int)) := by have := hM.cell 0 rfl 2; simpa using this
  have zl : Bl < w.heap.size := (hM.box 0 rfl).2.1
  have hV := hM.isTup 1 rfl encB_len (by have := hO.len; omega)
  have HW := Lib.hid (how_yes pol s.last Bl w hp c2 zl)
  have HM := Lib.hid hM
  have HV := Lib.hid hV
  have HO := Lib.hid hO
  have hl2 : s.fr.length ≤ 1000 := by have := hO.len; omega
  obtain ⟨r, hr⟩ : ∃ r, pickTo pol s.last nn s.fr s.fr.length = r := ⟨_, rfl⟩
  have HP : Hid (∀ w1 hv, Below w.heap.size w w1 → HowOk w1 hv (rankF pol s.last) → Calls Try.prog 50 #[.pointer (some ⟨Bl, 0, none⟩), .int .i64 (nn : Int), hv] w1 (PickSays (optI r) w1)) := fun w1 hv hb hh => by
    rw [← hr]
    exact pick_any Bl v hv s.fr pol s.last nn w1 (hV.later hb) hl2 hh ((hb.cell (p := ⟨_, _, none⟩) zl).trans c0) (Nat.lt_of_lt_of_le zl hb.size)
  clear hM hV hO c0 c2 hp hl2
  go_enter Try.func33, Try.ntmps33
  go_wp2_with fail
  refine HW.out.mono ?_
  rintro e w1 ⟨hv, rfl, hh, hb1⟩
  have HP1 := Lib.hid (HP.out w1 hv hb1 hh)
  have HM1 := Lib.hid (HM.out.call hb1)
  clear hh HW HP HM HV hb1
  go_wp2_with fail
  refine HP1.out.mono ?_
  rintro e w2 ⟨rfl, hb2⟩
  have HM2 := Lib.hid (HM1.out.call hb2)
  clear HM1 HP1 hb2
  cases r with
  | none =>
    have ht : takeF pol s nn = none := by unfold takeF; rw [hr]
    have HT := Lib.hid ht
    have q : decide (optI none < 0) = true := rfl
    clear hr ht
    unfold optI
    simp only []
    go_wp2
    go_ret2
    rw [HT.out]
    exact ⟨rfl, _, HM2.out⟩
  | some i =>
    obtain ⟨hi, hle, _⟩ := pick_some hr
    obtain ⟨b, hb⟩ := get_some s.fr i hi
    have hgd : s.fr.getD i (0, 0) = b := by rw [List.getD_eq_getElem?_getD, hb]; rfl
    rw [hgd] at hle
    have hbn := HO.out.num b (List.mem_of_getElem? hb)
    obtain ⟨s', hs'⟩ : ∃ s', (⟨if b.2 = nn then s.fr.eraseIdx i else s.fr.set i (b.1 + nn, b.2 - nn), fun x => if x = (b.1 : Int) then some nn else s.tk x, b.1 + nn⟩ : FSt) = s' := ⟨_, rfl⟩
    have ht : takeF pol s nn = some (b.1, s') := by unfold takeF; rw [hr, ← hs', ← hgd]
    have HT := Lib.hid ht
    have HS := Lib.hid hs'
    obtain ⟨n, hn⟩ : ∃ n, s.fr.length = n := ⟨_, rfl⟩
    obtain ⟨g, cap, rfl⟩ : ∃ g cap, v = .slice (some ⟨g, 0, none⟩) n cap := by
      rcases (HM2.out.row 1 rfl).2 with ⟨_, h2⟩ | ⟨g, cap, cur, h1, _⟩
      · omega
      · exact ⟨g, cap, by rw [h1, hn]⟩
    have hc := HM2.out.tupAt 1 (i := i) (x := b) rfl encB_len hb
    obtain ⟨d0, f0⟩ := hc 0 _ rfl
    obtain ⟨d1, f1⟩ := hc 1 _ rfl
    rw [Nat.add_zero] at d0 f0
    have e0 : w2.cell? ⟨Bl, 0, none⟩ = some (.slice (some ⟨g, 0, none⟩) n cap) := by have := HM2.out.cell 0 rfl 0; simpa using this
    have z2 : Bl < w2.heap.size := (HM2.out.box 0 rfl).2.1
    have zg : g < w2.heap.size := ((HM2.out.row 1 rfl).lt g rfl).2
    have q1 : ¬ ((i : Int) < 0) := by omega
    have q2 : i < n := by omega
    have q0 : n ≤ 255 := by have := HO.out.len; omega
    have q3 : (i : Int) < (n : Int) := by omega
    have q4 : (0 : Int) ≤ (i : Int) := by omega
    have q5 : IntKind.i64.wrap ((b.1 : Int) + (nn : Int)) = (b.1 : Int) + (nn : Int) := by rw [IntKind.wrap_i64]; omega
    have q6 : IntKind.i64.wrap ((b.2 : Int) - (nn : Int)) = (b.2 : Int) - (nn : Int) := by rw [IntKind.wrap_i64]; omega
    have hset : (s.fr.flatMap encB).set (i * 2) (.int .i64 ((b.1 : Int) + (nn : Int))) = (s.fr.set i (b.1 + nn, b.2)).flatMap encB := set_one hb (.inl ⟨rfl, by simp [encB]⟩)
    have hb' : (s.fr.set i (b.1 + nn, b.2))[i]? = some (b.1 + nn, b.2) := by rw [List.getElem?_set_self hi]
    have hset2 : ((s.fr.set i (b.1 + nn, b.2)).flatMap encB).set (i * 2 + 1) (.int .i64 ((b.2 : Int) - (nn : Int))) = (s.fr.set i (b.1 + nn, b.2 - nn)).flatMap encB := by
      have := set_one (y := (b.1 + nn, b.2 - nn)) (u := .int .i64 ((b.2 : Int) - (nn : Int))) (j := 1) hb' (.inr ⟨rfl, by simp [encB]; omega⟩)
      rw [List.set_set] at this; exact this
    have hMs : Mem B w0 ((w2.setCell ⟨g, i * 2, none⟩ (.int .i64 ((b.1 : Int) + (nn : Int)))).setCell ⟨g, i * 2 + 1, none⟩ (.int .i64 ((b.2 : Int) - (nn : Int)))).drew (ownL Bl Bm (.slice (some ⟨g, 0, none⟩) n cap) m ⟨s.fr.set i (b.1 + nn, b.2 - nn), s.tk, s.last⟩ ++ L') := by
      have h1 := HM2.out.setT 1 rfl hn (i * 2) (.int .i64 ((b.1 : Int) + (nn : Int))) hset (by simp)
      exact (h1.setT 1 rfl (by simpa using hn) (i * 2 + 1) (.int .i64 ((b.2 : Int) - (nn : Int))) hset2 (by simp)).drew
    have HMs := Lib.hid hMs
    have HB := Lib.hid hb
    have HN := Lib.hid hn
    clear hset hb' hset2 hMs
    clear hr hgd hb hs' ht hc hi hn
    unfold optI
    simp only []
    go_wp2
    go_cut [11] (fun s11 W => s11 = .pointer (some ⟨g, i * 2, none⟩) ∧ Mem B w0 W (ownL Bl Bm (.slice (some ⟨g, 0, none⟩) n cap) m ⟨s.fr.set i (b.1 + nn, b.2 - nn), s.tk, s.last⟩ ++ L'))
    case first =>
      go_region_law (fail)
      all_goals
        go_wp2_with fail
        go_meet
        exact ⟨rfl, HMs.out⟩
    case rest =>
      clear d0 d1 f0 f1 e0 z2 zg HMs HM2
      obtain ⟨rfl, hM3⟩ := hcut
      obtain ⟨k2, hk2⟩ : ∃ k2, b.2 - nn = k2 := ⟨_, rfl⟩
      rw [hk2] at hM3
      have hnl : (s.fr.set i (b.1 + nn, k2)).length = n := by rw [List.length_set, HN.out]
      have hx : (s.fr.set i (b.1 + nn, k2))[i]? = some (b.1 + nn, k2) := by rw [List.getElem?_set_self (by rw [HN.out]; exact q2)]
      have d1 : wc.cell? ⟨g, i * 2 + 1, none⟩ = some (.int .i64 (k2 : Int)) := (hM3.tupAt 1 (i := i) (x := (b.1 + nn, k2)) rfl encB_len hx 1 _ rfl).1
      have e0 : wc.cell? ⟨Bl, 0, none⟩ = some (.slice (some ⟨g, 0, none⟩) n cap) := by have := hM3.cell 0 rfl 0; simpa using this
      have z2 : Bl < wc.heap.size := (hM3.box 0 rfl).2.1
      have hmok : i64ok (b.1 : Int) := by unfold i64ok; omega
      by_cases h0 : k2 = 0
      · have hDel := delete_any B w0 wc _ 1 g n cap _ i (i : Int) ((i : Int) + 1) hM3 rfl hnl q2 rfl rfl
        have hst : (s.fr.set i (b.1 + nn, k2)).eraseIdx i = s.fr.eraseIdx i := by
          apply List.ext_getElem?
          intro j
          simp only [List.getElem?_eraseIdx, List.getElem?_set]
          split
          · rw [if_neg (by omega)]
          · rw [if_neg (by omega)]
        rw [hst] at hDel
        have HD := Lib.hid hDel
        have hs2 : s' = ⟨s.fr.eraseIdx i, fun x => if x = (b.1 : Int) then some nn else s.tk x, b.1 + nn⟩ := by rw [← HS.out, if_pos (by omega)]
        have HS2 := Lib.hid hs2
        have Hk2 := Lib.hid hk2
        clear hk2 hDel hst hs2 hnl hx hM3
        subst h0
        go_wp2_with fail
        with_reducible refine HD.out.mono ?_
        rintro e w5 ⟨rfl, hM5, hz5⟩
        have f0 : w5.frozen? ⟨Bl, 0, none⟩ = false := hM5.free 0 rfl 0
        have f0' : w5.cell? ⟨Bl, 0, none⟩ = some (.slice (some ⟨g, 0, none⟩) n cap) := by have := hM5.cell 0 rfl 0; simpa using this
        have f1' : w5.cell? ⟨Bl, 1, none⟩ = some (.map (some Bm)) := by have := hM5.cell 0 rfl 1; simpa using this
        have z5 : Bl < w5.heap.size := (hM5.box 0 rfl).2.1
        have hM6 := hM5.setBox 0 rfl 0 (.slice (some ⟨g, 0, none⟩) (n - 1) cap)
        obtain ⟨W6, hW6⟩ : ∃ W6, w5.setCell ⟨Bl, 0, none⟩ (.slice (some ⟨g, 0, none⟩) (n - 1) cap) = W6 := ⟨_, rfl⟩
        rw [hW6] at hM6
        obtain ⟨v0, st, w7, w8, hr1, hr2, hM8, _⟩ := hM6.run_entryG 2 rfl (by omega) (b.1 : Int) (.int .i64 (nn : Int)) hmok
        have c8 : w8.cell? ⟨Bl, 2, none⟩ = some (.int .i64 (s.last : Int)) := by have := hM8.cell 0 rfl 2; simpa using this
        have f8 : w8.frozen? ⟨Bl, 2, none⟩ = false := hM8.free 0 rfl 2
        have z8 : Bl < w8.heap.size := (hM8.box 0 rfl).2.1
        have HW6 := Lib.hid hW6
        have HM8 := Lib.hid (hM8.setBox 0 rfl 2 (.int .i64 ((b.1 : Int) + (nn : Int))))
        have R1 := Lib.hid hr1
        have R2 := Lib.hid hr2
        clear hM5 hM6 hM8 hr1 hr2 hW6 HD d1 e0
        go_wp2_with (first
          | (rw [HW6.out]; refine wpList_mapEntry_run rfl 71 (.tmp 72) (.tmp 73) rfl rfl rfl R1.out ?_)
          | (refine wpList_entryStore_run rfl 71 (.tmp 72) (.tmp 80) (.tmp 75) rfl rfl rfl rfl R2.out ?_))
        go_ret2
        rw [HT.out, HS2.out]
        exact ⟨rfl, _, HM8.out.cast (congrArg (· ++ L') (own_taken Bl Bm m b.1 nn _ (s.fr.eraseIdx i) s.tk))⟩
      · have hs2 : s' = ⟨s.fr.set i (b.1 + nn, k2), fun x => if x = (b.1 : Int) then some nn else s.tk x, b.1 + nn⟩ := by rw [← HS.out, if_neg (by omega), ← hk2]
        have HS2 := Lib.hid hs2
        obtain ⟨v0, st, w7, w8, hr1, hr2, hM8, _⟩ := hM3.run_entryG 2 rfl (by omega) (b.1 : Int) (.int .i64 (nn : Int)) hmok
        have c1 : wc.cell? ⟨Bl, 1, none⟩ = some (.map (some Bm)) := by have := hM3.cell 0 rfl 1; simpa using this
        have c8 : w8.cell? ⟨Bl, 2, none⟩ = some (.int .i64 (s.last : Int)) := by have := hM8.cell 0 rfl 2; simpa using this
        have f8 : w8.frozen? ⟨Bl, 2, none⟩ = false := hM8.free 0 rfl 2
        have z8 : Bl < w8.heap.size := (hM8.box 0 rfl).2.1
        have HM8 := Lib.hid (hM8.setBox 0 rfl 2 (.int .i64 ((b.1 : Int) + (nn : Int))))
        have R1 := Lib.hid hr1
        have R2 := Lib.hid hr2
        have qz : ((k2 : Int) == 0) = false := beq_eq_false_iff_ne.2 (by omega)
        clear hM3 hM8 hr1 hr2 hk2 hs2 hnl hx e0
        go_wp2_with (first
          | (refine wpList_mapEntry_run rfl 71 (.tmp 72) (.tmp 73) rfl rfl rfl R1.out ?_)
          | (refine wpList_entryStore_run rfl 71 (.tmp 72) (.tmp 80) (.tmp 75) rfl rfl rfl rfl R2.out ?_))
        go_ret2
        rw [HT.out, HS2.out]
        exact ⟨rfl, _, HM8.out.cast (congrArg (· ++ L') (own_taken Bl Bm m b.1 nn _ (s.fr.set i (b.1 + nn, k2)) s.tk))⟩
end Go.Proofs.Ytmbcfbehchpfbaa
