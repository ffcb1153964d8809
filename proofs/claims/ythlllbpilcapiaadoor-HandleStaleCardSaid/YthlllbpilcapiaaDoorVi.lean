/- Handles: Play, walked. -/
import Derived.Test.YthlllbpilcapiaaDoorVh
import Derived.Deep.CutBlock
namespace Go.Proofs.YthlllbpilcapiaaDoor
open Go.RowKit Go.Shelf

theorem made_wide {α : Type} {sz : Nat} {enc : α → List Value} (hz : ∀ x, (enc x).length = sz) (hp : 0 < sz) (z : Array Value) (x : α) (hx : enc x = z.toList) (n : Nat) : (madeCells z (n * sz)).toList = (List.replicate n x).flatMap enc := by
  have hzs : z.size = sz := by have := hz x; rw [hx] at this; simpa using this
  apply List.ext_getElem?
  intro i
  by_cases hi : i < n * sz
  · have hdm : i / sz * sz + i % sz = i := by rw [Nat.mul_comm]; exact Nat.div_add_mod i sz
    have hd : i / sz < n := (Nat.div_lt_iff_lt_mul hp).2 hi
    have hm : i % sz < sz := Nat.mod_lt _ hp
    have h1 : (List.replicate n x)[i / sz]? = some x := by rw [List.getElem?_replicate, if_pos hd]
    obtain ⟨u, hu⟩ : ∃ u, (enc x)[i % sz]? = some u := ⟨_, List.getElem?_eq_getElem (by rw [hz]; exact hm)⟩
    have h2 := getElem_tup hz _ _ _ h1 _ _ hu
    rw [hdm] at h2
    rw [h2]
    rw [hx] at hu
    have hu2 : z[i % sz]? = some u := by simpa using hu
    simp [madeCells, hi, hzs, getElem!_def, hu2]
  · rw [List.getElem?_eq_none (by simpa [size_madeCells] using Nat.le_of_not_lt hi), List.getElem?_eq_none (by rw [length_tup hz, List.length_replicate]; omega)]
theorem Mem.wp_makeT {P : Program} {B : Nat} {w0 w : World} {L : List Ent} {t e : TypeId} {α : Type} {sz bytes : Nat} {enc : α → List Value} {z : Value} (T : Elem P t e sz bytes z) (hz : ∀ x, (enc x).length = sz) (x : α) (hx : enc x = z.cells.toList)
    {ops : Array Oper} {rest : List Oper} {o : Oper} {a : Act} {Q : Exit → Act → World → Prop} (hgd : o.guard = none) (l c : Operand) (hop : o.op = Op.makeSlice t l c)
    (h : Mem B w0 w L) (X Y : Int) (m : Nat) (hl : a.eval l = .int .i64 X) (hc : a.eval c = .int .i64 Y) (hX : X = (m : Int)) (hY : Y = (m : Int)) (hm : m ≤ 1000) (hb : bytes ≤ 1000)
    (hK : ∀ w', Mem B w0 w' (rowT e sz enc (.slice (some ⟨w.heap.size, 0, none⟩) m m) (List.replicate m x) :: L) → Below w.heap.size w w' → wpList P ops Q rest (a.put o.dst (.slice (some ⟨w.heap.size, 0, none⟩) m m)) w') :
    wpList P ops Q (o :: rest) a w := by
  obtain ⟨i, hi, hzi, hs, hbi⟩ := T.info
  have hbm : i.bytes * m ≤ 281474976710656 := by
    have := Nat.mul_le_mul (show i.bytes ≤ 1000 by omega) hm
    omega
  refine wpList_make_full w hgd l c t hop w.heap.size e i _ sz T.under hi hzi hs .i64 .i64 X Y m hl hc hX hY hbm (by simp [maxLen]; omega) (Nat.le_refl _) (fun w' h1 h2 => hK w' ?_ (grown_below h2))
  rw [made_wide hz T.pos z.cells x hx m] at h1
  exact (h.callRow (grown_below h2) h1).cast (by simp [rowT])

def encG (a : Int × Int) : List Value := [.int .i64 a.1, .int .i64 a.2]
theorem encG_len (a : Int × Int) : (encG a).length = 2 := rfl
/-- What is told of one thing: the code, the number. -/
def encO (a : Int × Int) : List Value := [.int .i64 a.1, .bool false, .int .i64 a.2]
theorem encO_len (a : Int × Int) : (encO a).length = 3 := rfl
def stateH (n : Nat) (l : List (Int × Int)) : Nat → List Slot
  | 0 => List.replicate n (0, 0, false)
  | k + 1 => match l[k]? with | none => stateH n l k | some d => (stepH (stateH n l k) d).1
def outsH (n : Nat) (l : List (Int × Int)) : Nat → List (Int × Int)
  | 0 => []
  | k + 1 => match l[k]? with | none => outsH n l k | some d => outsH n l k ++ [(stepH (stateH n l k) d).2]
theorem stateH_succ {n k : Nat} {l : List (Int × Int)} {d : Int × Int} (h : l[k]? = some d) : stateH n l (k + 1) = (stepH (stateH n l k) d).1 := by simp only [stateH, h]
theorem outsH_succ {n k : Nat} {l : List (Int × Int)} {d : Int × Int} (h : l[k]? = some d) : outsH n l (k + 1) = outsH n l k ++ [(stepH (stateH n l k) d).2] := by simp only [outsH, h]
theorem outsH_len (n : Nat) (l : List (Int × Int)) : ∀ k, k ≤ l.length → (outsH n l k).length = k
  | 0, _ => rfl
  | k + 1, h => by rw [outsH_succ (List.getElem?_eq_getElem (by omega)), List.length_append, outsH_len n l k (by omega)]; rfl
theorem outsH_at (n : Nat) (l : List (Int × Int)) {j : Nat} {d : Int × Int} (hd : l[j]? = some d) : ∀ k, j < k → k ≤ l.length → (outsH n l k)[j]? = some (stepH (stateH n l j) d).2
  | 0, h, _ => absurd h (Nat.not_lt_zero _)
  | k + 1, h, hk => by
    rw [outsH_succ (List.getElem?_eq_getElem (show k < l.length by omega))]
    by_cases hj : j < k
    · rw [List.getElem?_append_left (by rw [outsH_len n l k (by omega)]; exact hj)]; exact outsH_at n l hd k hj (by omega)
    · obtain rfl : j = k := by omega
      rw [List.getElem?_append_right (by rw [outsH_len n l j (by omega)]; exact Nat.le_refl _), outsH_len n l j (by omega), Nat.sub_self]
      obtain ⟨_, h2⟩ := List.getElem?_eq_some_iff.1 hd
      rw [h2]; rfl
theorem stateH_inv (n : Nat) (hn : n ≤ 32) (l : List (Int × Int)) : ∀ k, k ≤ l.length → (stateH n l k).length = n ∧ ∃ m th b, CInv (stateH n l k) m th b
  | 0, _ => ⟨by simp [stateH], _, _, _, CInv.start n⟩
  | k + 1, h => by
    obtain ⟨h1, m, th, b, h2⟩ := stateH_inv n hn l k (by omega)
    rw [stateH_succ (List.getElem?_eq_getElem (show k < l.length by omega))]
    have h3 := h2.step l[k]
    exact ⟨h3.2.2.2.trans h1, _, _, _, h3.1⟩
theorem elemSlot : Elem Tryd.prog 35 49 3 24 (.agg #[.int .i64 0, .int .i64 0, .bool false]) := ⟨by kernel_rfl, info_parts (by kernel_rfl), rfl, by decide⟩
theorem elemOut : Elem Tryd.prog 23 32 3 24 (.agg #[.int .i64 0, .bool false, .int .i64 0]) := ⟨by kernel_rfl, info_parts (by kernel_rfl), rfl, by decide⟩
/-- What Play says at every input. -/
def PlayH (T : Int) (l : List (Int × Int)) (w w' : World) (e : Ending) : Prop :=
  ∃ ov c, e = .returned (.tuple #[ov, .int .i64 c]) ∧ Below w.heap.size w w' ∧
    ((c ≠ 0 ∧ ov = .slice none 0 0) ∨ (c = 0 ∧ ∃ N : Nat, T = N ∧ 1 ≤ N ∧ N ≤ 32 ∧ l.length ≤ 100 ∧ IsTup 3 encO w' ov (outsH N l l.length)))
set_option maxRecDepth 100000 in
set_option maxHeartbeats 2000000 in
theorem playH_any (T : Int) (v : Value) (l : List (Int × Int)) (w : World) (hl : IsTup 2 encG w v l) (h64 : ∀ a ∈ l, i64ok a.1 ∧ i64ok a.2) (he : EtOk w) :
    Calls Tryd.prog 5 #[.int .i64 T, v] w fun e w' => PlayH T l w w' e := by
  have Hl := Lib.hid hl
  obtain ⟨al, cl, rfl, hlm⟩ := hl.slice
  clear hl
  by_cases hT : T < 1
  · have q1 : decide (T < 1) = true := decide_eq_true hT
    clear Hl h64 he hT
    go_enter Tryd.func5, Tryd.ntmps5
    go_wp2
    go_ret2
    exact ⟨_, 3, rfl, Below.refl _ _, .inl ⟨by decide, rfl⟩⟩
  · have q1 : decide (T < 1) = false := decide_eq_false hT
    by_cases hT2 : T > 32
    · have q2 : decide (T > 32) = true := decide_eq_true hT2
      clear Hl h64 he hT hT2
      go_enter Tryd.func5, Tryd.ntmps5
      go_wp2
      go_ret2
      exact ⟨_, 3, rfl, Below.refl _ _, .inl ⟨by decide, rfl⟩⟩
    · have q2 : decide (T > 32) = false := decide_eq_false hT2
      by_cases hn : (l.length : Int) > 100
      · have q3 : decide ((l.length : Int) > 100) = true := decide_eq_true hn
        clear Hl h64 he hT hT2 hn
        go_enter Tryd.func5, Tryd.ntmps5
        go_wp2
        go_ret2
        exact ⟨_, 1, rfl, Below.refl _ _, .inl ⟨by decide, rfl⟩⟩
      · have q3 : decide ((l.length : Int) > 100) = false := decide_eq_false hn
        have q3n : decide (100 < l.length) = false := decide_eq_false (by omega)
        obtain ⟨N, rfl⟩ : ∃ N : Nat, T = N := ⟨T.toNat, by omega⟩
        have q1n : decide (N < 1) = false := decide_eq_false (by omega)
        have q2n : decide (32 < N) = false := decide_eq_false (by omega)
        have hN1 : 1 ≤ N := by omega
        have hN2 : N ≤ 32 := by omega
        have hl100 : l.length ≤ 100 := by omega
        have HM0 := Lib.hid (Mem.start w)
        clear hT hT2 hn
        go_enter Tryd.func5, Tryd.ntmps5
        go_wp2_with (refine Mem.wp_makeT elemSlot encS_len (0, 0, false) rfl rfl _ _ rfl HM0.out (N : Int) (N : Int) N rfl rfl rfl rfl (by omega) (by decide) ?_; intro w1 hM1 hb1)
        have hM2 := hM1.allocAt w1.heap.size rfl #[.slice (some ⟨w.heap.size, 0, none⟩) N N] 37
        obtain ⟨bt, hbt⟩ : ∃ bt, w1.heap.size = bt := ⟨_, rfl⟩
        obtain ⟨W, hW⟩ : ∃ W, w1.alloc (.cells #[.slice (some ⟨w.heap.size, 0, none⟩) N N] 37) = W := ⟨_, rfl⟩
        rw [hbt, hW] at hM2
        have hM3 : Mem w.heap.size w W (ownT bt w.heap.size N N (stateH N l 0) ++ [rowT 32 3 encO (.slice none 0 0) (outsH N l 0)]) := (hM2.nilT 32 3 encO).pick0 [1, 2, 0] (by decide) rfl
        have HM3 := Lib.hid hM3
        have HW := Lib.hid hW
        have Hbt := Lib.hid hbt
        clear HM0 hM1 hb1 hM2 hM3 hW hbt
        rw [Hbt.out, HW.out]
        go_loopw [7, 27] (fun o i wr => ∃ (k : Nat) (ov : Value), k ≤ l.length ∧ ov = o ∧ i = .int .i64 (k : Int) ∧ Mem w.heap.size w wr (ownT bt w.heap.size N N (stateH N l k) ++ [rowT 32 3 encO ov (outsH N l k)])) (fun _ i _ => l.length - (intOf i).toNat)
        case atStart => exact ⟨0, _, Nat.zero_le _, rfl, rfl, HM3.out⟩
        case round =>
          clear HM3 HW Hbt
          obtain ⟨k, ov, hk, rfl, rfl, hM⟩ := hrel
          by_cases hlt : k < l.length
          · obtain ⟨a, ha⟩ := get_some _ _ hlt
            obtain ⟨bl, ol, cl2, hv, _, z1, hc⟩ := Hl.out.at hM.below ha
            cases hv
            have d0 := hc 0 _ rfl
            have d1 := hc 1 _ rfl
            rw [Nat.add_zero] at d0
            obtain ⟨hsl, m, th, bb, hci⟩ := stateH_inv N hN2 l k hk
            have ho := outsH_len N l k hk
            have hs1 := stateH_succ (n := N) ha
            have ho1 := outsH_succ (n := N) ha
            have h64a := (h64 a (List.mem_of_getElem? ha)).2
            obtain ⟨t, ht⟩ : ∃ t, stateH N l k = t := ⟨_, rfl⟩
            obtain ⟨os, hos⟩ : ∃ os, outsH N l k = os := ⟨_, rfl⟩
            rw [ht] at hsl hci hs1 ho1 hM
            rw [hos] at ho ho1 hM
            obtain ⟨ax, cx, rfl⟩ : ∃ ax cx, ov = .slice ax k cx := by
              rcases (hM.row 2 rfl).2 with ⟨h1, h2⟩ | ⟨g9, cap9, cur9, h1, _⟩
              · exact ⟨none, 0, by rw [h1, ← ho, h2]⟩
              · exact ⟨_, _, by rw [h1, ho]⟩
            have hMa := hM.alloc_ (.cells #[.int .i64 a.1, .int .i64 a.2] 30)
            obtain ⟨Wa, hWa⟩ : ∃ Wa, wr.alloc (.cells #[.int .i64 a.1, .int .i64 a.2] 30) = Wa := ⟨_, rfl⟩
            obtain ⟨ba, hba⟩ : ∃ ba, wr.heap.size = ba := ⟨_, rfl⟩
            have a0 : Wa.cell? ⟨ba, 0, none⟩ = some (.int .i64 a.1) := by rw [← hWa, ← hba]; simp
            have a1 : Wa.cell? ⟨ba, 1, none⟩ = some (.int .i64 a.2) := by rw [← hWa, ← hba]; simp
            have az : ba < Wa.heap.size := by rw [← hWa, ← hba]; simp
            rw [hWa] at hMa
            have HD := Lib.hid (does_any _ _ Wa bt w.heap.size N N t a _ hMa hsl hN2 h64a (fun s hs => (hci.ver s hs).1))
            have HWa := Lib.hid hWa
            have Hba := Lib.hid hba
            have Ho1 := Lib.hid ho1
            have Hs1 := Lib.hid hs1
            have Hol : Hid (os.length ≤ 1000000) := Lib.hid (by omega)
            clear hM hMa hc hci ho hs1 ho1 ht hos hWa hba hsl ha
            go_upto_region 10 with (fail)
            rw [HWa.out, Hba.out]
            clear HWa Hba d0 d1
            obtain ⟨r, hr⟩ : ∃ r, stepH t a = r := ⟨_, rfl⟩
            obtain ⟨t', c, g⟩ := r
            rw [hr] at HD Hs1 Ho1
            simp only at HD Hs1 Ho1
            go_wp2_with fail
            with_reducible refine HD.out.mono ?_
            rintro e w5 ⟨rfl, hM5⟩
            have HC := Lib.hid (code_any c w5 (he.later hM5.below he.pos))
            obtain ⟨ev, hev⟩ : ∃ ev, errV c = ev := ⟨_, rfl⟩
            rw [hev] at HC
            rw [hev]
            have HM5 := Lib.hid hM5
            clear hM5 hev HD a0 a1 az
            go_wp2_with fail
            with_reducible refine HC.out.mono ?_
            rintro e w6 ⟨rfl, hb6⟩
            have HM6 := Lib.hid (HM5.out.call hb6)
            clear HM5 HC hb6
            go_wp2_with (refine Mem.wp_appT elemOut rfl (.tmp 37) (.tmp 42) rfl HM6.out 2 rfl rfl _ (c, g) #[.int .i64 c, .bool false, .int .i64 g] rfl _ _ rfl (by simp) rfl rfl (by decide) Hol.out ?_; intro ad n7 cp w7 hn7 hM7 hs7 hk7 ha7)
            go_roundw
            case rel => exact ⟨k + 1, _, by omega, rfl, by go_num, by rw [Hs1.out, Ho1.out]; exact hM7⟩
            case measure => simp [intOf]; omega
          · obtain rfl : k = l.length := by omega
            have ho := outsH_len N l l.length (Nat.le_refl _)
            have HT := Lib.hid (hM.isTup 2 rfl encO_len (by omega))
            have HB := Lib.hid hM.below
            clear hM ho
            go_wp2
            go_ret2
            exact ⟨_, 0, rfl, HB.out, .inr ⟨rfl, N, rfl, hN1, hN2, hl100, HT.out⟩⟩
end Go.Proofs.YthlllbpilcapiaaDoor
