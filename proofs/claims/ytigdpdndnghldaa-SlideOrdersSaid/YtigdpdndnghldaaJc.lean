/- slide.slots: where each object that is marked comes to stand. Walked. -/
import Derived.Test.YtigdpdndnghldaaJb
import Derived.Test.YtigdpdndnghldaaAg
namespace Go.Proofs.Ytigdpdndnghldaa
open Go.RowKit Go.Shelf Go.Maps

attribute [local go_sem ↓] Go.wp_at_zero Go.wp_at_succ
theorem part_at {ws : List Int} {osM os1 : List Ob} {k k2 : Nat} {n : Int} {fs : List Int} (hL : Laid ws osM) (hP : Part ws os1 k) (hP2 : Part ws (os1 ++ [(n, fs)]) k2) : osM[os1.length]? = some (n, fs) ∧ k = place osM os1.length ∧ k ≤ ws.length := by
  have hle := hP.le
  obtain ⟨_, _, _, hk⟩ := hP
  obtain ⟨rest, h1, h2, _⟩ := hP2
  obtain ⟨os2, he, _⟩ := flat_split (os1 ++ [(n, fs)]) osM rest (by rw [← h1]; exact hL.1) h2 hL.2
  refine ⟨by rw [he]; simp, ?_, hle⟩
  unfold place
  rw [he, hk, List.append_assoc, List.take_left]
/-- An object of the arena that is marked. -/
theorem mark_at {ws rs : List Int} {os os1 : List Ob} {F : List Int} {k k2 : Nat} {n : Int} {fs : List Int} (h : Sound ws rs os) (hP : Part (flat (mkO os F)) os1 k) (hP2 : Part (flat (mkO os F)) (os1 ++ [(n, fs)]) k2) :
    os1.length < os.length ∧ k = place os os1.length ∧ k ≤ 256 ∧ fs = (obj os os1.length).2 ∧ (n / 256 % 2 == 1) = decide ((os1.length : Int) ∈ F) ∧ n % 256 = (fs.length : Int) ∧ fs.length ≤ 4 ∧ isHead n ∧ n / 512 % 8 = (obj os os1.length).1 / 512 % 8 := by
  have hS := mkO_sound h F
  obtain ⟨h1, h2, h3⟩ := part_at hS.laid hP hP2
  have hl := (List.getElem?_eq_some_iff.1 h1).1
  rw [mkO, allO_len] at hl
  rw [mkO, allO_get os _ hl] at h1
  have h4 := Option.some.inj h1
  injection h4 with h5 h6
  have hg := hd_good h.laid hl
  have hp := hdS_parts hg.1 (decide ((os1.length : Int) ∈ F))
  have hw := hS.words
  refine ⟨hl, by rw [h2, mkO, allO_place os _ (Nat.le_of_lt hl)], by omega, h6.symm, ?_, ?_, ?_, ?_, ?_⟩
  · rw [← h5]; exact hp.2.1
  · rw [← h5, ← h6]; unfold hdM; rw [hp.1, hg.2.1]
  · rw [← h6]; exact hg.2.2
  · rw [← h5]; exact hp.2.2.2.1
  · rw [← h5]; exact hp.2.2.1
theorem rise_step {os : List Ob} {F : List Int} {i : Nat} (hi : i < os.length) (hF : (i : Int) ∈ F) :
    nowF os (riseN F os.length) (riseN F (i + 1)) = (fun (u : Int) => if u = (place os i : Int) then some (.int .i64 (placeF os (riseN F os.length) (riseN F i).length : Nat)) else nowF os (riseN F os.length) (riseN F i) u) ∧
    placeF os (riseN F os.length) (riseN F (i + 1)).length = placeF os (riseN F os.length) (riseN F i).length + (1 + (obj os i).2.length) ∧ (riseN F (i + 1)).length = (riseN F i).length + 1 := by
  have hp := plc_rise hF hi
  have hk : (riseN F os.length)[(riseN F i).length]? = some (i : Int) := by
    have hq := riseN_pre F (show i + 1 ≤ os.length by omega)
    rw [riseN_take hF] at hq
    rw [prefix_get hq (k := (riseN F i).length) (by simp)]
    simp
  refine ⟨?_, ?_, by rw [riseN_take hF]; simp⟩
  · rw [riseN_take hF, nowF_snoc hi, hp, Int.toNat_natCast]
  · rw [riseN_take hF, List.length_append, List.length_singleton, placeF_succ os hk]; rfl
def ownS (bm b3 b4 : Nat) (os : List Ob) (F : List Int) (os1 : List Ob) (_ : Unit) : List Ent :=
  [gmap mapII bm (riseN F os1.length).length (nowF os (riseN F os.length) (riseN F os1.length)), ebox b3 #[.map (some bm)] 97, ebox b4 #[.int .i64 (placeF os (riseN F os.length) (riseN F os1.length).length : Nat)] 3]
set_option maxRecDepth 100000 in
set_option maxHeartbeats 1000000 in
theorem slots1_any (w0 wr : World) (bm b3 b4 : Nat) (ws rs : List Int) (os : List Ob) (F : List Int) (hS : Sound ws rs os) (hpl : ∀ j, placeF os (riseN F os.length) j ≤ 256) (os1 : List Ob) (n : Int) (fs : List Int) (k : Nat) (L' : List Ent)
    (hP : Part (flat (mkO os F)) os1 k) (hP2 : Part (flat (mkO os F)) (os1 ++ [(n, fs)]) (k + 1 + fs.length)) (hM : Mem w0.heap.size w0 wr (ownS bm b3 b4 os F os1 () ++ L')) :
    Calls Try.prog 87 (#[.int .i64 k, headV n] ++ #[.pointer (some ⟨b4, 0, none⟩), .pointer (some ⟨b3, 0, none⟩)]) wr fun e w' => e = .returned (.bool true) ∧ ∃ x : Unit, Mem w0.heap.size w0 w' (ownS bm b3 b4 os F (os1 ++ [(n, fs)]) x ++ L') := by
  obtain ⟨hl, hk, hk256, hfs, hmark, hlen, hf4, hhd, hage⟩ := mark_at hS hP hP2
  clear hhd hage
  show Calls Try.prog 87 #[.int .i64 k, headV n, .pointer (some ⟨b4, 0, none⟩), .pointer (some ⟨b3, 0, none⟩)] wr _
  rw [headV, hlen, hmark]
  unfold ownS at hM
  unfold ownS
  have hl1 : (os1 ++ [(n, fs)]).length = os1.length + 1 := by simp
  rw [hl1]
  have hlN : os.length ≤ 256 := by have := hS.laid.count; have := hS.words; omega
  clear hP hP2 hl1
  obtain ⟨i, hi⟩ : ∃ i, os1.length = i := ⟨_, rfl⟩
  rw [hi] at hl hk hfs hM ⊢
  obtain ⟨m, hm⟩ : ∃ m, fs.length = m := ⟨_, rfl⟩
  rw [hm] at hf4 ⊢
  by_cases hF : (i : Int) ∈ F
  · rw [decide_eq_true hF]
    obtain ⟨s1, s2, s3⟩ := rise_step hl hF
    rw [← hfs, hm] at s2
    have hp1 := hpl (riseN F i).length
    have hp2 := hpl (riseN F (i + 1)).length
    have hc := riseN_len F i
    obtain ⟨c, hce⟩ : ∃ c, (riseN F i).length = c := ⟨_, rfl⟩
    obtain ⟨p, hpe⟩ : ∃ p, placeF os (riseN F os.length) c = p := ⟨_, rfl⟩
    rw [s2, hce, hpe] at hp2
    rw [hce] at hM hp1 hc s1 s2 s3
    rw [hpe] at hM hp1 s1 s2
    rw [← hk] at s1
    rw [s1, s2, s3]
    have hM1 := hM.alloc #[.int .i64 m, .bool true, .int .i64 (n / 512 % 8)] 35
    obtain ⟨W1, hW1⟩ : ∃ W1, wr.alloc (.cells #[.int .i64 m, .bool true, .int .i64 (n / 512 % 8)] 35) = W1 := ⟨_, rfl⟩
    obtain ⟨bh, hbh⟩ : ∃ bh, wr.heap.size = bh := ⟨_, rfl⟩
    have k3 : wr.cell? ⟨b3, 0, none⟩ = some (.map (some bm)) := by have := hM.cell 1 rfl 0; simpa using this
    have kz3 : b3 < wr.heap.size := (hM.box 1 rfl).2.1
    have k4 : wr.cell? ⟨b4, 0, none⟩ = some (.int .i64 p) := by have := hM.cell 2 rfl 0; simpa using this
    have kz4 : b4 < wr.heap.size := (hM.box 2 rfl).2.1
    rw [hW1, hbh] at hM1
    have HM1 := Lib.hid hM1
    have HW1 := Lib.hid hW1
    have Hbh := Lib.hid hbh
    have Hk64 : Hid (i64ok (k : Int)) := Lib.hid (by unfold i64ok; omega)
    have hc5 : c ≤ 100000 := by omega
    have Hc5 := Lib.hid hc5
    clear hM hM1 hW1 hbh hS hpl hfs hmark hlen hm hi s1 s2 s3 hk hF hce hpe hlN hc5 hl hc
    go_enter Try.func87, Try.ntmps87
    have e1 : IntKind.i64.wrap ((1 : Int) + m) = 1 + m := IntWalk.i64_in _ (by omega)
    have e2 : IntKind.i64.wrap ((p : Int) + (1 + m)) = p + (1 + m) := IntWalk.i64_in _ (by omega)
    go_wp2_with (
      at_mapUpdate
      rw [HW1.out]
      refine Mem.wp_putG (M := mapII) rfl (.tmp 9) (.tmp 10) _ rfl HM1.out 1 rfl Hc5.out rfl (k : Int) (.int .i64 p) rfl rfl Hk64.out ?_
      intro w5 hM5 hs5
      rw [Hbh.out]
      have c12 : w5.cell? ⟨b4, 0, none⟩ = some (.int .i64 p) := by have := hM5.cell 3 rfl 0; simpa using this
      have f12 : w5.frozen? ⟨b4, 0, none⟩ = false := hM5.free 3 rfl 0
      have c20 : w5.cell? ⟨bh, 0, none⟩ = some (.int .i64 m) := by have := hM5.cell 0 rfl 0; simpa using this
      have z4 : b4 < w5.heap.size := (hM5.box 3 rfl).2.1
      have z5 : bh < w5.heap.size := (hM5.box 0 rfl).2.1
      have HM6 := Lib.hid (hM5.setBox 3 rfl 0 (.int .i64 ((p : Int) + (1 + m))))
      clear hM5 k3 kz3 k4 kz4)
    go_ret
    exact ⟨rfl, (), (HM6.out.drop (List.sublist_cons_self _ _)).cast (by simp)⟩
  · rw [decide_eq_false hF, riseN_skip hF]
    have HM1 := Lib.hid (hM.alloc_ (.cells #[.int .i64 m, .bool false, .int .i64 (n / 512 % 8)] 35))
    clear hM hS hpl hfs hmark hlen hm hi hk hF hl
    go_enter Try.func87, Try.ntmps87
    go_wp2
    go_ret
    exact ⟨rfl, (), HM1.out⟩
theorem enter_slots1 : ∀ args w, (callFunc 87 args).run Try.prog w = .ok (.enter 87 args) w := fun _ _ => rfl
set_option maxRecDepth 100000 in
set_option maxHeartbeats 1000000 in
/-- slots tells a map of the call's own. -/
theorem slots_any (v : Value) (ws rs : List Int) (os : List Ob) (F : List Int) (w : World) (hS : Sound ws rs os) (hpl : ∀ j, placeF os (riseN F os.length) j ≤ 256) (hw : IsW w v (flat (mkO os F))) :
    Calls Try.prog 67 #[v] w fun e w' => ∃ bm n, e = .returned (.map (some bm)) ∧ Mem w.heap.size w w' [gmap mapII bm n (nowF os (riseN F os.length) (riseN F os.length))] := by
  have Hw := Lib.hid hw
  have hS2 := mkO_sound hS F
  have HS2 := Lib.hid hS2
  have hmm := @run_makeMap Try.prog
  have hM1 := (((Mem.start w).newMapAt mapII w.heap.size rfl).allocAt (w.heap.size + 1) (by simp) #[.map (some w.heap.size)] 97).allocAt (w.heap.size + 2) (by simp) #[.int .i64 0] 3
  obtain ⟨W1, hW1⟩ : ∃ W1, ((w.alloc (.map #[] 0)).alloc (.cells #[.map (some w.heap.size)] 97)).alloc (.cells #[.int .i64 0] 3) = W1 := ⟨_, rfl⟩
  rw [hW1] at hM1
  have hM2 : Mem w.heap.size w W1 (ownS w.heap.size (w.heap.size + 1) (w.heap.size + 2) os F [] () ++ []) := by
    rw [List.append_nil]
    refine (hM1.pick0 [2, 1, 0] (by decide) ?_)
    simp [ownS, riseN_zero, nowF_nil]
    rfl
  have HWk := Lib.hid (walk_any 87 #[.pointer (some ⟨w.heap.size + 2, 0, none⟩), .pointer (some ⟨w.heap.size + 1, 0, none⟩)] (ownS w.heap.size (w.heap.size + 1) (w.heap.size + 2) os F) w W1 [] () v (flat (mkO os F)) hw hS2.words enter_slots1 hM2
    (fun os1 x n fs k L' wr hP hP2 hh hfl hM => slots1_any w wr _ _ _ ws rs os F hS hpl os1 n fs k L' hP hP2 hM))
  have HW1 := Lib.hid hW1
  clear hM1 hM2 hW1 hS hS2 hpl hw
  go_enter Try.func67, Try.ntmps67
  go_wp2_with fail
  rw [HW1.out]
  refine HWk.out.mono ?_
  rintro e w6 (⟨os2, x, hL2, rfl, hM⟩ | ⟨hno, _⟩)
  · obtain rfl := HS2.out.laid.unique hL2
    rw [List.append_nil] at hM
    have c0 : w6.cell? ⟨w.heap.size + 1, 0, none⟩ = some (.map (some w.heap.size)) := by have := hM.cell 1 rfl 0; simpa using this
    have z0 : w.heap.size + 1 < w6.heap.size := (hM.box 1 rfl).2.1
    have hl : (mkO os F).length = os.length := allO_len os _
    have hM7 : Mem w.heap.size w w6 [gmap mapII w.heap.size (riseN F os.length).length (nowF os (riseN F os.length) (riseN F os.length))] := by
      have := hM.pick0 [0] (by decide) (A' := [_]) rfl
      rwa [hl] at this
    have HM := Lib.hid hM7
    clear hM hM7 HWk HW1 hmm
    go_wp2
    go_ret
    exact ⟨_, _, rfl, HM.out⟩
  · exact absurd HS2.out.laid (hno _)
end Go.Proofs.Ytigdpdndnghldaa
