/- slide.Slide's closure, walked. -/
import Derived.Test.YtigdpdndnghldaaJc
import Derived.Test.YtigdpdndnghldaaAs
import Derived.StillTailTactics
import Derived.Deep.RegionLaw
import Derived.Deep.DrawnRows
import Derived.Deep.RegionHeld3
import Derived.Deep.DeepCutAuto
namespace Go.Proofs.Ytigdpdndnghldaa
open Go.RowKit Go.Shelf Go.Maps

theorem cell_lt {X : World} {b off : Nat} {v : Value} (h : X.cell? ⟨b, off, none⟩ = some v) : b < X.heap.size := by
  rcases Nat.lt_or_ge b X.heap.size with h1 | h1
  · exact h1
  · rw [World.cell?, Array.getElem?_eq_none h1] at h; cases h
/-- The load of out.Words, under a name of its own: it is branched over, not taken first. -/
def ldOut : Op := Op.load 22 (Operand.tmp 21)
theorem ldOut_eq : Op.load 22 (Operand.tmp 21) = ldOut := rfl
attribute [local go_sem] ldOut
def ownT (bo : Nat) (rv : Value) (os : List Ob) (F : List Int) (os1 : List Ob) (wv : Value) : List Ent :=
  [ebox bo #[wv, rv] 24, rowW 55 wv (flat (relP os (riseN F os.length) (hdD os) (riseN F os1.length)))]
set_option maxRecDepth 100000 in
set_option maxHeartbeats 4000000 in
theorem slide1_any (w0 wr : World) (bo b4 b6 bm : Nat) (rv mw : Value) (ws rs : List Int) (os : List Ob) (F : List Int) (hS : Sound ws rs os) (hF : OrdS (readG os rs) F) (h64 : ∀ x ∈ allW rs os, w64 x) (hpl : ∀ j, placeF os (riseN F os.length) j ≤ 256)
    (hmw : IsW w0 mw (flat (mkO os F))) (hT : Tells w0 bm os F (riseN F os.length)) (hC : ∀ X, Below w0.heap.size w0 X → X.cell? ⟨b4, 0, none⟩ = some mw ∧ X.cell? ⟨b6, 0, none⟩ = some (.map (some bm)))
    (os1 : List Ob) (wv : Value) (n : Int) (fs : List Int) (k : Nat) (L' : List Ent)
    (hP : Part (flat (mkO os F)) os1 k) (hP2 : Part (flat (mkO os F)) (os1 ++ [(n, fs)]) (k + 1 + fs.length)) (hM : Mem w0.heap.size w0 wr (ownT bo rv os F os1 wv ++ L')) :
    Calls Try.prog 69 (#[.int .i64 k, headV n] ++ #[.pointer (some ⟨bo, 0, none⟩), .pointer (some ⟨b4, 0, none⟩), .pointer (some ⟨b6, 0, none⟩)]) wr fun e w' => e = .returned (.bool true) ∧ ∃ x : Value, Mem w0.heap.size w0 w' (ownT bo rv os F (os1 ++ [(n, fs)]) x ++ L') := by
  obtain ⟨hl, hk, hk256, hfs, hmark, hlen, hf4, hhd, hage⟩ := mark_at hS hP hP2
  obtain ⟨hn, hff, hfit⟩ := hP.fields hP2
  have hsm := (mkO_sound hS F).words
  show Calls Try.prog 69 #[.int .i64 k, headV n, .pointer (some ⟨bo, 0, none⟩), .pointer (some ⟨b4, 0, none⟩), .pointer (some ⟨b6, 0, none⟩)] wr _
  obtain ⟨af, cf, hIF, hQ⟩ := aFields_fix w0 mw _ fs k fs.length n hmw hn hhd hlen rfl hff hfit hsm
  rw [headV, hlen, hmark]
  unfold ownT at hM
  unfold ownT
  have hl1 : (os1 ++ [(n, fs)]).length = os1.length + 1 := by simp
  rw [hl1]
  clear hP hP2 hl1
  obtain ⟨i, hi⟩ : ∃ i, os1.length = i := ⟨_, rfl⟩
  rw [hi] at hl hk hfs hM hage ⊢
  obtain ⟨a, ha⟩ : ∃ a, n / 512 % 8 = a := ⟨_, rfl⟩
  have ha0 : 0 ≤ a ∧ a ≤ 7 := by omega
  rw [ha] at hage ⊢
  by_cases hin : (i : Int) ∈ F
  · rw [decide_eq_true hin]
    have hg := hd_good hS.laid hl
    have hrel := relP_snoc os (riseN F os.length) (hdD os) (riseN F i) (i : Int)
    rw [← riseN_take hin, ← hfs] at hrel
    have hhD : hdD os (i : Int) = headW fs.length a false := by
      unfold hdD hdS
      rw [← hage, ← hg.2.1, ← hfs]
    have hrl := relP_len os (riseN F os.length) (hdD os) (riseN F i)
    have hx := fun x (hx : x ∈ fs) => idx_rise hS hF (x := x) (.inr ⟨(i : Int), (rise_mem hS hF).2 hin, by rw [← hfs]; exact hx⟩)
    have hf64 : ∀ x ∈ fs.map (mvW os (riseN F os.length)), w64 x := by
      have hK := rise_keeps hS hF
      intro y hy
      obtain ⟨x, hxm, rfl⟩ := List.mem_map.1 hy
      refine (mv_ok (hdD os) hK.nodup (hpl _) ?_).1
      exact (word_in h64 hK).2 (i : Int) ((rise_mem hS hF).2 hin) x (by rw [← hfs]; exact hxm)
    obtain ⟨l, hle⟩ : ∃ l, flat (relP os (riseN F os.length) (hdD os) (riseN F i)) = l := ⟨_, rfl⟩
    rw [hle] at hM hrel hrl
    have hl256 : l.length ≤ 256 := by rw [hrl]; unfold placeF; rw [List.take_length]; have := hpl (riseN F i).length; rw [placeF_pre os (riseN_pre F (show i ≤ os.length by omega)) (Nat.le_refl _)] at this; unfold placeF at this; rwa [List.take_length] at this
    obtain ⟨fs', hfs'⟩ : ∃ fs', fs.map (mvW os (riseN F os.length)) = fs' := ⟨_, rfl⟩
    have hfl' : fs'.length = fs.length := by rw [← hfs', List.length_map]
    have Q2 : Hid (∀ X, Below w0.heap.size w0 X → Calls Try.prog 68 #[.slice af fs.length cf, .map (some bm)] X fun e w' => ∃ r, e = .returned r ∧ Mem X.heap.size X w' [rowW 55 r fs']) := Lib.hid (fun X hX => by
      rw [← hfs']
      exact sturned_any _ fs bm os F (riseN F os.length) X (hIF.later hX) (by omega) (hT.later hX) hpl hx)
    rw [hfs'] at hrel hf64
    obtain ⟨m, hm⟩ : ∃ m, fs.length = m := ⟨_, rfl⟩
    rw [hm] at hf4 hhD hfl' Q2 hQ ⊢
    obtain ⟨hd, hhd2⟩ : ∃ hd, headW m a false = hd := ⟨_, rfl⟩
    have HHd := fun W => head_ok m a false W (by omega) (by omega) ha0.1 ha0.2
    have hd64 : w64 hd := by rw [← hhd2]; unfold w64 headW; simp; omega
    rw [hhd2] at HHd hhD
    rw [hhD] at hrel
    obtain ⟨at_, ct, rfl⟩ := own_row (hM.row 1 rfl)
    obtain ⟨p, hp⟩ : ∃ p, l.length = p := ⟨_, rfl⟩
    rw [hp] at hM hl256
    obtain ⟨aM, cM, rfl, _⟩ := hmw.slice
    obtain ⟨nM, hnM⟩ : ∃ nM, (flat (mkO os F)).length = nM := ⟨_, rfl⟩
    rw [hnM] at hQ hC
    have Q1 := Lib.hid hQ
    have HC : Hid (∀ X, Below w0.heap.size w0 X → X.cell? ⟨b4, 0, none⟩ = some (.slice aM nM cM) ∧ X.cell? ⟨b6, 0, none⟩ = some (.map (some bm)) ∧ b4 < X.heap.size ∧ b6 < X.heap.size) := Lib.hid (fun X hX => ⟨(hC X hX).1, (hC X hX).2, cell_lt (hC X hX).1, cell_lt (hC X hX).2⟩)
    have Hlf : Hid (l.length + [hd].length ≤ 1000000) := Lib.hid (by simp; omega)
    have Hlf2 : Hid ((l ++ [hd]).length + fs'.length ≤ 1000000) := Lib.hid (by simp; omega)
    have Hfl : Hid (fs'.length ≤ 1000000) := Lib.hid (by omega)
    have Hf64 := Lib.hid hf64
    have Hd64 := Lib.hid hd64
    have Hrel := Lib.hid hrel
    have HHd := Lib.hid HHd
    have hM1 := hM.alloc #[.int .i64 m, .bool true, .int .i64 a] 35
    obtain ⟨W1, hW1⟩ : ∃ W1, wr.alloc (.cells #[.int .i64 m, .bool true, .int .i64 a] 35) = W1 := ⟨_, rfl⟩
    obtain ⟨bh, hbh⟩ : ∃ bh, wr.heap.size = bh := ⟨_, rfl⟩
    rw [hW1, hbh] at hM1
    have HM1 := Lib.hid hM1
    have HW1 := Lib.hid hW1
    have Hbh := Lib.hid hbh
    clear hM hM1 hW1 hbh hS hF h64 hpl hmw hT hC hn hff hfit hsm hIF hQ hmark hlen hhd hage hi hk hfs hl ha hin hg hrel hhD hrl hx hf64 hle hfs' hfl' hm hhd2 hd64 hp hnM
    go_enter Try.func69, Try.ntmps69
    go_wp2_with fail
    rw [HW1.out]
    refine (HHd.out _).mono ?_
    rintro e w2 ⟨rfl, hb2⟩
    have hN0 : Mem w0.heap.size w0 w2 ([ebox bo #[.slice at_ p ct, rv] 24, rowW 55 (.slice at_ p ct) l] ++ L') := ((HM1.out.call hb2).drop (List.sublist_cons_self _ _))
    have t0 : w2.cell? ⟨bo, 0, none⟩ = some (.slice at_ p ct) := by have := hN0.cell 0 rfl 0; simpa using this
    have tz : bo < w2.heap.size := (hN0.box 0 rfl).2.1
    obtain ⟨t4, t6, z4, z6⟩ := HC.out _ hN0.below
    have hN := hN0.drew
    clear hN0 hb2 HHd HM1 HW1 Hbh ha0
    go_wp2
    rw [ldOut_eq]
    go_region_held3 (fun X => X.cell? ⟨b4, 0, none⟩ = some (.slice aM nM cM) ∧ X.cell? ⟨b6, 0, none⟩ = some (.map (some bm)))
      (first | exact ⟨(HC.out _ hN.below).1, (HC.out _ hN.below).2.1⟩ | exact ⟨(HC.out _ (hN.alloc_ _).below).1, (HC.out _ (hN.alloc_ _).below).2.1⟩ | exact ⟨(HC.out _ (hN.setCell_ _ _).below).1, (HC.out _ HM9.out.below).2.1⟩ | exact ⟨(HC.out _ HM9.out.below).1, (HC.out _ HM9.out.below).2.1⟩)
      (first
          | (refine Mem.step_appWs elemWords rfl (.tmp 22) (.tmp 24) rfl hN 1 rfl rfl rfl hI Hlf.out ?_
             clear hI
             intro v7 w7 hM7 hs7 hk7
             obtain ⟨a7, n7, c7, rfl⟩ := own_slice (hM7.row 1 rfl)
             clear hs7 hk7
             have hN := hM7
             have t0 : w7.cell? ⟨bo, 0, none⟩ = some (.slice at_ p ct) := by have := hN.cell 0 rfl 0; simpa using this
             have tz : bo < w7.heap.size := (hN.box 0 rfl).2.1
             obtain ⟨t4, t6, z4, z6⟩ := HC.out _ hN.below
             clear hM7)
          | (refine Mem.step_appWs elemWords rfl (.tmp 22) (.tmp 24) rfl (hN.alloc_ (.cells #[.int .u64 hd] 55)) 1 rfl rfl rfl (isW_one _ hd 55 Hd64.out) Hlf.out ?_
             intro v7 w7 hM7 hs7 hk7
             obtain ⟨a7, n7, c7, rfl⟩ := own_slice (hM7.row 1 rfl)
             clear hs7 hk7
             have hN := hM7
             have t0 : w7.cell? ⟨bo, 0, none⟩ = some (.slice at_ p ct) := by have := hN.cell 0 rfl 0; simpa using this
             have tz : bo < w7.heap.size := (hN.box 0 rfl).2.1
             obtain ⟨t4, t6, z4, z6⟩ := HC.out _ hN.below
             clear hM7)
          | (refine Mem.step_appWs elemWords rfl (.tmp 25) (.tmp 31) rfl hN 1 rfl rfl rfl (isW_of_own (hN.ownW 2 rfl) Hfl.out Hf64.out) Hlf2.out ?_
             intro v9 w9 hM9 hs9 hk9
             obtain ⟨a9, n9, c9, rfl⟩ := own_slice (hM9.row 1 rfl)
             clear hs9 hk9
             have f9 : w9.frozen? ⟨bo, 0, none⟩ = false := hM9.free 0 rfl 0
             have d9 : w9.cell? ⟨bo, 0, none⟩ = some (.slice at_ p ct) := by have := hM9.cell 0 rfl 0; simpa using this
             have HM9 := Lib.hid (hM9.setBox 0 rfl 0 (.slice a9 n9 c9))
             have hN := hM9
             clear hM9)
          | (go_at_call 47
             refine (Q1.out _ hN.below).mono ?_
             rintro e w8 ⟨rfl, hb8⟩
             have hN := hN.call hb8
             have t0 : w8.cell? ⟨bo, 0, none⟩ = some (.slice at_ p ct) := by have := hN.cell 0 rfl 0; simpa using this
             have tz : bo < w8.heap.size := (hN.box 0 rfl).2.1
             obtain ⟨t4, t6, z4, z6⟩ := HC.out _ hN.below
             clear hb8)
          | (go_at_call 47
             refine (Q1.out _ (hN.alloc_ (.cells #[.int .u64 hd] 55)).below).mono ?_
             rintro e w8 ⟨rfl, hb8⟩
             have hI := (isW_one _ hd 55 Hd64.out).later hb8
             have hN := (hN.alloc_ (.cells #[.int .u64 hd] 55)).call hb8
             have t0 : w8.cell? ⟨bo, 0, none⟩ = some (.slice at_ p ct) := by have := hN.cell 0 rfl 0; simpa using this
             have tz : bo < w8.heap.size := (hN.box 0 rfl).2.1
             obtain ⟨t4, t6, z4, z6⟩ := HC.out _ hN.below
             clear hb8)
          | (go_at_call 68
             refine (Q2.out _ hN.below).mono ?_
             rintro e w10 ⟨r, rfl, hb10⟩
             have hI := hI.later hb10.below
             have hN := (hN.callMem hb10).pick (T := L') [1, 2, 0] (A := [_, _, _]) (A' := [_, _, _]) (by decide) rfl
             have t0 : w10.cell? ⟨bo, 0, none⟩ = some (.slice at_ p ct) := by have := hN.cell 0 rfl 0; simpa using this
             have tz : bo < w10.heap.size := (hN.box 0 rfl).2.1
             obtain ⟨t4, t6, z4, z6⟩ := HC.out _ hN.below
             clear hb10)
          | (go_at_call 68
             refine (Q2.out _ hN.below).mono ?_
             rintro e w10 ⟨r, rfl, hb10⟩
             have hN := (hN.callMem hb10).pick (T := L') [1, 2, 0] (A := [_, _, _]) (A' := [_, _, _]) (by decide) rfl
             have t0 : w10.cell? ⟨bo, 0, none⟩ = some (.slice at_ p ct) := by have := hN.cell 0 rfl 0; simpa using this
             have tz : bo < w10.heap.size := (hN.box 0 rfl).2.1
             obtain ⟨t4, t6, z4, z6⟩ := HC.out _ hN.below
             clear hb10)
          | (go_at_call 68
             refine (Q2.out _ (hN.alloc_ (.cells #[.int .u64 hd] 55)).below).mono ?_
             rintro e w10 ⟨r, rfl, hb10⟩
             have hI := (isW_one _ hd 55 Hd64.out).later hb10.below
             have hN := ((hN.alloc_ (.cells #[.int .u64 hd] 55)).callMem hb10).pick (T := L') [1, 2, 0] (A := [_, _, _]) (A' := [_, _, _]) (by decide) rfl
             have t0 : w10.cell? ⟨bo, 0, none⟩ = some (.slice at_ p ct) := by have := hN.cell 0 rfl 0; simpa using this
             have tz : bo < w10.heap.size := (hN.box 0 rfl).2.1
             obtain ⟨t4, t6, z4, z6⟩ := HC.out _ hN.below
             clear hb10))
    all_goals
      go_wp2
      go_ret
      refine ⟨rfl, .slice a9 n9 c9, ((HM9.out.drop (L' := _ :: _ :: L') (.cons_cons _ (.cons_cons _ (List.sublist_cons_self _ _)))).cast ?_)⟩
      rw [Hrel.out]
      simp
  · rw [decide_eq_false hin, riseN_skip hin]
    have HM1 := Lib.hid (hM.alloc_ (.cells #[.int .i64 fs.length, .bool false, .int .i64 a] 35))
    clear hM hS hpl hfs hmark hlen hi hk hin hl hF h64 hmw hT hC hn hff hfit hsm hIF hQ hhd hage ha
    go_enter Try.func69, Try.ntmps69
    go_wp2
    go_ret
    exact ⟨rfl, wv, HM1.out⟩
end Go.Proofs.Ytigdpdndnghldaa
