/- fingers.settled, walked: its first part. -/
import Derived.Test.YtgdodbdipbomfaaQe
import Derived.Test.YtgdodbdipbomfaaQb
import Derived.Test.YtgdodbdipbomfaaMr
import Derived.Test.YtgdodbdipbomfaaSk
import Derived.Test.YtgdodbdipbomfaaAf
import Derived.Deep.RegionHeld3
import Derived.Deep.DeepCutAuto
import Derived.Deep.LoopGhost
namespace Go.Proofs.Ytgdodbdipbomfaa
open Go.RowKit Go.Shelf Go.Maps

/-- Two operations under names of their own (they are branched over, not taken first). -/
def qIx1 : Op := Op.indexAddr 22 (Operand.tmp 74) (Operand.tmp 75)
theorem qIx1_eq : Op.indexAddr 22 (Operand.tmp 74) (Operand.tmp 75) = qIx1 := rfl
def qIx2 : Op := Op.indexAddr 22 (Operand.tmp 113) (Operand.tmp 114)
theorem qIx2_eq : Op.indexAddr 22 (Operand.tmp 113) (Operand.tmp 114) = qIx2 := rfl
attribute [local go_sem] qIx1 qIx2
theorem cell_ltQ {X : World} {b off : Nat} {v : Value} (h : X.cell? ⟨b, off, none⟩ = some v) : b < X.heap.size := by
  rcases Nat.lt_or_ge b X.heap.size with h1 | h1
  · exact h1
  · rw [World.cell?, Array.getElem?_eq_none h1] at h; cases h
theorem own_cap2 {B : Nat} {w : World} {e : TypeId} {sz n n' c : Nat} {a : Option Addr} {xs : List Value} (h : w.ownsRow B e sz (.slice a n' c) n xs) : n ≤ c ∧ n' = n := by
  rcases h.2 with ⟨h1, h0⟩ | ⟨g, cap, cur, h1, _, _, hc, _⟩
  · cases h1; omega
  · cases h1; exact ⟨hc, rfl⟩
theorem isW_front {w : World} {a : Option Addr} {n c N : Nat} {l : List Int} (h : IsW w (.slice a n c) l) (hN : N ≤ l.length) : IsW w (.slice a N c) (l.take N) := by
  have hc := h.cap
  obtain ⟨_, a', c', hv, hl, hx⟩ := h
  cases hv
  have e0 : (l.take N).length = N := by rw [List.length_take]; omega
  refine ⟨⟨a, c, by rw [e0], by rw [e0]; omega⟩, a, c, by rw [e0], by rw [e0]; omega, fun k x hk => ?_⟩
  have hkl := (List.getElem?_eq_some_iff.1 hk).1
  rw [List.length_take] at hkl
  rw [List.getElem?_take_of_lt (by omega)] at hk
  exact hx k x hk
set_option maxRecDepth 100000 in
set_option maxHeartbeats 4000000 in
theorem settled_any (w0 w : World) (aM aR : Option Addr) (nM cM nR cR N bm cnt : Nat) (wsM rs : List Int) (f : Int → Option Value) (L : List Ent) (hmw : IsW w0 (.slice aM nM cM) wsM) (hmr : IsW w0 (.slice aR nR cR) rs) (hN : N ≤ wsM.length) (hsm : wsM.length ≤ 256) (hrs : rs.length ≤ 8)
    (hM : Mem w0.heap.size w0 w (gmap mapII bm cnt f :: L))
    (ws : List Int) (os : List Ob) (F A : List Int) (z : Nat) (hS : Sound ws rs os) (h64 : ∀ x ∈ allW rs os, w64 x) (hw64 : ∀ x ∈ flat os, w64 x) (hz : Alike os z) (hz4 : 1 ≤ z ∧ z ≤ 5) (hK : Keeps os rs A) (hAl : A.length ≤ os.length) (hws : wsM = flat (mkO os F)) (hNz : N = A.length * z) (hf : f = wentF os A) :
    Calls Try.prog 53 #[.agg #[.slice aM nM cM, .slice aR nR cR], .map (some bm), .int .i64 N] w fun e w' => ∃ v1 v2, e = .returned (.agg #[v1, v2]) ∧ Mem w0.heap.size w0 w' ([rowW 60 v1 (flat (relO os A (hdD os))), rowW 60 v2 (rs.map (mvW os A))] ++ (gmap mapII bm cnt f :: L)) := by
  have hcap := hmw.cap
  have hM1 := ((hM.alloc #[.slice aM nM cM, .slice aR nR cR] 24).allocAt (w.heap.size + 1) (by simp) #[.map (some bm)] 75).allocAt (w.heap.size + 1 + 1) (by simp) #[.slice none 0 0, .slice none 0 0] 24
  obtain ⟨W1, hW1⟩ : ∃ W1, ((w.alloc (.cells #[.slice aM nM cM, .slice aR nR cR] 24)).alloc (.cells #[.map (some bm)] 75)).alloc (.cells #[.slice none 0 0, .slice none 0 0] 24) = W1 := ⟨_, rfl⟩
  rw [hW1] at hM1
  obtain ⟨words0, hwo⟩ : ∃ words0, wsM.take N = words0 := ⟨_, rfl⟩
  have hfr := isW_front hmw hN
  rw [hwo] at hfr
  have hwl : words0.length = N := by rw [← hwo, List.length_take]; omega
  have HC1 : Hid (∀ X, Below W1.heap.size W1 X → Calls Try.prog 72 #[.slice aM N cM] X fun e w' => ∃ v', e = .returned v' ∧ Mem X.heap.size X w' [rowW 60 v' words0]) := Lib.hid (fun X hX => cloneW_any _ _ X ((hfr.later hM1.below).later hX) (by omega))
  have HC2 : Hid (∀ X, Below W1.heap.size W1 X → Calls Try.prog 72 #[.slice aR nR cR] X fun e w' => ∃ v', e = .returned v' ∧ Mem X.heap.size X w' [rowW 60 v' rs]) := Lib.hid (fun X hX => cloneW_any _ _ X ((hmr.later hM1.below).later hX) (by omega))
  have HX : Hid (∀ X, Below W1.heap.size W1 X → X.cell? ⟨w.heap.size, 0, none⟩ = some (.slice aM nM cM) ∧ X.cell? ⟨w.heap.size, 1, none⟩ = some (.slice aR nR cR)) := Lib.hid (fun X hX => by
    have hMX := hM1.call hX
    refine ⟨?_, ?_⟩
    · have := hMX.cell 2 rfl 0; simpa using this
    · have := hMX.cell 2 rfl 1; simpa using this)
  have HBd := Lib.hid ((Below.refl W1.heap.size W1).drew)
  have HMd := Lib.hid ((Mem.start W1).drew)
  have hN1 : N ≤ cM := by omega
  have hN2 : (N : Int) ≤ cM := by omega
  have hN3 : (0 : Int) ≤ (N : Int) := by omega
  have hnone : aM = none → N = 0 ∧ nM = 0 := fun h => by
    subst h
    have h0 : wsM = [] := by
      cases wsM with
      | nil => rfl
      | cons x l =>
        obtain ⟨b, off, cap2, hv, _⟩ := hmw.at (Below.refl _ _) (k := 0) (x := x) rfl
        cases hv
    subst h0
    obtain ⟨a', c', hv, _⟩ := hmw.slice
    cases hv
    simp at hN
    exact ⟨hN, rfl⟩
  have hI0 : words0 = flat (rawO os (hdM os F) (ids os A fun u => (f u).isSome)) := by
    rw [hf, ids_start hK.nodup hK.rng, ← hwo, hws, hNz]
    exact raw_front hz (hdM os F) hAl
  have HI0 := Lib.hid hI0
  have HD := Lib.hid (And.intro hS (And.intro h64 (And.intro hw64 (And.intro hz (And.intro hz4 (And.intro hK (And.intro hAl (And.intro hws (And.intro hNz hf)))))))))
  have hlenI : ∀ left, (flat (rawO os (hdM os F) (ids os A left))).length = N := fun left => by
    rw [raw_len, hz.placeF (ids_rng hK.rng hAl left) (Nat.le_refl _), ids_len, hNz]
  have HlenI := Lib.hid hlenI
  clear hS h64 hw64 hz hz4 hK hAl hws hNz hf hI0 hlenI
  have Hmw := Lib.hid hmw
  have Hmr := Lib.hid hmr
  have HM1 := Lib.hid hM1
  have HW1 := Lib.hid hW1
  have Hwl := Lib.hid hwl
  have Hwo := Lib.hid hwo
  clear hmw hmr hM hM1 hW1 hfr hwl hwo
  go_enter Try.func53, Try.ntmps53
  go_wp2
  rw [HW1.out]
  obtain ⟨q0, q1⟩ := HX.out _ (Below.refl _ _)
  go_cut [8] (fun s8 W => ∃ bo v1 v2, s8 = .pointer (some ⟨bo, 0, none⟩) ∧ Mem W1.heap.size W1 W [ebox bo #[v1, v2] 24, rowW 60 v1 words0, rowW 60 v2 rs])
  case first =>
    cases aM with
    | none =>
      obtain ⟨rfl, rfl⟩ := hnone rfl
      go_region_held3 (fun X => X.cell? ⟨w.heap.size, 0, none⟩ = some (.slice none 0 cM) ∧ X.cell? ⟨w.heap.size, 1, none⟩ = some (.slice aR nR cR))
        (first | exact HX.out _ HBd.out | exact HX.out _ ((Below.refl W1.heap.size W1).alloc (Nat.le_refl _) _).drew | exact HX.out _ hB11 | exact HX.out _ hB9 | exact HX.out _ (hB11.alloc hB11.size _) | exact HX.out _ (hB9.alloc hB9.size _) | exact HX.out _ (HBd.out.alloc HBd.out.size _) | exact HX.out _ hG.below)
        (first
        | (go_at_call 72
           with_reducible refine (HC1.out _ HBd.out).mono ?_
           rintro e w9 ⟨v1, rfl, hm9⟩
           have hF1 := HMd.out.callMem hm9
           have hB9 := HBd.out.trans (hm9.below.mono HBd.out.size)
           clear hm9)
        | (go_at_call 72
           with_reducible refine (HC1.out _ ((Below.refl W1.heap.size W1).alloc (Nat.le_refl _) _).drew).mono ?_
           rintro e w9 ⟨v1, rfl, hm9⟩
           have hF2 := (((Mem.start W1).alloc #[.slice none 0 0, .slice none 0 0] 24).drew).callMem hm9
           have hB9 := (((Below.refl W1.heap.size W1).alloc (Nat.le_refl _) _).drew).trans (hm9.below.mono (((Below.refl W1.heap.size W1).alloc (Nat.le_refl _) _).drew).size)
           clear hm9)
        | (go_at_call 72
           with_reducible refine (HC2.out _ HBd.out).mono ?_
           rintro e w9 ⟨v2, rfl, hm9⟩
           have hF1 := HMd.out.callMem hm9
           have hB9 := HBd.out.trans (hm9.below.mono HBd.out.size)
           clear hm9)
        | (go_at_call 72
           with_reducible refine (HC2.out _ ((Below.refl W1.heap.size W1).alloc (Nat.le_refl _) _).drew).mono ?_
           rintro e w9 ⟨v2, rfl, hm9⟩
           have hF2 := (((Mem.start W1).alloc #[.slice none 0 0, .slice none 0 0] 24).drew).callMem hm9
           have hB9 := (((Below.refl W1.heap.size W1).alloc (Nat.le_refl _) _).drew).trans (hm9.below.mono (((Below.refl W1.heap.size W1).alloc (Nat.le_refl _) _).drew).size)
           clear hm9)
        | (go_at_call 72
           with_reducible refine (HC1.out _ hB9).mono ?_
           rintro e w11 ⟨v1, rfl, hm11⟩
           have hF4 := hF2.callMem hm11
           have hB11 := hB9.trans (hm11.below.mono hB9.size)
           obtain ⟨x1, m1, k1, hv1⟩ := own_slice (hF4.row 0 rfl)
           obtain ⟨x2, m2, k2, hv2⟩ := own_slice (hF4.row 1 rfl)
           subst hv1 hv2
           have u0 : w11.cell? ⟨W1.heap.size, 0, none⟩ = some (.slice none 0 0) := by have := hF4.cell 2 rfl 0; simpa using this
           have u1 : w11.cell? ⟨W1.heap.size, 1, none⟩ = some (.slice none 0 0) := by have := hF4.cell 2 rfl 1; simpa using this
           have f0 : w11.frozen? ⟨W1.heap.size, 0, none⟩ = false := by have := hF4.free 2 rfl 0; simpa using this
           have f1 : w11.frozen? ⟨W1.heap.size, 1, none⟩ = false := by have := hF4.free 2 rfl 1; simpa using this
           have uz : W1.heap.size < w11.heap.size := by have := (hF4.box 2 rfl).2.1; simpa using this
           have hG := (hF4.setBox 2 rfl 0 (.slice x1 m1 k1)).setBox 2 rfl 1 (.slice x2 m2 k2)
           have hG := hG.pick0 [2, 0, 1] (A' := [ebox W1.heap.size #[(.slice x1 m1 k1), (.slice x2 m2 k2)] 24, rowW 60 (.slice x1 m1 k1) words0, rowW 60 (.slice x2 m2 k2) rs]) (by decide) (by simp)
           clear hm11 hF4 hF2)
        | (go_at_call 72
           with_reducible refine (HC1.out _ (hB9.alloc hB9.size _)).mono ?_
           rintro e w11 ⟨v1, rfl, hm11⟩
           have hF5 := (hF1.alloc #[.slice none 0 0, .slice none 0 0] 24).callMem hm11
           have hB11 := (hB9.alloc hB9.size _).trans (hm11.below.mono (hB9.alloc hB9.size _).size)
           obtain ⟨x1, m1, k1, hv1⟩ := own_slice (hF5.row 0 rfl)
           obtain ⟨x2, m2, k2, hv2⟩ := own_slice (hF5.row 2 rfl)
           subst hv1 hv2
           have u0 : w11.cell? ⟨w9.heap.size, 0, none⟩ = some (.slice none 0 0) := by have := hF5.cell 1 rfl 0; simpa using this
           have u1 : w11.cell? ⟨w9.heap.size, 1, none⟩ = some (.slice none 0 0) := by have := hF5.cell 1 rfl 1; simpa using this
           have f0 : w11.frozen? ⟨w9.heap.size, 0, none⟩ = false := by have := hF5.free 1 rfl 0; simpa using this
           have f1 : w11.frozen? ⟨w9.heap.size, 1, none⟩ = false := by have := hF5.free 1 rfl 1; simpa using this
           have uz : w9.heap.size < w11.heap.size := by have := (hF5.box 1 rfl).2.1; simpa using this
           have hG := (hF5.setBox 1 rfl 0 (.slice x1 m1 k1)).setBox 1 rfl 1 (.slice x2 m2 k2)
           have hG := hG.pick0 [1, 0, 2] (A' := [ebox w9.heap.size #[(.slice x1 m1 k1), (.slice x2 m2 k2)] 24, rowW 60 (.slice x1 m1 k1) words0, rowW 60 (.slice x2 m2 k2) rs]) (by decide) (by simp)
           clear hm11 hF5 hF1)
        | (go_at_call 72
           with_reducible refine (HC1.out _ hB9).mono ?_
           rintro e w11 ⟨v1, rfl, hm11⟩
           have hF3 := hF1.callMem hm11
           have hB11 := hB9.trans (hm11.below.mono hB9.size)
           obtain ⟨x1, m1, k1, hv1⟩ := own_slice (hF3.row 0 rfl)
           obtain ⟨x2, m2, k2, hv2⟩ := own_slice (hF3.row 1 rfl)
           subst hv1 hv2
           have hG := (hF3.alloc #[(.slice x1 m1 k1), (.slice x2 m2 k2)] 24).pick0 [0, 1, 2] (A' := [ebox w11.heap.size #[(.slice x1 m1 k1), (.slice x2 m2 k2)] 24, rowW 60 (.slice x1 m1 k1) words0, rowW 60 (.slice x2 m2 k2) rs]) (by decide) (by simp)
           clear hm11 hF3 hF1)
        | (go_at_call 72
           with_reducible refine (HC2.out _ hB9).mono ?_
           rintro e w11 ⟨v2, rfl, hm11⟩
           have hF4 := hF2.callMem hm11
           have hB11 := hB9.trans (hm11.below.mono hB9.size)
           obtain ⟨x1, m1, k1, hv1⟩ := own_slice (hF4.row 0 rfl)
           obtain ⟨x2, m2, k2, hv2⟩ := own_slice (hF4.row 1 rfl)
           subst hv1 hv2
           have u0 : w11.cell? ⟨W1.heap.size, 0, none⟩ = some (.slice none 0 0) := by have := hF4.cell 2 rfl 0; simpa using this
           have u1 : w11.cell? ⟨W1.heap.size, 1, none⟩ = some (.slice none 0 0) := by have := hF4.cell 2 rfl 1; simpa using this
           have f0 : w11.frozen? ⟨W1.heap.size, 0, none⟩ = false := by have := hF4.free 2 rfl 0; simpa using this
           have f1 : w11.frozen? ⟨W1.heap.size, 1, none⟩ = false := by have := hF4.free 2 rfl 1; simpa using this
           have uz : W1.heap.size < w11.heap.size := by have := (hF4.box 2 rfl).2.1; simpa using this
           have hG := (hF4.setBox 2 rfl 0 (.slice x2 m2 k2)).setBox 2 rfl 1 (.slice x1 m1 k1)
           have hG := hG.pick0 [2, 1, 0] (A' := [ebox W1.heap.size #[(.slice x2 m2 k2), (.slice x1 m1 k1)] 24, rowW 60 (.slice x2 m2 k2) words0, rowW 60 (.slice x1 m1 k1) rs]) (by decide) (by simp)
           clear hm11 hF4 hF2)
        | (go_at_call 72
           with_reducible refine (HC2.out _ (hB9.alloc hB9.size _)).mono ?_
           rintro e w11 ⟨v2, rfl, hm11⟩
           have hF5 := (hF1.alloc #[.slice none 0 0, .slice none 0 0] 24).callMem hm11
           have hB11 := (hB9.alloc hB9.size _).trans (hm11.below.mono (hB9.alloc hB9.size _).size)
           obtain ⟨x1, m1, k1, hv1⟩ := own_slice (hF5.row 0 rfl)
           obtain ⟨x2, m2, k2, hv2⟩ := own_slice (hF5.row 2 rfl)
           subst hv1 hv2
           have u0 : w11.cell? ⟨w9.heap.size, 0, none⟩ = some (.slice none 0 0) := by have := hF5.cell 1 rfl 0; simpa using this
           have u1 : w11.cell? ⟨w9.heap.size, 1, none⟩ = some (.slice none 0 0) := by have := hF5.cell 1 rfl 1; simpa using this
           have f0 : w11.frozen? ⟨w9.heap.size, 0, none⟩ = false := by have := hF5.free 1 rfl 0; simpa using this
           have f1 : w11.frozen? ⟨w9.heap.size, 1, none⟩ = false := by have := hF5.free 1 rfl 1; simpa using this
           have uz : w9.heap.size < w11.heap.size := by have := (hF5.box 1 rfl).2.1; simpa using this
           have hG := (hF5.setBox 1 rfl 0 (.slice x2 m2 k2)).setBox 1 rfl 1 (.slice x1 m1 k1)
           have hG := hG.pick0 [1, 2, 0] (A' := [ebox w9.heap.size #[(.slice x2 m2 k2), (.slice x1 m1 k1)] 24, rowW 60 (.slice x2 m2 k2) words0, rowW 60 (.slice x1 m1 k1) rs]) (by decide) (by simp)
           clear hm11 hF5 hF1)
        | (go_at_call 72
           with_reducible refine (HC2.out _ hB9).mono ?_
           rintro e w11 ⟨v2, rfl, hm11⟩
           have hF3 := hF1.callMem hm11
           have hB11 := hB9.trans (hm11.below.mono hB9.size)
           obtain ⟨x1, m1, k1, hv1⟩ := own_slice (hF3.row 0 rfl)
           obtain ⟨x2, m2, k2, hv2⟩ := own_slice (hF3.row 1 rfl)
           subst hv1 hv2
           have hG := (hF3.alloc #[(.slice x2 m2 k2), (.slice x1 m1 k1)] 24).pick0 [0, 2, 1] (A' := [ebox w11.heap.size #[(.slice x2 m2 k2), (.slice x1 m1 k1)] 24, rowW 60 (.slice x2 m2 k2) words0, rowW 60 (.slice x1 m1 k1) rs]) (by decide) (by simp)
           clear hm11 hF3 hF1))
      all_goals
        go_wp2_with fail
        go_meet
        exact ⟨_, _, _, rfl, hG⟩
    | some ad =>
      clear hnone
      go_region_held3 (fun X => X.cell? ⟨w.heap.size, 0, none⟩ = some (.slice (some ad) nM cM) ∧ X.cell? ⟨w.heap.size, 1, none⟩ = some (.slice aR nR cR))
        (first | exact HX.out _ HBd.out | exact HX.out _ ((Below.refl W1.heap.size W1).alloc (Nat.le_refl _) _).drew | exact HX.out _ hB11 | exact HX.out _ hB9 | exact HX.out _ (hB11.alloc hB11.size _) | exact HX.out _ (hB9.alloc hB9.size _) | exact HX.out _ (HBd.out.alloc HBd.out.size _) | exact HX.out _ hG.below)
        (first
        | (go_at_call 72
           with_reducible refine (HC1.out _ HBd.out).mono ?_
           rintro e w9 ⟨v1, rfl, hm9⟩
           have hF1 := HMd.out.callMem hm9
           have hB9 := HBd.out.trans (hm9.below.mono HBd.out.size)
           clear hm9)
        | (go_at_call 72
           with_reducible refine (HC1.out _ ((Below.refl W1.heap.size W1).alloc (Nat.le_refl _) _).drew).mono ?_
           rintro e w9 ⟨v1, rfl, hm9⟩
           have hF2 := (((Mem.start W1).alloc #[.slice none 0 0, .slice none 0 0] 24).drew).callMem hm9
           have hB9 := (((Below.refl W1.heap.size W1).alloc (Nat.le_refl _) _).drew).trans (hm9.below.mono (((Below.refl W1.heap.size W1).alloc (Nat.le_refl _) _).drew).size)
           clear hm9)
        | (go_at_call 72
           with_reducible refine (HC2.out _ HBd.out).mono ?_
           rintro e w9 ⟨v2, rfl, hm9⟩
           have hF1 := HMd.out.callMem hm9
           have hB9 := HBd.out.trans (hm9.below.mono HBd.out.size)
           clear hm9)
        | (go_at_call 72
           with_reducible refine (HC2.out _ ((Below.refl W1.heap.size W1).alloc (Nat.le_refl _) _).drew).mono ?_
           rintro e w9 ⟨v2, rfl, hm9⟩
           have hF2 := (((Mem.start W1).alloc #[.slice none 0 0, .slice none 0 0] 24).drew).callMem hm9
           have hB9 := (((Below.refl W1.heap.size W1).alloc (Nat.le_refl _) _).drew).trans (hm9.below.mono (((Below.refl W1.heap.size W1).alloc (Nat.le_refl _) _).drew).size)
           clear hm9)
        | (go_at_call 72
           with_reducible refine (HC1.out _ hB9).mono ?_
           rintro e w11 ⟨v1, rfl, hm11⟩
           have hF4 := hF2.callMem hm11
           have hB11 := hB9.trans (hm11.below.mono hB9.size)
           obtain ⟨x1, m1, k1, hv1⟩ := own_slice (hF4.row 0 rfl)
           obtain ⟨x2, m2, k2, hv2⟩ := own_slice (hF4.row 1 rfl)
           subst hv1 hv2
           have u0 : w11.cell? ⟨W1.heap.size, 0, none⟩ = some (.slice none 0 0) := by have := hF4.cell 2 rfl 0; simpa using this
           have u1 : w11.cell? ⟨W1.heap.size, 1, none⟩ = some (.slice none 0 0) := by have := hF4.cell 2 rfl 1; simpa using this
           have f0 : w11.frozen? ⟨W1.heap.size, 0, none⟩ = false := by have := hF4.free 2 rfl 0; simpa using this
           have f1 : w11.frozen? ⟨W1.heap.size, 1, none⟩ = false := by have := hF4.free 2 rfl 1; simpa using this
           have uz : W1.heap.size < w11.heap.size := by have := (hF4.box 2 rfl).2.1; simpa using this
           have hG := (hF4.setBox 2 rfl 0 (.slice x1 m1 k1)).setBox 2 rfl 1 (.slice x2 m2 k2)
           have hG := hG.pick0 [2, 0, 1] (A' := [ebox W1.heap.size #[(.slice x1 m1 k1), (.slice x2 m2 k2)] 24, rowW 60 (.slice x1 m1 k1) words0, rowW 60 (.slice x2 m2 k2) rs]) (by decide) (by simp)
           clear hm11 hF4 hF2)
        | (go_at_call 72
           with_reducible refine (HC1.out _ (hB9.alloc hB9.size _)).mono ?_
           rintro e w11 ⟨v1, rfl, hm11⟩
           have hF5 := (hF1.alloc #[.slice none 0 0, .slice none 0 0] 24).callMem hm11
           have hB11 := (hB9.alloc hB9.size _).trans (hm11.below.mono (hB9.alloc hB9.size _).size)
           obtain ⟨x1, m1, k1, hv1⟩ := own_slice (hF5.row 0 rfl)
           obtain ⟨x2, m2, k2, hv2⟩ := own_slice (hF5.row 2 rfl)
           subst hv1 hv2
           have u0 : w11.cell? ⟨w9.heap.size, 0, none⟩ = some (.slice none 0 0) := by have := hF5.cell 1 rfl 0; simpa using this
           have u1 : w11.cell? ⟨w9.heap.size, 1, none⟩ = some (.slice none 0 0) := by have := hF5.cell 1 rfl 1; simpa using this
           have f0 : w11.frozen? ⟨w9.heap.size, 0, none⟩ = false := by have := hF5.free 1 rfl 0; simpa using this
           have f1 : w11.frozen? ⟨w9.heap.size, 1, none⟩ = false := by have := hF5.free 1 rfl 1; simpa using this
           have uz : w9.heap.size < w11.heap.size := by have := (hF5.box 1 rfl).2.1; simpa using this
           have hG := (hF5.setBox 1 rfl 0 (.slice x1 m1 k1)).setBox 1 rfl 1 (.slice x2 m2 k2)
           have hG := hG.pick0 [1, 0, 2] (A' := [ebox w9.heap.size #[(.slice x1 m1 k1), (.slice x2 m2 k2)] 24, rowW 60 (.slice x1 m1 k1) words0, rowW 60 (.slice x2 m2 k2) rs]) (by decide) (by simp)
           clear hm11 hF5 hF1)
        | (go_at_call 72
           with_reducible refine (HC1.out _ hB9).mono ?_
           rintro e w11 ⟨v1, rfl, hm11⟩
           have hF3 := hF1.callMem hm11
           have hB11 := hB9.trans (hm11.below.mono hB9.size)
           obtain ⟨x1, m1, k1, hv1⟩ := own_slice (hF3.row 0 rfl)
           obtain ⟨x2, m2, k2, hv2⟩ := own_slice (hF3.row 1 rfl)
           subst hv1 hv2
           have hG := (hF3.alloc #[(.slice x1 m1 k1), (.slice x2 m2 k2)] 24).pick0 [0, 1, 2] (A' := [ebox w11.heap.size #[(.slice x1 m1 k1), (.slice x2 m2 k2)] 24, rowW 60 (.slice x1 m1 k1) words0, rowW 60 (.slice x2 m2 k2) rs]) (by decide) (by simp)
           clear hm11 hF3 hF1)
        | (go_at_call 72
           with_reducible refine (HC2.out _ hB9).mono ?_
           rintro e w11 ⟨v2, rfl, hm11⟩
           have hF4 := hF2.callMem hm11
           have hB11 := hB9.trans (hm11.below.mono hB9.size)
           obtain ⟨x1, m1, k1, hv1⟩ := own_slice (hF4.row 0 rfl)
           obtain ⟨x2, m2, k2, hv2⟩ := own_slice (hF4.row 1 rfl)
           subst hv1 hv2
           have u0 : w11.cell? ⟨W1.heap.size, 0, none⟩ = some (.slice none 0 0) := by have := hF4.cell 2 rfl 0; simpa using this
           have u1 : w11.cell? ⟨W1.heap.size, 1, none⟩ = some (.slice none 0 0) := by have := hF4.cell 2 rfl 1; simpa using this
           have f0 : w11.frozen? ⟨W1.heap.size, 0, none⟩ = false := by have := hF4.free 2 rfl 0; simpa using this
           have f1 : w11.frozen? ⟨W1.heap.size, 1, none⟩ = false := by have := hF4.free 2 rfl 1; simpa using this
           have uz : W1.heap.size < w11.heap.size := by have := (hF4.box 2 rfl).2.1; simpa using this
           have hG := (hF4.setBox 2 rfl 0 (.slice x2 m2 k2)).setBox 2 rfl 1 (.slice x1 m1 k1)
           have hG := hG.pick0 [2, 1, 0] (A' := [ebox W1.heap.size #[(.slice x2 m2 k2), (.slice x1 m1 k1)] 24, rowW 60 (.slice x2 m2 k2) words0, rowW 60 (.slice x1 m1 k1) rs]) (by decide) (by simp)
           clear hm11 hF4 hF2)
        | (go_at_call 72
           with_reducible refine (HC2.out _ (hB9.alloc hB9.size _)).mono ?_
           rintro e w11 ⟨v2, rfl, hm11⟩
           have hF5 := (hF1.alloc #[.slice none 0 0, .slice none 0 0] 24).callMem hm11
           have hB11 := (hB9.alloc hB9.size _).trans (hm11.below.mono (hB9.alloc hB9.size _).size)
           obtain ⟨x1, m1, k1, hv1⟩ := own_slice (hF5.row 0 rfl)
           obtain ⟨x2, m2, k2, hv2⟩ := own_slice (hF5.row 2 rfl)
           subst hv1 hv2
           have u0 : w11.cell? ⟨w9.heap.size, 0, none⟩ = some (.slice none 0 0) := by have := hF5.cell 1 rfl 0; simpa using this
           have u1 : w11.cell? ⟨w9.heap.size, 1, none⟩ = some (.slice none 0 0) := by have := hF5.cell 1 rfl 1; simpa using this
           have f0 : w11.frozen? ⟨w9.heap.size, 0, none⟩ = false := by have := hF5.free 1 rfl 0; simpa using this
           have f1 : w11.frozen? ⟨w9.heap.size, 1, none⟩ = false := by have := hF5.free 1 rfl 1; simpa using this
           have uz : w9.heap.size < w11.heap.size := by have := (hF5.box 1 rfl).2.1; simpa using this
           have hG := (hF5.setBox 1 rfl 0 (.slice x2 m2 k2)).setBox 1 rfl 1 (.slice x1 m1 k1)
           have hG := hG.pick0 [1, 2, 0] (A' := [ebox w9.heap.size #[(.slice x2 m2 k2), (.slice x1 m1 k1)] 24, rowW 60 (.slice x2 m2 k2) words0, rowW 60 (.slice x1 m1 k1) rs]) (by decide) (by simp)
           clear hm11 hF5 hF1)
        | (go_at_call 72
           with_reducible refine (HC2.out _ hB9).mono ?_
           rintro e w11 ⟨v2, rfl, hm11⟩
           have hF3 := hF1.callMem hm11
           have hB11 := hB9.trans (hm11.below.mono hB9.size)
           obtain ⟨x1, m1, k1, hv1⟩ := own_slice (hF3.row 0 rfl)
           obtain ⟨x2, m2, k2, hv2⟩ := own_slice (hF3.row 1 rfl)
           subst hv1 hv2
           have hG := (hF3.alloc #[(.slice x2 m2 k2), (.slice x1 m1 k1)] 24).pick0 [0, 2, 1] (A' := [ebox w11.heap.size #[(.slice x2 m2 k2), (.slice x1 m1 k1)] 24, rowW 60 (.slice x2 m2 k2) words0, rowW 60 (.slice x1 m1 k1) rs]) (by decide) (by simp)
           clear hm11 hF3 hF1))
      all_goals
        go_wp2_with fail
        go_meet
        exact ⟨_, _, _, rfl, hG⟩
  case rest =>
    obtain ⟨bo, v1, v2, rfl, hMc⟩ := hcut
    obtain ⟨x1, m1, k1, rfl⟩ := own_slice (hMc.row 1 rfl)
    obtain ⟨x2, m2, k2, rfl⟩ := own_slice (hMc.row 2 rfl)
    have hcap1 := own_cap2 (hMc.row 1 rfl)
    rw [Hwl.out] at hcap1
    obtain ⟨hcap1, hm1⟩ := hcap1
    rw [hm1] at hMc
    clear hm1
    have hM2 := HM1.out.callMem hMc
    have d1 : wc.cell? ⟨w.heap.size + 1, 0, none⟩ = some (.map (some bm)) := by have := hM2.cell 4 rfl 0; simpa using this
    have dz : w.heap.size + 1 < wc.heap.size := (hM2.box 4 rfl).2.1
    have HM2 := Lib.hid hM2
    clear hMc hM2 HC1 HC2 HX HBd HMd HM1 HW1 q0 q1 hnone hN1 hN2 hN3 hcap
    go_wp2_with (at_range; refine Mem.wp_rangeG (M := mapII) rfl _ rfl HM2.out 6 rfl rfl ?_; intro w5 r cn mo ro hM9 hR9 hcnt hr9 hs9 hb9)
    go_frame
    have hM10 : Mem w0.heap.size w0 w5 ([efix r ro, ebox bo #[.slice x1 N k1, .slice x2 m2 k2] 24, rowW 60 (.slice x1 N k1) (flat (rawO os (hdM os F) (ids os A fun u => (f u).isSome))), rowW 60 (.slice x2 m2 k2) rs, ebox (w.heap.size + 1 + 1) #[.slice none 0 0, .slice none 0 0] 24, ebox (w.heap.size + 1) #[.map (some bm)] 75, ebox w.heap.size #[.slice aM nM cM, .slice aR nR cR] 24, efix bm mo] ++ L) := by
      rw [← HI0.out]; exact hM9
    have HM10 := Lib.hid hM10
    have HR9 := Lib.hid hR9
    clear hM9 hM10 hR9 hr9 hb9 HM2 d1 dz
    go_loopg [] cn (fun gk wr => ∃ (left : Int → Bool) (ro : Obj), Ranging mapII bm r cnt f left gk mo ro ∧ Mem w0.heap.size w0 wr ([efix r ro, ebox bo #[.slice x1 N k1, .slice x2 m2 k2] 24, rowW 60 (.slice x1 N k1) (flat (rawO os (hdM os F) (ids os A left))), rowW 60 (.slice x2 m2 k2) rs, ebox (w.heap.size + 1 + 1) #[.slice none 0 0, .slice none 0 0] 24, ebox (w.heap.size + 1) #[.map (some bm)] 75, ebox w.heap.size #[.slice aM nM cM, .slice aR nR cR] 24, efix bm mo] ++ L))
    case atStart => exact ⟨_, _, HR9.out, HM10.out⟩
    case round =>
      clear HM10 HR9
      obtain ⟨left, ro5, hR, hM⟩ := hrel
      have HM := Lib.hid hM
      have HR := Lib.hid hR
      have hfe := fun u v => went_entry (os := os) (A := A) HD.out.2.2.2.2.2.1.nodup (u := u) (v := v)
      rw [← HD.out.2.2.2.2.2.2.2.2.2] at hfe
      have Hfe := Lib.hid hfe
      have k0 : wr.cell? ⟨bo, 0, none⟩ = some (.slice x1 N k1) := by have := hM.cell 1 rfl 0; simpa using this
      have kz : bo < wr.heap.size := (hM.box 1 rfl).2.1
      clear hM hR hfe
      go_wp2_with (first
        | (at_next; refine Mem.wp_nextII rfl _ rfl HM.out 0 7 rfl rfl HR.out rfl ?_ ?_; (focus (intro hc0 hl0)); rotate_left; (focus (intro x v w6 c6 ro6 hx6 hl6 hf6 hM11 hR11 hlt6 hs6 hen6; obtain ⟨ke, ie, hk1, hi1, hne, rfl, rfl⟩ := Hfe.out _ _ hf6))))
      · clear k0 kz HM HR
        obtain ⟨hS, h64, hw64, hz, hz4, hK, hAl, hws, hNz, hf⟩ := HD.out
        have hM12 : Mem w0.heap.size w0 w6 ([efix r ro6, ebox bo #[.slice x1 N k1, .slice x2 m2 k2] 24, rowW 60 (.slice x1 N k1) (flat (rawO os (hdM os F) (ids os A left))), rowW 60 (.slice x2 m2 k2) rs, ebox (w.heap.size + 1 + 1) #[.slice none 0 0, .slice none 0 0] 24, ebox (w.heap.size + 1) #[.map (some bm)] 75, ebox w.heap.size #[.slice aM nM cM, .slice aR nR cR] 24, efix bm mo] ++ L) := hM11
        have hkl := (List.getElem?_eq_some_iff.1 hk1).1
        have hpvz := hz.place (show ke ≤ os.length by omega)
        have hstep := ids_step (left := left) hK.nodup hK.rng hk1
        have hrs2 := raw_set hz (hdM os F) (ids_rng hK.rng hAl left) (k := ke) (i := ie) (by rw [ids_len]; exact hkl) hi1
        rw [← hstep, ← hpvz] at hrs2
        have hNle : ke * z + z ≤ N := by
          rw [hNz, ← Nat.succ_mul]; exact Nat.mul_le_mul_right z hkl
        rw [← hpvz] at hNle
        have hsz := hz ie hi1
        unfold szO at hsz
        have hgd := hd_good hS.laid hi1
        have hp := hdS_parts hgd.1 (decide ((ie : Int) ∈ F))
        have hS2 := mkO_sound hS F
        have hhead := mkO_head os F hi1
        have hfld : ∀ j x, (obj os ie).2[j]? = some x → wsM[place os ie + 1 + j]? = some x := fun j x hx => by rw [hws]; exact mkO_field os F hi1 hx
        have hfit := hS2.laid.fit (allO_get os (hdM os F) hi1)
        rw [show place (mkO os F) ie = place os ie from allO_place os _ (Nat.le_of_lt hi1), ← hws] at hfit
        rw [← hws] at hhead
        obtain ⟨pv, hpv⟩ : ∃ pv, place os ke = pv := ⟨_, rfl⟩
        obtain ⟨pu, hpu⟩ : ∃ pu, place os ie = pu := ⟨_, rfl⟩
        obtain ⟨m', hm'⟩ : ∃ m', (obj os ie).2.length = m' := ⟨_, rfl⟩
        obtain ⟨hdr, hhdr⟩ : ∃ hdr, hdM os F ie = hdr := ⟨_, rfl⟩
        rw [hpv] at hNle hrs2
        rw [hpu] at hhead hfld hfit
        rw [hm'] at hsz
        rw [hhdr] at hhead hrs2
        simp only [hm'] at hfit
        obtain ⟨af, cf, _, hQ⟩ := aFields_fix w0 _ wsM (obj os ie).2 pu m' hdr Hmw.out hhead (by rw [← hhdr]; exact hp.2.2.2.1) (by rw [← hhdr]; unfold hdM; rw [hp.1, ← hm', hgd.2.1]) hm' hfld hfit hsm
        have hcs : (hdr :: (obj os ie).2).length = z := by rw [List.length_cons, hm']; omega
        have hsrcw : ∀ j x, (hdr :: (obj os ie).2)[j]? = some x → wsM[pu + j]? = some x := fun j x hx => by
          cases j with
          | zero => simp at hx; subst hx; exact hhead
          | succ j => rw [show pu + (j + 1) = pu + 1 + j by omega]; exact hfld j x (by simpa using hx)
        obtain ⟨wd, hwd⟩ := get_some (flat (rawO os (hdM os F) (ids os A left))) pv (by rw [HlenI.out]; omega)
        obtain ⟨g1, cp1, hv1, _, _, _⟩ := hM12.wordsAt 2 rfl hwd
        rw [HlenI.out] at hv1
        injection hv1 with hv1 hv2 hv3
        obtain ⟨gM, oM, cM', hvM, _, _, _, _⟩ := Hmw.out.at hM12.below hhead
        injection hvM with hvM1 hvM2 hvM3
        have hcM := Hmw.out.cap
        subst hv1 hv3 hvM1 hvM3
        have hsrc : ∀ X, Below w0.heap.size w0 X → ∀ (j : Nat) (x : Int), (hdr :: (obj os ie).2)[j]? = some x → X.cell? ((⟨gM, oM + pu, none⟩ : Addr).add j) = some (.int .u64 x) := fun X hX j x hx => by
          obtain ⟨b', o', c', hv, _, _, d, _⟩ := Hmw.out.at hX (hsrcw j x hx)
          cases hv
          rw [show oM + (pu + j) = oM + pu + j by omega] at d
          unfold Addr.add
          split
          · rename_i h0
            subst h0
            exact d
          · exact d
        obtain ⟨lo1, hlo1⟩ : ∃ lo1, pu + 1 = lo1 := ⟨_, rfl⟩
        obtain ⟨hi, hhi⟩ : ∃ hi, lo1 + m' = hi := ⟨_, rfl⟩
        have e1 : IntKind.i64.wrap ((pu : Int) + 1) = (lo1 : Int) := by rw [IntWalk.i64_in _ (by omega)]; omega
        have e2 : IntKind.i64.wrap ((lo1 : Int) + m') = (hi : Int) := by rw [IntWalk.i64_in _ (by omega)]; omega
        have e3 : pu ≤ hi := by omega
        have e4 : hi ≤ cM := by omega
        have e5 : (pu : Int) ≤ hi := by omega
        have e6 : (hi : Int) ≤ cM := by omega
        have e7 : pv ≤ N := by omega
        have e8 : N ≤ k1 := hcap1
        have e9 : (pv : Int) ≤ N := by omega
        have e10 : (N : Int) ≤ k1 := by omega
        have e11 : ¬ cM = pu := by omega
        have e12 : ¬ k1 = pv := by omega
        have e13 : z = Nat.min (hi - pu) (N - pv) := by show z = min (hi - pu) (N - pv); omega
        have HX2 : Hid (∀ X, Below w6.heap.size w6 X → X.cell? ⟨bo, 0, none⟩ = some (.slice (some ⟨g1, 0, none⟩) N k1) ∧ X.cell? ⟨w.heap.size, 0, none⟩ = some (.slice (some ⟨gM, oM, none⟩) nM cM)) := Lib.hid (fun X hX => by
          have hMX := hM12.call hX
          refine ⟨?_, ?_⟩
          · have := hMX.cell 1 rfl 0; simpa using this
          · have := hMX.cell 6 rfl 0; simpa using this)
        have HQ := Lib.hid hQ
        have Hsrc := Lib.hid hsrc
        have Hcs := Lib.hid hcs
        have Hset := Lib.hid hrs2
        have HM12 := Lib.hid hM12
        have HR11 := Lib.hid hR11
        have HBd := Lib.hid ((Below.refl w6.heap.size w6).drew)
        have Hpv := Lib.hid hpv
        have Hpu := Lib.hid hpu
        clear hS h64 hw64 hz hK hAl hws hNz hf hM11 hM12 hkl hpvz hstep hrs2 hsz hgd hp hS2 hhead hfld hfit hQ hcs hsrcw hwd hsrc hR11 hf6 hl6 hx6 hk1 hpv hpu hlo1 hhi hvM2 hv2
        obtain ⟨q0, q1⟩ := HX2.out _ (Below.refl _ _)
        rw [Hpv.out, Hpu.out]
        go_region_held3 (fun X => X.cell? ⟨bo, 0, none⟩ = some (.slice (some ⟨g1, 0, none⟩) N k1) ∧ X.cell? ⟨w.heap.size, 0, none⟩ = some (.slice (some ⟨gM, oM, none⟩) nM cM))
          (first | exact HX2.out _ HBd.out | exact HX2.out _ hB8 | exact ⟨by have := hM9.cell 1 rfl 0; simpa using this, by have := hM9.cell 6 rfl 0; simpa using this⟩)
          (first
            | (go_at_call 49
               with_reducible refine (HQ.out _ (HM12.out.call HBd.out).below).mono ?_
               rintro e w8 ⟨rfl, hb8⟩
               have hB8 := HBd.out.trans (hb8.mono HBd.out.size)
               have hM8 := HM12.out.call hB8
               clear hb8)
            | (refine Mem.step_copyW elemWords rfl (.tmp 40) (.tmp 52) rfl hM8 2 rfl pv (N - pv) (k1 - pv) ⟨gM, oM + pu, none⟩ (hi - pu) (cM - pu) rfl rfl _ z Hcs.out e13 (Hsrc.out _ hM8.below) (by rw [HlenI.out]; omega) ?_
               intro w9 hM9 hs9))
        have hM10 : Mem w0.heap.size w0 w9 ([efix r ro6, ebox bo #[.slice (some ⟨g1, 0, none⟩) N k1, .slice x2 m2 k2] 24, rowW 60 (.slice (some ⟨g1, 0, none⟩) N k1) (flat (rawO os (hdM os F) (ids os A fun y => left y && !decide (y = (place os ie : Nat))))), rowW 60 (.slice x2 m2 k2) rs, ebox (w.heap.size + 1 + 1) #[.slice none 0 0, .slice none 0 0] 24, ebox (w.heap.size + 1) #[.map (some bm)] 75, ebox w.heap.size #[.slice (some ⟨gM, oM, none⟩) nM cM, .slice aR nR cR] 24, efix bm mo] ++ L) := by
          rw [← Hset.out]; exact hM9
        have HM10 := Lib.hid hM10
        clear hM8 hM9 hM10 hB8 HX2 HQ Hsrc HM12 q0 q1 HBd
        go_wp2
        go_roundg c6
        case rel => exact ⟨_, ro6, HR11.out, HM10.out⟩
        case measure => exact hlt6
      · clear k0 kz
        obtain ⟨hS, h64, hw64, hz, hz4, hK, hAl, hws, hNz, hf⟩ := HD.out
        have hids : ids os A left = A := ids_end os fun x hx => hl0 ((place os x.toNat : Nat) : Int) (by
          have h1 := hK.rng x hx
          have h2 := place_mono (os := os) (show x.toNat ≤ os.length by omega)
          rw [place_all, ← hS.laid.1] at h2
          have h3 := hS.words
          unfold i64ok; omega)
        have hM := HM.out.rangeEnd 7 rfl HR.out
        rw [hids] at hM
        obtain ⟨mA, hmA⟩ : ∃ mA, A.length = mA := ⟨_, rfl⟩
        obtain ⟨b, hb⟩ : ∃ b, flat (rawO os (hdM os F) A) = b := ⟨_, rfl⟩
        obtain ⟨a, ha⟩ : ∃ a, flat (relO os A (hdD os)) = a := ⟨_, rfl⟩
        have hbl : b.length = N := by have := HlenI.out left; rwa [hids, hb] at this
        have hal : a.length = N := by rw [← ha, rel_len, hz.placeF hK.rng (Nat.le_refl _), hNz]
        have hLd := raw_laid hS hK.rng F
        have hb64 := raw_64 hS hw64 hK.rng F
        have ha64 := (rel_w64 hS h64 hK (hd := hdD os) (rise_64 hS hK.rng)).1
        rw [hb] at hM hLd hb64
        rw [ha] at ha64
        have hN256 : N ≤ 256 := by
          have h1 := placeF_le hK.nodup hK.rng A.length
          rw [← hS.laid.1, hz.placeF hK.rng (Nat.le_refl _), ← hNz] at h1
          have h2 := hS.words
          omega
        have hmA256 : mA ≤ 256 := by
          have h2 := Nat.le_mul_of_pos_right A.length (show 0 < z by omega)
          omega
        have hM3 : Mem w0.heap.size w0 wr ([ebox bo #[.slice x1 N k1, .slice x2 m2 k2] 24, rowW 60 (.slice x1 N k1) (half a b 0), rowW 60 (.slice x2 m2 k2) rs, ebox (w.heap.size + 1 + 1) #[.slice none 0 0, .slice none 0 0] 24, ebox (w.heap.size + 1) #[.map (some bm)] 75, ebox w.heap.size #[.slice aM nM cM, .slice aR nR cR] 24, gmap mapII bm cnt f] ++ L) := by
          rw [half_zero]
          exact Mem.drop hM (List.sublist_cons_self _ _)
        have hIb := isW_of_own (hM3.ownW 1 rfl) (by rw [half_zero]; omega) (by rw [half_zero]; exact hb64)
        rw [half_zero] at hIb
        have HBg := Lib.hid (begins_any (.slice x1 N k1) (.slice none 0 0) b (rawO os (hdM os F) A) wr hIb ⟨_, _, _, rfl⟩ hLd (by omega))
        have k0 : wr.cell? ⟨bo, 0, none⟩ = some (.slice x1 N k1) := by have := hM3.cell 0 rfl 0; simpa using this
        have kz : bo < wr.heap.size := (hM3.box 0 rfl).2.1
        have hst : (rawO os (hdM os F) A).length = mA := by unfold rawO; rw [List.length_map, hmA]
        have hNm : N = mA * z := by rw [← hmA]; exact hNz
        have HM3 := Lib.hid hM3
        have HA := Lib.hid (And.intro hmA (And.intro hb (And.intro ha (And.intro hbl (And.intro hal (And.intro hst (And.intro hNm (And.intro ha64 hb64))))))))
        clear hS h64 hw64 hz hz4 hK hAl hws hNz hf hids hM hM3 hIb hLd hmA hb ha hbl hal hb64 ha64 hst hNm HM HR Hfe hc0 hl0
        go_wp2_with fail
        refine HBg.out.mono ?_
        rintro e w6 ⟨rv, rfl, hM6⟩
        have hM7 := HM3.out.callMem hM6
        obtain ⟨ab, cb, rfl⟩ := own_row (hM7.row 0 rfl)
        have hsl : (starts (rawO os (hdM os F) A)).length = mA := by rw [starts_len, HA.out.2.2.2.2.2.1]
        rw [hsl] at hM7
        have HM7 := Lib.hid hM7
        have Hsl := Lib.hid hsl
        rw [hsl]
        clear hM6 hM7 HBg k0 kz HM3 hsl
        go_wp2
        go_loopw [59] (fun i wr => ∃ k : Nat, k ≤ mA ∧ i = .int .i64 k ∧ Mem w0.heap.size w0 wr ([rowI 3 (.slice ab mA cb) (starts (rawO os (hdM os F) A)), ebox bo #[.slice x1 N k1, .slice x2 m2 k2] 24, rowW 60 (.slice x1 N k1) (half a b (k * z)), rowW 60 (.slice x2 m2 k2) rs, ebox (w.heap.size + 1 + 1) #[.slice none 0 0, .slice none 0 0] 24, ebox (w.heap.size + 1) #[.map (some bm)] 75, ebox w.heap.size #[.slice aM nM cM, .slice aR nR cR] 24, gmap mapII bm cnt f] ++ L)) (fun i _ => mA - (intOf i).toNat)
        case atStart => exact ⟨0, Nat.zero_le _, rfl, by rw [Nat.zero_mul]; exact HM7.out⟩
        case round =>
          clear HM7
          obtain ⟨k, hk, rfl, hM⟩ := hrel
          by_cases hlt : k < mA
          · obtain ⟨hS, h64, hw64, hz, hz4, hK, hAl, hws, hNz, hf⟩ := HD.out
            obtain ⟨hmA, hb, ha, hbl, hal, hst, hNm, ha64, hb64⟩ := HA.out
            obtain ⟨i, hi⟩ := get_some A k (by omega)
            have hir := hK.rng i (List.mem_of_getElem? hi)
            obtain ⟨iN, rfl⟩ : ∃ iN : Nat, i = iN := ⟨i.toNat, by omega⟩
            have hil : iN < os.length := by omega
            obtain ⟨hb1, ha1, hfl⟩ := both_at hz hK.rng (hdM os F) (hdD os) hi
            rw [hb] at hb1 hfl
            rw [ha] at ha1 hfl
            have hg := hd_good hS.laid hil
            have hp := hdS_parts hg.1 (decide ((iN : Int) ∈ F))
            have hq := hdS_parts hg.1 false
            have hsz := hz iN hil
            unfold szO at hsz
            have hNle : k * z + z ≤ N := by rw [hNm, ← Nat.succ_mul]; exact Nat.mul_le_mul_right z hlt
            have hnext : (k + 1) * z = k * z + z := Nat.succ_mul k z
            obtain ⟨p, hpe⟩ : ∃ p, k * z = p := ⟨_, rfl⟩
            rw [hpe] at hb1 ha1 hfl hM hNle hnext
            obtain ⟨m', hm'⟩ : ∃ m', (obj os iN).2.length = m' := ⟨_, rfl⟩
            obtain ⟨hdr, hhdr⟩ : ∃ hdr, hdM os F iN = hdr := ⟨_, rfl⟩
            obtain ⟨hdn, hhdn⟩ : ∃ hdn, hdD os iN = hdn := ⟨_, rfl⟩
            have hdr1 : isHead hdr := by rw [← hhdr]; exact hp.2.2.2.1
            have hdr2 : hdr % 256 = m' := by rw [← hhdr]; unfold hdM; rw [hp.1, ← hm', hg.2.1]
            have hdn1 : isHead hdn := by rw [← hhdn]; exact hq.2.2.2.1
            have hdn2 : hdn % 256 = m' := by rw [← hhdn]; unfold hdD; rw [hq.1, ← hm', hg.2.1]
            obtain ⟨ag, hag⟩ : ∃ ag, hdr / 512 % 8 = ag := ⟨_, rfl⟩
            have hagr : 0 ≤ ag ∧ ag ≤ 7 := by omega
            have hdn3 : headW m' ag false = hdn := by
              rw [← hhdn, ← hag, ← hhdr]
              unfold hdD hdM
              rw [hp.2.2.1]
              unfold hdS
              rw [← hg.2.1, hm']
            rw [hhdr] at hb1
            rw [hhdn] at ha1
            rw [hm'] at hsz
            have hm4 : m' ≤ 4 := by rw [← hm']; exact hg.2.2
            obtain ⟨g1, cp1, hv1, hgz, dh, fh⟩ := hM.wordsAt 2 rfl (show (half a b p)[p]? = some hdr by rw [half_get (by omega) (Nat.le_refl _)]; exact hb1)
            rw [half_len (by omega) p (by omega), hbl] at hv1
            injection hv1 with hv1 hv2 hv3
            subst hv1 hv3
            obtain ⟨gS, cS, hvS, _, _, hcS, _⟩ := hM.intsAt 0 rfl (by intro h0; have h1 := Hsl.out; rw [h0] at h1; simp at h1; omega)
            rw [Hsl.out] at hvS
            injection hvS with hvS1 hvS2 hvS3
            subst hvS1 hvS3
            have dS := hcS k _ (show (starts (rawO os (hdM os F) A))[k]? = some (p : Int) by rw [starts_get (by rw [hst]; exact hlt), raw_place, hz.placeF hK.rng (by omega), hpe])
            have zS : gS < wr.heap.size := cell_ltQ dS
            have k0 : wr.cell? ⟨bo, 0, none⟩ = some (.slice (some ⟨g1, 0, none⟩) N k1) := by have := hM.cell 1 rfl 0; simpa using this
            have kz : bo < wr.heap.size := (hM.box 1 rfl).2.1
            have hdr64 : w64 hdr := by rw [← hhdr]; exact hp.2.2.2.2
            have hget : (half a b p)[p]? = some hdr := by rw [half_get (by omega) (Nat.le_refl _)]; exact hb1
            have hU := unhead_yes hdr wr hdr64.1 hdr64.2 hdr1
            obtain ⟨mk, hmk⟩ : ∃ mk, (hdr / 256 % 2 == 1) = mk := ⟨_, rfl⟩
            rw [hdr2, hmk, hag] at hU
            have hHd := fun X => head_ok m' ag false X (by omega) (by omega) hagr.1 hagr.2
            rw [hdn3] at hHd
            have hset1 := half_set (a := a) (b := b) (by omega) ha1
            have hold1 := half_old (a := a) (b := b) (s := p + 1) (t := p) (by omega) (by omega)
            rw [ha1] at hold1
            have hl0' := half_len (a := a) (b := b) (by omega) p (by omega)
            rw [hbl] at hl0'
            have HO := Lib.hid (And.intro hset1 (And.intro hold1 (And.intro hl0' (And.intro hfl (And.intro hnext (And.intro hm' (And.intro hdn1 (And.intro hdn2 (And.intro hi hget)))))))))
            have HU := Lib.hid hU
            have HHd := Lib.hid hHd
            have HM := Lib.hid hM
            have hpN : p < N := by omega
            have hpN2 : (p : Int) < N := by omega
            have hkm : (k : Int) < mA := by omega
            have hp00 : (0 : Int) ≤ (p : Int) := by omega
            clear hS h64 hw64 hz hz4 hK hAl hws hNz hf hmA hb ha hbl hal hst hNm ha64 hb64 hi hir hil hb1 ha1 hfl hg hp hq hpe hm' hhdr hhdn hdr1 hdr2 hdn1 hdn2 hag hagr hdn3 hU hHd hset1 hold1 hl0' hM hcS hdr64 hmk hnext hget
            go_wp2_with fail
            refine HU.out.mono ?_
            rintro e w2 ⟨rfl, hb2⟩
            have hM2 := (HM.out.call hb2).alloc #[.int .i64 m', .bool mk, .int .i64 ag] 50
            obtain ⟨bh, hbh⟩ : ∃ bh, w2.heap.size = bh := ⟨_, rfl⟩
            obtain ⟨W2, hW2⟩ : ∃ W2, w2.alloc (.cells #[.int .i64 m', .bool mk, .int .i64 ag] 50) = W2 := ⟨_, rfl⟩
            rw [hbh, hW2] at hM2
            have HX3 : Hid (∀ X, Below W2.heap.size W2 X → X.cell? ⟨bo, 0, none⟩ = some (.slice (some ⟨g1, 0, none⟩) N k1) ∧ X.cell? ⟨bh, 0, none⟩ = some (.int .i64 m') ∧ X.cell? ⟨bh, 2, none⟩ = some (.int .i64 ag)) := Lib.hid (fun X hX => by
              have hMX := hM2.call hX
              refine ⟨?_, ?_, ?_⟩
              · have := hMX.cell 2 rfl 0; simpa using this
              · have := hMX.cell 0 rfl 0; simpa using this
              · have := hMX.cell 0 rfl 2; simpa using this)
            have HM2 := Lib.hid hM2
            have HW2 := Lib.hid hW2
            have Hbh := Lib.hid hbh
            have HBd := Lib.hid ((Below.refl W2.heap.size W2).drew)
            clear hb2 hM2 hW2 hbh HU HM dh fh hgz dS zS k0 kz
            go_wp2
            rw [Hbh.out, HW2.out]
            obtain ⟨q0, q1, q2⟩ := HX3.out _ (Below.refl _ _)
            rw [qIx1_eq]
            go_region_held3 (fun X => X.cell? ⟨bo, 0, none⟩ = some (.slice (some ⟨g1, 0, none⟩) N k1) ∧ X.cell? ⟨bh, 0, none⟩ = some (.int .i64 m') ∧ X.cell? ⟨bh, 2, none⟩ = some (.int .i64 ag))
              (first | exact HX3.out _ HBd.out | exact HX3.out _ hb8 | exact ⟨by have := HM9.out.cell 2 rfl 0; simpa using this, by have := HM9.out.cell 0 rfl 0; simpa using this, by have := HM9.out.cell 0 rfl 2; simpa using this⟩)
              (first
                | (go_at_call 58
                   refine (HHd.out _).mono ?_
                   rintro e w8 ⟨rfl, hb8'⟩
                   have hb8 := HBd.out.trans (hb8'.mono HBd.out.size)
                   have hM8 := HM2.out.call hb8
                   obtain ⟨gg, cc, hvv, hgz, dh, fh⟩ := hM8.wordsAt 3 rfl HO.out.2.2.2.2.2.2.2.2.2
                   rw [HO.out.2.2.1] at hvv
                   cases hvv
                   have HM9 := Lib.hid (hM8.setW 3 rfl HO.out.2.2.1 p hdn)
                   clear hb8' hM8))
            have hM9 := HM9.out
            obtain ⟨W9, hW9⟩ : ∃ W9, w8.setCell ⟨g1, p, none⟩ (.int .u64 hdn) = W9 := ⟨_, rfl⟩
            rw [hW9] at hM9 ⊢
            have hM9' : Mem w0.heap.size w0 W9 ([ebox bh #[.int .i64 m', .bool mk, .int .i64 ag] 50, rowI 3 (.slice (some ⟨gS, 0, none⟩) mA cb) (starts (rawO os (hdM os F) A)), ebox bo #[.slice (some ⟨g1, 0, none⟩) N k1, .slice x2 m2 k2] 24, rowW 60 (.slice (some ⟨g1, 0, none⟩) N k1) (half a b (p + 1)), rowW 60 (.slice x2 m2 k2) rs, ebox (w.heap.size + 1 + 1) #[.slice none 0 0, .slice none 0 0] 24, ebox (w.heap.size + 1) #[.map (some bm)] 75, ebox w.heap.size #[.slice aM nM cM, .slice aR nR cR] 24, gmap mapII bm cnt f] ++ L) := by
              rw [← HO.out.1]; exact hM9
            have hI9 := isW_of_own (hM9'.ownW 3 rfl) (by rw [half_len (by have := HA.out; omega) _ (by have := HA.out; omega)]; have := HA.out; omega) (half_64 HA.out.2.2.2.2.2.2.2.1 HA.out.2.2.2.2.2.2.2.2 _)
            obtain ⟨af, cf, haf, hFl⟩ := aFields_at W9 g1 0 N k1 (half a b (p + 1)) (obj os iN).2 p m' hdn hI9 HO.out.2.1 HO.out.2.2.2.2.2.2.1 HO.out.2.2.2.2.2.2.2.1 HO.out.2.2.2.2.2.1 (by rw [half_len (by have := HA.out; omega) _ (by have := HA.out; omega)]; have := HA.out; omega) (by rw [half_len (by have := HA.out; omega) _ (by have := HA.out; omega)]; have := HA.out; omega)
            rw [Nat.zero_add] at haf
            have k0 : W9.cell? ⟨bo, 0, none⟩ = some (.slice (some ⟨g1, 0, none⟩) N k1) := by have := hM9'.cell 2 rfl 0; simpa using this
            have kz : bo < W9.heap.size := (hM9'.box 2 rfl).2.1
            have HFl := Lib.hid hFl
            have Haf := Lib.hid haf
            have HM9b := Lib.hid (hM9'.drop (List.sublist_cons_self _ _))
            clear hM9 hM9' hI9 haf hFl HM9 hW9 HX3 HM2 HW2 Hbh HBd HHd hb8 hgz dh fh q0 q1 q2
            go_wp2_with fail
            refine HFl.out.mono ?_
            rintro e w10 ⟨rfl, hb10⟩
            have HM10 := Lib.hid (HM9b.out.call hb10)
            clear hb10 HM9b HFl k0 kz
            go_wp2
            go_loopw [91] (fun jv wr => ∃ j : Nat, j ≤ m' ∧ jv = .int .i64 j ∧ Mem w0.heap.size w0 wr ([rowI 3 (.slice (some ⟨gS, 0, none⟩) mA cb) (starts (rawO os (hdM os F) A)), ebox bo #[.slice (some ⟨g1, 0, none⟩) N k1, .slice x2 m2 k2] 24, rowW 60 (.slice (some ⟨g1, 0, none⟩) N k1) (half a b (p + 1 + j)), rowW 60 (.slice x2 m2 k2) rs, ebox (w.heap.size + 1 + 1) #[.slice none 0 0, .slice none 0 0] 24, ebox (w.heap.size + 1) #[.map (some bm)] 75, ebox w.heap.size #[.slice aM nM cM, .slice aR nR cR] 24, gmap mapII bm cnt f] ++ L)) (fun jv _ => m' - (intOf jv).toNat)
            case atStart => exact ⟨0, Nat.zero_le _, rfl, HM10.out⟩
            case round =>
              clear HM10
              obtain ⟨j, hj, rfl, hM⟩ := hrel
              by_cases hjm : j < m'
              · obtain ⟨hS, h64, hw64, hz, hz4, hK, hAl, hws, hNz, hf⟩ := HD.out
                obtain ⟨x, hx⟩ := get_some (obj os iN).2 j (by rw [HO.out.2.2.2.2.2.1]; exact hjm)
                have hiA : (iN : Int) ∈ A := List.mem_of_getElem? HO.out.2.2.2.2.2.2.2.2.1
                have hxi := ref_in hS hK (x := x) (.inr ⟨_, hiA, List.mem_of_getElem? hx⟩)
                have hx64 : w64 x := h64 x (List.mem_append_right _ (List.mem_flatMap.2 ⟨_, List.mem_of_getElem? (obj_get (hK.rng _ hiA)), List.mem_of_getElem? hx⟩))
                obtain ⟨hbx, hax⟩ := HO.out.2.2.2.1 j x hx
                have hpj : p + 1 + j < N := by omega
                obtain ⟨gg, cc, hvv, hgz, dx, fx⟩ := hM.wordsAt 2 rfl (show (half a b (p + 1 + j))[p + 1 + j]? = some x by rw [half_get (by have := HA.out; omega) (Nat.le_refl _)]; exact hbx)
                have hln := half_len (a := a) (b := b) (by have := HA.out; omega) (p + 1 + j) (by have := HA.out; omega)
                rw [hln, HA.out.2.2.2.1] at hvv
                injection hvv with hvv1 hvv2 hvv3
                injection hvv1 with hvv1
                injection hvv1 with hvv1
                subst hvv1
                obtain rfl : af = some ⟨g1, p + 1, none⟩ := Haf.out.resolve_left (by omega)
                have c4 : wr.cell? ⟨w.heap.size + 1, 0, none⟩ = some (.map (some bm)) := by have := hM.cell 5 rfl 0; simpa using this
                have z4 : w.heap.size + 1 < wr.heap.size := (hM.box 5 rfl).2.1
                have hTu := qturn_any wr (w.heap.size + 1) bm os z A x hz (by rw [← hS.laid.1]; exact hS.words) hK.nodup hK.rng hAl hx64 hxi (fun t ht => by
                  have h1 := place_mono (os := os) (Nat.le_of_lt ht)
                  rw [place_all, ← hS.laid.1] at h1
                  have h2 := hS.words
                  have := (gmap_look (M := mapII) (hM.get 7 rfl) (x := (place os t : Int)) (by show i64ok _; unfold i64ok; omega)).2
                  rw [hf] at this
                  exact this) c4 z4
                have hset := half_set (a := a) (b := b) (by have := HA.out; omega) hax
                obtain ⟨y, hy⟩ : ∃ y, mvW os A x = y := ⟨_, rfl⟩
                rw [hy] at hTu hset
                have HTu := Lib.hid hTu
                have Hset := Lib.hid hset
                have Hln := Lib.hid (hln.trans HA.out.2.2.2.1)
                have HM := Lib.hid hM
                have hjm2 : (j : Int) < m' := by omega
                have hj0 : (0 : Int) ≤ (j : Int) := by omega
                clear hS h64 hw64 hz hz4 hK hAl hws hNz hf hx hiA hxi hx64 hbx hax hln hvv2 hvv3 hTu hset hy hM
                go_wp2_with fail
                refine HTu.out.mono ?_
                rintro e w12 ⟨rfl, rfl⟩
                have hM12 := HM.out.setW 2 rfl Hln.out (p + 1 + j) y
                rw [Hset.out] at hM12
                have HM12 := Lib.hid hM12
                clear hM12 HTu HM
                go_wp2
                go_roundw
                case rel => exact ⟨j + 1, by omega, by go_num, HM12.out⟩
                case measure => simp [intOf]; omega
              · obtain rfl : j = m' := by omega
                have hM2 := hM
                rw [show p + 1 + j = (k + 1) * z by rw [HO.out.2.2.2.2.1]; omega] at hM2
                have HM := Lib.hid hM2
                clear hM hM2
                go_wp2
                go_roundw
                case rel => exact ⟨k + 1, by omega, by go_num, HM.out⟩
                case measure => simp [intOf]; omega
          · obtain rfl : k = mA := by omega
            obtain ⟨hmA, hb, ha, hbl, hal, hst, hNm, ha64, hb64⟩ := HA.out
            have hM2 := hM
            rw [← hNm, ← hal, half_all (by omega)] at hM2
            have hmr := (own_cap2 (hM2.row 3 rfl)).2
            have hM3 := hM2.drop (L' := _ :: _ :: _ :: _ :: _ :: _ :: _ :: L) (List.sublist_cons_self _ _)
            obtain ⟨ra, hra⟩ : ∃ ra, rs.map (mvW os A) = ra := ⟨_, rfl⟩
            have hral : ra.length = rs.length := by rw [← hra, List.length_map]
            have hM4 : Mem w0.heap.size w0 wr ([ebox bo #[.slice x1 N k1, .slice x2 m2 k2] 24, rowW 60 (.slice x1 N k1) a, rowW 60 (.slice x2 m2 k2) (half ra rs 0), ebox (w.heap.size + 1 + 1) #[.slice none 0 0, .slice none 0 0] 24, ebox (w.heap.size + 1) #[.map (some bm)] 75, ebox w.heap.size #[.slice aM nM cM, .slice aR nR cR] 24, gmap mapII bm cnt f] ++ L) := by
              rw [half_zero]
              rw [hal] at hM3
              exact hM3
            have k0 : wr.cell? ⟨bo, 1, none⟩ = some (.slice x2 m2 k2) := by have := hM4.cell 0 rfl 1; simpa using this
            have kz : bo < wr.heap.size := (hM4.box 0 rfl).2.1
            have HM4 := Lib.hid hM4
            have Hmr := Lib.hid hmr
            have Hra := Lib.hid (And.intro hra hral)
            clear hmA hb ha hbl hal hst hNm ha64 hb64 hM hM2 hmr hM3 hra hral hM4
            go_wp2
            go_loopw [107] (fun sv wr => ∃ s : Nat, s ≤ m2 ∧ sv = .int .i64 s ∧ Mem w0.heap.size w0 wr ([ebox bo #[.slice x1 N k1, .slice x2 m2 k2] 24, rowW 60 (.slice x1 N k1) a, rowW 60 (.slice x2 m2 k2) (half ra rs s), ebox (w.heap.size + 1 + 1) #[.slice none 0 0, .slice none 0 0] 24, ebox (w.heap.size + 1) #[.map (some bm)] 75, ebox w.heap.size #[.slice aM nM cM, .slice aR nR cR] 24, gmap mapII bm cnt f] ++ L)) (fun sv _ => m2 - (intOf sv).toNat)
            case atStart => exact ⟨0, Nat.zero_le _, rfl, HM4.out⟩
            case round =>
              clear HM4 k0 kz
              obtain ⟨s, hs, rfl, hM⟩ := hrel
              have hhl := half_len (a := ra) (b := rs) Hra.out.2 s (by rw [Hra.out.2]; have := Hmr.out; have h9 := half_len (a := ra) (b := rs) Hra.out.2 0 (Nat.zero_le _); omega)
              have hm2 : rs.length = m2 := by have := (own_cap2 (hM.row 2 rfl)).2; rw [hhl] at this; exact this.symm
              by_cases hsm : s < m2
              · obtain ⟨hS, h64, hw64, hz, hz4, hK, hAl, hws, hNz, hf⟩ := HD.out
                obtain ⟨x, hx⟩ := get_some rs s (by omega)
                have hxi := ref_in hS hK (x := x) (.inl (List.mem_of_getElem? hx))
                have hx64 : w64 x := h64 x (List.mem_append_left _ (List.mem_of_getElem? hx))
                have hax : ra[s]? = some (mvW os A x) := by rw [← Hra.out.1, List.getElem?_map, hx]; rfl
                obtain ⟨g2, cc, hvv, hgz, dx, fx⟩ := hM.wordsAt 2 rfl (show (half ra rs s)[s]? = some x by rw [half_get (by rw [Hra.out.2]; omega) (Nat.le_refl _)]; exact hx)
                rw [hhl, hm2] at hvv
                injection hvv with hvv1 hvv2 hvv3
                subst hvv1 hvv3
                have HTu : Hid (∀ X, Below wr.heap.size wr X → Calls Try.prog 82 #[.int .u64 x, .pointer (some ⟨w.heap.size + 1, 0, none⟩)] X fun e w' => e = .returned (.int .u64 (mvW os A x)) ∧ w' = X) := Lib.hid (fun X hX => by
                  have hMX := hM.call hX
                  have c4 : X.cell? ⟨w.heap.size + 1, 0, none⟩ = some (.map (some bm)) := by have := hMX.cell 4 rfl 0; simpa using this
                  exact qturn_any X (w.heap.size + 1) bm os z A x hz (by rw [← hS.laid.1]; exact hS.words) hK.nodup hK.rng hAl hx64 hxi (fun t ht => by
                    have h1 := place_mono (os := os) (Nat.le_of_lt ht)
                    rw [place_all, ← hS.laid.1] at h1
                    have h2 := hS.words
                    have := (gmap_look (M := mapII) (hMX.get 6 rfl) (x := (place os t : Int)) (by show i64ok _; unfold i64ok; omega)).2
                    rw [hf] at this
                    exact this) c4 (cell_ltQ c4))
                have hset := half_set (a := ra) (b := rs) Hra.out.2 hax
                obtain ⟨y, hy⟩ : ∃ y, mvW os A x = y := ⟨_, rfl⟩
                rw [hy] at HTu hset
                have k0 : wr.cell? ⟨bo, 1, none⟩ = some (.slice (some ⟨g2, 0, none⟩) m2 k2) := by have := hM.cell 0 rfl 1; simpa using this
                have HXo : Hid (∀ X, Below wr.heap.size wr X → X.cell? ⟨bo, 1, none⟩ = some (.slice (some ⟨g2, 0, none⟩) m2 k2)) := Lib.hid (fun X hX => by have := (hM.call hX).cell 0 rfl 1; simpa using this)
                have HBd := Lib.hid ((Below.refl wr.heap.size wr).drew)
                have Hset := Lib.hid hset
                have Hhl := Lib.hid (hhl.trans hm2)
                have HMd := Lib.hid (hM.drew)
                have HMs := Lib.hid ((hM.setW 2 rfl (hhl.trans hm2) s y).drew)
                have hs2 : (s : Int) < m2 := by omega
                have hm28 : m2 ≤ 8 := by omega
                have hs0 : (0 : Int) ≤ (s : Int) := by omega
                clear hS h64 hw64 hz hz4 hK hAl hws hNz hf hx hxi hx64 hax hset hy hM hhl hm2 hvv2
                go_wp2
                rw [qIx2_eq]
                go_region_held3 (fun X => X.cell? ⟨bo, 1, none⟩ = some (.slice (some ⟨g2, 0, none⟩) m2 k2))
                  (first | exact HXo.out _ HBd.out | exact (by have := HMs.out.cell 0 rfl 1; simpa using this))
                  (first
                    | (go_at_call 82
                       with_reducible refine (HTu.out _ HBd.out).mono ?_
                       rintro e w12 ⟨rfl, rfl⟩))
                have hM12 := HMs.out
                rw [Hset.out] at hM12
                have HM12 := Lib.hid hM12
                clear hM12 HTu HMd HMs HXo HBd k0 dx fx
                go_wp2
                go_roundw
                case rel => exact ⟨s + 1, by omega, by go_num, HM12.out⟩
                case measure => simp [intOf]; omega
              · obtain rfl : s = m2 := by omega
                have hM2 := hM
                rw [← hm2, ← Hra.out.2, half_all Hra.out.2, Hra.out.2, hm2] at hM2
                have c0 : wr.cell? ⟨bo, 0, none⟩ = some (.slice x1 N k1) := by have := hM2.cell 0 rfl 0; simpa using this
                have c1 : wr.cell? ⟨bo, 1, none⟩ = some (.slice x2 s k2) := by have := hM2.cell 0 rfl 1; simpa using this
                have cz : bo < wr.heap.size := (hM2.box 0 rfl).2.1
                have r0 : wr.cell? ⟨w.heap.size + 1 + 1, 0, none⟩ = some (.slice none 0 0) := by have := hM2.cell 3 rfl 0; simpa using this
                have r1 : wr.cell? ⟨w.heap.size + 1 + 1, 1, none⟩ = some (.slice none 0 0) := by have := hM2.cell 3 rfl 1; simpa using this
                have r2 : wr.frozen? ⟨w.heap.size + 1 + 1, 0, none⟩ = false := hM2.free 3 rfl 0
                have r3 : wr.frozen? ⟨w.heap.size + 1 + 1, 1, none⟩ = false := hM2.free 3 rfl 1
                have rz : w.heap.size + 1 + 1 < wr.heap.size := (hM2.box 3 rfl).2.1
                have HMf := Lib.hid ((hM2.setBox 3 rfl 0 (.slice x1 N k1)).setBox 3 rfl 1 (.slice x2 s k2))
                have Hfin := Lib.hid (And.intro HA.out.2.2.1 Hra.out.1)
                clear hM hM2 hhl hm2 Hra HA HD
                go_wp2
                obtain ⟨W9, hW9⟩ : ∃ W9, W9 = (wr.setCell ⟨w.heap.size + 1 + 1, 0, none⟩ (.slice x1 N k1)).setCell ⟨w.heap.size + 1 + 1, 1, none⟩ (.slice x2 s k2) := ⟨_, rfl⟩
                have hM8 := HMf.out
                rw [← hW9] at hM8 ⊢
                have s0 : W9.cell? ⟨w.heap.size + 1 + 1, 0, none⟩ = some (.slice x1 N k1) := by have := hM8.cell 3 rfl 0; simpa using this
                have s1 : W9.cell? ⟨w.heap.size + 1 + 1, 1, none⟩ = some (.slice x2 s k2) := by have := hM8.cell 3 rfl 1; simpa using this
                refine bodyPost_ret (v := .agg #[.slice x1 N k1, .slice x2 s k2]) (by simp [results, Try.results53, go_sem, s0, s1]) rfl ⟨_, _, rfl, ?_⟩
                rw [Hfin.out.1, Hfin.out.2]
                exact Mem.pick (T := L) (A := [_, _, _, _, _, _, _]) (A' := [_, _, _]) hM8 [1, 2, 6] (by decide) rfl
end Go.Proofs.Ytgdodbdipbomfaa
