/- fingers.Squeeze at a sound arena, walked. -/
import Derived.Test.YtgdodbdipbomfaaQd
import Derived.Test.YtgdodbdipbomfaaNb
import Derived.Test.YtgdodbdipbomfaaNd
import Derived.Deep.QuietTactic
import Derived.Deep.CutBlock
namespace Go.Proofs.Ytgdodbdipbomfaa
open Go.RowKit Go.Shelf Go.Maps

theorem gmap_lenle {B : Nat} {w : World} {b n : Nat} {f : Int → Option Value} (h : (gmap mapII b n f).ok B w) (ty : TypeId) : ∃ c : Nat, c ≤ n ∧ (Builtin.len_ #[75] ty #[.map (some b)]).run Try.prog w = .ok (.int .i64 c) w := by
  obtain ⟨_, _, D, h1, _, _⟩ := gmap_own h
  exact ⟨Maps.size D, h1.size_le, h1.len mapII.under ty⟩
/-- At least as many entries as keys that are there. -/
theorem keys_le {D : DataW Value} {K : List Int} (hn : K.Nodup) (h : ∀ x ∈ K, Maps.has D (.int .i64 x) = true) : K.length ≤ Maps.size D := by
  cases D with
  | map es =>
    have h1 := nodup_sub_len K (es.map fun p => match p.1 with | .int _ n => n | _ => 0) hn (fun x hx => by
      have h2 := h x hx
      rw [Maps.has_eq, List.any_eq_true] at h2
      obtain ⟨p, hp, hk⟩ := h2
      refine List.mem_map.2 ⟨p, hp, ?_⟩
      rw [WideAt.sameKey_eq hk])
    rw [List.length_map] at h1
    rw [Maps.size_eq]; exact h1
  | _ =>
    cases K with
    | nil => exact Nat.zero_le _
    | cons x K => exact absurd (h x List.mem_cons_self) (by simp [Maps.has])
theorem went_size {os : List Ob} {A : List Int} (hn : A.Nodup) (hr : ∀ x ∈ A, 0 ≤ x ∧ x < (os.length : Int)) (hl : (flat os).length ≤ 1000) {D : DataW Value}
    (h : ∀ x, mapII.ok x → ∀ zd, D.atKey (mapII.lit x) zd = match wentF os A x with | some v => .held v | none => zd) : (holes A).length ≤ Maps.size D := by
  have hmem : ∀ k ∈ holes A, ∃ (i j : Nat), k = (i : Int) ∧ A[i]? = some (j : Int) ∧ i ≠ j ∧ j < os.length ∧ A.getD k.toNat 0 = (j : Int) := by
    intro k hk
    unfold holes at hk
    rw [List.mem_filter] at hk
    obtain ⟨h1, h2⟩ := hk
    have h1 := mem_upTo.1 h1
    obtain ⟨x, hx⟩ := get_some A k.toNat (by omega)
    have hxr := hr x (List.mem_of_getElem? hx)
    have h2 := of_decide_eq_true h2
    rw [hx] at h2
    refine ⟨k.toNat, x.toNat, by omega, by rw [hx]; congr 1; omega, fun e => h2 (by congr 1; omega), by omega, ?_⟩
    rw [List.getD_eq_getElem?_getD, hx, Option.getD_some]; omega
  have h0 := keys_le (D := D) (K := (holes A).map fun k => ((place os (A.getD k.toNat 0).toNat : Nat) : Int)) ?_ ?_
  · rw [List.length_map] at h0; exact h0
  · rw [List.Nodup, List.pairwise_map]
    have hnh : (holes A).Nodup := (nodup_upTo _).sublist List.filter_sublist
    refine List.Pairwise.imp_of_mem (fun {a b} ha hb hab he => hab ?_) hnh
    obtain ⟨i, j, rfl, hi, _, hj, e1⟩ := hmem a ha
    obtain ⟨i', j', rfl, hi', _, hj', e2⟩ := hmem b hb
    rw [e1, e2, Int.toNat_natCast, Int.toNat_natCast] at he
    have e3 := idx_place hj
    have e4 := idx_place hj'
    rw [Int.ofNat_inj.1 he] at e3
    have e5 : j = j' := by omega
    subst e5
    have e6 := plc_at hn hi
    have e7 := plc_at hn hi'
    omega
  · intro x hx
    obtain ⟨k, hk, rfl⟩ := List.mem_map.1 hx
    obtain ⟨i, j, rfl, hi, hne, hj, e1⟩ := hmem k hk
    rw [e1, Int.toNat_natCast]
    have hp : place os j ≤ (flat os).length := by rw [← place_all]; exact place_mono (by omega)
    have hat := h (place os j : Nat) (by unfold mapII i64ok; simp only; omega)
    have hw := went_at hn hr hi
    rw [Int.toNat_natCast, if_neg (by omega)] at hw
    rw [hw] at hat
    exact Maps.has_true_of_atKey hat
theorem enter_sq1 : ∀ args w, (callFunc 51 args).run Try.prog w = .ok (.enter 51 args) w := fun _ _ => rfl
/-- Squeeze refuses. -/
def Refused (os : List Ob) (fn : Int) (w w' : World) (e : Ending) : Prop := ∃ c : Int, c ≠ 0 ∧ e = .returned (.tuple #[.agg #[.slice none 0 0, .slice none 0 0], .int .i64 0, .int .i64 c]) ∧ Below w.heap.size w w' ∧ (fn < 0 ∨ 4 < fn ∨ ∃ k : Nat, k < os.length ∧ ((obj os k).2.length : Int) ≠ fn)
/-- Squeeze does it. -/
def Squeezed (os : List Ob) (rs F : List Int) (fn : Int) (w w' : World) (e : Ending) : Prop := ∃ (v1 v2 : Value) (A : List Int) (h c : Nat), 0 ≤ fn ∧ fn ≤ 4 ∧ Alike os (1 + fn.toNat) ∧ FI F os.length A.length h A ∧ (∀ x, x ∈ A ↔ x ∈ F) ∧ c = (holes A).length ∧
  e = .returned (.tuple #[.agg #[v1, v2], .int .i64 c, .int .i64 0]) ∧ Mem w.heap.size w w' [rowW 60 v1 (flat (relO os A (hdD os))), rowW 60 v2 (rs.map (mvW os A))]

set_option maxRecDepth 100000 in
set_option maxHeartbeats 4000000 in
theorem squeeze_any (vw vr : Value) (ws rs : List Int) (os : List Ob) (F : List Int) (fn : Int) (w : World) (hw : IsW w vw ws) (hr : IsW w vr rs) (hS : Sound ws rs os) (h64 : ∀ x ∈ allW rs os, w64 x) (hF : OrdS (readG os rs) F) :
    Calls Try.prog 23 #[.agg #[vw, vr], .int .i64 fn] w fun e w' => Refused os fn w w' e ∨ Squeezed os rs F fn w w' e := by
  have Hw := Lib.hid hw
  have Hr := Lib.hid hr
  have hws64 := hw.all
  obtain ⟨aw, cw, rfl, hmw⟩ := hw.slice
  obtain ⟨ar, cr, rfl, hmr⟩ := hr.slice
  have hM0 := ((((Mem.start w).alloc #[.slice aw ws.length cw, .slice ar rs.length cr] 24).allocAt (w.heap.size + 1) (by simp) #[.int .i64 fn] 3).allocAt (w.heap.size + 1 + 1) (by simp) #[.slice none 0 0, .slice none 0 0] 24)
  obtain ⟨W1, hW1⟩ : ∃ W1, ((w.alloc (.cells #[.slice aw ws.length cw, .slice ar rs.length cr] 24)).alloc (.cells #[.int .i64 fn] 3)).alloc (.cells #[.slice none 0 0, .slice none 0 0] 24) = W1 := ⟨_, rfl⟩
  rw [hW1] at hM0
  have HMk : Hid (Calls Try.prog 21 #[.agg #[.slice aw ws.length cw, .slice ar rs.length cr], .int .i64 64] W1 fun e w' => ∃ a1 c1 a2 c2, e = .returned (.tuple #[.agg #[.slice a1 ws.length c1, .slice a2 rs.length c2], .int .i64 0]) ∧ IsW w' (.slice a1 ws.length c1) (flat (mkO os F)) ∧ IsW w' (.slice a2 rs.length c2) rs ∧ Below W1.heap.size W1 w') := Lib.hid (by
    refine (mark_any _ _ ws rs os F 64 W1 (hw.later hM0.below) (hr.later hM0.below) hS h64 hF).mono ?_
    rintro e w' ⟨a1, n1, c1, a2, n2, c2, c, rfl, hb, ⟨rfl, _, _, rfl, rfl, h1, h2⟩ | ⟨_, hbad⟩⟩
    · exact ⟨_, _, _, _, rfl, h1, h2, hb⟩
    · omega)
  have hws := hS.words
  have hrs := hS.roots
  have HP := Lib.hid (And.intro hS (And.intro h64 (And.intro hF hws64)))
  have HM0 := Lib.hid hM0
  have HW1 := Lib.hid hW1
  clear hw hr hM0 hmw hmr hS h64 hF hW1 hws64
  go_enter Try.func23, Try.ntmps23
  go_wp2_with fail
  rw [HW1.out]
  refine HMk.out.mono ?_
  rintro e w2 ⟨a1, c1, a2, c2, rfl, hi1, hi2, hb2⟩
  have hM2 := (HM0.out.call hb2).alloc #[.slice a1 ws.length c1, .slice a2 rs.length c2] 24
  obtain ⟨b7, hb7⟩ : ∃ b7, w2.heap.size = b7 := ⟨_, rfl⟩
  obtain ⟨W2, hW2⟩ : ∃ W2, w2.alloc (.cells #[.slice a1 ws.length c1, .slice a2 rs.length c2] 24) = W2 := ⟨_, rfl⟩
  have hB2 : Below w2.heap.size w2 W2 := by rw [← hW2]; exact (Below.refl _ _).alloc (Nat.le_refl _) _
  rw [hb7, hW2] at hM2
  have f0 : w2.cell? ⟨w.heap.size + 1, 0, none⟩ = some (.int .i64 fn) := by have := (HM0.out.call hb2).cell 1 rfl 0; simpa using this
  have fz : w.heap.size + 1 < w2.heap.size := ((HM0.out.call hb2).box 1 rfl).2.1
  have r0 : w2.cell? ⟨w.heap.size + 1 + 1, 0, none⟩ = some (.slice none 0 0) := by have := (HM0.out.call hb2).cell 0 rfl 0; simpa using this
  have r1 : w2.cell? ⟨w.heap.size + 1 + 1, 1, none⟩ = some (.slice none 0 0) := by have := (HM0.out.call hb2).cell 0 rfl 1; simpa using this
  have r2 : w2.frozen? ⟨w.heap.size + 1 + 1, 0, none⟩ = false := (HM0.out.call hb2).free 0 rfl 0
  have r3 : w2.frozen? ⟨w.heap.size + 1 + 1, 1, none⟩ = false := (HM0.out.call hb2).free 0 rfl 1
  have rz : w.heap.size + 1 + 1 < w2.heap.size := ((HM0.out.call hb2).box 0 rfl).2.1
  have HMr := Lib.hid (HM0.out.call hb2)
  have HI1 := Lib.hid (hi1.later hB2)
  have HI2 := Lib.hid (hi2.later hB2)
  have HM2 := Lib.hid hM2
  have HW2 := Lib.hid hW2
  have Hb7 := Lib.hid hb7
  clear hb2 hM2 hW2 hb7 hB2 hi1 hi2 HM0 HMk HW1
  by_cases hfn : fn < 0 ∨ 4 < fn
  · have Hfn : Hid (fn < 0 ∨ 4 < fn) := Lib.hid hfn
    have g0 : decide (fn < 0) = true ∨ decide (fn < 0) = false ∧ decide (fn > 4) = true := by
      simp only [decide_eq_true_eq, decide_eq_false_iff_not]; omega
    clear hfn
    rcases g0 with g1 | ⟨g1, g2⟩ <;>
      (go_wp2
       obtain ⟨W9, hW9⟩ : ∃ W9, W9 = ((w2.setCell ⟨w.heap.size + 1 + 1, 0, none⟩ (.slice none 0 0)).setCell ⟨w.heap.size + 1 + 1, 1, none⟩ (.slice none 0 0)).alloc (.cells #[.slice a1 ws.length c1, .slice a2 rs.length c2] 24) := ⟨_, rfl⟩
       have hM8 := ((HMr.out.setBox 0 rfl 0 (.slice none 0 0)).setBox 0 rfl 1 (.slice none 0 0)).alloc #[.slice a1 ws.length c1, .slice a2 rs.length c2] 24
       rw [← hW9] at hM8 ⊢
       have s0 : W9.cell? ⟨w.heap.size + 1 + 1, 0, none⟩ = some (.slice none 0 0) := by have := hM8.cell 1 rfl 0; simpa using this
       have s1 : W9.cell? ⟨w.heap.size + 1 + 1, 1, none⟩ = some (.slice none 0 0) := by have := hM8.cell 1 rfl 1; simpa using this
       refine bodyPost_ret (v := .tuple #[.agg #[.slice none 0 0, .slice none 0 0], .int .i64 0, .int .i64 3]) (by simp [results, Try.results23, go_sem, s0, s1]) rfl (.inl ⟨3, by decide, rfl, hM8.below, ?_⟩)
       rcases Hfn.out with h | h
       · exact .inl h
       · exact .inr (.inl h))
  · have g1 : decide (fn < 0) = false := decide_eq_false (by omega)
    have g2 : decide (fn > 4) = false := decide_eq_false (by omega)
    obtain ⟨z, hz⟩ : ∃ z : Nat, 1 + fn = z := ⟨(1 + fn).toNat, by omega⟩
    have hz1 : 1 ≤ z := by omega
    have hz5 : z ≤ 5 := by omega
    have e1 : IntKind.i64.wrap (1 + fn) = (z : Int) := by rw [IntWalk.i64_in _ (by omega)]; exact hz
    have HBg := Lib.hid (begins_any (.slice a1 ws.length c1) (.slice a2 rs.length c2) (flat (mkO os F)) (mkO os F) W2 HI1.out ⟨_, _, _, rfl⟩ (mkO_sound HP.out.1 F).laid (mkO_sound HP.out.1 F).words)
    have Hz := Lib.hid (And.intro hz hfn)
    have m0 : W2.cell? ⟨b7, 0, none⟩ = some (.slice a1 ws.length c1) := by have := HM2.out.cell 0 rfl 0; simpa using this
    have m1 : W2.cell? ⟨b7, 1, none⟩ = some (.slice a2 rs.length c2) := by have := HM2.out.cell 0 rfl 1; simpa using this
    clear hz hfn
    go_wp2_with fail
    rw [Hb7.out, HW2.out]
    refine HBg.out.mono ?_
    rintro e w3 ⟨sv, rfl, hM3⟩
    obtain ⟨nO, hnO⟩ : ∃ nO, os.length = nO := ⟨_, rfl⟩
    have hst : starts (mkO os F) = starts os := allO_starts os _
    rw [hst] at hM3
    have hcn := HP.out.1.laid.count
    have hIs := isInts_of_own (hM3.ownI 0 rfl) (by rw [starts_len]; omega) (starts_64 HP.out.1.laid (by omega))
    have hM4 := HM2.out.callMem hM3
    have hC3 : ∀ X, Below w3.heap.size w3 X → X.cell? ⟨b7, 0, none⟩ = some (.slice a1 ws.length c1) ∧ X.cell? ⟨w.heap.size + 1, 0, none⟩ = some (.int .i64 fn) := fun X hX => by
      have hMX := hM4.call hX
      refine ⟨?_, ?_⟩
      · have := hMX.cell 1 rfl 0; simpa using this
      · have := hMX.cell 3 rfl 0; simpa using this
    have hCF := containsFunc_any 51 #[.pointer (some ⟨b7, 0, none⟩), .pointer (some ⟨w.heap.size + 1, 0, none⟩)] sv (starts os) (fun x => (((obj os (idx os x)).2.length : Int) != fn)) w3 hIs enter_sq1 (fun x hx X hX => by
      obtain ⟨k, hk, rfl⟩ := starts_mem.1 hx
      have hg := hd_good HP.out.1.laid hk
      have hp := hdS_parts hg.1 (decide ((k : Int) ∈ F))
      have hft := (mkO_sound HP.out.1 F).laid.fit (allO_get os (hdM os F) hk)
      rw [show place (mkO os F) k = place os k from allO_place os _ (Nat.le_of_lt hk)] at hft
      show Calls Try.prog 51 #[.int .i64 (place os k : Nat), .pointer (some ⟨b7, 0, none⟩), .pointer (some ⟨w.heap.size + 1, 0, none⟩)] X _
      rw [idx_place hk]
      exact sq1_any w3 X b7 (w.heap.size + 1) a1 ws.length c1 fn (flat (mkO os F)) (place os k) (obj os k).2.length (hdM os F k) (HI1.out.later hM3.below) (mkO_head os F hk) hp.2.2.2.1 (by unfold hdM; rw [hp.1, hg.2.1]) ⟨(obj os k).2, rfl, fun j x hx => mkO_field os F hk hx⟩ hft (mkO_sound HP.out.1 F).words hC3 hX)
    have HCF := Lib.hid hCF
    have HM4 := Lib.hid hM4
    have HI1 := Lib.hid (HI1.out.later hM3.below)
    have HI2 := Lib.hid (HI2.out.later hM3.below)
    clear hM3 hIs hM4 hC3 hCF HBg hst hcn m0 m1 f0 fz r0 r1 r2 r3 rz HM2 HW2 Hb7
    go_wp2_with fail
    refine HCF.out.mono ?_
    rintro e w4 ⟨rfl, hb4⟩
    have hM5 := HM4.out.call hb4
    obtain ⟨bp, hbp⟩ : ∃ bp, ((starts os).any fun x => (((obj os (idx os x)).2.length : Int) != fn)) = bp := ⟨_, rfl⟩
    rw [hbp]
    have r0 : w4.cell? ⟨w.heap.size + 1 + 1, 0, none⟩ = some (.slice none 0 0) := by have := hM5.cell 2 rfl 0; simpa using this
    have r1 : w4.cell? ⟨w.heap.size + 1 + 1, 1, none⟩ = some (.slice none 0 0) := by have := hM5.cell 2 rfl 1; simpa using this
    have r2 : w4.frozen? ⟨w.heap.size + 1 + 1, 0, none⟩ = false := hM5.free 2 rfl 0
    have r3 : w4.frozen? ⟨w.heap.size + 1 + 1, 1, none⟩ = false := hM5.free 2 rfl 1
    have rz : w.heap.size + 1 + 1 < w4.heap.size := (hM5.box 2 rfl).2.1
    cases bp with
    | true =>
      have Hpos : Hid (∃ k : Nat, k < os.length ∧ ((obj os k).2.length : Int) ≠ fn) := Lib.hid (by
        obtain ⟨x, hx, hp⟩ := List.any_eq_true.1 hbp
        obtain ⟨k, hk, rfl⟩ := starts_mem.1 hx
        rw [idx_place hk] at hp
        exact ⟨k, hk, by simpa using hp⟩)
      have HM5 := Lib.hid hM5
      clear hM5 hb4 hbp HCF HM4
      go_wp2
      obtain ⟨W9, hW9⟩ : ∃ W9, W9 = (w4.setCell ⟨w.heap.size + 1 + 1, 0, none⟩ (.slice none 0 0)).setCell ⟨w.heap.size + 1 + 1, 1, none⟩ (.slice none 0 0) := ⟨_, rfl⟩
      have hM8 := (HM5.out.setBox 2 rfl 0 (.slice none 0 0)).setBox 2 rfl 1 (.slice none 0 0)
      rw [← hW9] at hM8 ⊢
      have s0 : W9.cell? ⟨w.heap.size + 1 + 1, 0, none⟩ = some (.slice none 0 0) := by have := hM8.cell 2 rfl 0; simpa using this
      have s1 : W9.cell? ⟨w.heap.size + 1 + 1, 1, none⟩ = some (.slice none 0 0) := by have := hM8.cell 2 rfl 1; simpa using this
      exact bodyPost_ret (v := .tuple #[.agg #[.slice none 0 0, .slice none 0 0], .int .i64 0, .int .i64 4]) (by simp [results, Try.results23, go_sem, s0, s1]) rfl (.inl ⟨4, by decide, rfl, hM8.below, .inr (.inr Hpos.out)⟩)
    | false =>
      have hlk : Alike os z := fun k hk => by
        have h1 := List.any_eq_false.1 hbp (place os k : Int) (starts_mem.2 ⟨k, hk, rfl⟩)
        simp only [idx_place hk] at h1
        have h2 : ((obj os k).2.length : Int) = fn := by simpa using h1
        have h3 := Hz.out.1
        unfold szO; omega
      have hlen : ws.length = nO * z := by
        rw [HP.out.1.laid.1, ← place_all, ← hnO]; exact hlk.place (Nat.le_refl _)
      have HM5 := Lib.hid hM5
      have HI1 := Lib.hid (HI1.out.later hb4)
      have HI2 := Lib.hid (HI2.out.later hb4)
      have Hlk := Lib.hid (And.intro hlk hlen)
      have hmm := @run_makeMap Try.prog
      have hm0 : ∀ X, Below w4.heap.size w4 X → X.cell? ⟨b7, 0, none⟩ = some (.slice a1 ws.length c1) := fun X hX => by have := (hM5.call hX).cell 1 rfl 0; simpa using this
      have Hm0 := Lib.hid hm0
      have Hm1 : Hid (∀ X, Below w4.heap.size w4 X → X.cell? ⟨b7, 1, none⟩ = some (.slice a2 rs.length c2)) := Lib.hid (fun X hX => by have := (hM5.call hX).cell 1 rfl 1; simpa using this)
      have e2 : IntKind.i64.wrap ((ws.length : Int) - z) = (ws.length : Int) - z := IntWalk.i64_in _ (by omega)
      obtain ⟨bm, hbm⟩ : ∃ bm, w4.heap.size = bm := ⟨_, rfl⟩
      have hM6 := (Mem.start w4).newMapAt mapII bm hbm
      obtain ⟨W6, hW6⟩ : ∃ W6, w4.alloc (.map #[] 0) = W6 := ⟨_, rfl⟩
      rw [hW6] at hM6
      have m0 : W6.cell? ⟨b7, 0, none⟩ = some (.slice a1 ws.length c1) := hm0 _ hM6.below
      have mz : b7 < W6.heap.size := cell_ltQ m0
      have HM6 := Lib.hid hM6
      have HW6 := Lib.hid hW6
      have Hbm := Lib.hid hbm
      clear hM5 hb4 hbp HCF HM4 hlk hlen hM6 r0 r1 r2 r3 rz hW6 hbm hm0
      go_wp2
      rw [Hbm.out, HW6.out]
      go_quiet (fail)
      have hM7 := HM6.out.drewN nq
      obtain ⟨W7, hW7⟩ : ∃ W7, W6.drewN nq = W7 := ⟨_, rfl⟩
      rw [hW7] at hM7 ⊢
      have hrng : ∀ x ∈ F, 0 ≤ x ∧ x < (nO : Int) := fun x hx => by rw [← hnO]; exact (ord_keeps HP.out.1 HP.out.2.2.1).rng x hx
      have hFI0 := FI.start (F := F) (n := nO) hrng
      have hM8 : Mem w4.heap.size w4 W7 [gmap mapII bm (holes []).length (wentF os [])] := by rw [wentF_nil]; exact hM7
      have Hst := Lib.hid (And.intro hFI0 hM8)
      have Hlv : Hid (∀ k : Nat, k < nO → ∀ X, Below w4.heap.size w4 X → Calls Try.prog 52 #[.int .i64 (k * z : Nat), .pointer (some ⟨b7, 0, none⟩)] X fun e w' => e = .returned (.bool (decide ((k : Int) ∈ F))) ∧ w' = X) := Lib.hid (fun k hk X hX => by
        have hkl : k < os.length := by omega
        have hg := hd_good HP.out.1.laid hkl
        have hp := hdS_parts hg.1 (decide ((k : Int) ∈ F))
        have hh := mkO_head os F hkl
        have hft := (mkO_sound HP.out.1 F).laid.fit (allO_get os (hdM os F) hkl)
        rw [show place (mkO os F) k = place os k from allO_place os _ (Nat.le_of_lt hkl), show (flat (mkO os F)).length = ws.length by rw [mkO_flat, ← HP.out.1.laid.1]] at hft
        rw [Hlk.out.1.place (Nat.le_of_lt hkl)] at hh hft
        obtain ⟨gM, oM, cM', hv, _, _, dh, _⟩ := HI1.out.at hX hh
        have hc := Hm0.out X hX
        injection hv with hv1 hv2 hv3
        subst hv1
        have := lives_any X b7 gM oM ws.length c1 (k * z) (hdM os F k) hp.2.2.2.1 (by omega) hc dh
        unfold hdM at this
        rw [hp.2.1] at this
        exact this)
      have Hn := Lib.hid (And.intro hnO hrng)
      rw [Hlk.out.2]
      have hnz : nO * z ≤ 256 := by have := Hlk.out.2; omega
      clear hM7 hW7 hrng hFI0 hM8 m0 mz e1 e2 hmm hnO HM6 HW6 Hbm
      go_wp2
      go_loopg [13, 14] nO (fun gk s13 s14 wr => ∃ (lo h : Nat) (A : List Int), h - lo = gk ∧ s13 = .int .i64 (lo * z : Nat) ∧ s14 = .int .i64 (((h * z : Nat) : Int) - z) ∧ FI F nO lo h A ∧ Mem w4.heap.size w4 wr [gmap mapII bm (holes A).length (wentF os A)])
      case atStart => exact ⟨0, nO, [], by omega, by simp, by simp, Hst.out.1, Hst.out.2⟩
      case round =>
        clear Hst
        obtain ⟨lo, h, A, hgk, rfl, rfl, hI, hM⟩ := hrel
        obtain ⟨gO, hgO⟩ : ∃ gO, gO = gk := ⟨_, rfl⟩
        have HgO := Lib.hid hgO
        have hhn := hI.hn
        have hhz : h * z ≤ nO * z := Nat.mul_le_mul_right z hhn
        obtain ⟨q, hq⟩ : ∃ q, h * z = q := ⟨_, rfl⟩
        have Hq := Lib.hid hq
        have Hs0 := Lib.hid (And.intro hI (And.intro hM (hgk.trans hgO.symm)))
        rw [hq] at hhz ⊢
        have hq256 : q ≤ 256 := by omega
        clear hgk hI hM hgO hhn hq hhz
        go_upto_block 2 with fail
        go_cut [13] (fun s13 W => ∃ (lo' : Nat) (A' : List Int), s13 = .int .i64 (lo' * z : Nat) ∧ FI F nO lo' h A' ∧ (lo' < h → (lo' : Int) ∉ F) ∧ h - lo' ≤ gO ∧ Mem w4.heap.size w4 W [gmap mapII bm (holes A').length (wentF os A')])
        case first =>
          go_wp2_with fail
          go_loopg [13] (h - lo) (fun gj s13 wr => ∃ (lo' : Nat) (A' : List Int), h - lo' = gj ∧ h - lo' ≤ gO ∧ s13 = .int .i64 (lo' * z : Nat) ∧ FI F nO lo' h A' ∧ Mem w4.heap.size w4 wr [gmap mapII bm (holes A').length (wentF os A')])
          case atStart => exact ⟨lo, A, rfl, by have := Hs0.out.2.2; omega, rfl, Hs0.out.1, Hs0.out.2.1⟩
          case round =>
            clear Hs0
            obtain ⟨lo2, A2, hgj, hgle, rfl, hI, hM⟩ := hrel
            have hll := hI.loh
            have hpq : lo2 < h → lo2 * z + z ≤ q := fun hl => by rw [← Hq.out, ← Nat.succ_mul]; exact Nat.mul_le_mul_right z hl
            have hqp : ¬ lo2 < h → q ≤ lo2 * z := fun hl => by rw [← Hq.out]; exact Nat.mul_le_mul_right z (by omega)
            have hsc : (lo2 + 1) * z = lo2 * z + z := Nat.succ_mul lo2 z
            have hlv := Hlv.out lo2
            obtain ⟨p, hp⟩ : ∃ p, lo2 * z = p := ⟨_, rfl⟩
            rw [hp] at hpq hqp hsc hlv
            have Hp := Lib.hid (And.intro hp hsc)
            have HI := Lib.hid (And.intro hI (And.intro hM hgj))
            rw [hp]
            by_cases hl : lo2 < h
            · have hpq2 := hpq hl
              have e1 : decide ((p : Int) ≤ (q : Int) - z) = true := decide_eq_true (by omega)
              have e2 : IntKind.i64.wrap ((p : Int) + z) = (p : Int) + z := IntWalk.i64_in _ (by omega)
              have HC := hlv (by have := hI.hn; omega) wr hM.below
              by_cases hF : (lo2 : Int) ∈ F
              · rw [decide_eq_true hF] at HC
                have HC := Lib.hid HC
                have HFk := Lib.hid (hI.keep hl hF)
                have hA2 : (lo2 : Int) ∉ A2 := hI.out (by omega) (by omega)
                have HMk : Hid (Mem w4.heap.size w4 wr [gmap mapII bm (holes (A2 ++ [(lo2 : Int)])).length (wentF os (A2 ++ [(lo2 : Int)]))]) := Lib.hid (by
                  rw [wentF_keep hI.nodup hI.len.symm hA2, holes_snoc, if_pos (by rw [hI.len]), List.append_nil]
                  exact hM)
                clear hI hM hpq hqp hsc hlv hp hF hA2 hpq2
                go_wp2_with fail
                refine HC.out.mono ?_
                rintro e w5 ⟨rfl, rfl⟩
                clear HC
                go_wp2
                go_roundg (h - (lo2 + 1))
                case rel => exact ⟨lo2 + 1, _, rfl, by omega, by rw [Hp.out.2]; simp, HFk.out, HMk.out⟩
                case measure => have := HI.out.2.2; omega
              · rw [decide_eq_false hF] at HC
                have HC := Lib.hid HC
                have HF := Lib.hid hF
                clear hI hM hpq hqp hsc hlv hp hF hpq2
                go_wp2_with fail
                refine HC.out.mono ?_
                rintro e w5 ⟨rfl, rfl⟩
                clear HC
                go_wp2_with fail
                go_meet
                exact ⟨lo2, A2, by rw [Hp.out.1], HI.out.1, fun _ => HF.out, hgle, HI.out.2.1⟩
            · have hqp2 := hqp hl
              have e1 : decide ((p : Int) ≤ (q : Int) - z) = false := decide_eq_false (by omega)
              clear hI hM hpq hqp hsc hlv hp hqp2
              go_wp2_with fail
              go_meet
              exact ⟨lo2, A2, by rw [Hp.out.1], HI.out.1, fun h => absurd h hl, hgle, HI.out.2.1⟩
        case rest =>
          clear Hs0
          obtain ⟨lo2, A2, rfl, hI, hlF, hgle, hM⟩ := hcut
          obtain ⟨p, hp⟩ : ∃ p, lo2 * z = p := ⟨_, rfl⟩
          have Hp := Lib.hid hp
          have hlp : lo2 * z ≤ nO * z := Nat.mul_le_mul_right z (by have := hI.hn; have := hI.loh; omega)
          rw [hp] at hlp ⊢
          have hp256 : p ≤ 256 := by omega
          have Hs1 := Lib.hid (And.intro hI (And.intro hM hlF))
          clear hI hM hlF hp hlp
          go_upto_block 4 with fail
          go_cut [14] (fun s14 W => ∃ h' : Nat, s14 = .int .i64 (((h' * z : Nat) : Int) - z) ∧ h' * z ≤ 256 ∧ h' ≤ h ∧ FI F nO lo2 h' A2 ∧ (lo2 + 1 < h' → ((h' - 1 : Nat) : Int) ∈ F) ∧ (lo2 < h' → (lo2 : Int) ∉ F) ∧ Mem w4.heap.size w4 W [gmap mapII bm (holes A2).length (wentF os A2)])
          case first =>
            go_wp2_with fail
            go_loopg [14] (h - lo2) (fun gj s14 wr => ∃ h' : Nat, h' - lo2 = gj ∧ s14 = .int .i64 (((h' * z : Nat) : Int) - z) ∧ h' * z ≤ 256 ∧ h' ≤ h ∧ FI F nO lo2 h' A2 ∧ (lo2 < h' → (lo2 : Int) ∉ F) ∧ Mem w4.heap.size w4 wr [gmap mapII bm (holes A2).length (wentF os A2)])
            case atStart => exact ⟨h, rfl, by rw [Hq.out], by rw [Hq.out]; exact hq256, Nat.le_refl _, Hs1.out.1, Hs1.out.2.2, Hs1.out.2.1⟩
            case round =>
              clear Hs1
              obtain ⟨h2, hgj, rfl, hh256, hhh, hI, hlF, hM⟩ := hrel
              have Hh := Lib.hid (And.intro hI (And.intro hlF (And.intro hM (And.intro hgj (And.intro hhh hh256)))))
              by_cases hl : lo2 + 1 < h2
              · obtain ⟨hk, rfl⟩ : ∃ hk, h2 = hk + 1 := ⟨h2 - 1, by omega⟩
                have hsc : (hk + 1) * z = hk * z + z := Nat.succ_mul hk z
                have hge : (lo2 + 1) * z ≤ hk * z := Nat.mul_le_mul_right z (by omega)
                have hsl : (lo2 + 1) * z = lo2 * z + z := Nat.succ_mul lo2 z
                rw [Hp.out] at hsl
                have hlv := Hlv.out hk (by have := hI.hn; omega) wr hM.below
                obtain ⟨ph, hph⟩ : ∃ ph, hk * z = ph := ⟨_, rfl⟩
                rw [hph] at hsc hge hlv
                have Hph := Lib.hid hph
                rw [hsc] at hh256
                rw [hsc, show ((ph + z : Nat) : Int) - z = (ph : Int) by omega]
                have e1 : decide ((ph : Int) > (p : Int)) = true := decide_eq_true (by omega)
                have e1' : decide (p < ph) = true := decide_eq_true (by omega)
                have e1'' : p < ph := by omega
                have e2 : IntKind.i64.wrap ((ph : Int) - z) = (ph : Int) - z := IntWalk.i64_in _ (by omega)
                by_cases hF : (hk : Int) ∈ F
                · rw [decide_eq_true hF] at hlv
                  have HC := Lib.hid hlv
                  have HF := Lib.hid hF
                  have Hsc := Lib.hid hsc
                  clear hI hlF hM hgj hhh hsc hge hsl hlv hph hF
                  go_wp2_with fail
                  refine HC.out.mono ?_
                  rintro e w5 ⟨rfl, rfl⟩
                  clear HC
                  go_wp2_with fail
                  go_meet
                  exact ⟨hk + 1, by rw [Hsc.out]; congr 1; omega, Hh.out.2.2.2.2.2, Hh.out.2.2.2.2.1, Hh.out.1, fun _ => by simpa using HF.out, Hh.out.2.1, Hh.out.2.2.1⟩
                · rw [decide_eq_false hF] at hlv
                  have HC := Lib.hid hlv
                  have Hdr := Lib.hid (hI.drop hl (by simpa using hF))
                  clear hI hlF hM hgj hhh hsc hge hsl hlv hph hF
                  go_wp2_with fail
                  refine HC.out.mono ?_
                  rintro e w5 ⟨rfl, rfl⟩
                  clear HC
                  go_wp2
                  go_roundg (hk - lo2)
                  case rel => exact ⟨hk, rfl, by rw [Hph.out], by rw [Hph.out]; omega, by have := Hh.out.2.2.2.2.1; omega, by simpa using Hdr.out, fun h => Hh.out.2.1 (by omega), Hh.out.2.2.1⟩
                  case measure => have := Hh.out.2.2.2.1; omega
              · have hge : h2 * z ≤ (lo2 + 1) * z := Nat.mul_le_mul_right z (by omega)
                have hsl : (lo2 + 1) * z = lo2 * z + z := Nat.succ_mul lo2 z
                rw [Hp.out] at hsl
                obtain ⟨ph, hph⟩ : ∃ ph, h2 * z = ph := ⟨_, rfl⟩
                rw [hph] at hge hh256 ⊢
                have Hph := Lib.hid hph
                have e1 : decide ((ph : Int) - z > (p : Int)) = false := decide_eq_false (by omega)
                clear hI hlF hM hgj hhh hge hsl hph
                go_wp2_with fail
                go_meet
                exact ⟨h2, by rw [Hph.out], Hh.out.2.2.2.2.2, Hh.out.2.2.2.2.1, Hh.out.1, fun h => absurd h hl, Hh.out.2.1, Hh.out.2.2.1⟩
          case rest =>
            clear Hs1
            obtain ⟨h3, rfl, hh256, hhh, hI, hhF, hlF, hM⟩ := hcut
            by_cases hl : lo2 + 1 < h3
            · obtain ⟨hk, rfl⟩ : ∃ hk, h3 = hk + 1 := ⟨h3 - 1, by omega⟩
              have hsc : (hk + 1) * z = hk * z + z := Nat.succ_mul hk z
              have hge : (lo2 + 1) * z ≤ hk * z := Nat.mul_le_mul_right z (by omega)
              have hsl : (lo2 + 1) * z = lo2 * z + z := Nat.succ_mul lo2 z
              rw [Hp.out] at hsl
              have hkn : hk < os.length := by have := hI.hn; have := Hn.out.1; omega
              have hkF : (hk : Int) ∈ F := by simpa using hhF hl
              have hmv := hI.move hl (hlF (by omega)) (by simpa using hkF)
              rw [show hk + 1 - 1 = hk by omega] at hmv
              have hkA : (hk : Int) ∉ A2 := hI.out (by omega) (by omega)
              have hwm := wentF_move (os := os) hI.nodup (x := hk) (lo := lo2) hkn hI.len.symm (by omega) hkA
              rw [Hlk.out.1.place (Nat.le_of_lt hkn), Hlk.out.1.place (show lo2 ≤ os.length by have := hI.hn; have := hI.loh; have := Hn.out.1; omega), Hp.out] at hwm
              have hhs : (holes (A2 ++ [(hk : Int)])).length = (holes A2).length + 1 := by
                rw [holes_snoc, if_neg (by rw [hI.len]; omega), List.length_append]; rfl
              have hhl : (holes A2).length ≤ 100000 := by
                have h1 := List.length_filter_le (fun k => decide (A2[k.toNat]? ≠ some k)) (upTo A2.length)
                rw [upTo_len] at h1
                have h0 := hI.len
                have h2 := hI.loh
                have h3 := hI.hn
                have h4 : nO ≤ nO * z := Nat.le_mul_of_pos_right nO (by omega)
                unfold holes; omega
              obtain ⟨ph, hph⟩ : ∃ ph, hk * z = ph := ⟨_, rfl⟩
              rw [hph] at hsc hge hwm
              rw [hsc] at hh256
              rw [hsc, show ((ph + z : Nat) : Int) - z = (ph : Int) by omega]
              have e1 : decide ((p : Int) ≥ (ph : Int)) = false := decide_eq_false (by omega)
              have e1' : decide (ph ≤ p) = false := decide_eq_false (by omega)
              have e1'' : ¬ ph ≤ p := by omega
              have e2 : IntKind.i64.wrap ((p : Int) + z) = (p : Int) + z := IntWalk.i64_in _ (by omega)
              have e3 : IntKind.i64.wrap ((ph : Int) - z) = (ph : Int) - z := IntWalk.i64_in _ (by omega)
              have H64 : Hid (i64ok (ph : Int)) := Lib.hid (by unfold i64ok; omega)
              have Hhl := Lib.hid hhl
              have HM := Lib.hid hM
              have Hmv := Lib.hid (And.intro hmv (And.intro hwm (And.intro hhs (And.intro hph hsl))))
              clear hhF hlF hI hM hsc hge hsl hkn hkF hmv hkA hwm hhs hhl hph
              go_wp2_with (at_mapUpdate; refine Mem.wp_putG (M := mapII) rfl (.tmp 72) (.tmp 73) _ rfl HM.out 0 rfl Hhl.out rfl (ph : Int) (.int .i64 (p : Nat)) rfl rfl H64.out ?_; intro w5 hM5 hs5)
              go_roundg (hk - (lo2 + 1))
              case rel => exact ⟨lo2 + 1, hk, _, rfl, by rw [Hmv.out.2.2.2.2]; simp, by rw [Hmv.out.2.2.2.1], Hmv.out.1, hM5.cast (by rw [Hmv.out.2.1, Hmv.out.2.2.1]; rfl)⟩
              case measure => rw [← HgO.out]; omega
            · have hall := hI.all (by omega) hlF
              have hlen2 := hI.len
              have hK0 := ord_keeps HP.out.1 HP.out.2.2.1
              have hK : Keeps os rs A2 := ⟨hI.nodup, fun x hx => hK0.rng x ((hall x).1 hx), fun x hx he => (hall _).2 (hK0.roots x hx he), fun i hi x hx he => (hall _).2 (hK0.fields i ((hall i).1 hi) x hx he)⟩
              have hlo := hI.loh
              have hhn := hI.hn
              have hpn : p ≤ nO * z := by rw [← Hp.out]; exact Nat.mul_le_mul_right z (by omega)
              have hSe : ∀ X, Mem w4.heap.size w4 X [gmap mapII bm (holes A2).length (wentF os A2)] → Calls Try.prog 53 #[.agg #[.slice a1 (nO * z) c1, .slice a2 rs.length c2], .map (some bm), .int .i64 p] X fun e w' => ∃ v1 v2, e = .returned (.agg #[v1, v2]) ∧ Mem w4.heap.size w4 w' ([rowW 60 v1 (flat (relO os A2 (hdD os))), rowW 60 v2 (rs.map (mvW os A2))] ++ (gmap mapII bm (holes A2).length (wentF os A2) :: [])) := fun X hX =>
                settled_any w4 X a1 a2 (nO * z) c1 rs.length c2 p bm (holes A2).length (flat (mkO os F)) rs (wentF os A2) [] (by have := HI1.out; rwa [Hlk.out.2] at this) HI2.out (by rw [mkO_flat, ← HP.out.1.laid.1, Hlk.out.2]; exact hpn) (mkO_sound HP.out.1 F).words HP.out.1.roots hX ws os F A2 z HP.out.1 HP.out.2.1 (by rw [← HP.out.1.laid.1]; exact HP.out.2.2.2) Hlk.out.1 ⟨hz1, hz5⟩ hK (by rw [hlen2]; have := Hn.out.1; omega) rfl (by rw [hlen2, Hp.out]) rfl
              have HE : Hid (0 ≤ fn ∧ fn ≤ 4 ∧ Alike os (1 + fn.toNat) ∧ FI F os.length A2.length h3 A2 ∧ ∀ x, x ∈ A2 ↔ x ∈ F) := Lib.hid (by
                have h1 := Hz.out.1
                have h2 := Hz.out.2
                refine ⟨by omega, by omega, ?_, by rw [hlen2, Hn.out.1]; exact hI, hall⟩
                rw [show 1 + fn.toNat = z by omega]; exact Hlk.out.1)
              have HSe0 := Lib.hid hSe
              have hlv := Hlv.out lo2
              rw [Hp.out] at hlv
              have hge : h3 * z ≤ (lo2 + 1) * z := Nat.mul_le_mul_right z (by omega)
              have hsl : (lo2 + 1) * z = lo2 * z + z := Nat.succ_mul lo2 z
              have hle3 : lo2 < h3 → lo2 * z + z ≤ h3 * z := fun h => by rw [← Nat.succ_mul]; exact Nat.mul_le_mul_right z h
              have hge3 : ¬ lo2 < h3 → h3 * z ≤ lo2 * z := fun h => Nat.mul_le_mul_right z (by omega)
              rw [Hp.out] at hsl hle3 hge3
              obtain ⟨ph, hph⟩ : ∃ ph, h3 * z = ph := ⟨_, rfl⟩
              rw [hph] at hge hle3 hge3 hh256 ⊢
              have e1 : decide ((p : Int) ≥ (ph : Int) - z) = true := decide_eq_true (by omega)
              have e1' : (ph : Int) - z ≤ (p : Int) := by omega
              by_cases hl2 : lo2 < h3
              · have e2 : decide ((p : Int) ≤ (ph : Int) - z) = true := decide_eq_true (by have := hle3 hl2; omega)
                have hlv2 := hlv (by omega) wc hM.below
                rw [decide_eq_false (hlF hl2)] at hlv2
                have HC := Lib.hid hlv2
                have HSe := Lib.hid (hSe wc hM)
                have m0 : wc.cell? ⟨b7, 0, none⟩ = some (.slice a1 (nO * z) c1) := by have := Hm0.out wc hM.below; rwa [Hlk.out.2] at this
                have m1' : wc.cell? ⟨b7, 1, none⟩ = some (.slice a2 rs.length c2) := Hm1.out wc hM.below
                have mz : b7 < wc.heap.size := cell_ltQ m0
                clear hhF hlF hI hM hall hlen2 hK0 hK hlo hhn hpn hSe hlv hge hsl hle3 hge3 hph HSe0 hlv2
                go_wp2_with fail
                refine HC.out.mono ?_
                rintro e w5 ⟨rfl, rfl⟩
                clear HC
                go_wp2_with fail
                refine HSe.out.mono ?_
                rintro e w9 ⟨v1, v2, rfl, hM9⟩
                obtain ⟨x1, m1, k1, rfl⟩ := own_slice (hM9.row 0 rfl)
                obtain ⟨x2, m2, k2, rfl⟩ := own_slice (hM9.row 1 rfl)
                have hM10 := HM5.out.callMem hM9
                obtain ⟨_, _, D, hD, _, hDk⟩ := gmap_own (hM10.get 2 rfl)
                have hcle := Nat.le_antisymm hD.size_le (went_size HE.out.2.2.2.1.nodup (fun x hx => (ord_keeps HP.out.1 HP.out.2.2.1).rng x (HE.out.2.2.2.1.sub x hx)) (by have := HP.out.1.words; rw [HP.out.1.laid.1] at this; omega) hDk)
                have r0 : w9.cell? ⟨w.heap.size + 1 + 1, 0, none⟩ = some (.slice none 0 0) := by have := hM10.cell 5 rfl 0; simpa using this
                have r1 : w9.cell? ⟨w.heap.size + 1 + 1, 1, none⟩ = some (.slice none 0 0) := by have := hM10.cell 5 rfl 1; simpa using this
                have r2 : w9.frozen? ⟨w.heap.size + 1 + 1, 0, none⟩ = false := hM10.free 5 rfl 0
                have r3 : w9.frozen? ⟨w.heap.size + 1 + 1, 1, none⟩ = false := hM10.free 5 rfl 1
                have rz : w.heap.size + 1 + 1 < w9.heap.size := (hM10.box 5 rfl).2.1
                have HD := Lib.hid hD
                have HM10 := Lib.hid hM10
                have Hcle := Lib.hid hcle
                clear hM9 hM10 hD hDk hcle HSe
                have hlen : (Builtin.len_ #[75] 3 #[.map (some bm)]).run Try.prog w9 = .ok (.int .i64 (Maps.size D : Nat)) w9 := HD.out.len Try.underlying75 _
                go_wp2
                obtain ⟨W9, hW9⟩ : ∃ W9, W9 = (w9.setCell ⟨w.heap.size + 1 + 1, 0, none⟩ (.slice x1 m1 k1)).setCell ⟨w.heap.size + 1 + 1, 1, none⟩ (.slice x2 m2 k2) := ⟨_, rfl⟩
                have hM8 := (HM10.out.setBox 5 rfl 0 (.slice x1 m1 k1)).setBox 5 rfl 1 (.slice x2 m2 k2)
                rw [← hW9] at hM8 ⊢
                have s0 : W9.cell? ⟨w.heap.size + 1 + 1, 0, none⟩ = some (.slice x1 m1 k1) := by have := hM8.cell 5 rfl 0; simpa using this
                have s1 : W9.cell? ⟨w.heap.size + 1 + 1, 1, none⟩ = some (.slice x2 m2 k2) := by have := hM8.cell 5 rfl 1; simpa using this
                refine bodyPost_ret (v := .tuple #[.agg #[.slice x1 m1 k1, .slice x2 m2 k2], .int .i64 (Maps.size D : Nat), .int .i64 0]) (by simp [results, Try.results23, go_sem, s0, s1]) rfl (.inr ⟨_, _, A2, h3, Maps.size D, HE.out.1, HE.out.2.1, HE.out.2.2.1, HE.out.2.2.2.1, HE.out.2.2.2.2, Hcle.out, rfl, ?_⟩)
                exact hM8.pick0 [0, 1] (by decide) rfl
              · have e2 : decide ((p : Int) ≤ (ph : Int) - z) = false := decide_eq_false (by have := hge3 hl2; omega)
                have HSe := Lib.hid (hSe wc hM)
                have m0 : wc.cell? ⟨b7, 0, none⟩ = some (.slice a1 (nO * z) c1) := by have := Hm0.out wc hM.below; rwa [Hlk.out.2] at this
                have m1' : wc.cell? ⟨b7, 1, none⟩ = some (.slice a2 rs.length c2) := Hm1.out wc hM.below
                have mz : b7 < wc.heap.size := cell_ltQ m0
                clear hhF hlF hI hM hall hlen2 hK0 hK hlo hhn hpn hSe hlv hge hsl hle3 hge3 hph HSe0
                go_wp2_with fail
                refine HSe.out.mono ?_
                rintro e w9 ⟨v1, v2, rfl, hM9⟩
                obtain ⟨x1, m1, k1, rfl⟩ := own_slice (hM9.row 0 rfl)
                obtain ⟨x2, m2, k2, rfl⟩ := own_slice (hM9.row 1 rfl)
                have hM10 := HM5.out.callMem hM9
                obtain ⟨_, _, D, hD, _, hDk⟩ := gmap_own (hM10.get 2 rfl)
                have hcle := Nat.le_antisymm hD.size_le (went_size HE.out.2.2.2.1.nodup (fun x hx => (ord_keeps HP.out.1 HP.out.2.2.1).rng x (HE.out.2.2.2.1.sub x hx)) (by have := HP.out.1.words; rw [HP.out.1.laid.1] at this; omega) hDk)
                have r0 : w9.cell? ⟨w.heap.size + 1 + 1, 0, none⟩ = some (.slice none 0 0) := by have := hM10.cell 5 rfl 0; simpa using this
                have r1 : w9.cell? ⟨w.heap.size + 1 + 1, 1, none⟩ = some (.slice none 0 0) := by have := hM10.cell 5 rfl 1; simpa using this
                have r2 : w9.frozen? ⟨w.heap.size + 1 + 1, 0, none⟩ = false := hM10.free 5 rfl 0
                have r3 : w9.frozen? ⟨w.heap.size + 1 + 1, 1, none⟩ = false := hM10.free 5 rfl 1
                have rz : w.heap.size + 1 + 1 < w9.heap.size := (hM10.box 5 rfl).2.1
                have HD := Lib.hid hD
                have HM10 := Lib.hid hM10
                have Hcle := Lib.hid hcle
                clear hM9 hM10 hD hDk hcle HSe
                have hlen : (Builtin.len_ #[75] 3 #[.map (some bm)]).run Try.prog w9 = .ok (.int .i64 (Maps.size D : Nat)) w9 := HD.out.len Try.underlying75 _
                go_wp2
                obtain ⟨W9, hW9⟩ : ∃ W9, W9 = (w9.setCell ⟨w.heap.size + 1 + 1, 0, none⟩ (.slice x1 m1 k1)).setCell ⟨w.heap.size + 1 + 1, 1, none⟩ (.slice x2 m2 k2) := ⟨_, rfl⟩
                have hM8 := (HM10.out.setBox 5 rfl 0 (.slice x1 m1 k1)).setBox 5 rfl 1 (.slice x2 m2 k2)
                rw [← hW9] at hM8 ⊢
                have s0 : W9.cell? ⟨w.heap.size + 1 + 1, 0, none⟩ = some (.slice x1 m1 k1) := by have := hM8.cell 5 rfl 0; simpa using this
                have s1 : W9.cell? ⟨w.heap.size + 1 + 1, 1, none⟩ = some (.slice x2 m2 k2) := by have := hM8.cell 5 rfl 1; simpa using this
                refine bodyPost_ret (v := .tuple #[.agg #[.slice x1 m1 k1, .slice x2 m2 k2], .int .i64 (Maps.size D : Nat), .int .i64 0]) (by simp [results, Try.results23, go_sem, s0, s1]) rfl (.inr ⟨_, _, A2, h3, Maps.size D, HE.out.1, HE.out.2.1, HE.out.2.2.1, HE.out.2.2.2.1, HE.out.2.2.2.2, Hcle.out, rfl, ?_⟩)
                exact hM8.pick0 [0, 1] (by decide) rfl
end Go.Proofs.Ytgdodbdipbomfaa
