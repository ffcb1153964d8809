/- mark.Mark at a sound arena, walked. -/
import Derived.Test.YtgdodbdipbomfaaNa
namespace Go.Proofs.Ytgdodbdipbomfaa
open Go.RowKit Go.Shelf

theorem targets_sub {os : List Ob} {l : List Int} {k : Nat} {y : Int} (hy : l[k]? = some y) {M M' : List Int} (h : ∀ j ∈ targets ((l.take k).map (valG os)), j ∈ M) (hM : ∀ x ∈ M, x ∈ M') (h1 : ∀ j ∈ targets [valG os y], j ∈ M') :
    ∀ j ∈ targets ((l.take (k + 1)).map (valG os)), j ∈ M' := by
  rw [take_succ_some _ _ _ hy, List.map_append, targets_append]
  intro j hj
  rcases List.mem_append.1 hj with hj | hj
  · exact hM j (h j hj)
  · exact h1 j hj
theorem mem_one {os : List Ob} {s s2 : KS} {y : Int} : (∀ j ∈ targets [valG os y], j ∈ s.M) → s.M <+: s2.M → ∀ j ∈ targets [valG os y], j ∈ s2.M := fun h hp j hj => hp.subset (h j hj)
def lostN (b : Bool) : Nat := if b then 1 else 0
def ghost (F : List Int) (s : KS) : Nat := 2 * (F.length - s.M.length) + lostN s.lost
/-- A turn of the last loop lowers it. -/
theorem ghost_lt {g : G} {F : List Int} {r : Nat} {s s' : KS} (hl : s.lost = true) (h : Goes g F r ⟨s.M, s.S, false⟩ s') : ghost F s' < ghost F s := by
  have h1 := h.pre.length_le
  have h2 := h.inv.len
  simp only at h1
  unfold ghost lostN
  rw [hl]
  cases hs : s'.lost with
  | false => simp; omega
  | true =>
    rcases h.lost2 hs with e | e
    · cases e
    · simp only at e; simp; omega

theorem cl_skip {g : G} {s : KS} {k : Nat} (h : Cl g (fun y => (k : Int) ≤ y) s) (hk : (k : Int) ∉ s.M) : Cl g (fun y => ((k + 1 : Nat) : Int) ≤ y) s := by
  intro e y hy
  rcases h e y hy with h1 | h1 | h1
  · exact .inl h1
  · exact .inr (.inl h1)
  · refine .inr (.inr ?_)
    have : y ≠ k := by rintro rfl; exact hk hy
    omega
theorem cl_took {g : G} {s : KS} {k : Nat} (h : Cl g (fun y => (k : Int) ≤ y) s) (hk : ∀ j ∈ targets (fieldsAt g (k : Int)), j ∈ s.M) : Cl g (fun y => ((k + 1 : Nat) : Int) ≤ y) s := by
  intro e y hy
  rcases h e y hy with h1 | h1 | h1
  · exact .inl h1
  · exact .inr (.inl h1)
  · by_cases e2 : y = k
    · subst e2; exact .inr (.inl hk)
    · exact .inr (.inr (by omega))
theorem cl_start {g : G} {F : List Int} {r : Nat} {s : KS} (hI : KInv F r s) (hr : ∀ x ∈ F, 0 ≤ x) : Cl g (fun y => ((0 : Nat) : Int) ≤ y) s := fun _ y hy => .inr (.inr (hr y (hI.sub y hy)))
theorem cl_end {g : G} {F : List Int} {r : Nat} {s : KS} {n : Nat} (h : Cl g (fun y => (n : Int) ≤ y) s) (hI : KInv F r s) (hr : ∀ x ∈ F, x < (n : Int)) : Cl g (fun _ => False) s := by
  intro e y hy
  rcases h e y hy with h1 | h1 | h1
  · exact .inl h1
  · exact .inr (.inl h1)
  · have := hr y (hI.sub y hy); omega

set_option maxRecDepth 100000 in
set_option maxHeartbeats 4000000 in
theorem mark_yes (vw vr : Value) (ws rs : List Int) (os : List Ob) (F : List Int) (r : Nat) (w : World) (hw : IsW w vw ws) (hr : IsW w vr rs) (hE : Env ws rs os F r) (hr1 : 1 ≤ r) :
    Calls Try.prog 21 #[.agg #[vw, vr], .int .i64 r] w fun e w' => ∃ v1 v2, e = .returned (.tuple #[.agg #[v1, v2], .int .i64 0]) ∧ Mem w.heap.size w w' [rowW 60 v1 (flat (mkO os F)), rowW 60 v2 rs] := by
  have Hw := Lib.hid hw
  have Hr := Lib.hid hr
  have HE := Lib.hid hE
  obtain ⟨aw, cw, rfl, hmw⟩ := hw.slice
  obtain ⟨ar, cr, rfl, hmr⟩ := hr.slice
  have hM0 := (((Mem.start w).alloc #[.slice aw ws.length cw, .slice ar rs.length cr] 24).allocAt (w.heap.size + 1) (by simp) #[.slice none 0 0, .slice none 0 0] 24)
  have HC := Lib.hid (acheck_any _ _ ws rs _ (hw.later hM0.below) (hr.later hM0.below))
  have HM0 := Lib.hid hM0
  have hrs := hE.sound.roots
  have hws := hE.sound.words
  have hr64 := hE.room
  clear hw hr hM0 hE hmw hmr
  go_enter Try.func21, Try.ntmps21
  go_wp2_with fail
  refine HC.out.mono ?_
  rintro e w2 ⟨c, rfl, hb, hcase⟩
  rcases hcase with ⟨rfl, _⟩ | ⟨_, hno⟩
  · have hM2 := HM0.out.call hb
    have c0 : w2.cell? ⟨w.heap.size, 0, none⟩ = some (.slice aw ws.length cw) := by have := hM2.cell 1 rfl 0; simpa using this
    have c1 : w2.cell? ⟨w.heap.size, 1, none⟩ = some (.slice ar rs.length cr) := by have := hM2.cell 1 rfl 1; simpa using this
    have z0 : w.heap.size < w2.heap.size := (hM2.box 1 rfl).2.1
    have HCl := Lib.hid (cleared_any _ _ ws rs os w2 (Hw.out.later hM2.below) (Hr.out.later hM2.below) HE.out.sound)
    have HM2 := Lib.hid hM2
    have e1 : decide ((r : Int) < 1) = false := decide_eq_false (by omega)
    have e2 : decide ((r : Int) > 64) = false := decide_eq_false (by omega)
    clear hb hM2 HM0 HC
    go_wp2_with fail
    refine HCl.out.mono ?_
    rintro e w5 ⟨v1, v2, rfl, hM5⟩
    obtain ⟨a1, n1, c1', rfl⟩ := own_slice (hM5.row 0 rfl)
    obtain ⟨a2, n2, c2', rfl⟩ := own_slice (hM5.row 1 rfl)
    have hM6 := (((HM2.out.callMem hM5).nilI 3).alloc #[.slice a1 n1 c1', .slice a2 n2 c2', .slice none 0 0, .int .i64 r, .bool false] 87).pick0 [0, 2, 1, 3, 4, 5] (A' := [ebox w5.heap.size #[.slice a1 n1 c1', .slice a2 n2 c2', .slice none 0 0, .int .i64 r, .bool false] 87, rowW 60 (.slice a1 n1 c1') (flat (mkO os [])), rowI 3 (.slice none 0 0) [], rowW 60 (.slice a2 n2 c2') rs, ebox (w.heap.size + 1) #[.slice none 0 0, .slice none 0 0] 24, ebox w.heap.size #[.slice aw ws.length cw, .slice ar rs.length cr] 24]) (by decide) rfl
    obtain ⟨bM, hbM⟩ : ∃ bM, w5.heap.size = bM := ⟨_, rfl⟩
    obtain ⟨W6, hW6⟩ : ∃ W6, w5.alloc (.cells #[.slice a1 n1 c1', .slice a2 n2 c2', .slice none 0 0, .int .i64 r, .bool false] 87) = W6 := ⟨_, rfl⟩
    rw [hbM, hW6] at hM6
    obtain ⟨L, hLe⟩ : ∃ L, [rowW 60 (.slice a2 n2 c2') rs, ebox (w.heap.size + 1) #[.slice none 0 0, .slice none 0 0] 24, ebox w.heap.size #[.slice aw ws.length cw, .slice ar rs.length cr] 24] = L := ⟨_, rfl⟩
    have hM7 : Mem w.heap.size w W6 (ownK bM (.slice a1 n1 c1') (.slice a2 n2 c2') (.slice none 0 0) os r ⟨[], [], false⟩ ++ L) := by rw [← hLe]; exact hM6
    have hM5b := HM2.out.callMem hM5
    have d1 : w5.cell? ⟨w.heap.size, 1, none⟩ = some (.slice ar rs.length cr) := by have := hM5b.cell 3 rfl 1; simpa using this
    have dz : w.heap.size < w5.heap.size := (hM5b.box 3 rfl).2.1
    have HM7 := Lib.hid hM7
    have HLe := Lib.hid hLe
    have HbM := Lib.hid hbM
    have HW6 := Lib.hid hW6
    clear hM5 hM5b hM6 hM7 hbM hW6 hLe c0 c1 z0 HCl HM2
    obtain ⟨n, hn⟩ : ∃ n, rs.length = n := ⟨_, rfl⟩
    have Hn := Lib.hid hn
    rw [hn] at d1 hrs
    rw [hn]
    clear hn
    go_wp2_with fail
    rw [HbM.out, HW6.out]
    clear d1 dz
    have hinv0 : KInv F r ⟨[], [], false⟩ := ⟨List.nodup_nil, by simp, by simp, Nat.zero_le _⟩
    have Hinv0 := Lib.hid hinv0
    clear hinv0 hr1 e1 e2
    go_loopw [35] (fun i wr => ∃ (k : Nat) (sv : Value) (s : KS), k ≤ n ∧ i = .int .i64 k ∧ Goes (readG os rs) F r ⟨[], [], false⟩ s ∧ s.S = [] ∧ (∀ j ∈ targets ((rs.take k).map (valG os)), j ∈ s.M) ∧ Mem w.heap.size w wr (ownK bM (.slice a1 n1 c1') (.slice a2 n2 c2') sv os r s ++ L)) (fun i _ => n - (intOf i).toNat)
    case atStart => exact ⟨0, _, _, Nat.zero_le _, rfl, Goes.refl Hinv0.out, rfl, by simp [targets], HM7.out⟩
    case round =>
      clear HM7
      obtain ⟨k, sv, s, hk, rfl, hG, hS0, hT, hM⟩ := hrel
      by_cases hlt : k < n
      · obtain ⟨y, hy⟩ := get_some rs k (by rw [Hn.out]; exact hlt)
        obtain ⟨b, off, cap2, hv, hb, hb1, d1, hy64⟩ := Hr.out.at hM.below hy
        rw [Hn.out] at hv
        cases hv
        have hrt := HE.out.root y (List.mem_of_getElem? hy)
        have hC := visit_any w _ bM r _ _ sv ws os F _ L y HE.out.sound.laid hrt.2.2 hrt.2.1 hG.inv HE.out.room hM
        obtain ⟨hV1, hV2⟩ := visW_goes (readG os rs) os hG.inv hrt.1
        have HC := Lib.hid hC
        have Hws := Hw.out.all
        have HV1 := Lib.hid hV1
        have HV2 := Lib.hid hV2
        have HT := Lib.hid (And.intro hG (And.intro hT hy))
        clear hM hy64 hrt hC hV1 hV2 hG hT hy hS0
        go_wp2_with fail
        refine HC.out.mono ?_
        rintro e w7 ⟨rfl, sv4, hM7⟩
        have HD := Lib.hid (drain_any w w7 bM r _ _ sv4 ws rs os F _ L HE.out Hws HV1.out.inv hM7)
        clear hM7 HC d1 Hws
        go_wp2_with fail
        refine HD.out.mono ?_
        rintro e w8 ⟨rfl, sv5, s5, hG5, hS5, hM8⟩
        have HM8 := Lib.hid hM8
        have HG5 := Lib.hid hG5
        clear HD hM8 hG5
        go_wp2
        go_roundw
        case rel => exact ⟨k + 1, sv5, s5, by omega, by go_num, HT.out.1.trans (HV1.out.trans HG5.out), hS5, targets_sub HT.out.2.2 HT.out.2.1 (HV1.out.pre.trans HG5.out.pre).subset (mem_one HV2.out HG5.out.pre), HM8.out⟩
        case measure => simp [intOf]; omega
      · obtain rfl : k = n := by omega
        rw [show rs.take k = rs by rw [← Hn.out, List.take_length]] at hT
        have hcl : Cl (readG os rs) (fun _ => False) s := hG.cl _ (by intro _ y hy; cases hy)
        have HP := Lib.hid (And.intro hG.inv (And.intro hcl (show ∀ j ∈ targets (readG os rs).roots, j ∈ s.M from hT)))
        have HM := Lib.hid hM
        obtain ⟨g0, hg0⟩ : ∃ g0, ghost F s = g0 := ⟨_, rfl⟩
        have Hg0 := Lib.hid hg0
        clear hM hG hT hcl hlt hg0
        go_wp2
        go_loopg [] g0 (fun gk wr => ∃ (sv : Value) (s : KS), ghost F s = gk ∧ s.S = [] ∧ KInv F r s ∧ Cl (readG os rs) (fun _ => False) s ∧ (∀ j ∈ targets (readG os rs).roots, j ∈ s.M) ∧ Mem w.heap.size w wr (ownK bM (.slice a1 n1 c1') (.slice a2 n2 c2') sv os r s ++ L))
        case atStart => exact ⟨sv, s, Hg0.out, hS0, HP.out.1, HP.out.2.1, HP.out.2.2, HM.out⟩
        case round =>
          clear HM HP Hg0 hS0
          obtain ⟨sv, s, hgk, hS0, hI, hcl, hT, hM⟩ := hrel
          have hM0 := hM
          rw [← HLe.out] at hM
          unfold ownK at hM
          have c4 : wr.cell? ⟨bM, 4, none⟩ = some (.bool s.lost) := by have := hM.cell 0 rfl 4; simpa using this
          have zM : bM < wr.heap.size := (hM.box 0 rfl).2.1
          obtain ⟨lo, hlo⟩ : ∃ lo, s.lost = lo := ⟨_, rfl⟩
          cases lo with
          | false =>
            have hall := mark_all HE.out.ord hI hlo hS0 hcl hT
            rw [mkO_same os (N := F) (fun k _ => hall k)] at hM
            rw [hlo] at c4
            have c0 : wr.cell? ⟨bM, 0, none⟩ = some (.slice a1 n1 c1') := by have := hM.cell 0 rfl 0; simpa using this
            have c1 : wr.cell? ⟨bM, 1, none⟩ = some (.slice a2 n2 c2') := by have := hM.cell 0 rfl 1; simpa using this
            have r0 : wr.cell? ⟨w.heap.size + 1, 0, none⟩ = some (.slice none 0 0) := by have := hM.cell 4 rfl 0; simpa using this
            have r1 : wr.cell? ⟨w.heap.size + 1, 1, none⟩ = some (.slice none 0 0) := by have := hM.cell 4 rfl 1; simpa using this
            have r2 : wr.frozen? ⟨w.heap.size + 1, 0, none⟩ = false := hM.free 4 rfl 0
            have r3 : wr.frozen? ⟨w.heap.size + 1, 1, none⟩ = false := hM.free 4 rfl 1
            have rz : w.heap.size + 1 < wr.heap.size := (hM.box 4 rfl).2.1
            have HM7 := Lib.hid ((hM.setBox 4 rfl 0 (.slice a1 n1 c1')).setBox 4 rfl 1 (.slice a2 n2 c2'))
            clear hM hM0 hI hcl hT hlo hall
            go_wp2
            obtain ⟨W9, hW9⟩ : ∃ W9, W9 = (wr.setCell ⟨w.heap.size + 1, 0, none⟩ (.slice a1 n1 c1')).setCell ⟨w.heap.size + 1, 1, none⟩ (.slice a2 n2 c2') := ⟨_, rfl⟩
            have hM8 := HM7.out
            rw [← hW9] at hM8 ⊢
            have s0 : W9.cell? ⟨w.heap.size + 1, 0, none⟩ = some (.slice a1 n1 c1') := by have := hM8.cell 4 rfl 0; simpa using this
            have s1 : W9.cell? ⟨w.heap.size + 1, 1, none⟩ = some (.slice a2 n2 c2') := by have := hM8.cell 4 rfl 1; simpa using this
            refine bodyPost_ret (v := .tuple #[.agg #[.slice a1 n1 c1', .slice a2 n2 c2'], .int .i64 0]) (by simp [results, Try.results21, go_sem, s0, s1]) rfl ⟨_, _, rfl, ?_⟩
            exact hM8.pick0 [1, 3] (by decide) rfl
          | true =>
            rw [hlo] at c4
            have f4 : wr.frozen? ⟨bM, 4, none⟩ = false := hM.free 0 rfl 4
            have hM1 := hM.setBox 0 rfl 4 (.bool false)
            have hMk : Mem w.heap.size w (wr.setCell ⟨bM, 4, none⟩ (.bool false)) (ownK bM (.slice a1 n1 c1') (.slice a2 n2 c2') sv os r ⟨s.M, s.S, false⟩ ++ L) := by
              rw [← HLe.out]; exact hM1.cast (by simp [ownK])
            have p0 : (wr.setCell ⟨bM, 4, none⟩ (.bool false)).cell? ⟨w.heap.size, 0, none⟩ = some (.slice aw ws.length cw) := by have := hM1.cell 5 rfl 0; simpa using this
            have p1 : (wr.setCell ⟨bM, 4, none⟩ (.bool false)).cell? ⟨w.heap.size, 1, none⟩ = some (.slice ar rs.length cr) := by have := hM1.cell 5 rfl 1; simpa using this
            have pz : w.heap.size < wr.heap.size := (hM.box 5 rfl).2.1
            obtain ⟨W1, hW1⟩ : ∃ W1, wr.setCell ⟨bM, 4, none⟩ (.bool false) = W1 := ⟨_, rfl⟩
            rw [hW1] at hM1 hMk
            have HBg := Lib.hid (begins_any _ (.slice ar rs.length cr) ws os W1 (Hw.out.later hM1.below) ⟨_, _, _, rfl⟩ HE.out.sound.laid hws)
            have HMk := Lib.hid hMk
            have HW1 := Lib.hid hW1
            have hr0 : ∀ x ∈ F, 0 ≤ x := fun x hx => (HE.out.rng x hx).1
            have hI1 : KInv F r ⟨s.M, s.S, false⟩ := ⟨hI.nodup, hI.sub, hI.wait, hI.room⟩
            have HQ := Lib.hid (And.intro hgk (And.intro hlo (And.intro hT (And.intro hI1 (cl_start (g := readG os rs) hI1 hr0)))))
            clear hM hM0 hM1 hMk hW1 hI hcl hT hlo hgk hr0 hI1
            go_wp2_with fail
            rw [HW1.out]
            refine HBg.out.mono ?_
            rintro e w9 ⟨rv, rfl, hM9⟩
            have hM10 := HMk.out.callMem hM9
            obtain ⟨ab, cb, rfl⟩ := own_row (hM10.row 0 rfl)
            obtain ⟨nn, hnn⟩ : ∃ nn, os.length = nn := ⟨_, rfl⟩
            have hnn256 : nn ≤ 256 := by
              have := HE.out.sound.laid.count
              omega
            rw [starts_len, hnn] at hM10
            have hM11 : Mem w.heap.size w w9 (ownK bM (.slice a1 n1 c1') (.slice a2 n2 c2') sv os r ⟨s.M, s.S, false⟩ ++ (rowI 3 (.slice ab nn cb) (starts os) :: L)) := hM10.perm (List.perm_middle (l₁ := ownK bM (.slice a1 n1 c1') (.slice a2 n2 c2') sv os r ⟨s.M, s.S, false⟩) (l₂ := L))
            have HM11 := Lib.hid hM11
            have Hnn := Lib.hid hnn
            clear hM9 hM10 hM11 hnn HBg HMk c4 f4 zM p0 p1 pz
            rw [starts_len, Hnn.out]
            go_wp2
            go_loopw [55] (fun i wr => ∃ (k : Nat) (sv2 : Value) (s2 : KS), k ≤ nn ∧ i = .int .i64 k ∧ Goes (readG os rs) F r ⟨s.M, s.S, false⟩ s2 ∧ s2.S = [] ∧ Cl (readG os rs) (fun y => (k : Int) ≤ y) s2 ∧ Mem w.heap.size w wr (ownK bM (.slice a1 n1 c1') (.slice a2 n2 c2') sv2 os r s2 ++ (rowI 3 (.slice ab nn cb) (starts os) :: L))) (fun i _ => nn - (intOf i).toNat)
            case atStart => exact ⟨0, sv, _, Nat.zero_le _, rfl, Goes.refl HQ.out.2.2.2.1, hS0, HQ.out.2.2.2.2, HM11.out⟩
            case round =>
              clear HM11
              obtain ⟨k, sv2, s2, hk, rfl, hG, hS2, hcl, hM⟩ := hrel
              by_cases hlt : k < nn
              · have hko : k < os.length := by rw [Hnn.out]; exact hlt
                have hL := HE.out.sound.laid
                have hgd := hd_good hL hko
                have hhp := hdS_parts hgd.1 (decide ((k : Int) ∈ s2.M))
                have hh := mkO_head os s2.M hko
                have hst := starts_get hko
                have hft := hL.fit (obj_get (os := os) (i := (k : Int)) ⟨by omega, by omega⟩)
                rw [Int.toNat_natCast] at hft
                have hfl := mkO_flat os s2.M
                rw [← hL.1] at hfl
                obtain ⟨q, hq⟩ : ∃ q, place os k = q := ⟨_, rfl⟩
                rw [hq] at hh hst hft
                have HM := Lib.hid hM
                unfold ownK at hM
                obtain ⟨gw, cw', hv, hgw, dw, _⟩ := hM.wordsAt 1 rfl hh
                rw [hfl] at hv
                cases hv
                obtain ⟨gb, cpb, hv, _, hgb, hcb, _⟩ := hM.intsAt 3 rfl (by rintro e; rw [e] at hst; simp at hst)
                rw [starts_len, Hnn.out] at hv
                cases hv
                have d2 := hcb k _ hst
                have c0 : wr.cell? ⟨bM, 0, none⟩ = some (.slice (some ⟨gw, 0, none⟩) ws.length c1') := by have := hM.cell 0 rfl 0; simpa using this
                have zM : bM < wr.heap.size := (hM.box 0 rfl).2.1
                have q1 : q < ws.length := by omega
                have q2 : (q : Int) < ws.length := by omega
                obtain ⟨h, hhe⟩ : ∃ h, hdM os s2.M k = h := ⟨_, rfl⟩
                have hhd : isHead h := by rw [← hhe]; exact hhp.2.2.2.1
                have hbit : (h / 256 % 2 == 1) = decide ((k : Int) ∈ s2.M) := by rw [← hhe]; exact hhp.2.1
                have hB := mbit_any h wr hhd
                rw [hbit] at hB
                rw [hhe] at dw hh
                by_cases hkM : (k : Int) ∈ s2.M
                · rw [decide_eq_true hkM] at hB
                  have hIw := HE.out.isW hM 1 rfl Hw.out.all
                  obtain ⟨fs, hfs⟩ : ∃ fs, (obj os k).2 = fs := ⟨_, rfl⟩
                  obtain ⟨m, hm⟩ : ∃ m, fs.length = m := ⟨_, rfl⟩
                  have hkF := hG.inv.sub _ hkM
                  have hfld := HE.out.fld hkF
                  have hfx : ∀ (M : List Int) (j : Nat) (x : Int), fs[j]? = some x → (flat (mkO os M))[q + 1 + j]? = some x := fun M j x hx => by
                    rw [← hq]; exact mkO_field os M hko (by rw [hfs]; exact hx)
                  rw [hfs] at hfld hgd hft
                  rw [hm] at hgd hft
                  have hh256 : h % 256 = m := by rw [← hhe]; unfold hdM; rw [hhp.1]; exact hgd.2.1.symm
                  obtain ⟨aF, cF, haF, hFl⟩ := aFields_at wr gw 0 ws.length c1' (flat (mkO os s2.M)) fs q m h hIw hh hhd hh256 hm (by rw [hfl]; exact hft) (by rw [hfl]; exact hws)
                  simp only [Nat.zero_add] at haF
                  have hrf := read_field (os := os) (rs := rs) (HE.out.rng _ hkF)
                  rw [hfs] at hrf
                  have HB := Lib.hid hB
                  have HFl := Lib.hid hFl
                  have HaF := Lib.hid haF
                  have Hfld := Lib.hid hfld
                  have Hfx := Lib.hid hfx
                  have Hm := Lib.hid hm
                  have Hrf := Lib.hid hrf
                  have HG := Lib.hid hG
                  have Hcl := Lib.hid hcl
                  have Hfl := Lib.hid (fun (M : List Int) => show (flat (mkO os M)).length = ws.length by rw [mkO_flat, ← hL.1])
                  have hm4 := hgd.2.2
                  clear hM hL hgd hhp hh hst hft hfl hq hcb hhe hhd hbit hB hIw hfs hm hkF hfld hfx hh256 haF hFl hrf hG hcl hko
                  go_wp2_with fail
                  refine HB.out.mono ?_
                  rintro e w1 ⟨rfl, rfl⟩
                  clear HB
                  go_wp2_with fail
                  refine HFl.out.mono ?_
                  rintro e w12 ⟨rfl, hb12⟩
                  have HM12 := Lib.hid (HM.out.call hb12)
                  clear hb12 HFl HM c0 zM dw d2 hgw hgb
                  go_wp2
                  go_loopw [76] (fun j w6 => ∃ (jn : Nat) (sv3 : Value) (s3 : KS), jn ≤ m ∧ j = .int .i64 jn ∧ Goes (readG os rs) F r s2 s3 ∧ s3.S = [] ∧ (∀ j ∈ targets ((fs.take jn).map (valG os)), j ∈ s3.M) ∧ Mem w.heap.size w w6 (ownK bM (.slice (some ⟨gw, 0, none⟩) ws.length c1') (.slice a2 n2 c2') sv3 os r s3 ++ (rowI 3 (.slice (some ⟨gb, 0, none⟩) nn cb) (starts os) :: L))) (fun j _ => m - (intOf j).toNat)
                  case atStart => exact ⟨0, sv2, s2, Nat.zero_le _, rfl, Goes.refl HG.out.inv, hS2, by simp [targets], HM12.out⟩
                  case round =>
                    clear HM12
                    obtain ⟨jn, sv3, s3, hjn, rfl, hG3, hS3, hT3, hM⟩ := hrel
                    by_cases hlt2 : jn < m
                    · obtain ⟨y, hy⟩ := get_some fs jn (by rw [Hm.out]; exact hlt2)
                      have hf := Hfld.out y (List.mem_of_getElem? hy)
                      have hC := visit_any w _ bM r _ _ sv3 ws os F _ _ y HE.out.sound.laid hf.2.2 hf.2.1 hG3.inv HE.out.room hM
                      obtain ⟨hV1, hV2⟩ := visW_goes (readG os rs) os hG3.inv hf.1
                      have HC := Lib.hid hC
                      have Hws := Lib.hid Hw.out.all
                      have HV1 := Lib.hid hV1
                      have HV2 := Lib.hid hV2
                      have HT := Lib.hid (And.intro hG3 (And.intro hT3 hy))
                      unfold ownK at hM
                      obtain ⟨gw', cw', hv, hg6, dy, _⟩ := hM.wordsAt 1 rfl (Hfx.out _ jn y hy)
                      rw [Hfl.out] at hv
                      cases hv
                      obtain rfl : aF = some ⟨gw, q + 1, none⟩ := HaF.out.resolve_left (by omega)
                      have j1 : (jn : Int) < m := by omega
                      clear hM hy hf hC hV1 hV2 hG3 hT3 hS3
                      go_wp2_with fail
                      refine HC.out.mono ?_
                      rintro e w7 ⟨rfl, sv4, hM7⟩
                      have HD := Lib.hid (drain_any w w7 bM r _ _ sv4 ws rs os F _ _ HE.out Hws.out HV1.out.inv hM7)
                      clear hM7 HC dy hg6
                      go_wp2_with fail
                      refine HD.out.mono ?_
                      rintro e w8 ⟨rfl, sv5, s5, hG5, hS5, hM8⟩
                      have HM8 := Lib.hid hM8
                      have HG5 := Lib.hid hG5
                      clear HD hM8 hG5
                      go_wp2
                      go_roundw
                      case rel => exact ⟨jn + 1, sv5, s5, by omega, by go_num, HT.out.1.trans (HV1.out.trans HG5.out), hS5, targets_sub HT.out.2.2 HT.out.2.1 (HV1.out.pre.trans HG5.out.pre).subset (mem_one HV2.out HG5.out.pre), HM8.out⟩
                      case measure => simp [intOf]; omega
                    · obtain rfl : jn = m := by omega
                      rw [show fs.take jn = fs by rw [← Hm.out, List.take_length], ← Hrf.out] at hT3
                      have HP := Lib.hid (And.intro (HG.out.trans hG3) (And.intro (cl_took (hG3.cl _ Hcl.out) hT3) hM))
                      clear hM hG3 hT3
                      go_wp2
                      go_roundw
                      case rel => exact ⟨k + 1, sv3, s3, by omega, by go_num, HP.out.1, hS3, HP.out.2.1, HP.out.2.2⟩
                      case measure => simp [intOf]; omega
                · rw [decide_eq_false hkM] at hB
                  have HB := Lib.hid hB
                  have HG := Lib.hid hG
                  have Hcl := Lib.hid (cl_skip hcl hkM)
                  clear hM hL hgd hhp hh hst hft hfl hq hcb hhe hhd hbit hB hG hcl hko
                  go_wp2_with fail
                  refine HB.out.mono ?_
                  rintro e w1 ⟨rfl, rfl⟩
                  clear HB c0 zM dw d2 hgw hgb
                  go_wp2
                  go_roundw
                  case rel => exact ⟨k + 1, sv2, s2, by omega, by go_num, HG.out, hS2, Hcl.out, HM.out⟩
                  case measure => simp [intOf]; omega
              · obtain rfl : k = nn := by omega
                have hc2 := cl_end hcl hG.inv (fun x hx => by have := (HE.out.rng x hx).2; rw [Hnn.out] at this; exact this)
                have hT2 : ∀ j ∈ targets (readG os rs).roots, j ∈ s2.M := fun j hj => hG.pre.subset (HQ.out.2.2.1 j hj)
                have hgl := ghost_lt HQ.out.2.1 hG
                rw [HQ.out.1] at hgl
                have hM2 := hM.drop (L' := ownK bM (.slice a1 n1 c1') (.slice a2 n2 c2') sv2 os r s2 ++ L) (List.Sublist.append_left (List.sublist_cons_self _ _) _)
                have HP := Lib.hid (And.intro hG.inv (And.intro hc2 (And.intro hT2 (And.intro hM2 hgl))))
                clear hM hM2 hG hcl hc2 hT2 hgl HQ
                go_wp2
                go_roundg (ghost F s2)
                case rel => exact ⟨sv2, s2, rfl, hS2, HP.out.1, HP.out.2.1, HP.out.2.2.1, HP.out.2.2.2.1⟩
                case measure => exact HP.out.2.2.2.2
  · exact absurd HE.out.sound (hno _)

set_option maxRecDepth 100000 in
set_option maxHeartbeats 2000000 in
theorem mark_no (vw vr : Value) (ws rs : List Int) (r : Int) (w : World) (hw : IsW w vw ws) (hr : IsW w vr rs) (hbad : (∀ os, ¬ Sound ws rs os) ∨ r < 1 ∨ 64 < r) :
    Calls Try.prog 21 #[.agg #[vw, vr], .int .i64 r] w fun e w' => ∃ c, e = .returned (.tuple #[.agg #[.slice none 0 0, .slice none 0 0], .int .i64 c]) ∧ c ≠ 0 ∧ Below w.heap.size w w' := by
  have Hw := Lib.hid hw
  have Hr := Lib.hid hr
  obtain ⟨aw, cw, rfl, hmw⟩ := hw.slice
  obtain ⟨ar, cr, rfl, hmr⟩ := hr.slice
  have hM0 := (((Mem.start w).alloc #[.slice aw ws.length cw, .slice ar rs.length cr] 24).allocAt (w.heap.size + 1) (by simp) #[.slice none 0 0, .slice none 0 0] 24)
  have HC := Lib.hid (acheck_any _ _ ws rs _ (hw.later hM0.below) (hr.later hM0.below))
  have HM0 := Lib.hid hM0
  have Hbad := Lib.hid hbad
  clear hw hr hM0 hmw hmr hbad
  go_enter Try.func21, Try.ntmps21
  go_wp2_with fail
  refine HC.out.mono ?_
  rintro e w2 ⟨c, rfl, hb, hcase⟩
  have hM2 := HM0.out.call hb
  have r0 : w2.cell? ⟨w.heap.size + 1, 0, none⟩ = some (.slice none 0 0) := by have := hM2.cell 0 rfl 0; simpa using this
  have r1 : w2.cell? ⟨w.heap.size + 1, 1, none⟩ = some (.slice none 0 0) := by have := hM2.cell 0 rfl 1; simpa using this
  have r2 : w2.frozen? ⟨w.heap.size + 1, 0, none⟩ = false := hM2.free 0 rfl 0
  have r3 : w2.frozen? ⟨w.heap.size + 1, 1, none⟩ = false := hM2.free 0 rfl 1
  have rz : w.heap.size + 1 < w2.heap.size := (hM2.box 0 rfl).2.1
  have HM7 := Lib.hid ((hM2.setBox 0 rfl 0 (.slice none 0 0)).setBox 0 rfl 1 (.slice none 0 0))
  clear hb hM2 HM0 HC
  rcases hcase with ⟨rfl, os, hS⟩ | ⟨hc, _⟩
  · have hrr : r < 1 ∨ 64 < r := Hbad.out.resolve_left (fun h => h os hS)
    clear hS
    rcases hrr with h1 | h1
    · have e1 : decide (r < 1) = true := decide_eq_true h1
      go_wp2
      obtain ⟨W9, hW9⟩ : ∃ W9, W9 = (w2.setCell ⟨w.heap.size + 1, 0, none⟩ (.slice none 0 0)).setCell ⟨w.heap.size + 1, 1, none⟩ (.slice none 0 0) := ⟨_, rfl⟩
      have hM8 := HM7.out
      rw [← hW9] at hM8 ⊢
      have s0 : W9.cell? ⟨w.heap.size + 1, 0, none⟩ = some (.slice none 0 0) := by have := hM8.cell 0 rfl 0; simpa using this
      have s1 : W9.cell? ⟨w.heap.size + 1, 1, none⟩ = some (.slice none 0 0) := by have := hM8.cell 0 rfl 1; simpa using this
      exact bodyPost_ret (v := .tuple #[.agg #[.slice none 0 0, .slice none 0 0], .int .i64 3]) (by simp [results, Try.results21, go_sem, s0, s1]) rfl ⟨_, rfl, by decide, hM8.below⟩
    · have e1 : decide (r < 1) = false := decide_eq_false (by omega)
      have e2 : decide (r > 64) = true := decide_eq_true h1
      go_wp2
      obtain ⟨W9, hW9⟩ : ∃ W9, W9 = (w2.setCell ⟨w.heap.size + 1, 0, none⟩ (.slice none 0 0)).setCell ⟨w.heap.size + 1, 1, none⟩ (.slice none 0 0) := ⟨_, rfl⟩
      have hM8 := HM7.out
      rw [← hW9] at hM8 ⊢
      have s0 : W9.cell? ⟨w.heap.size + 1, 0, none⟩ = some (.slice none 0 0) := by have := hM8.cell 0 rfl 0; simpa using this
      have s1 : W9.cell? ⟨w.heap.size + 1, 1, none⟩ = some (.slice none 0 0) := by have := hM8.cell 0 rfl 1; simpa using this
      exact bodyPost_ret (v := .tuple #[.agg #[.slice none 0 0, .slice none 0 0], .int .i64 3]) (by simp [results, Try.results21, go_sem, s0, s1]) rfl ⟨_, rfl, by decide, hM8.below⟩
  · go_wp2
    obtain ⟨W9, hW9⟩ : ∃ W9, W9 = (w2.setCell ⟨w.heap.size + 1, 0, none⟩ (.slice none 0 0)).setCell ⟨w.heap.size + 1, 1, none⟩ (.slice none 0 0) := ⟨_, rfl⟩
    have hM8 := HM7.out
    rw [← hW9] at hM8 ⊢
    have s0 : W9.cell? ⟨w.heap.size + 1, 0, none⟩ = some (.slice none 0 0) := by have := hM8.cell 0 rfl 0; simpa using this
    have s1 : W9.cell? ⟨w.heap.size + 1, 1, none⟩ = some (.slice none 0 0) := by have := hM8.cell 0 rfl 1; simpa using this
    exact bodyPost_ret (v := .tuple #[.agg #[.slice none 0 0, .slice none 0 0], .int .i64 c]) (by simp [results, Try.results21, go_sem, s0, s1]) rfl ⟨_, rfl, hc, hM8.below⟩
end Go.Proofs.Ytgdodbdipbomfaa
