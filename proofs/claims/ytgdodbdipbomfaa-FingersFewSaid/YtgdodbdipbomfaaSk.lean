/- arena.Fields with its address; the marker's drain, walked. -/
import Derived.Test.YtgdodbdipbomfaaSj
import Derived.Deep.LoopGhost
namespace Go.Proofs.Ytgdodbdipbomfaa
open Go.RowKit Go.Shelf

set_option maxRecDepth 100000 in
set_option maxHeartbeats 1000000 in
/-- arena.Fields, and where what it tells lies. -/
theorem aFields_at (w : World) (b off nw cw : Nat) (ws fs : List Int) (k m : Nat) (n : Int) (hw : IsW w (.slice (some ⟨b, off, none⟩) nw cw) ws) (hn : ws[k]? = some n) (hh : isHead n) (hm : n % 256 = m) (hfl : fs.length = m) (hfit : k + 1 + m ≤ ws.length) (hsm : ws.length ≤ 256) :
    ∃ a c, (m = 0 ∨ a = some ⟨b, off + (k + 1), none⟩) ∧ Calls Try.prog 49 #[.slice (some ⟨b, off, none⟩) nw cw, .int .i64 k] w fun e w' => e = .returned (.slice a m c) ∧ Below w.heap.size w w' := by
  obtain ⟨b, off, cw, hvv, _, hb0, _, hn64⟩ := hw.at (Below.refl _ _) hn
  cases hvv
  have Hw := Lib.hid hw
  have Hnn := Lib.hid hn
  have hcw := hw.cap
  have hm4 : m ≤ 4 := by have := hh.1; omega
  obtain ⟨lo, hlo⟩ : ∃ lo, k + 1 = lo := ⟨_, rfl⟩
  obtain ⟨hi, hhi⟩ : ∃ hi, lo + m = hi := ⟨_, rfl⟩
  have Hhh := Lib.hid hh
  have Hmm := Lib.hid hm
  have e1 : IntKind.i64.wrap ((k : Int) + 1) = (lo : Int) := by rw [IntWalk.i64_in _ (by omega)]; omega
  have e2 : IntKind.i64.wrap ((lo : Int) + m) = (hi : Int) := by rw [IntWalk.i64_in _ (by omega)]; omega
  have e3 : lo ≤ hi := by omega
  have e4 : hi ≤ cw := by omega
  have e5 : (lo : Int) ≤ hi := by omega
  have e6 : (hi : Int) ≤ cw := by omega
  have hkl := (List.getElem?_eq_some_iff.1 hn).1
  have hmd : hi - lo = m := by omega
  by_cases hx0 : cw = lo
  · have h0 : fs = [] := List.eq_nil_of_length_eq_zero (by omega)
    have e7 : hi ≤ lo := by omega
    have e8 : (hi : Int) ≤ lo := by omega
    have hm0 : m = 0 := by omega
    subst h0
    refine ⟨some ⟨b, off, none⟩, 0, .inl hm0, ?_⟩
    have Hm0 := Lib.hid hm0
    obtain ⟨b', off', cap', hv, hb, _, d0, _⟩ := Hw.out.at (Below.refl _ _) Hnn.out
    cases hv
    have hU := unhead_yes n w hn64.1 hn64.2 Hhh.out
    rw [Hmm.out] at hU
    have HU := Lib.hid hU
    clear hw hn hh hm hfl hU hlo hhi e4 e6 hcw hb0 hm0 hmd
    go_enter Try.func49, Try.ntmps49
    go_wp2_with fail
    refine HU.out.mono ?_
    rintro e w2 ⟨rfl, hb2⟩
    have HB := Lib.hid (((Below.refl w.heap.size w).trans hb2).alloc hb2.size (.cells #[.int .i64 m, .bool (n / 256 % 2 == 1), .int .i64 (n / 512 % 8)] 50))
    clear hb2 HU
    go_wp2
    go_ret
    exact ⟨by rw [Hm0.out]; rfl, HB.out⟩
  · refine ⟨_, cw - (k + 1), .inr rfl, ?_⟩
    obtain ⟨b', off', cap', hv, hb, _, d0, _⟩ := Hw.out.at (Below.refl _ _) Hnn.out
    cases hv
    have hU := unhead_yes n w hn64.1 hn64.2 Hhh.out
    rw [Hmm.out] at hU
    have HU := Lib.hid hU
    rw [hlo]
    have Hmd := Lib.hid hmd
    clear hw hn hh hm hfl hU hlo hhi hcw hb0 hmd
    go_enter Try.func49, Try.ntmps49
    go_wp2_with fail
    refine HU.out.mono ?_
    rintro e w2 ⟨rfl, hb2⟩
    have HB := Lib.hid (((Below.refl w.heap.size w).trans hb2).alloc hb2.size (.cells #[.int .i64 m, .bool (n / 256 % 2 == 1), .int .i64 (n / 512 % 8)] 50))
    clear hb2 HU
    go_wp2
    go_ret
    exact ⟨by rw [Hmd.out]; rfl, HB.out⟩

/-- A shorter part of a slice of ints. -/
theorem Mem.shrinkI {B : Nat} {w0 w : World} {L : List Ent} (h : Mem B w0 w L) (k : Nat) {e : TypeId} {b n cap : Nat} {l l' : List Int} (hk : L[k]? = some (rowI e (.slice (some ⟨b, 0, none⟩) n cap) l)) (hl : l'.length ≤ l.length) (hp : l' <+: l) (hn : l.length = n) :
    Mem B w0 w (L.set k (rowI e (.slice (some ⟨b, 0, none⟩) l'.length cap) l')) := by
  have hr := h.row k hk
  refine h.turn k hk ⟨rfl, rfl, rfl, Nat.le_refl _, fun i _ _ => rfl⟩ (row_ok.2 ?_) fun b' e => .inl e
  refine ⟨by simp, .inr ?_⟩
  rcases hr.2 with ⟨h1, _⟩ | ⟨g, cap', cur, hv, hB, hg, h1, h2, h3, h4⟩
  · cases h1
  · cases hv
    refine ⟨_, _, cur, rfl, hB, hg, by omega, h2, h3, ?_⟩
    obtain ⟨t, rfl⟩ := hp
    have h5 := congrArg (List.take l'.length) h4
    rw [List.take_take, List.map_append, List.take_left' (by simp)] at h5
    rw [Nat.mul_one] at h5 ⊢
    rwa [Nat.min_eq_left (by omega)] at h5
/-- What the marker's walks know of the arena. -/
structure Env (ws rs : List Int) (os : List Ob) (F : List Int) (r : Nat) : Prop where
  sound : Sound ws rs os
  w64s : ∀ x ∈ allW rs os, w64 x
  ord : OrdS (readG os rs) F
  room : r ≤ 64
theorem Env.rng {ws rs : List Int} {os : List Ob} {F : List Int} {r : Nat} (h : Env ws rs os F r) : ∀ x ∈ F, 0 ≤ x ∧ x < (os.length : Int) := (ord_keeps h.sound h.ord).rng
theorem Env.fld {ws rs : List Int} {os : List Ob} {F : List Int} {r : Nat} (h : Env ws rs os F r) {i : Int} (hi : i ∈ F) : ∀ y ∈ (obj os i).2, (y % 2 = 1 ∨ (idx os (y / 2) : Int) ∈ F) ∧ RefOk os y ∧ w64 y := by
  intro y hy
  have hin : y ∈ allW rs os := List.mem_append_right _ (List.mem_flatMap.2 ⟨obj os i, List.mem_of_getElem? (obj_get (h.rng i hi)), hy⟩)
  refine ⟨?_, h.sound.refs y hin, h.w64s y hin⟩
  by_cases h2 : y % 2 = 1
  · exact .inl h2
  · refine .inr (h.ord.closed hi _ ?_)
    rw [read_field (h.rng i hi)]
    exact mem_targets_words hy (by omega)
theorem Env.root {ws rs : List Int} {os : List Ob} {F : List Int} {r : Nat} (h : Env ws rs os F r) : ∀ y ∈ rs, (y % 2 = 1 ∨ (idx os (y / 2) : Int) ∈ F) ∧ RefOk os y ∧ w64 y := by
  intro y hy
  have hin : y ∈ allW rs os := List.mem_append_left _ hy
  refine ⟨?_, h.sound.refs y hin, h.w64s y hin⟩
  by_cases h2 : y % 2 = 1
  · exact .inl h2
  · refine .inr (h.ord.roots _ ?_)
    exact mem_targets_words hy (by omega)
theorem mkO_field (os : List Ob) (M : List Int) {k : Nat} (h : k < os.length) {j : Nat} {x : Int} (hx : (obj os k).2[j]? = some x) : (flat (mkO os M))[place os k + 1 + j]? = some x := by
  have := flat_field (allO_get os (hdM os M) h) hx
  rwa [allO_place os _ (Nat.le_of_lt h)] at this
theorem Env.isW {ws rs : List Int} {os : List Ob} {F : List Int} {r : Nat} (h : Env ws rs os F r) {B : Nat} {w0 w : World} {L : List Ent} (hM : Mem B w0 w L) (k : Nat) {e : TypeId} {v : Value} {M : List Int} (hk : L[k]? = some (rowW e v (flat (mkO os M)))) (hw : ∀ x ∈ ws, w64 x) : IsW w v (flat (mkO os M)) := by
  refine isW_of_own (hM.ownW k hk) (by rw [mkO_flat, ← h.sound.laid.1]; have := h.sound.words; omega) (mkO_64 h.sound.laid (by rw [← h.sound.laid.1]; exact hw) M)

set_option maxRecDepth 100000 in
set_option maxHeartbeats 2000000 in
theorem drain_any (w0 w : World) (bM r : Nat) (wv rv sv : Value) (ws rs : List Int) (os : List Ob) (F : List Int) (s : KS) (L : List Ent) (hE : Env ws rs os F r) (hw : ∀ x ∈ ws, w64 x) (hI : KInv F r s)
    (hM : Mem w0.heap.size w0 w (ownK bM wv rv sv os r s ++ L)) :
    Calls Try.prog 47 #[.pointer (some ⟨bM, 0, none⟩)] w fun e w' => e = .returned (.tuple #[]) ∧ ∃ sv' s', Goes (readG os rs) F r s s' ∧ s'.S = [] ∧ Mem w0.heap.size w0 w' (ownK bM wv rv sv' os r s' ++ L) := by
  have HE := Lib.hid hE
  have Hw := Lib.hid hw
  have HI := Lib.hid hI
  have HM := Lib.hid hM
  have hws := hE.sound.words
  obtain ⟨n0, hn0⟩ : ∃ n0, mu F s = n0 := ⟨_, rfl⟩
  have Hn0 := Lib.hid hn0
  have hr := hE.room
  clear hE hw hI hM hn0
  go_enter Try.func47, Try.ntmps47
  go_wp2
  go_loopg [] n0 (fun gk wr => ∃ (sv' : Value) (s' : KS), mu F s' = gk ∧ Goes (readG os rs) F r s s' ∧ Mem w0.heap.size w0 wr (ownK bM wv rv sv' os r s' ++ L))
  case atStart => exact ⟨sv, s, Hn0.out, Goes.refl HI.out, HM.out⟩
  case round =>
    clear HM
    obtain ⟨sv2, s2, hgk, hG, hM⟩ := hrel
    have HM := Lib.hid hM
    have HG := Lib.hid hG
    have Hgk := Lib.hid hgk
    unfold ownK at hM
    obtain ⟨sa, sc, rfl⟩ := own_row (hM.row 2 rfl)
    rw [List.length_map] at hM HM
    obtain ⟨m, hm⟩ : ∃ m, s2.S.length = m := ⟨_, rfl⟩
    rw [hm] at hM HM
    have c2 : wr.cell? ⟨bM, 2, none⟩ = some (.slice sa m sc) := by have := hM.cell 0 rfl 2; simpa using this
    have ez : bM < wr.heap.size := (hM.box 0 rfl).2.1
    have hm64 : m ≤ 64 := by have := hG.inv.room; omega
    by_cases h0 : m = 0
    · subst h0
      have hS0 : s2.S = [] := List.eq_nil_of_length_eq_zero hm
      clear hM hG hgk hm
      go_wp2
      refine bodyPost_end (results_none rfl _ _ _) rfl ?_
      exact ⟨rfl, _, s2, HG.out, hS0, HM.out⟩
    · obtain ⟨m0, hmm⟩ : ∃ m0, m = m0 + 1 := ⟨m - 1, by omega⟩
      have hne : s2.S ≠ [] := by rintro e; rw [e] at hm; exact h0 hm.symm
      obtain ⟨S0, x, hSx⟩ : ∃ S0 x, s2.S = S0 ++ [x] := ⟨s2.S.dropLast, s2.S.getLast hne, (List.dropLast_concat_getLast hne).symm⟩
      have hm0 : S0.length = m0 := by rw [hSx, List.length_append] at hm; simp only [List.length_cons, List.length_nil] at hm; omega
      have hxF : x ∈ F := hG.inv.sub x (hG.inv.wait x (by rw [hSx]; simp))
      have hxr := HE.out.rng x hxF
      obtain ⟨i, rfl⟩ : ∃ i : Nat, x = i := ⟨x.toNat, by omega⟩
      have hil : i < os.length := by omega
      obtain ⟨q, hq⟩ : ∃ q, place os i = q := ⟨_, rfl⟩
      have hget : (s2.S.map (plS os))[m0]? = some (q : Int) := by
        rw [hSx, List.map_append, List.getElem?_append_right (by rw [List.length_map]; omega), List.length_map, hm0, Nat.sub_self]
        show some (plS os i) = _
        unfold plS; rw [Int.toNat_natCast, hq]
      obtain ⟨gs, cp, hsv, hgB, hgs, hcell, hfz⟩ := hM.intsAt 2 rfl (by rintro e; rw [e] at hget; simp at hget)
      rw [List.length_map, hm] at hsv
      cases hsv
      have d2 := hcell m0 _ hget
      have hcap : m ≤ sc := by
        have h3 := hM.ownI 2 rfl
        rcases h3.2 with ⟨h4, _⟩ | ⟨_, _, _, hv, _, _, h4, _⟩
        · cases h4
        · cases hv; first | exact h4 | (rw [List.length_map, hm] at h4; exact h4)
      have hml : (s2.S.map (plS os)).length = m := by rw [List.length_map, hm]
      have hMs := hM.shrinkI 2 rfl (l' := S0.map (plS os)) (by simp [hSx]) (by rw [hSx, List.map_append]; exact List.prefix_append _ _) hml
      have hp0 : (S0.map (plS os)).length = m0 := by rw [List.length_map, hm0]
      rw [hp0] at hMs
      have HSx := Lib.hid hSx
      have HxF := Lib.hid hxF
      have Hq := Lib.hid hq
      have Hmm := Lib.hid hmm
      have HMs := Lib.hid hMs
      have e1 : IntKind.i64.wrap ((m : Int) - 1) = (m0 : Int) := by rw [IntWalk.i64_in _ (by omega)]; omega
      have e2 : m0 < m := by omega
      have e3 : (m0 : Int) < m := by omega
      have e4 : 0 < m := by omega
      have e5 : m0 ≤ sc := by omega
      have e6 : (m0 : Int) ≤ sc := by omega
      have e7 : (0 : Int) < m := by omega
      have hm064 : m0 ≤ 64 := by omega
      clear hM hG hgk hm hmm hne hSx hm0 hxF hxr hq hget hgB hcell hfz hcap hml hMs hp0 h0
      go_wp2
      go_quiet (fail)
      obtain ⟨wq, hwq⟩ : ∃ wq, wr.drewN nq = wq := ⟨_, rfl⟩
      have hMq := HMs.out.drewN nq
      rw [hwq] at hMq ⊢
      have k2 : wq.drew.cell? ⟨bM, 2, none⟩ = some (.slice (some ⟨gs, 0, none⟩) m sc) := by have := hMq.drew.cell 0 rfl 2; simpa using this
      have k3 : wq.drew.frozen? ⟨bM, 2, none⟩ = false := hMq.drew.free 0 rfl 2
      have kz : bM < wq.heap.size := (hMq.box 0 rfl).2.1
      have HMq := Lib.hid hMq
      clear hMq hwq HMs HM c2 ez d2 hgs
      go_wp2_with fail
      go_cut [2] (fun t2 W => t2 = .int .i64 q ∧ Mem w0.heap.size w0 W (ownK bM wv rv (.slice (some ⟨gs, 0, none⟩) m0 sc) os r ⟨s2.M, S0, s2.lost⟩ ++ L))
      case first =>
        go_region_law (fail)
        all_goals
          go_wp2_with fail
          go_meet
          exact ⟨rfl, ((HMq.out.setBox 0 rfl 2 (.slice (some ⟨gs, 0, none⟩) m0 sc)).drew).cast (by simp [ownK])⟩
      case rest =>
        clear HMq k2 k3 kz
        obtain ⟨rfl, hM⟩ := hcut
        have hL := HE.out.sound.laid
        have hfld := HE.out.fld HxF.out
        obtain ⟨hp1, hp2, hp3⟩ := pop_goes (g := readG os rs) (os := os) HG.out.inv HSx.out (obj os i).2 (fun y hy => (hfld y hy).1) (read_field (HE.out.rng _ HxF.out))
        obtain ⟨fs, hfs⟩ : ∃ fs, (obj os i).2 = fs := ⟨_, rfl⟩
        have hgd := hd_good hL hil
        have hhp := hdS_parts hgd.1 (decide ((i : Int) ∈ s2.M))
        have hh := mkO_head os s2.M hil
        have hft := hL.fit (obj_get (os := os) (i := (i : Int)) ⟨by omega, by omega⟩)
        rw [Int.toNat_natCast] at hft
        have hfx : ∀ (M : List Int) (j : Nat) (x : Int), fs[j]? = some x → (flat (mkO os M))[q + 1 + j]? = some x := fun M j x hx => by
          rw [← Hq.out]; exact mkO_field os M hil (by rw [hfs]; exact hx)
        have hfl := mkO_flat os s2.M
        rw [← hL.1] at hfl
        rw [Hq.out] at hh hft
        have HM := Lib.hid hM
        unfold ownK at hM
        obtain ⟨gw, cw, rfl, hgw, dw, _⟩ := hM.wordsAt 1 rfl hh
        have hIw := HE.out.isW hM 1 rfl Hw.out
        rw [hfl] at hM HM hIw
        obtain ⟨m, hm⟩ : ∃ m, fs.length = m := ⟨_, rfl⟩
        rw [hfs] at hfld hp2 hp3 hgd hft
        rw [hm] at hgd hft
        obtain ⟨aF, cF, haF, hFl⟩ := aFields_at wc gw 0 ws.length cw (flat (mkO os s2.M)) fs q m _ hIw hh hhp.2.2.2.1 (by unfold hdM; rw [hhp.1]; exact hgd.2.1.symm) hm (by rw [hfl]; exact hft) (by rw [hfl]; exact hws)
        simp only [Nat.zero_add] at haF
        have c0 : wc.cell? ⟨bM, 0, none⟩ = some (.slice (some ⟨gw, 0, none⟩) ws.length cw) := by have := hM.cell 0 rfl 0; simpa using this
        have cz : bM < wc.heap.size := (hM.box 0 rfl).2.1
        have HFl := Lib.hid hFl
        have Hp1 := Lib.hid hp1
        have Hp2 := Lib.hid hp2
        have Hp3 := Lib.hid hp3
        have Hfld := Lib.hid hfld
        have Hfx := Lib.hid hfx
        have Hm := Lib.hid hm
        have HaF := Lib.hid haF
        have Hfl := Lib.hid (fun (M : List Int) => show (flat (mkO os M)).length = ws.length by rw [mkO_flat, ← hL.1])
        have hm4 := hgd.2.2
        clear hM hL hfld hp1 hp2 hp3 hfs hgd hhp hh hft hfx hfl dw hIw haF hFl hm e1 e2 e3 e4 e5 e6 e7 hgw
        go_wp2_with fail
        refine HFl.out.mono ?_
        rintro e w5 ⟨rfl, hb5⟩
        have HM5 := Lib.hid (HM.out.call hb5)
        clear hb5 HFl HM c0 cz
        go_wp2
        go_loopw [45] (fun j w6 => ∃ (jn : Nat) (sv3 : Value), jn ≤ m ∧ j = .int .i64 jn ∧ Mem w0.heap.size w0 w6 (ownK bM (.slice (some ⟨gw, 0, none⟩) ws.length cw) rv sv3 os r (visL os r (fs.take jn) ⟨s2.M, S0, s2.lost⟩) ++ L)) (fun j _ => m - (intOf j).toNat)
        case atStart => exact ⟨0, _, Nat.zero_le _, rfl, HM5.out⟩
        case round =>
          clear HM5
          obtain ⟨jn, sv3, hjn, rfl, hM⟩ := hrel
          by_cases hlt : jn < m
          · obtain ⟨y, hy⟩ := get_some fs jn (by rw [Hm.out]; exact hlt)
            have hf := Hfld.out y (List.mem_of_getElem? hy)
            have hinv := (visL_goes (readG os rs) os (F := F) (fs.take jn) Hp1.out (fun z hz => (Hfld.out z (List.mem_of_mem_take hz)).1)).1.inv
            have hC := visit_any w0 _ bM r _ rv sv3 ws os F _ L y HE.out.sound.laid hf.2.2 hf.2.1 hinv hr hM
            rw [← visL_succ os r hy] at hC
            have HC := Lib.hid hC
            unfold ownK at hM
            obtain ⟨gw', cw', hv, hg6, dy, _⟩ := hM.wordsAt 1 rfl (Hfx.out _ jn y hy)
            rw [Hfl.out] at hv
            cases hv
            obtain rfl : aF = some ⟨gw, q + 1, none⟩ := HaF.out.resolve_left (by omega)
            have j1 : (jn : Int) < m := by omega
            clear hM hy hf hinv hC
            go_wp2_with fail
            refine HC.out.mono ?_
            rintro e w7 ⟨rfl, sv4, hM7⟩
            have HM7 := Lib.hid hM7
            clear hM7 HC dy hg6
            go_wp2
            go_roundw
            case rel => exact ⟨jn + 1, sv4, by omega, by go_num, HM7.out⟩
            case measure => simp [intOf]; omega
          · obtain rfl : jn = m := by omega
            rw [show fs.take jn = fs by rw [← Hm.out, List.take_length]] at hM
            have HM := Lib.hid hM
            clear hM
            go_wp2
            go_roundg (mu F (visL os r fs ⟨s2.M, S0, s2.lost⟩))
            case rel => exact ⟨sv3, _, rfl, HG.out.trans Hp2.out, by rw [Hfl.out]; exact HM.out⟩
            case measure => have h1 := Hp3.out; rw [Hgk.out] at h1; exact h1
end Go.Proofs.Ytgdodbdipbomfaa
