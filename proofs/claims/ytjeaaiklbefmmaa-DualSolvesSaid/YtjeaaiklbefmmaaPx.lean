/- ahead, within of one, walked; PathLeast and PathLeads. -/
import Derived.Test.YtjeaaiklbefmmaaPw
import Derived.Test.YtjeaaiklbefmmaaWw
import Derived.Test.YtjeaaiklbefmmaaLh
namespace Go.Proofs.Ytjeaaiklbefmmaa
open Go.RowKit Go.Shelf

theorem lexlt_at : ∀ (l m : List Int) (k : Nat) (x y : Int), l.take k = m.take k → l[k]? = some x → m[k]? = some y → x < y → lexlt l m
  | a :: _, b :: _, 0, x, y, _, h1, h2, h3 => by simp at h1 h2; subst h1 h2; exact .inl h3
  | a :: l', b :: m', k + 1, x, y, h0, h1, h2, h3 => by
    simp at h0 h1 h2
    exact .inr ⟨h0.1, lexlt_at l' m' k x y h0.2 h1 h2 h3⟩
  | [], _, _, _, _, _, h1, _, _ => by simp at h1
  | _ :: _, [], _, _, _, _, _, h2, _ => by simp at h2

set_option maxRecDepth 100000 in
set_option maxHeartbeats 400000 in
theorem ahead_no (r s : Int) (u v : Value) (l m : List Int) (w : World) (hl : IsInts w u l) (hm : IsInts w v m) (h : ¬ klt r l s m) :
    Calls Try.prog 21 #[.int .i64 r, u, .int .i64 s, v] w fun e w' => e = .returned (.bool false) ∧ Below w.heap.size w w' := by
  obtain ⟨a, cap, rfl, hml⟩ := hl.slice
  obtain ⟨am, cm, rfl, hmm⟩ := hm.slice
  have Hl := Lib.hid hl
  have Hm := Lib.hid hm
  have H := Lib.hid h
  clear hl h hm
  by_cases hlen : l.length = m.length
  · by_cases hrs : r = s
    · subst hrs
      have hlen2 : (m.length : Int) = l.length := by omega
      have Hlen := Lib.hid hlen
      clear hlen
      go_enter Try.func21, Try.ntmps21
      go_wp2
      clear hlen2
      go_loopw [9] (fun i wr => ∃ k : Nat, k ≤ l.length ∧ i = .int .i64 k ∧ l.take k = m.take k ∧ Below w.heap.size w wr) (fun i _ => l.length - (intOf i).toNat)
      case atStart => exact ⟨0, Nat.zero_le _, rfl, rfl, Below.refl _ _⟩
      case round =>
        obtain ⟨k, hk, rfl, hT, hB⟩ := hrel
        by_cases hlt : k < l.length
        · obtain ⟨x, hx⟩ := get_some _ _ hlt
          have hltm : k < m.length := by have := Hlen.out; omega
          obtain ⟨y, hy⟩ := get_some _ _ hltm
          obtain ⟨b, off, cap2, hv, hb, hn, c1, _⟩ := Hl.out.at hB hx
          cases hv
          obtain ⟨b', off', cap3, hv, _, _, c2, _⟩ := Hm.out.at hB hy
          cases hv
          have hnlt : ¬ x < y := fun hxy => H.out (.inr ⟨Hlen.out, .inr ⟨rfl, lexlt_at l m k x y hT hx hy hxy⟩⟩)
          have Hs := Lib.hid (take_succ_some _ _ _ hx)
          have Hs2 := Lib.hid (take_succ_some _ _ _ hy)
          have HT := Lib.hid hT
          clear hT hx hy
          by_cases hxy : x = y
          · subst hxy
            clear hnlt
            go_wp2
            go_quiet (fail)
            go_wp2
            go_roundw
            case rel => exact ⟨k + 1, by omega, by go_num, by rw [Hs.out, Hs2.out, HT.out], below_drewN hB _⟩
            case measure => simp [intOf]; omega
          · have hd : decide (x < y) = false := by simpa using hnlt
            go_wp2
            go_quiet (fail)
            go_wp2
            go_quiet (fail)
            go_wp2
            go_ret
            exact ⟨rfl, below_drewN (below_drewN hB _) _⟩
        · obtain rfl : k = l.length := by omega
          go_wp2
          go_ret
          exact ⟨rfl, hB⟩
    · have hnlt : ¬ r < s := fun h => H.out (.inr ⟨hlen, .inl h⟩)
      have hlen2 : (m.length : Int) = l.length := by omega
      clear hlen
      go_enter Try.func21, Try.ntmps21
      go_wp2
      go_ret
      exact ⟨rfl, Below.refl _ _⟩
  · have hnlt : ¬ l.length < m.length := fun h => H.out (.inl h)
    go_enter Try.func21, Try.ntmps21
    go_wp2
    go_ret
    exact ⟨rfl, Below.refl _ _⟩

theorem isInts_one (w : World) (x : Int) (t : TypeId) (hx : i64ok x) : IsInts (w.alloc (.cells #[.int .i64 x] t)) (.slice (some ⟨w.heap.size, 0, none⟩) 1 1) [x] := by
  refine ⟨some ⟨w.heap.size, 0, none⟩, 1, rfl, by simp, ?_⟩
  intro k y hk
  cases k with
  | zero => simp at hk; subst hk; exact ⟨w.heap.size, 0, rfl, by simp, by rw [World.cell?_alloc_new]; rfl, hx⟩
  | succ k => simp at hk

set_option maxHeartbeats 400000 in
theorem within_no (n : Nat) (v : Value) (l : List Int) (w : World) (hl : IsInts w v l) (h : ∃ x ∈ l, x < 0 ∨ (n : Int) ≤ x) :
    Calls Try.prog 23 #[.int .i64 n, v] w fun e w' => e = .returned (.bool false) ∧ w = w' := by
  obtain ⟨a, cap, rfl, hm⟩ := hl.slice
  have Hl := Lib.hid hl
  have H := Lib.hid h
  clear hl h
  go_enter Try.func23, Try.ntmps23
  go_wp2
  go_loop [9] (fun i => ∃ k : Nat, k ≤ l.length ∧ i = .int .i64 k ∧ ∀ x ∈ l.take k, 0 ≤ x ∧ x < (n : Int)) (fun i => l.length - (intOf i).toNat)
  case atStart => exact ⟨0, Nat.zero_le _, rfl, by simp⟩
  case round =>
    obtain ⟨k, hk, rfl, hN⟩ := hrel
    by_cases hlt : k < l.length
    · obtain ⟨y, hx⟩ := get_some _ _ hlt
      obtain ⟨b, off, cap2, hv, hb, hn, c1, _⟩ := Hl.out.at (Below.refl _ _) hx
      cases hv
      have HS := Lib.hid (take_succ_some _ _ _ hx)
      have HN := Lib.hid hN
      clear hx hN
      by_cases h0 : y < 0
      · go_wp2
        go_ret
        exact ⟨rfl, rfl⟩
      · by_cases h1 : (n : Int) ≤ y
        · go_wp2
          go_ret
          exact ⟨rfl, rfl⟩
        · go_wp2
          go_round
          case rel => exact ⟨k + 1, by omega, by go_num, by rw [HS.out]; intro x hx; rcases List.mem_append.1 hx with h | h; exact HN.out x h; simp at h; subst h; omega⟩
          case measure => simp [intOf]; omega
    · obtain rfl : k = l.length := by omega
      rw [List.take_length] at hN
      obtain ⟨x, hx, hb⟩ := H.out
      have := hN x hx
      omega

set_option maxRecDepth 100000 in
set_option maxHeartbeats 2000000 in
theorem pathleast_good (g : G) (hG : Good g) (v : Value) (root : Int) (u : Value) (way : List Int) (w : World) (hg : IsGraph w v g) (hu : IsInts w u way) :
    Calls Try.prog 4 #[v, .int .i64 root, u] w fun e w' => e = .returned (.bool true) ∧ Below w.heap.size w w' := by
  have Hg := Lib.hid hg
  have Hu := Lib.hid hu
  obtain ⟨ao, co, ar, cr, rfl, hlo, hlr⟩ := hg.shape
  obtain ⟨au, cu, rfl, _⟩ := hu.slice
  have hn24 := hG.objs
  clear hg hu
  have hM0 := (Mem.start w).alloc #[.slice ao g.objs.length co, .slice ar g.roots.length cr] 25
  obtain ⟨A, hA⟩ : ∃ A, atG g root way = A := ⟨_, rfl⟩
  obtain ⟨r, hr⟩ : ∃ r, (atV A).ref = r := ⟨_, rfl⟩
  obtain ⟨n, hn⟩ : ∃ n, (atV A).n = n := ⟨_, rfl⟩
  obtain ⟨s, hs⟩ : ∃ s, A.isSome = s := ⟨_, rfl⟩
  have hat : ∀ e, atE (atG g root way) e → e = .returned (.tuple #[.agg #[.bool r, .int .i64 n], .bool s]) := by
    intro e he; rw [hA] at he; unfold atE at he; rw [hr, hn, hs] at he; exact he
  have href : s = true → r = true → atG g root way = some ⟨true, n⟩ := by
    intro h1 h2
    rw [hA]
    cases A with
    | none => simp at hs; rw [hs] at h1; cases h1
    | some y =>
      obtain ⟨yr, yn⟩ := y
      simp [atV] at hr hn
      rw [hr, hn, h2]
  have Hat := Lib.hid hat
  have Href := Lib.hid href
  clear hat href hA hr hn hs
  go_enter Try.func4, Try.ntmps4
  go_wp2_with fail
  refine (good_yes _ g _ (Hg.out.later hM0.below) hG).mono ?_
  rintro e w1 ⟨rfl, hb1⟩
  have hM1 := hM0.call hb1
  obtain ⟨p0, p1⟩ := hM1.cells2 0 rfl
  go_wp2_with fail
  refine (at_any g _ root _ way _ (Hg.out.later hM1.below) (Hu.out.later hM1.below)).mono ?_
  rintro e w2 ⟨he, hb2⟩
  obtain rfl := Hat.out e he
  have hM2 := hM1.call hb2
  have hM3 := hM2.alloc #[.bool r, .int .i64 n] 35
  obtain ⟨q0, q1⟩ := hM3.cells2 1 rfl
  have z0 : w.heap.size < w2.heap.size := (hM2.box 0 rfl).2.1
  have HM3 := Lib.hid hM3
  clear hM3 hM2 hM1 hM0 p0 p1 he
  cases s with
  | false =>
    go_wp2
    go_ret
    exact ⟨rfl, HM3.out.below⟩
  | true =>
    cases r with
    | false =>
      go_wp2
      go_ret
      exact ⟨rfl, HM3.out.below⟩
    | true =>
      have hat := Href.out rfl rfl
      have hrange : n ∈ idx g.objs.length := by
        rcases List.eq_nil_or_concat way with h0 | ⟨w', y, h0⟩
        · subst h0
          unfold atG at hat
          split at hat
          · rename_i hc
            unfold atWay at hat
            have h1 : root.toNat < g.roots.length := by omega
            rw [List.getD_eq_getElem?_getD, List.getElem?_eq_getElem h1] at hat
            injection hat with hat
            have := List.getElem_mem h1
            simp only [Option.getD_some] at hat
            rw [hat] at this
            have h3 := hG.ref_rng (roots_all g _ this) rfl
            exact mem_idx.2 h3
          · cases hat
        · rw [List.concat_eq_append] at h0
          subst h0
          rw [atG_snoc] at hat
          cases hu : atG g root w' with
          | none => rw [hu] at hat; cases hat
          | some u =>
            rw [hu] at hat
            obtain ⟨hur, f, rfl, hf⟩ := atWay_one hat
            have h3 := hG.ref_rng (fields_all g _ _ (List.mem_of_getElem? hf)) rfl
            exact mem_idx.2 h3
      have hr := mem_idx.1 hrange
      obtain ⟨x, rfl⟩ : ∃ x : Nat, n = (x : Int) := ⟨n.toNat, by omega⟩
      have Hat2 := Lib.hid hat
      have hx : x < g.objs.length := by omega
      clear hat hrange hr
      go_wp2_with fail
      refine (path_in g hG _ x hx _ (Hg.out.later HM3.out.below)).mono ?_
      rintro e w4 ⟨E, hE, hP⟩
      have HE := Lib.hid hE
      rcases hP with ⟨q, vw, hq, hqo, rfl, hM4⟩ | ⟨hno, rfl, hM4⟩
      · obtain ⟨e2, he2, heo, hle⟩ := hE.least hG _ _ _ _ rfl Hat2.out
        have hqe : e2 = q := by
          have h1 := hE.find hG he2
          obtain ⟨rr, ww, hi, _⟩ := (hE.all hG).inv
          obtain ⟨i, hi1, rfl⟩ := List.getElem_of_mem he2
          obtain ⟨j, hj1, rfl⟩ := List.getElem_of_mem hq
          have : i = j := (List.getElem_inj (i := i) (j := j) (h₀ := by simpa using hi1) (h₁ := by simpa using hj1) hi.nodup).1 (by simp; rw [heo, hqo])
          subst this; rfl
        subst hqe
        have hnk := not_klt_of_kle hle
        have hwl := hE.way_le hG _ e2 hq rfl
        obtain ⟨rr, ww, hi, _⟩ := (hE.all hG).inv
        have hEn := hi.le
        have hwi : ∀ y ∈ e2.way, i64ok y := by
          have key : ∀ (m : Nat) (e : Pe), e ∈ E → e.way.length = m → ∀ y ∈ e.way, 0 ≤ y ∧ y < 4 := by
            intro m
            induction m with
            | zero => intro e _ h0 y hy; rw [List.eq_nil_of_length_eq_zero h0] at hy; cases hy
            | succ m ih =>
              intro e he h0 y hy
              rcases hE.chain hG he with ⟨_, _, h3, _⟩ | ⟨p, hp, _, _, _, _, h5, h6, h7⟩
              · rw [h3] at h0; simp at h0
              · rw [h5] at hy h0
                rcases List.mem_append.1 hy with h | h
                · exact ih p hp (by simpa using h0) y h
                · simp at h; subst h; omega
          intro y hy
          have := key _ e2 hq rfl y hy
          exact ⟨by omega, by omega⟩
        have hI := isInts_of_own (hM4.ownI 0 rfl) (by omega) hwi
        have HI := Lib.hid hI
        obtain ⟨a5, c5, rfl, _⟩ := hI.slice
        have hM5 := HM3.out.callMem hM4
        have HM5 := Lib.hid hM5
        clear hE hM4 hq hqo he2 heo hle hwl hi hEn hwi hI hM5
        go_wp2_with fail
        refine (ahead_no root e2.root _ _ way e2.way _ (Hu.out.later HM5.out.below) HI.out hnk).mono ?_
        rintro e w5 ⟨rfl, hb5⟩
        have hM6 := HM5.out.call hb5
        clear hnk
        go_wp2
        go_ret
        exact ⟨rfl, hM6.below⟩
      · obtain ⟨e2, he2, heo, hle⟩ := hE.least hG _ _ _ _ rfl Hat2.out
        exact absurd heo (hno e2 he2)

theorem pathleast_walk (w : World) (v rv u : Value) (h : ∃ g, IsGraph w v g) (hr : IsI rv) (hu : ∃ l, IsInts w u l) :
    Calls Try.prog 4 #[v, rv, u] w fun e w' => e = .returned (.bool true) ∧ Below w.heap.size w w' := by
  obtain ⟨g, hg⟩ := h
  obtain ⟨root, rfl⟩ := hr
  obtain ⟨way, hu⟩ := hu
  by_cases hG : Good g
  · exact pathleast_good g hG v root u way w hg hu
  · have Hg := Lib.hid hg
    obtain ⟨ao, co, ar, cr, rfl, hlo, hlr⟩ := hg.shape
    have HG := Lib.hid hG
    clear hg hG hu
    have hM0 := (Mem.start w).alloc #[.slice ao g.objs.length co, .slice ar g.roots.length cr] 25
    go_enter Try.func4, Try.ntmps4
    go_wp2_with fail
    refine (good_no _ g _ (Hg.out.later hM0.below) HG.out).mono ?_
    rintro e w1 ⟨rfl, hb⟩
    have hM1 := hM0.call hb
    obtain ⟨p0, p1⟩ := hM1.cells2 0 rfl
    go_wp2_with fail
    refine (refused_yes _ g _ (Hg.out.later hM1.below) HG.out).mono ?_
    rintro e w2 ⟨rfl, hb2⟩
    have hM2 := hM1.call hb2
    go_wp2
    go_ret
    exact ⟨rfl, hM2.below⟩

theorem isInts_way {g : G} (hG : Good g) {E : List Pe} (hE : PathS g E) {q : Pe} (hq : q ∈ E) {B : Nat} {w0 w : World} {L : List Ent} (k : Nat) {v : Value} (hM : Mem B w0 w L) (hk : L[k]? = some (rowI 3 v q.way)) : IsInts w v q.way := by
  have hwl := hE.way_le hG _ q hq rfl
  obtain ⟨rr, ww, hi, _⟩ := (hE.all hG).inv
  have hEn := hi.le
  have hn24 := hG.objs
  refine isInts_of_own (hM.ownI k hk) (by omega) ?_
  have key : ∀ (m : Nat) (e : Pe), e ∈ E → e.way.length = m → ∀ y ∈ e.way, 0 ≤ y ∧ y < 4 := by
    intro m
    induction m with
    | zero => intro e _ h0 y hy; rw [List.eq_nil_of_length_eq_zero h0] at hy; cases hy
    | succ m ih =>
      intro e he h0 y hy
      rcases hE.chain hG he with ⟨_, _, h3, _⟩ | ⟨p, hp, _, _, _, _, h5, h6, h7⟩
      · rw [h3] at h0; simp at h0
      · rw [h5] at hy h0
        rcases List.mem_append.1 hy with h | h
        · exact ih p hp (by simpa using h0) y h
        · simp at h; subst h; omega
  intro y hy
  have := key _ q hq rfl y hy
  exact ⟨by omega, by omega⟩

set_option maxRecDepth 100000 in
set_option maxHeartbeats 2000000 in
theorem pathleads_in (g : G) (hG : Good g) (v : Value) (x : Nat) (hx : x < g.objs.length) (w : World) (hg : IsGraph w v g) :
    Calls Try.prog 6 #[v, .int .i64 x] w fun e w' => e = .returned (.bool true) ∧ Below w.heap.size w w' := by
  have Hg := Lib.hid hg
  obtain ⟨ao, co, ar, cr, rfl, hlo, hlr⟩ := hg.shape
  have hn24 := hG.objs
  clear hg
  have hM0 := (Mem.start w).alloc #[.slice ao g.objs.length co, .slice ar g.roots.length cr] 25
  have hxk : i64ok (x : Int) := ⟨by omega, by omega⟩
  go_enter Try.func6, Try.ntmps6
  go_wp2_with fail
  refine (path_in g hG _ x hx _ (Hg.out.later hM0.below)).mono ?_
  rintro e w1 ⟨E, hE, hP⟩
  have HE := Lib.hid hE
  rcases hP with ⟨q, vw, hq, hqo, rfl, hM4⟩ | ⟨hno, rfl, hM4⟩
  · have hM1 := hM0.callMem hM4
    obtain ⟨a5, c5, rfl, _⟩ := (isInts_way hG hE hq 0 hM1 rfl).slice
    have HI := Lib.hid (isInts_way hG hE hq 0 hM1 rfl)
    have Hq := Lib.hid hq
    have Hqo := Lib.hid hqo
    obtain ⟨p0, p1⟩ := hM1.cells2 1 rfl
    clear hM4 hM0 hE hq hqo
    go_wp2_with fail
    refine (good_yes _ g _ (Hg.out.later hM1.below) hG).mono ?_
    rintro e w2 ⟨rfl, hb2⟩
    have hM2 := hM1.call hb2
    obtain ⟨q0, q1⟩ := hM2.cells2 1 rfl
    have z0 : w.heap.size < w2.heap.size := (hM2.box 1 rfl).2.1
    have hM3 := hM2.alloc_ (.cells #[.int .i64 x] 3)
    obtain ⟨r0, r1⟩ := hM3.cells2 1 rfl
    clear hM1 p0 p1
    go_wp2_with fail
    refine (within_yes g.objs.length _ [(x : Int)] _ (isInts_one w2 x _ hxk) (by intro y hy; simp at hy; subst hy; omega)).mono ?_
    rintro e w3 ⟨rfl, rfl⟩
    go_wp2_with fail
    refine (dist_any g hG _ _ (Hg.out.later hM3.below)).mono ?_
    rintro e w4 ⟨vd, l, dist, rfl, hF, hM5⟩
    have hM6 := hM3.callMem hM5
    have hfar := hF.far hG
    obtain ⟨hp1, _⟩ := path_far hG hfar HE.out
    obtain ⟨hql, hqD⟩ := hp1 q Hq.out
    have hId := isInts_dist hG hfar 0 hM6 rfl
    have hdl : dist.length = g.objs.length := hfar.inv.len
    obtain ⟨y, hy⟩ := get_some dist x (by omega)
    have hyD : y = (q.way.length : Int) := by
      rw [Hqo.out] at hqD
      unfold D at hqD
      simp only [Int.toNat_natCast] at hqD
      rw [List.getD_eq_getElem?_getD, hy] at hqD
      exact hqD
    obtain ⟨bd, od, cap, hv, _, _, d1, _⟩ := hId.at (Below.refl _ _) hy
    rw [hdl] at hv
    subst hv
    rw [hyD] at d1
    have hlead := HE.out.lead hG Hq.out
    rw [Hqo.out] at hlead
    obtain ⟨s0, s1⟩ := hM6.cells2 2 rfl
    have z1 : w.heap.size < w4.heap.size := (hM6.box 2 rfl).2.1
    have z2 : bd < w4.heap.size := (hM6.lt (List.mem_cons_self ..) bd rfl).2
    have HM6 := Lib.hid hM6
    have Hlead := Lib.hid hlead
    have HI4 := Lib.hid (isInts_way hG HE.out Hq.out 1 hM6 rfl)
    clear hM2 hM3 hM5 hM6 hF hfar hp1 hql hqD hId hdl hy hyD hlead q0 q1 r0 r1
    go_wp2_with fail
    refine (at_any g _ q.root _ q.way _ (Hg.out.later HM6.out.below) HI4.out).mono ?_
    rintro e w5 ⟨he, hb5⟩
    rw [Hlead.out] at he
    unfold atE at he
    simp only [atV, Option.getD_some, Option.isSome_some] at he
    subst he
    have hM7 := HM6.out.call hb5
    have e1 : w5.cell? ⟨bd, od + x, none⟩ = some (.int .i64 q.way.length) := (hb5.cell (p := ⟨_, _, none⟩) z2).trans d1
    have z3 : bd < w5.heap.size := Nat.lt_of_lt_of_le z2 hb5.size
    have hfin := (hM7.alloc_ (.cells #[.bool true, .int .i64 x] 35)).below
    clear hM7 d1
    go_wp2
    go_ret
    exact ⟨rfl, hfin⟩
  · have hM1 := (hM0.callMem hM4).cast (List.nil_append _)
    have Hno := Lib.hid hno
    obtain ⟨p0, p1⟩ := hM1.cells2 0 rfl
    clear hM4 hM0 hE hno
    go_wp2_with fail
    refine (good_yes _ g _ (Hg.out.later hM1.below) hG).mono ?_
    rintro e w2 ⟨rfl, hb2⟩
    have hM2 := hM1.call hb2
    obtain ⟨q0, q1⟩ := hM2.cells2 0 rfl
    have z0 : w.heap.size < w2.heap.size := (hM2.box 0 rfl).2.1
    have hM3 := hM2.alloc_ (.cells #[.int .i64 x] 3)
    obtain ⟨r0, r1⟩ := hM3.cells2 0 rfl
    clear hM1 p0 p1
    go_wp2_with fail
    refine (within_yes g.objs.length _ [(x : Int)] _ (isInts_one w2 x _ hxk) (by intro y hy; simp at hy; subst hy; omega)).mono ?_
    rintro e w3 ⟨rfl, rfl⟩
    go_wp2_with fail
    refine (dist_any g hG _ _ (Hg.out.later hM3.below)).mono ?_
    rintro e w4 ⟨vd, l, dist, rfl, hF, hM5⟩
    have hM6 := hM3.callMem hM5
    have hfar := hF.far hG
    obtain ⟨_, hp2⟩ := path_far hG hfar HE.out
    have hxl : (x : Int) ∉ l := fun h => by obtain ⟨e, he, heo⟩ := hp2 _ h; exact Hno.out e he heo
    have hId := isInts_dist hG hfar 0 hM6 rfl
    have hdl : dist.length = g.objs.length := hfar.inv.len
    obtain ⟨y, hy⟩ := get_some dist x (by omega)
    have hyD : y = -1 := by
      have h1 := hfar.inv.low y (List.mem_of_getElem? hy)
      have h2 := hfar.inv.iff x hx
      simp only at h2
      rw [List.getD_eq_getElem?_getD, hy] at h2
      simp only [Option.getD_some] at h2
      have : ¬ 0 ≤ y := fun h => hxl (h2.1 h)
      omega
    obtain ⟨bd, od, cap, hv, _, _, d1, _⟩ := hId.at (Below.refl _ _) hy
    rw [hdl] at hv
    subst hv
    rw [hyD] at d1
    obtain ⟨s0, s1⟩ := hM6.cells2 1 rfl
    have hfin := hM6.below
    clear hM2 hM3 hM5 hM6 hF hfar hp2 hxl hId hdl hy hyD q0 q1 r0 r1
    go_wp2
    go_ret
    exact ⟨rfl, hfin⟩

set_option maxRecDepth 100000 in
set_option maxHeartbeats 400000 in
theorem pathleads_out (g : G) (hG : Good g) (v : Value) (x : Int) (hxk : i64ok x) (hx : x < 0 ∨ (g.objs.length : Int) ≤ x) (w : World) (hg : IsGraph w v g) :
    Calls Try.prog 6 #[v, .int .i64 x] w fun e w' => e = .returned (.bool true) ∧ Below w.heap.size w w' := by
  have Hg := Lib.hid hg
  have Hx := Lib.hid hx
  obtain ⟨ao, co, ar, cr, rfl, hlo, hlr⟩ := hg.shape
  clear hg hx
  have hM0 := (Mem.start w).alloc #[.slice ao g.objs.length co, .slice ar g.roots.length cr] 25
  go_enter Try.func6, Try.ntmps6
  go_wp2_with fail
  refine (path_out g hG _ x Hx.out _ (Hg.out.later hM0.below)).mono ?_
  rintro e w1 ⟨rfl, hb1⟩
  have hM1 := hM0.call hb1
  obtain ⟨p0, p1⟩ := hM1.cells2 0 rfl
  go_wp2_with fail
  refine (good_yes _ g _ (Hg.out.later hM1.below) hG).mono ?_
  rintro e w2 ⟨rfl, hb2⟩
  have hM2 := hM1.call hb2
  obtain ⟨q0, q1⟩ := hM2.cells2 0 rfl
  have hM3 := hM2.alloc_ (.cells #[.int .i64 x] 3)
  go_wp2_with fail
  refine (within_no g.objs.length _ [x] _ (isInts_one w2 x _ hxk) ⟨x, by simp, Hx.out⟩).mono ?_
  rintro e w3 ⟨rfl, rfl⟩
  go_wp2
  go_ret
  exact ⟨rfl, hM3.below⟩

set_option maxRecDepth 100000 in
set_option maxHeartbeats 400000 in
theorem pathleads_bad (g : G) (hG : ¬ Good g) (v : Value) (x : Int) (w : World) (hg : IsGraph w v g) :
    Calls Try.prog 6 #[v, .int .i64 x] w fun e w' => e = .returned (.bool true) ∧ Below w.heap.size w w' := by
  have Hg := Lib.hid hg
  have HG := Lib.hid hG
  obtain ⟨ao, co, ar, cr, rfl, hlo, hlr⟩ := hg.shape
  clear hg hG
  have hM0 := (Mem.start w).alloc #[.slice ao g.objs.length co, .slice ar g.roots.length cr] 25
  go_enter Try.func6, Try.ntmps6
  go_wp2_with fail
  refine (path_bad g _ x _ (Hg.out.later hM0.below) HG.out).mono ?_
  rintro e w1 ⟨⟨c, hc, rfl⟩, hb1⟩
  have hM1 := hM0.call hb1
  obtain ⟨p0, p1⟩ := hM1.cells2 0 rfl
  go_wp2_with fail
  refine (good_no _ g _ (Hg.out.later hM1.below) HG.out).mono ?_
  rintro e w2 ⟨rfl, hb2⟩
  have hM2 := hM1.call hb2
  have hc2 : (c != 0) = true := by simpa [bne] using hc
  go_wp2
  go_ret
  exact ⟨by first | rfl | simp [hc2], hM2.below⟩

def IsI64 (v : Value) : Prop := ∃ m : Int, v = .int .i64 m ∧ i64ok m
set_option maxRecDepth 100000 in
open Go.ChangeShapes Go.WideShapes Go.Joins in
theorem open_intK {H : Type} {enc : TypeId × Value → H} {W : World} {base : Nat} {v : Value} {d : DataW H} {p : List MemPlace}
    (hv : Value.okWide Try.prog W .any base 3 v) (h : DataW.Trod enc Try.prog W 0 (fun _ => true) true 3 v d p) : IsI64 v := by
  obtain ⟨x, rfl, rfl, rfl, wx⟩ := open_int Try.underlying3 hv h
  have hb := bounds_i64 wx
  exact ⟨_, rfl, by omega, by omega⟩

theorem pathleads_walk (w : World) (v rv : Value) (h : ∃ g, IsGraph w v g) (hr : IsI64 rv) :
    Calls Try.prog 6 #[v, rv] w fun e w' => e = .returned (.bool true) ∧ Below w.heap.size w w' := by
  obtain ⟨g, hg⟩ := h
  obtain ⟨x, rfl, hx⟩ := hr
  by_cases hG : Good g
  · by_cases hxr : 0 ≤ x ∧ x < (g.objs.length : Int)
    · obtain ⟨y, rfl⟩ : ∃ y : Nat, x = (y : Int) := ⟨x.toNat, by omega⟩
      exact pathleads_in g hG v y (by omega) w hg
    · exact pathleads_out g hG v x hx (by omega) w hg
  · exact pathleads_bad g hG v x w hg
end Go.Proofs.Ytjeaaiklbefmmaa
