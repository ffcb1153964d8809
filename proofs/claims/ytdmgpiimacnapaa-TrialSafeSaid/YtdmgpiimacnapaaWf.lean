/- KindsCheck, keeping, walked. -/
import Derived.Test.YtdmgpiimacnapaaWe
namespace Go.Proofs.Ytdmgpiimacnapaa
open Go.RowKit Go.Shelf

theorem kindAt_ok {ks : List Int} (h : KindsOk ks) (i : Int) : kindAt ks i = 0 ∨ kindAt ks i = 1 ∨ kindAt ks i = 2 := by
  unfold kindAt
  rw [List.getD_eq_getElem?_getD]
  cases hx : ks[i.toNat]? with
  | none => left; rfl
  | some x => have := h x (List.mem_of_getElem? hx); simp only [Option.getD_some]; omega
set_option maxHeartbeats 1000000 in
theorem kcheck_yes (g : G) (v u : Value) (ks : List Int) (w : World) (hg : IsGraph w v g) (hu : IsInts w u ks) (hl : ks.length = g.objs.length) (hk : KindsOk ks) :
    Calls Try.prog 22 #[v, u] w fun e w' => e = .returned (.int .i64 0) ∧ Below w.heap.size w w' := by
  obtain ⟨vo, vr, rfl, ho, hr⟩ := hg
  obtain ⟨ao, co, rfl, hlo⟩ := ho.slice
  obtain ⟨ar, cr, rfl, hlr⟩ := hr.slice
  obtain ⟨au, cu, rfl, hlu⟩ := hu.slice
  have Hu := Lib.hid hu
  have Hk := Lib.hid hk
  have hM0 := (Mem.start w).alloc #[.slice ao g.objs.length co, .slice ar g.roots.length cr] 25
  have hz : ((ks.length : Int) == (g.objs.length : Int)) = true := by rw [hl]; simp
  have hz2 : (ks.length : Int) = (g.objs.length : Int) := by omega
  obtain ⟨N, hN⟩ : ∃ N, ks.length = N := ⟨_, rfl⟩
  rw [hN] at hz hz2 hlu Hu ⊢
  have HN := Lib.hid hN
  have hz3 : ((N : Int) != (g.objs.length : Int)) = false := by simp [bne, hz]
  clear ho hr hu hk hl hN hz hz2
  have hb0 := hM0.below
  have Hb0 := Lib.hid hb0
  clear hb0 hM0
  go_enter Try.func22, Try.ntmps22
  go_wp2
  go_loop [15] (fun i => ∃ k : Nat, k ≤ N ∧ i = .int .i64 k) (fun i => N - (intOf i).toNat)
  case atStart => exact ⟨0, Nat.zero_le _, rfl⟩
  case round =>
    obtain ⟨k, hk, rfl⟩ := hrel
    by_cases hlt : k < N
    · obtain ⟨x, hx⟩ := get_some ks k (by rw [HN.out]; exact hlt)
      obtain ⟨bx, ox, cx, hv, hbx, hnx, c1, _⟩ := Hu.out.at Hb0.out hx
      rw [HN.out] at hv
      cases hv
      have hxk := Hk.out x (List.mem_of_getElem? hx)
      have hx3 : x = 0 ∨ x = 1 ∨ x = 2 := by omega
      clear hx hxk
      rcases hx3 with rfl | rfl | rfl
      all_goals
        go_wp2
        go_round
        case rel => exact ⟨k + 1, by omega, by go_num⟩
        case measure => simp [intOf]; omega
    · obtain rfl : k = N := by omega
      go_wp2
      go_ret
      exact ⟨rfl, Hb0.out⟩
set_option maxHeartbeats 1000000 in
theorem kcheck_no (g : G) (v u : Value) (ks : List Int) (w : World) (hg : IsGraph w v g) (hu : IsInts w u ks) (hbad : ¬ (ks.length = g.objs.length ∧ KindsOk ks)) :
    Calls Try.prog 22 #[v, u] w fun e w' => (e = .returned (.int .i64 2) ∨ e = .returned (.int .i64 5)) ∧ Below w.heap.size w w' := by
  obtain ⟨vo, vr, rfl, ho, hr⟩ := hg
  obtain ⟨ao, co, rfl, hlo⟩ := ho.slice
  obtain ⟨ar, cr, rfl, hlr⟩ := hr.slice
  obtain ⟨au, cu, rfl, hlu⟩ := hu.slice
  have Hu := Lib.hid hu
  have Hbad := Lib.hid hbad
  have hM0 := (Mem.start w).alloc #[.slice ao g.objs.length co, .slice ar g.roots.length cr] 25
  have Hb0 := Lib.hid hM0.below
  clear ho hr hu hbad hM0
  by_cases hl : ks.length = g.objs.length
  · have hz : ((ks.length : Int) == (g.objs.length : Int)) = true := by rw [hl]; simp
    obtain ⟨N, hN⟩ : ∃ N, ks.length = N := ⟨_, rfl⟩
    have Hl := Lib.hid hl
    rw [hN] at hz hlu Hu ⊢
    have HN := Lib.hid hN
    have hz3 : ((N : Int) != (g.objs.length : Int)) = false := by simp [bne, hz]
    clear hl hN hz
    go_enter Try.func22, Try.ntmps22
    go_wp2
    go_loop [15] (fun i => ∃ k : Nat, k ≤ N ∧ i = .int .i64 k ∧ ∀ x ∈ ks.take k, 0 ≤ x ∧ x ≤ 2) (fun i => N - (intOf i).toNat)
    case atStart => exact ⟨0, Nat.zero_le _, rfl, by simp⟩
    case round =>
      obtain ⟨k, hk, rfl, hok⟩ := hrel
      have Hok := Lib.hid hok
      clear hok
      by_cases hlt : k < N
      · obtain ⟨x, hx⟩ := get_some ks k (by rw [HN.out]; exact hlt)
        obtain ⟨bx, ox, cx, hv, hbx, hnx, c1, _⟩ := Hu.out.at Hb0.out hx
        rw [HN.out] at hv
        cases hv
        have HS := Lib.hid (take_succ_some _ _ _ hx)
        clear hx
        by_cases hx3 : x = 0 ∨ x = 1 ∨ x = 2
        · rcases hx3 with rfl | rfl | rfl
          all_goals
            go_wp2
            go_round
            case rel => exact ⟨k + 1, by omega, by go_num, by rw [HS.out]; intro y hy; rcases List.mem_append.1 hy with h | h; exact Hok.out y h; simp at h; subst h; omega⟩
            case measure => simp [intOf]; omega
        · have h0 : (x == 0) = false := by simp; omega
          have h1 : (x == 1) = false := by simp; omega
          have h2 : (x == 2) = false := by simp; omega
          have h0' : ¬ x = 0 := by omega
          have g0 : (x != 0) = true := by simp; omega
          have g1 : (x != 1) = true := by simp; omega
          have g2 : (x != 2) = true := by simp; omega
          have h1' : ¬ x = 1 := by omega
          have h2' : ¬ x = 2 := by omega
          clear hx3
          go_wp2
          go_ret
          exact ⟨.inr rfl, Hb0.out⟩
      · exfalso
        obtain rfl : k = N := by omega
        have h := Hok.out
        rw [List.take_of_length_le (by rw [HN.out]; exact Nat.le_refl _)] at h
        exact Hbad.out ⟨Hl.out, h⟩
  · have hz : ((ks.length : Int) == (g.objs.length : Int)) = false := by simp; omega
    have hz2 : ¬ (ks.length : Int) = (g.objs.length : Int) := by omega
    go_enter Try.func22, Try.ntmps22
    go_wp2
    go_ret
    exact ⟨.inl rfl, Hb0.out⟩

/-- Is a value a number, or a reference to one of a set? -/
def inB (s : List Int) (v : V) : Bool := !v.ref || decide (v.n ∈ s)
theorem in_any (w : World) (Bs : Nat) (us : Value) (s : List Int) (v : V) (hB : w.cell? ⟨Bs, 0, none⟩ = some us) (hB2 : Bs < w.heap.size) (hs : IsInts w us s) :
    Calls Try.prog 44 #[.agg #[.bool v.ref, .int .i64 v.n], .pointer (some ⟨Bs, 0, none⟩)] w fun e w' => e = .returned (.bool (inB s v)) ∧ Below w.heap.size w w' := by
  obtain ⟨r, n⟩ := v
  have hM0 := (Mem.start w).alloc #[.bool r, .int .i64 n] 67
  have Hs := Lib.hid (hs.later hM0.below)
  have hb := Lib.hid hM0.below
  clear hs hM0
  cases r with
  | false =>
    go_enter Try.func44, Try.ntmps44
    go_wp2
    go_ret
    exact ⟨rfl, hb.out⟩
  | true =>
    go_enter Try.func44, Try.ntmps44
    go_wp2_with fail
    refine (has_any _ s n _ Hs.out).mono ?_
    rintro e w1 ⟨rfl, rfl⟩
    go_wp2
    go_ret
    exact ⟨by simp [inB, hasB], hb.out⟩

/-- Has a set all to which roots, and its own fields that keep, are references? -/
def KeepingL (g : G) (ks : List Int) (s : List Int) : Prop := (∀ v ∈ g.roots, inB s v = true) ∧ ∀ i ∈ s, ∀ v, InStrong g ks (fun j => j ∈ s) i v → inB s v = true
def keepsAt (kd : Int) (s : List Int) (f : List V) (k : Nat) : Bool := decide (kd = 0) || (decide (kd = 2) && decide (0 < k) && inB s (f.getD 0 default))
def FieldsTo (kd : Int) (s : List Int) (f : List V) (k : Nat) : Prop := ∀ j v, j < k → f[j]? = some v → keepsAt kd s f j = true → inB s v = true
theorem inB_iff {s : List Int} {v : V} : inB s v = true ↔ (v.ref = true → v.n ∈ s) := by
  unfold inB
  cases v.ref <;> simp
theorem fieldsTo_all {g : G} {ks : List Int} {s : List Int} {i : Int} {f : List V} {kd : Int} (hf : fieldsAt g i = f) (hk : kindAt ks i = kd) : FieldsTo kd s f f.length ↔ ∀ v, InStrong g ks (fun j => j ∈ s) i v → inB s v = true := by
  constructor
  · intro h v hv
    rcases hv with ⟨h0, hm⟩ | ⟨h2, f0, fs, he, hr, hm⟩
    · rw [hf] at hm
      obtain ⟨j, hj⟩ := List.getElem?_of_mem hm
      exact h j v (List.getElem?_eq_some_iff.1 hj).1 hj (by unfold keepsAt; rw [← hk, h0]; simp)
    · obtain ⟨j, hj⟩ := List.getElem?_of_mem hm
      have hj2 : f[j + 1]? = some v := by rw [← hf, he]; simpa using hj
      refine h (j + 1) v (List.getElem?_eq_some_iff.1 hj2).1 hj2 ?_
      have h0 : f.getD 0 default = f0 := by rw [← hf, he]; rfl
      unfold keepsAt
      rw [h0, ← hk, h2, inB_iff.2 hr]; simp
  · intro h j v hj hv hkp
    unfold keepsAt at hkp
    rw [Bool.or_eq_true, decide_eq_true_eq] at hkp
    rcases hkp with h0 | h2
    · exact h v (.inl ⟨by rw [hk]; exact h0, by rw [hf]; exact List.mem_of_getElem? hv⟩)
    · simp only [Bool.and_eq_true, decide_eq_true_eq] at h2
      obtain ⟨⟨h2, hj0⟩, hin⟩ := h2
      cases f with
      | nil => simp at hv
      | cons f0 fs =>
        obtain ⟨j', rfl⟩ : ∃ j', j = j' + 1 := ⟨j - 1, by omega⟩
        exact h v (.inr ⟨by rw [hk]; exact h2, f0, fs, hf, inB_iff.1 hin, List.mem_of_getElem? (by simpa using hv)⟩)
theorem FieldsTo.succ {kd : Int} {s : List Int} {f : List V} {k : Nat} {v : V} (h : FieldsTo kd s f k) (hv : f[k]? = some v) (hk : keepsAt kd s f k = true → inB s v = true) : FieldsTo kd s f (k + 1) := by
  intro j u hj hu hkp
  rcases Nat.lt_or_ge j k with h1 | h1
  · exact h j u h1 hu hkp
  · obtain rfl : j = k := by omega
    rw [hv] at hu; cases hu; exact hk hkp
def RootsTo (s : List Int) (l : List V) (k : Nat) : Prop := ∀ v ∈ l.take k, inB s v = true
def ObjsTo (g : G) (ks s : List Int) (k : Nat) : Prop := ∀ i ∈ s.take k, ∀ v, InStrong g ks (fun j => j ∈ s) i v → inB s v = true
/-- A call that says whether something is so. -/
def SaysP (p : Prop) (w w' : World) (e : Ending) : Prop := ∃ t : Bool, e = .returned (.bool t) ∧ (t = true ↔ p) ∧ Below w.heap.size w w'
set_option maxRecDepth 100000 in
set_option maxHeartbeats 4000000 in
theorem keeping_any (g : G) (v u us : Value) (ks s : List Int) (w : World) (hg : IsGraph w v g) (hu : IsInts w u ks) (hl : ks.length = g.objs.length) (hk : KindsOk ks) (hs : IsInts w us s) (hin : ∀ i ∈ s, 0 ≤ i ∧ i < (g.objs.length : Int)) :
    Calls Try.prog 24 #[v, u, us] w fun e w' => SaysP (KeepingL g ks s) w w' e := by
  obtain ⟨vo, vr, rfl, ho, hr⟩ := hg
  obtain ⟨ao, co, rfl, hlo⟩ := ho.slice
  obtain ⟨ar, cr, rfl, hlr⟩ := hr.slice
  obtain ⟨au, cu, rfl, hlu⟩ := hu.slice
  obtain ⟨sa, sc, rfl, hls⟩ := hs.slice
  have Ho := Lib.hid ho
  have Hr := Lib.hid hr
  have Hu := Lib.hid hu
  have Hs := Lib.hid hs
  have Hk := Lib.hid hk
  have Hin := Lib.hid hin
  have Hl := Lib.hid hl
  rw [hl] at hlu Hu
  rw [hl]
  clear ho hr hu hs hk hin hl
  have hM0 := ((Mem.start w).alloc #[.slice ao g.objs.length co, .slice ar g.roots.length cr] 25).allocAt (w.heap.size + 1) (by simp) #[.slice sa s.length sc] 27
  go_enter Try.func24, Try.ntmps24
  go_wp2
  go_loopw [19] (fun iv wr => ∃ k : Nat, k ≤ g.roots.length ∧ iv = .int .i64 k ∧ RootsTo s g.roots k ∧ Mem w.heap.size w wr [ebox (w.heap.size + 1) #[.slice sa s.length sc] 27, ebox w.heap.size #[.slice ao g.objs.length co, .slice ar g.roots.length cr] 25])
    (fun iv _ => g.roots.length - (intOf iv).toNat)
  case atStart => exact ⟨0, Nat.zero_le _, rfl, by intro v hv; simp at hv, hM0⟩
  case round =>
    obtain ⟨k, hk, rfl, hR, hM⟩ := hrel
    have HR := Lib.hid hR
    have p0 : wr.cell? ⟨w.heap.size + 1, 0, none⟩ = some (.slice sa s.length sc) := by have := hM.cell 0 rfl 0; simpa using this
    have z0 : w.heap.size + 1 < wr.heap.size := (hM.box 0 rfl).2.1
    have HM := Lib.hid hM
    clear hR hM
    by_cases hlt : k < g.roots.length
    · obtain ⟨x, hx⟩ := get_some _ _ hlt
      obtain ⟨bx, ox, cx, hv, hbx, hnx, c1, c2, _⟩ := Hr.out.at HM.out.below hx
      cases hv
      have HS := Lib.hid (take_succ_some _ _ _ hx)
      have Hx := Lib.hid hx
      have hM1 := HM.out.alloc_ (.cells #[.bool x.ref, .int .i64 x.n] 67)
      have p1 : (wr.alloc (.cells #[.bool x.ref, .int .i64 x.n] 67)).cell? ⟨w.heap.size + 1, 0, none⟩ = some (.slice sa s.length sc) := by have := hM1.cell 0 rfl 0; simpa using this
      have hc := in_any _ (w.heap.size + 1) _ s x p1 (by simp; omega) (Hs.out.later hM1.below)
      obtain ⟨b, hb⟩ : ∃ b, inB s x = b := ⟨_, rfl⟩
      rw [hb] at hc
      have Hb := Lib.hid hb
      have Hc := Lib.hid hc
      have HM1 := Lib.hid hM1
      clear hx hc hb hM1 p1
      go_wp2_with fail
      refine Hc.out.mono ?_
      rintro e w1 ⟨rfl, hb1⟩
      have hM2 := HM1.out.call hb1
      have HM2 := Lib.hid hM2
      clear hM2 hb1
      cases b with
      | false =>
        have hno : ¬ KeepingL g ks s := fun h => by
          have := h.1 x (List.mem_of_getElem? Hx.out)
          rw [Hb.out] at this; cases this
        have Hno := Lib.hid hno
        clear hno
        go_wp2
        go_ret
        exact ⟨false, rfl, ⟨fun h => (by cases h), fun h => (Hno.out h).elim⟩, HM2.out.below⟩
      | true =>
        go_wp2
        go_roundw
        case rel => exact ⟨k + 1, by omega, by go_num, by rw [RootsTo, HS.out]; intro y hy; rcases List.mem_append.1 hy with h | h; exact HR.out y h; simp at h; subst h; exact Hb.out, HM2.out⟩
        case measure => simp [intOf]; omega
    · obtain rfl : k = g.roots.length := by omega
      go_wp2
      go_loopw [30] (fun iv wr => ∃ k : Nat, k ≤ s.length ∧ iv = .int .i64 k ∧ ObjsTo g ks s k ∧ Mem w.heap.size w wr [ebox (w.heap.size + 1) #[.slice sa s.length sc] 27, ebox w.heap.size #[.slice ao g.objs.length co, .slice ar g.roots.length cr] 25])
        (fun iv _ => s.length - (intOf iv).toNat)
      case atStart => exact ⟨0, Nat.zero_le _, rfl, by intro v hv; simp at hv, HM.out⟩
      case round =>
        clear HM p0 z0
        obtain ⟨k, hk, rfl, hO, hM⟩ := hrel
        have HO := Lib.hid hO
        have p0 : wr.cell? ⟨w.heap.size + 1, 0, none⟩ = some (.slice sa s.length sc) := by have := hM.cell 0 rfl 0; simpa using this
        obtain ⟨p1, p2⟩ := hM.cells2 1 rfl
        have HM := Lib.hid hM
        clear hO hM
        by_cases hlt : k < s.length
        · obtain ⟨i, hi⟩ := get_some _ _ hlt
          obtain ⟨bs, os, cs2, hv, hbs, hns, c1, _⟩ := Hs.out.at HM.out.below hi
          cases hv
          have hii := Hin.out i (List.mem_of_getElem? hi)
          obtain ⟨n, rfl⟩ : ∃ n : Nat, i = (n : Int) := ⟨i.toNat, by omega⟩
          have hn : n < g.objs.length := by omega
          obtain ⟨f, hf⟩ := get_some _ _ hn
          obtain ⟨bo, oo, co2, uf, hv, hbo, hno, c2, huf⟩ := Ho.out.at HM.out.below hf
          cases hv
          obtain ⟨af, cf, rfl, hlf⟩ := huf.slice
          have hfa : fieldsAt g (n : Int) = f := by unfold fieldsAt; rw [Int.toNat_natCast, List.getD_eq_getElem?_getD, hf]; rfl
          obtain ⟨kd, hkd⟩ := get_some ks n (by rw [Hl.out]; exact hn)
          have hka : kindAt ks (n : Int) = kd := by unfold kindAt; rw [Int.toNat_natCast, List.getD_eq_getElem?_getD, hkd]; rfl
          have hkd3 : kd = 0 ∨ kd = 1 ∨ kd = 2 := by have := kindAt_ok Hk.out (n : Int); rw [hka] at this; exact this
          have Hall := Lib.hid (fieldsTo_all (s := s) hfa hka)
          have HS := Lib.hid (take_succ_some _ _ _ hi)
          have Hi := Lib.hid hi
          have Hf := Lib.hid hf
          have Hkd := Lib.hid hkd
          have Huf := Lib.hid huf
          have Hkd3 := Lib.hid hkd3
          have d2 : w.cell? ⟨bo, oo + n, none⟩ = some (.slice af f.length cf) := (HM.out.below.cell (p := ⟨_, _, none⟩) hbo).symm.trans c2
          have D2 := Lib.hid d2
          clear hi hf hfa hka hkd huf hkd3 hii d2
          go_wp2
          go_loopw [41] (fun jv wr => ∃ j : Nat, j ≤ f.length ∧ jv = .int .i64 j ∧ FieldsTo kd s f j ∧ Mem w.heap.size w wr [ebox (w.heap.size + 1) #[.slice (some ⟨bs, os, none⟩) s.length sc] 27, ebox w.heap.size #[.slice (some ⟨bo, oo, none⟩) g.objs.length co, .slice ar g.roots.length cr] 25])
            (fun jv _ => f.length - (intOf jv).toNat)
          case atStart => exact ⟨0, Nat.zero_le _, rfl, fun _ _ h => absurd h (Nat.not_lt_zero _), HM.out⟩
          case round =>
            clear HM p0 p1 p2 c1 c2
            obtain ⟨j, hj, rfl, hF, hM⟩ := hrel
            have HF := Lib.hid hF
            by_cases hlj : j < f.length
            · obtain ⟨x, hx⟩ := get_some _ _ hlj
              obtain ⟨bf, of, cf2, hv, hbf, hnf, c3, c4, _⟩ := Huf.out.at hM.below hx
              cases hv
              obtain ⟨bk, ok, ck, hv, hbk, hnk, c5, _⟩ := Hu.out.at hM.below Hkd.out
              rw [Hl.out] at hv
              cases hv
              obtain ⟨p1, p2⟩ := hM.cells2 1 rfl
              have hM1 := hM.alloc #[.bool x.ref, .int .i64 x.n] 67
              have p0 : (wr.alloc (.cells #[.bool x.ref, .int .i64 x.n] 67)).cell? ⟨w.heap.size + 1, 0, none⟩ = some (.slice (some ⟨bs, os, none⟩) s.length sc) := by have := hM1.cell 1 rfl 0; simpa using this
              have z0 : w.heap.size + 1 < (wr.alloc (.cells #[.bool x.ref, .int .i64 x.n] 67)).heap.size := (hM1.box 1 rfl).2.1
              have z1 : w.heap.size < wr.heap.size := (hM.box 1 rfl).2.1
              have Hx := Lib.hid hx
              have HM := Lib.hid hM
              have HM1 := Lib.hid hM1
              clear hx hF hM hM1
              rcases Hkd3.out with rfl | rfl | rfl
              · have hkp : keepsAt 0 s f j = true := by unfold keepsAt; simp
                have Hkp := Lib.hid hkp
                clear hkp
                (have hcx := in_any _ (w.heap.size + 1) _ s x p0 z0 (Hs.out.later HM1.out.below); obtain ⟨b, hb⟩ : ∃ b, inB s x = b := ⟨_, rfl⟩; rw [hb] at hcx; have Hb := Lib.hid hb; have Hcx := Lib.hid hcx; clear hcx hb; go_wp2_with fail; refine Hcx.out.mono ?_; rintro e w8 ⟨rfl, hb8⟩; have hM8 := HM1.out.call hb8; have HM8 := Lib.hid hM8; clear hM8 hb8)
                cases b with
                | false =>
                  have hno : ¬ KeepingL g ks s := fun h => by
                    have := (Hall.out.2 (h.2 (n : Int) (List.mem_of_getElem? Hi.out))) j x hlj Hx.out Hkp.out
                    rw [Hb.out] at this; cases this
                  have Hno := Lib.hid hno
                  clear hno
                  go_wp2
                  go_ret
                  exact ⟨false, rfl, ⟨fun h => (by cases h), fun h => (Hno.out h).elim⟩, HM8.out.below⟩
                | true =>
                  have HF2 := Lib.hid (HF.out.succ Hx.out (fun _ => Hb.out))
                  go_wp2
                  go_roundw
                  case rel => exact ⟨j + 1, by omega, by go_num, HF2.out, HM8.out.drop (List.sublist_cons_self _ _)⟩
                  case measure => simp [intOf]; omega
              · have hkp : keepsAt 1 s f j = false := by unfold keepsAt; simp
                have HF2 := Lib.hid (HF.out.succ Hx.out (fun h => by rw [hkp] at h; cases h))
                clear hkp
                go_wp2
                go_roundw
                case rel => exact ⟨j + 1, by omega, by go_num, HF2.out, HM1.out.drop (List.sublist_cons_self _ _)⟩
                case measure => simp [intOf]; omega
              · by_cases hj0 : j = 0
                · subst hj0
                  have c3' : wr.cell? ⟨bf, of, none⟩ = some (.bool x.ref) := by simpa using c3
                  have c4' : wr.cell? ⟨bf, of + 1, none⟩ = some (.int .i64 x.n) := by simpa using c4
                  have hkp : keepsAt 2 s f 0 = false := by unfold keepsAt; simp
                  have HF2 := Lib.hid (HF.out.succ Hx.out (fun h => by rw [hkp] at h; cases h))
                  clear hkp
                  go_wp2
                  go_roundw
                  case rel => exact ⟨0 + 1, by omega, by go_num, HF2.out, HM1.out.drop (List.sublist_cons_self _ _)⟩
                  case measure => simp [intOf]; omega
                · obtain ⟨f0, hf0⟩ := get_some f 0 (by omega)
                  obtain ⟨_, _, _, hv, _, _, c6, c7, _⟩ := Huf.out.at HM.out.below hf0
                  cases hv
                  have c2 : wr.cell? ⟨bo, oo + n, none⟩ = some (.slice (some ⟨bf, of, none⟩) f.length cf) := (HM.out.below.cell (p := ⟨_, _, none⟩) hbo).trans D2.out
                  have z8 : bo < wr.heap.size := Nat.lt_of_lt_of_le hbo HM.out.below.size
                  have q0 : wr.cell? ⟨bf, of, none⟩ = some (.bool f0.ref) := by simpa using c6
                  have q1 : wr.cell? ⟨bf, of + 1, none⟩ = some (.int .i64 f0.n) := by simpa using c7
                  have hc0 := in_any _ (w.heap.size + 1) _ s f0 p0 z0 (Hs.out.later HM1.out.below)
                  obtain ⟨b0, hb0⟩ : ∃ b, inB s f0 = b := ⟨_, rfl⟩
                  rw [hb0] at hc0
                  have hkp : keepsAt 2 s f j = b0 := by
                    unfold keepsAt
                    have e : f.getD 0 default = f0 := by rw [List.getD_eq_getElem?_getD, hf0]; rfl
                    rw [e, hb0]
                    have : decide (0 < j) = true := by simp; omega
                    rw [this]; simp
                  have Hkp := Lib.hid hkp
                  have Hc0 := Lib.hid hc0
                  clear hkp hc0 hb0 hf0 c6 c7
                  go_wp2_with fail
                  refine Hc0.out.mono ?_
                  rintro e w7 ⟨rfl, hb7⟩
                  have hM7 := HM1.out.call hb7
                  obtain ⟨s0, s1⟩ := hM7.cells2 0 rfl
                  have p7 : w7.cell? ⟨w.heap.size + 1, 0, none⟩ = some (.slice (some ⟨bs, os, none⟩) s.length sc) := by have := hM7.cell 1 rfl 0; simpa using this
                  have z7 : w.heap.size + 1 < w7.heap.size := (hM7.box 1 rfl).2.1
                  have HM7 := Lib.hid hM7
                  clear hM7 hb7 p0 z0
                  cases b0 with
                  | false =>
                    have HF2 := Lib.hid (HF.out.succ Hx.out (fun h => by rw [Hkp.out] at h; cases h))
                    go_wp2
                    go_roundw
                    case rel => exact ⟨j + 1, by omega, by go_num, HF2.out, HM7.out.drop (List.sublist_cons_self _ _)⟩
                    case measure => simp [intOf]; omega
                  | true =>
                    (have hcx := in_any _ (w.heap.size + 1) _ s x p7 z7 (Hs.out.later HM7.out.below); obtain ⟨b, hb⟩ : ∃ b, inB s x = b := ⟨_, rfl⟩; rw [hb] at hcx; have Hb := Lib.hid hb; have Hcx := Lib.hid hcx; clear hcx hb; go_wp2_with fail; refine Hcx.out.mono ?_; rintro e w8 ⟨rfl, hb8⟩; have hM8 := HM7.out.call hb8; have HM8 := Lib.hid hM8; clear hM8 hb8)
                    cases b with
                    | false =>
                      have hno : ¬ KeepingL g ks s := fun h => by
                        have := (Hall.out.2 (h.2 (n : Int) (List.mem_of_getElem? Hi.out))) j x hlj Hx.out Hkp.out
                        rw [Hb.out] at this; cases this
                      have Hno := Lib.hid hno
                      clear hno
                      go_wp2
                      go_ret
                      exact ⟨false, rfl, ⟨fun h => (by cases h), fun h => (Hno.out h).elim⟩, HM8.out.below⟩
                    | true =>
                      have HF2 := Lib.hid (HF.out.succ Hx.out (fun _ => Hb.out))
                      go_wp2
                      go_roundw
                      case rel => exact ⟨j + 1, by omega, by go_num, HF2.out, HM8.out.drop (List.sublist_cons_self _ _)⟩
                      case measure => simp [intOf]; omega
            · obtain rfl : j = f.length := by omega
              have HFa := Lib.hid (Hall.out.1 HF.out)
              have HM := Lib.hid hM
              clear hF hM
              go_wp2
              go_roundw
              case rel =>
                refine ⟨k + 1, by omega, by go_num, ?_, HM.out⟩
                unfold ObjsTo
                rw [HS.out]
                intro i hi
                rcases List.mem_append.1 hi with h | h
                · exact HO.out i h
                · simp at h; subst h; exact HFa.out
              case measure => simp [intOf]; omega
        · obtain rfl : k = s.length := by omega
          have hyes : KeepingL g ks s := by
            refine ⟨?_, ?_⟩
            · have := HR.out; unfold RootsTo at this; rwa [List.take_length] at this
            · have := HO.out; unfold ObjsTo at this; rwa [List.take_length] at this
          have Hyes := Lib.hid hyes
          clear hyes
          go_wp2
          go_ret
          exact ⟨true, rfl, ⟨fun _ => Hyes.out, fun _ => rfl⟩, HM.out.below⟩
end Go.Proofs.Ytdmgpiimacnapaa
