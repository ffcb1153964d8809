/- ShareMeans, walked. -/
import Derived.Test.YtjeaaiklbefmmaaHt
import Derived.Test.YtjeaaiklbefmmaaHv
import Derived.Test.YtjeaaiklbefmmaaLw
namespace Go.Proofs.Ytjeaaiklbefmmaa
open Go.RowKit Go.Shelf

theorem isInts_new (w : World) (xs : List Int) (t : TypeId) (c : Array Value) (hc : c.toList = xs.map (.int .i64)) (hl : xs.length ≤ 1000) (h : ∀ x ∈ xs, i64ok x) : IsInts (w.alloc (.cells c t)) (.slice (some ⟨w.heap.size, 0, none⟩) xs.length xs.length) xs := by
  refine ⟨some ⟨w.heap.size, 0, none⟩, xs.length, rfl, by omega, ?_⟩
  intro k x hk
  refine ⟨w.heap.size, 0, rfl, by simp, ?_, h x (List.mem_of_getElem? hk)⟩
  rw [World.cell?_alloc_new, Nat.zero_add, ← Array.getElem?_toList, hc, List.getElem?_map, hk]; rfl
theorem WayS.mem {g : G} {m : Int × Int → Option Nat} : ∀ {n : Nat} {p : Int × Int} {l : List Int}, WayS g m n p l → ∀ x ∈ l, 0 ≤ x ∧ x < 4
  | 0, _, l, h => by cases h; simp
  | n + 1, p, l, h => by
    obtain ⟨k, l', hk, _, _, rfl, h5⟩ := h
    intro x hx
    rcases List.mem_cons.1 hx with rfl | hx
    · omega
    · exact WayS.mem h5 x hx
theorem Mem.roomI {B : Nat} {w0 w : World} {L : List Ent} (h : Mem B w0 w L) (k : Nat) {e : TypeId} {v : Value} {l : List Int} (hk : L[k]? = some (rowI e v l)) : Room v := by
  rcases (h.ownI k hk).2 with ⟨rfl, _⟩ | ⟨g, cap, cur, rfl, hB, hg, hnc, hcap, _⟩
  · exact ⟨_, _, _, rfl, Nat.le_refl _, by omega⟩
  · exact ⟨_, _, _, rfl, hnc, by simpa [maxLen] using hcap⟩
theorem Mem.waysI {B : Nat} {w0 w : World} {L : List Ent} (h : Mem B w0 w L) (k : Nat) {e : TypeId} {v : Value} {l : List Int} (hk : L[k]? = some (rowI e v l)) (hl : l.length ≤ 576) (hm : ∀ x ∈ l, 0 ≤ x ∧ x < 4) : IsInts w v l :=
  isInts_of_own (h.ownI k hk) (by omega) (fun x hx => by have := hm x hx; exact ⟨by omega, by omega⟩)

set_option maxRecDepth 100000 in
set_option maxHeartbeats 4000000 in
theorem means_good (g : G) (hG : Good g) (v : Value) (a b : Nat) (u : Value) (way : List Int) (w : World) (hg : IsGraph w v g) (hu : IsInts w u way) (hroom : Room u) (ha : a < g.objs.length) (hb : b < g.objs.length) :
    Calls Try.prog 12 #[v, .int .i64 a, .int .i64 b, u] w fun e w' => e = .returned (.bool true) ∧ Below w.heap.size w w' := by
  have Hg := Lib.hid hg
  obtain ⟨vo, vr, rfl, ho, hr⟩ := hg
  obtain ⟨ao, co, rfl, hlo⟩ := ho.slice
  obtain ⟨ar, cr, rfl, hlr⟩ := hr.slice
  obtain ⟨au, cu, rfl, hlu⟩ := hu.slice
  have Hu := Lib.hid hu
  have Hroom := Lib.hid hroom
  have hn := hG.objs
  clear ho hr hu hroom
  have hM0 := (Mem.start w).alloc #[.slice ao g.objs.length co, .slice ar g.roots.length cr] 25
  go_enter Try.func12, Try.ntmps12
  go_wp2_with fail
  refine (told_yes g hG _ a b _ (Hg.out.later hM0.below) ha hb).mono ?_
  rintro e w1 ⟨m, vl, l, hA, hW, rfl, hl, hM1⟩
  have hM2 := hM0.callMem hM1
  obtain ⟨al, cl, hvl⟩ := hM2.intsSlice 0 rfl
  subst hvl
  have hlI := hM2.waysI 0 rfl hl hW.mem
  have hlR := hM2.roomI 0 rfl
  have HlI := Lib.hid hlI
  have HlR := Lib.hid hlR
  have HA := Lib.hid hA
  have HW := Lib.hid hW
  obtain ⟨p0, p1⟩ := hM2.cells2 1 rfl
  have z0 : w.heap.size < w1.heap.size := (hM2.box 1 rfl).2.1
  obtain ⟨is, his⟩ : ∃ is, (m ((a : Int), (b : Int))).isSome = is := ⟨_, rfl⟩
  rw [his]
  have His := Lib.hid his
  have HM2 := Lib.hid hM2
  clear hM1 hA hW hlI hlR his hM2
  go_wp2_with fail
  refine (good_yes _ g _ (Hg.out.later HM2.out.below) hG).mono ?_
  rintro e w2 ⟨rfl, hb2⟩
  have hM3 := HM2.out.call hb2
  obtain ⟨q0, q1⟩ := hM3.cells2 1 rfl
  have z1 : w.heap.size < w2.heap.size := (hM3.box 1 rfl).2.1
  go_wp2_with fail
  refine (within_yes g.objs.length _ [(a : Int), (b : Int)] _ (isInts_new w2 [(a : Int), (b : Int)] 3 #[.int .i64 (a : Int), .int .i64 (b : Int)] rfl (by simp) (by intro x hx; simp at hx; rcases hx with rfl | rfl <;> exact ⟨by omega, by omega⟩)) (by intro x hx; simp at hx; rcases hx with rfl | rfl <;> exact ⟨by omega, by omega⟩)).mono ?_
  rintro e w3 ⟨rfl, rfl⟩
  have hM4 := hM3.alloc_ (.cells #[.int .i64 (a : Int), .int .i64 (b : Int)] 3)
  have z2 : w2.heap.size < (w2.alloc (.cells #[.int .i64 (a : Int), .int .i64 (b : Int)] 3)).heap.size := by simp
  go_wp2_with fail
  refine (told_yes g hG _ a a _ (Hg.out.later hM4.below) ha ha).mono ?_
  rintro e w4 ⟨m', vl', l', hA', hW', rfl, hl', hM5⟩
  have hself : m' ((a : Int), (a : Int)) = none := by
    cases hx : m' ((a : Int), (a : Int)) with
    | none => rfl
    | some j => exact (hA'.self j _ hx).elim
  rw [hself, Option.isSome_none]
  obtain ⟨al', cl', hvl⟩ := hM5.intsSlice 0 rfl
  subst hvl
  have hM6 := hM4.call hM5.below
  obtain ⟨r0, r1⟩ := hM6.cells2 1 rfl
  have z3 : w.heap.size < w4.heap.size := (hM6.box 1 rfl).2.1
  have HM6 := Lib.hid hM6
  have hb4 := Lib.hid ((hb2.mono (Nat.le_refl _)).trans (((Below.refl w1.heap.size w2).alloc hb2.size (.cells #[.int .i64 (a : Int), .int .i64 (b : Int)] 3)).trans (hM5.below.mono (by simp; have := hb2.size; omega))))
  clear hself hA' hW' hM5 hM6 hM4 hM3 hb2 q0 q1 p0 p1
  have hpin : inO g ((a : Int), (b : Int)) := inO_mk (by omega) (by omega) (by omega) (by omega)
  cases is with
  | false =>
    have hno : ¬ wayTells g ((a : Int), (b : Int)) way := by
      intro h
      obtain ⟨j, _, hj⟩ := HA.out.least hG way _ hpin h
      have h2 := His.out
      rw [hj] at h2; cases h2
    have Hno := Lib.hid hno
    clear hno hpin
    go_wp2_with fail
    refine (ktells_any g hG _ a b _ way _ (Hg.out.later HM6.out.below) (Hu.out.later HM6.out.below) Hroom.out ha hb).mono ?_
    rintro e w5 ⟨t, rfl, ht, hb5⟩
    obtain rfl : t = false := by
      cases t with
      | false => rfl
      | true => exact (Hno.out (ht.1 rfl)).elim
    have hbe := Lib.hid (HM6.out.call hb5).below
    clear ht hb5
    go_wp2
    go_ret
    exact ⟨rfl, hbe.out⟩
  | true =>
    obtain ⟨j, hj⟩ := Option.isSome_iff_exists.1 His.out
    have hW2 := HW.out
    rw [hj, Option.getD_some] at hW2
    have hj1 := (HA.out.has _ _ hj).1
    obtain ⟨j1, rfl⟩ : ∃ j1, j = j1 + 1 := ⟨j - 1, by omega⟩
    have hlen := hW2.len
    have hT := hW2.tells
    have hmin : wayTells g ((a : Int), (b : Int)) way → l.length ≤ way.length := by
      intro h
      obtain ⟨i, hi, hm⟩ := HA.out.least hG way _ hpin h
      rw [hj] at hm
      cases hm
      omega
    have Hmin := Lib.hid hmin
    have HT := Lib.hid hT
    clear hmin hT hW2 hlen hj hpin
    go_wp2_with fail
    refine (ktells_any g hG _ a b _ l _ (Hg.out.later HM6.out.below) (HlI.out.later hb4.out) HlR.out ha hb).mono ?_
    rintro e w5 ⟨t, rfl, ht, hb5⟩
    obtain rfl : t = true := ht.2 HT.out
    have hM7 := HM6.out.call hb5
    obtain ⟨s0, s1⟩ := hM7.cells2 1 rfl
    have HM7 := Lib.hid hM7
    clear ht hb5 hM7
    go_wp2_with fail
    refine (ktells_any g hG _ a b _ way _ (Hg.out.later HM7.out.below) (Hu.out.later HM7.out.below) Hroom.out ha hb).mono ?_
    rintro e w6 ⟨t, rfl, ht, hb6⟩
    have hbe := Lib.hid (HM7.out.call hb6).below
    cases t with
    | false =>
      clear ht hb6
      go_wp2
      go_ret
      exact ⟨rfl, hbe.out⟩
    | true =>
      have hle := Hmin.out (ht.1 rfl)
      have hd : decide (l.length ≤ way.length) = true := by simpa using hle
      clear ht hb6
      go_wp2
      go_ret
      exact ⟨rfl, hbe.out⟩

/-- What comes in as a way. -/
def IsWay (w : World) (v : Value) : Prop := ∃ l, IsInts w v l ∧ Room v
set_option maxRecDepth 100000 in
open Go.WideShapes Go.ChangeShapes Go.Joins Go.Deep in
theorem open_way {H : Type} {enc : TypeId × Value → H} {W : World} {base : Nat} {v : Value} {d : DataW H} {p : List MemPlace}
    (hv : Value.okWide Try.prog W .any base 27 v) (h : DataW.Trod enc Try.prog W 0 (fun _ => true) true 27 v d p) : IsWay W v := by
  obtain ⟨a, len, cap, rfl⟩ := okWide_slice Try.underlying27 hv
  obtain ⟨n, hn⟩ := h
  obtain ⟨u, l, e, hu⟩ := open_ints hn
  obtain rfl := (List.cons.inj e).1
  refine ⟨l, hu, a, len, cap, rfl, ?_⟩
  rcases open_slice1 Try.underlying27 (by kernel_rfl) hn with ⟨he, _⟩ | ⟨a', len', cap', m, n', V, D, P, he, _, hlc, hcm, _⟩
  · cases he; exact ⟨Nat.le_refl _, by omega⟩
  · cases he; exact ⟨hlc, by simpa [maxLen] using hcm⟩

theorem ints_two {a b : Int} (ha : i64ok a) (hb : i64ok b) (w : World) : IsInts (w.alloc (.cells #[.int .i64 a, .int .i64 b] 3)) (.slice (some ⟨w.heap.size, 0, none⟩) 2 2) [a, b] :=
  isInts_new w [a, b] 3 #[.int .i64 a, .int .i64 b] rfl (by simp) (by intro x hx; simp at hx; rcases hx with rfl | rfl <;> assumption)
theorem out_of {g : G} {a b : Int} (h : ¬ inO g (a, b)) : ∃ x ∈ [a, b], x < 0 ∨ (g.objs.length : Int) ≤ x := by
  by_cases h1 : a < 0 ∨ (g.objs.length : Int) ≤ a
  · exact ⟨a, by simp, h1⟩
  · by_cases h2 : b < 0 ∨ (g.objs.length : Int) ≤ b
    · exact ⟨b, by simp, h2⟩
    · exact (h (inO_mk (by omega) (by omega) (by omega) (by omega))).elim
set_option maxRecDepth 100000 in
set_option maxHeartbeats 1000000 in
theorem means_walk (w : World) (v a b u : Value) (h : ∃ g, IsGraph w v g) (ha : IsK a) (hb : IsK b) (hu : IsWay w u) :
    Calls Try.prog 12 #[v, a, b, u] w fun e w' => e = .returned (.bool true) ∧ Below w.heap.size w w' := by
  obtain ⟨g, hg⟩ := h
  obtain ⟨a, rfl, ha⟩ := ha
  obtain ⟨b, rfl, hb⟩ := hb
  obtain ⟨way, hu, hroom⟩ := hu
  by_cases hG : Good g
  · by_cases hab : inO g (a, b)
    · obtain ⟨⟨h1, h2⟩, h3, h4⟩ := hab
      simp only at h1 h2 h3 h4
      obtain ⟨i, rfl⟩ : ∃ i : Nat, a = (i : Int) := ⟨a.toNat, by omega⟩
      obtain ⟨j, rfl⟩ : ∃ j : Nat, b = (j : Int) := ⟨b.toNat, by omega⟩
      exact means_good g hG v i j u way w hg hu hroom (by omega) (by omega)
    · have Hg := Lib.hid hg
      obtain ⟨vo, vr, rfl, ho, hr⟩ := hg
      obtain ⟨ao, co, rfl, hlo⟩ := ho.slice
      obtain ⟨ar, cr, rfl, hlr⟩ := hr.slice
      have Hab := Lib.hid hab
      have Ha := Lib.hid ha
      have Hb := Lib.hid hb
      clear ho hr hu hroom hab ha hb
      have hM0 := (Mem.start w).alloc #[.slice ao g.objs.length co, .slice ar g.roots.length cr] 25
      go_enter Try.func12, Try.ntmps12
      go_wp2_with fail
      refine (told_off g hG _ a b _ (Hg.out.later hM0.below) Hab.out).mono ?_
      rintro e w1 ⟨rfl, hb1⟩
      have hM1 := hM0.call hb1
      obtain ⟨p0, p1⟩ := hM1.cells2 0 rfl
      go_wp2_with fail
      refine (good_yes _ g _ (Hg.out.later hM1.below) hG).mono ?_
      rintro e w2 ⟨rfl, hb2⟩
      have hM3 := hM1.call hb2
      obtain ⟨q0, q1⟩ := hM3.cells2 0 rfl
      go_wp2_with fail
      refine (within_off g.objs.length _ [a, b] _ (ints_two Ha.out Hb.out w2) (out_of Hab.out)).mono ?_
      rintro e w3 ⟨rfl, rfl⟩
      have hbe := Lib.hid (hM3.alloc_ (.cells #[.int .i64 a, .int .i64 b] 3)).below
      clear hM3 hM1 hb1 hb2
      go_wp2
      go_ret
      exact ⟨rfl, hbe.out⟩
  · have Hg := Lib.hid hg
    obtain ⟨vo, vr, rfl, ho, hr⟩ := hg
    obtain ⟨ao, co, rfl, hlo⟩ := ho.slice
    obtain ⟨ar, cr, rfl, hlr⟩ := hr.slice
    have HG := Lib.hid hG
    clear ho hr hu hroom ha hb hG
    have hM0 := (Mem.start w).alloc #[.slice ao g.objs.length co, .slice ar g.roots.length cr] 25
    go_enter Try.func12, Try.ntmps12
    go_wp2_with fail
    refine (told_no g _ a b _ (Hg.out.later hM0.below) HG.out).mono ?_
    rintro e w1 ⟨⟨c, hc, rfl⟩, hb1⟩
    have hM1 := hM0.call hb1
    obtain ⟨p0, p1⟩ := hM1.cells2 0 rfl
    go_wp2_with fail
    refine (good_no _ g _ (Hg.out.later hM1.below) HG.out).mono ?_
    rintro e w2 ⟨rfl, hb2⟩
    have hbe := Lib.hid (hM1.call hb2).below
    have hc2 : (c != 0) = true := by simp [bne, hc]
    clear hM1 hb1 hb2
    go_wp2
    go_ret
    exact ⟨rfl, hbe.out⟩
end Go.Proofs.Ytjeaaiklbefmmaa
