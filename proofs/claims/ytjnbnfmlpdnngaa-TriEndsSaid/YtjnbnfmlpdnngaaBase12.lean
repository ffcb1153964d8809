/- Texts In Pm Cc Cd S6 Ce in one. -/
import Derived.Test.YtjnbnfmlpdnngaaBase1
import Derived.Test.YtjnbnfmlpdnngaaRows
import Derived.Deep.QuietTactic
import Derived.BigQuiet
import Derived.Test.YtjnbnfmlpdnngaaBcx
import Derived.Test.YtjnbnfmlpdnngaaMx
import Derived.Test.YtjnbnfmlpdnngaaCb
import Derived.Test.YtjnbnfmlpdnngaaBase10
import Derived.Deep.RegionHeld3
import Derived.Test.YtjnbnfmlpdnngaaM8
import Derived.SizedLaws
import Derived.Lib.SmallJoins
import Derived.ProofKit
/- ragpickerref.Ints: are two lists of ints the same? -/
namespace Go.Proofs.Ytjnbnfmlpdnngaa
open Go.RowKit

theorem takeI_ne {l m : List Int} {k : Nat} {x y : Int} (hx : l[k]? = some x) (hy : m[k]? = some y) (h : ¬ x = y) : l ≠ m := by
  rintro rfl
  rw [hx] at hy; cases hy; exact h rfl
set_option maxRecDepth 100000 in
set_option maxHeartbeats 1000000 in
theorem refInts_any (u v : Value) (l m : List Int) (w : World) (hl : IsInts w u l) (hm : IsInts w v m) :
    Calls Try.prog 16 #[u, v] w fun e w' => e = .returned (.bool (decide (l = m))) ∧ Below w.heap.size w w' := by
  obtain ⟨a, cap, rfl, hl1⟩ := hl.slice
  obtain ⟨a', cap', rfl, hl2⟩ := hm.slice
  have Hl := Lib.hid hl
  have Hm := Lib.hid hm
  clear hl hm
  by_cases hlen : l.length = m.length
  · obtain ⟨N, hN⟩ : ∃ N, l.length = N := ⟨_, rfl⟩
    rw [hN] at hlen hl1 ⊢
    rw [← hlen]
    have HN := Lib.hid hN
    have HN2 := Lib.hid hlen
    clear hN hlen hl2
    go_enter Try.func16, Try.ntmps16
    go_wp2
    go_loopw [5] (fun i wr => ∃ k : Nat, k ≤ N ∧ i = .int .i64 k ∧ l.take k = m.take k ∧ Below w.heap.size w wr) (fun i _ => N - (intOf i).toNat)
    case atStart => exact ⟨0, Nat.zero_le _, rfl, rfl, Below.refl _ _⟩
    case round =>
      obtain ⟨k, hk, rfl, hT, hB⟩ := hrel
      have HT := Lib.hid hT
      clear hT
      by_cases hlt : k < N
      · obtain ⟨x, hx⟩ := get_some l k (by rw [HN.out]; exact hlt)
        obtain ⟨y, hy⟩ := get_some m k (by rw [← HN2.out]; exact hlt)
        obtain ⟨b, off, cap2, hv, hb, hn, c1, _⟩ := Hl.out.at hB hx
        cases hv
        obtain ⟨b', off', cap2', hv', hb', hn', d1, _⟩ := Hm.out.at hB hy
        cases hv'
        have HS := Lib.hid (take_succ_some _ _ _ hx)
        have HS2 := Lib.hid (take_succ_some _ _ _ hy)
        have hbd : ∀ n, Below w.heap.size w (wr.drewN n) := fun n => below_drewN hB n
        have Hbd := Lib.hid hbd
        clear hbd
        by_cases hxy : x = y
        · subst hxy
          clear hx hy
          go_wp2
          go_quiet (fail)
          go_wp2
          go_roundw
          case rel => exact ⟨k + 1, by omega, by go_num, by rw [HS.out, HS2.out, HT.out], Hbd.out _⟩
          case measure => simp [intOf]; omega
        · have Hne := Lib.hid (takeI_ne hx hy hxy)
          clear hx hy
          go_wp2
          go_quiet (fail)
          go_wp2
          go_ret
          exact ⟨by rw [decide_eq_false Hne.out]; rfl, Hbd.out _⟩
      · obtain rfl : k = N := by omega
        have he : l = m := by
          have h := HT.out
          rw [List.take_of_length_le (by rw [HN.out]; exact Nat.le_refl _), List.take_of_length_le (by rw [← HN2.out]; exact Nat.le_refl _)] at h
          exact h
        have HE := Lib.hid he
        clear he
        go_wp2
        go_ret
        exact ⟨by rw [decide_eq_true HE.out]; rfl, hB⟩
  · have Hne : Hid (l ≠ m) := Lib.hid (fun e => hlen (by rw [e]))
    have hz : ((l.length : Int) == (m.length : Int)) = false := by simp; omega
    have hz2 : ¬ (l.length : Int) = (m.length : Int) := by omega
    go_enter Try.func16, Try.ntmps16
    go_wp2
    go_ret
    exact ⟨by rw [decide_eq_false Hne.out]; rfl, Below.refl _ _⟩
end Go.Proofs.Ytjnbnfmlpdnngaa

/- What is owned, by pattern: small lemmas for walks in which the world's shape is found by trying. -/
namespace Go.Proofs.Ytjnbnfmlpdnngaa
open Go.RowKit

theorem box3 {B : Nat} {w0 w : World} {L : List Ent} {C : Prop} (h : Mem B w0 w L) {b : Nat} {x y z : Value} {t : TypeId} (hm : ebox b #[x, y, z] t ∈ L)
    (k : w.cell? ⟨b, 0, none⟩ = some x → w.cell? ⟨b, 1, none⟩ = some y → w.cell? ⟨b, 2, none⟩ = some z → w.frozen? ⟨b, 0, none⟩ = false → w.frozen? ⟨b, 1, none⟩ = false → w.frozen? ⟨b, 2, none⟩ = false → b < w.heap.size → C) : C :=
  k (h.boxCell hm 0 rfl) (h.boxCell hm 1 rfl) (h.boxCell hm 2 rfl) (h.boxFree hm 0).1 (h.boxFree hm 1).1 (h.boxFree hm 2).1 (h.boxFree hm 0).2
theorem Mem.setBox0 {B : Nat} {w0 w : World} {L : List Ent} {b : Nat} {c : Array Value} {t : TypeId} {j : Nat} {u : Value} (h : Mem B w0 w (ebox b c t :: L)) : Mem B w0 (w.setCell ⟨b, j, none⟩ u) (ebox b (c.setIfInBounds j u) t :: L) := h.setBox 0 rfl j u
theorem permC {a b x : Ent} {L : List Ent} : (x :: a :: b :: L).Perm (a :: b :: x :: L) := (List.perm_middle (l₁ := [a, b])).symm
theorem box2 {B : Nat} {w0 w : World} {L : List Ent} {C : Prop} (h : Mem B w0 w L) {b : Nat} {x y : Value} {t : TypeId} (hm : ebox b #[x, y] t ∈ L)
    (k : w.cell? ⟨b, 0, none⟩ = some x → w.cell? ⟨b, 1, none⟩ = some y → w.frozen? ⟨b, 0, none⟩ = false → w.frozen? ⟨b, 1, none⟩ = false → b < w.heap.size → C) : C :=
  k (h.boxCell hm 0 rfl) (h.boxCell hm 1 rfl) (h.boxFree hm 0).1 (h.boxFree hm 1).1 (h.boxFree hm 0).2
theorem boxL0 {B : Nat} {w0 w : World} {b : Nat} {x y : Value} {t : TypeId} (h : ∃ L, Mem B w0 w L ∧ ebox b #[x, y] t ∈ L) : w.cell? ⟨b, 0, none⟩ = some x := by
  obtain ⟨L, h1, h2⟩ := h
  exact h1.boxCell h2 0 rfl
theorem boxL1 {B : Nat} {w0 w : World} {b : Nat} {x y : Value} {t : TypeId} (h : ∃ L, Mem B w0 w L ∧ ebox b #[x, y] t ∈ L) : w.cell? ⟨b, 1, none⟩ = some y := by
  obtain ⟨L, h1, h2⟩ := h
  exact h1.boxCell h2 1 rfl
theorem Mem.setBox1 {B : Nat} {w0 w : World} {L : List Ent} {a : Ent} {b : Nat} {c : Array Value} {t : TypeId} {j : Nat} {u : Value} (h : Mem B w0 w (a :: ebox b c t :: L)) : Mem B w0 (w.setCell ⟨b, j, none⟩ u) (a :: ebox b (c.setIfInBounds j u) t :: L) := h.setBox 1 rfl j u
end Go.Proofs.Ytjnbnfmlpdnngaa

/- tri.Play where it refuses. -/
namespace Go.Proofs.Ytjnbnfmlpdnngaa
open Go.RowKit Go.Shelf

def NilC : Value := .agg #[.slice none 0 0, .slice none 0 0, .slice none 0 0]
set_option maxRecDepth 100000 in
set_option maxHeartbeats 2000000 in
theorem tplay_no (g : G) (v u : Value) (b : Int) (ds : List Dd) (w : World) (hg : IsGraph w v g) (hu : IsTup 5 cellsD w u ds) (hk : ¬ (Good g ∧ (b = 1 ∨ b = 2 ∨ b = 3) ∧ ds.length ≤ 100)) :
    Calls Try.prog 11 #[v, .int .i64 b, u] w fun e w' => ∃ c : Int, (c == 0) = false ∧ e = .returned (.tuple #[NilC, .int .i64 c]) ∧ Below w.heap.size w w' := by
  have Hg := Lib.hid hg
  obtain ⟨au, cu, rfl, _⟩ := hu.slice
  obtain ⟨vo, vr, rfl, ho, hr⟩ := hg
  obtain ⟨ao, co, rfl, hlo⟩ := ho.slice
  obtain ⟨ar, cr, rfl, hlr⟩ := hr.slice
  have hM0 := ((Mem.start w).alloc #[.slice ao g.objs.length co, .slice ar g.roots.length cr] 25).alloc #[.slice none 0 0, .slice none 0 0, .slice none 0 0] 31
  simp only [World.size_alloc] at hM0
  have HM0 := Lib.hid hM0
  clear ho hr hu hM0
  by_cases hG : Good g
  · by_cases hB : b = 1 ∨ b = 2 ∨ b = 3
    · have hn2 : (100 : Int) < ds.length := by
        have : ¬ ds.length ≤ 100 := fun h => hk ⟨hG, hB, h⟩
        omega
      have HG := Lib.hid hG
      have HB0 := Lib.hid hB
      clear hk hG hB
      go_enter Try.func11, Try.ntmps11
      go_wp2_with fail
      refine (gcheck_yes _ g _ (Hg.out.later HM0.out.below) HG.out).mono ?_
      rintro e w1 ⟨rfl, hb1⟩
      have hM1 := HM0.out.call hb1
      have p0 := hM1.cell 0 rfl 0
      have p1 := hM1.cell 0 rfl 1
      have p2 := hM1.cell 0 rfl 2
      have f0 := hM1.free 0 rfl 0
      have f1 := hM1.free 0 rfl 1
      have f2 := hM1.free 0 rfl 2
      have hM2 := ((hM1.setBox 0 rfl 0 (.slice none 0 0)).setBox 0 rfl 1 (.slice none 0 0)).setBox 0 rfl 2 (.slice none 0 0)
      have z0 := hM2.cell 0 rfl 0
      have z1 := hM2.cell 0 rfl 1
      have z2 := hM2.cell 0 rfl 2
      have HB := Lib.hid hM2.below
      clear hM1 hM2 hb1 HM0
      go_wp2_with fail
      refine (barrier_yes b HB0.out w1).mono ?_
      rintro e w1' ⟨ty, rfl, rfl, _⟩
      go_wp2
      exact bodyPost_ret (v := .tuple #[NilC, .int .i64 1]) (by simp [results, Try.results11, go_sem, z0, z1, z2, NilC]) rfl ⟨1, by decide, rfl, HB.out⟩
    · have HG := Lib.hid hG
      have h1 : b ≠ 1 := fun h => hB (.inl h)
      have h2 : b ≠ 2 := fun h => hB (.inr (.inl h))
      have h3 : b ≠ 3 := fun h => hB (.inr (.inr h))
      clear hk hG hB
      go_enter Try.func11, Try.ntmps11
      go_wp2_with fail
      refine (gcheck_yes _ g _ (Hg.out.later HM0.out.below) HG.out).mono ?_
      rintro e w1 ⟨rfl, hb1⟩
      have hM1 := HM0.out.call hb1
      have p0 := hM1.cell 0 rfl 0
      have p1 := hM1.cell 0 rfl 1
      have p2 := hM1.cell 0 rfl 2
      have f0 := hM1.free 0 rfl 0
      have f1 := hM1.free 0 rfl 1
      have f2 := hM1.free 0 rfl 2
      have hM2 := ((hM1.setBox 0 rfl 0 (.slice none 0 0)).setBox 0 rfl 1 (.slice none 0 0)).setBox 0 rfl 2 (.slice none 0 0)
      have z0 := hM2.cell 0 rfl 0
      have z1 := hM2.cell 0 rfl 1
      have z2 := hM2.cell 0 rfl 2
      have HB := Lib.hid hM2.below
      clear hM1 hM2 hb1 HM0
      go_wp2_with fail
      refine (barrier_no b h1 h2 h3 w1).mono ?_
      rintro e w1' ⟨rfl, rfl⟩
      go_wp2
      exact bodyPost_ret (v := .tuple #[NilC, .int .i64 5]) (by simp [results, Try.results11, go_sem, z0, z1, z2, NilC]) rfl ⟨5, by decide, rfl, HB.out⟩
  · have HG := Lib.hid hG
    clear hk hG
    go_enter Try.func11, Try.ntmps11
    go_wp2_with fail
    refine (gcheck_no _ g _ (Hg.out.later HM0.out.below) HG.out).mono ?_
    rintro e w1 ⟨⟨c, rfl, hc⟩, hb1⟩
    have hM1 := HM0.out.call hb1
    have p0 := hM1.cell 0 rfl 0
    have p1 := hM1.cell 0 rfl 1
    have p2 := hM1.cell 0 rfl 2
    have f0 := hM1.free 0 rfl 0
    have f1 := hM1.free 0 rfl 1
    have f2 := hM1.free 0 rfl 2
    have hM2 := ((hM1.setBox 0 rfl 0 (.slice none 0 0)).setBox 0 rfl 1 (.slice none 0 0)).setBox 0 rfl 2 (.slice none 0 0)
    have z0 := hM2.cell 0 rfl 0
    have z1 := hM2.cell 0 rfl 1
    have z2 := hM2.cell 0 rfl 2
    have HB := Lib.hid hM2.below
    clear hM1 hM2 hb1 HM0
    go_wp2
    exact bodyPost_ret (v := .tuple #[NilC, .int .i64 c]) (by simp [results, Try.results11, go_sem, z0, z1, z2, NilC]) rfl ⟨c, hc, rfl, HB.out⟩
end Go.Proofs.Ytjnbnfmlpdnngaa

/- TriFront, walked. -/
namespace Go.Proofs.Ytjnbnfmlpdnngaa
open Go.RowKit Go.Shelf

theorem InvT.goneLen {b : Int} {s : Sm Tx} (h : InvT b s) : s.x.gone.length ≤ s.os.length := by
  have h1 := nodup_sub_le s.x.gone ((List.range s.os.length).map fun i : Nat => (i : Int)) h.nodup (fun q hq => by
    obtain ⟨h1, h2, _⟩ := (h.gone q).1 hq
    exact List.mem_map.2 ⟨q.toNat, List.mem_range.2 (by omega), by omega⟩)
  rwa [List.length_map, List.length_range] at h1
/-- What Play tells where it may be played. -/
def TGood (g : G) (b : Int) (ds : List Dd) (w w' : World) (e : Ending) : Prop :=
  ∃ aO cO aT cT aG cG, e = .returned (.tuple #[.agg #[.slice aO ds.length cO, .slice aT (hues (runs (tstep b) (startT g) ds).1 (runs (tstep b) (startT g) ds).1.os.length).length cT, .slice aG (runs (tstep b) (startT g) ds).1.x.gone.length cG], .int .i64 0]) ∧
    ds.length ≤ cO ∧ (runs (tstep b) (startT g) ds).1.x.gone.length ≤ cG ∧ (runs (tstep b) (startT g) ds).1.x.gone.length ≤ 1000 ∧ IsTup 3 cellsO w' (.slice aO ds.length cO) (runs (tstep b) (startT g) ds).2 ∧
    IsTup 2 cellsC w' (.slice aT (hues (runs (tstep b) (startT g) ds).1 (runs (tstep b) (startT g) ds).1.os.length).length cT) (hues (runs (tstep b) (startT g) ds).1 (runs (tstep b) (startT g) ds).1.os.length) ∧
    IsInts w' (.slice aG (runs (tstep b) (startT g) ds).1.x.gone.length cG) (runs (tstep b) (startT g) ds).1.x.gone ∧ Below w.heap.size w w'
theorem hues_le (s : Sm Tx) : (hues s s.os.length).length ≤ s.os.length := by
  unfold hues
  rw [List.length_map, List.length_take]
  have := thereL_len s.os s.os.length
  omega
theorem tplay_good (g : G) (hG : Good g) (v u : Value) (b : Int) (hb : b = 1 ∨ b = 2 ∨ b = 3) (ds : List Dd) (w : World) (hg : IsGraph w v g) (hu : IsTup 5 cellsD w u ds) (hd : ∀ d ∈ ds, DdOk d) (hn : ds.length ≤ 100) :
    Calls Try.prog 11 #[v, .int .i64 b, u] w fun e w' => TGood g b ds w w' e := by
  refine (tplay_yes g hG v u b hb ds w hg hu hd hn).mono ?_
  rintro e w' ⟨s, vo, vt, vg, hs, rfl, hM⟩
  have hI := runsT_inv hG hb ds.length ds (Nat.le_refl _) hn
  rw [List.take_length] at hI
  have h1 := hI.2
  have h2 := hI.1.goneLen
  rw [← hs] at h1 h2
  have hl : (runs (tstep b) (startT g) ds).2.length = ds.length := runs_len _ _ _
  have t1 := hM.isTup 0 rfl (fun _ => rfl) (by rw [hl]; omega)
  have t2 := hM.isTup 1 rfl (fun _ => rfl) (by have := hues_le s; omega)
  have hgn := hI.1.gone
  have hln := hI.1.len
  rw [← hs] at hgn hln
  have t3 : IsInts w' vg s.x.gone := isInts_of_own (hM.row 2 rfl) (by omega) (fun x hx => by
    obtain ⟨h3, h4, _⟩ := (hgn x).1 hx
    exact ⟨by omega, by omega⟩)
  obtain ⟨aO, cO, rfl, _⟩ := t1.slice
  obtain ⟨aT, cT, rfl, _⟩ := t2.slice
  obtain ⟨aG, cG, rfl, _⟩ := t3.slice
  have k1 := ownCap (hM.row 0 rfl)
  have k3 := ownCap (hM.row 2 rfl)
  rw [hl] at t1 k1 ⊢
  subst hs
  exact ⟨aO, cO, aT, cT, aG, cG, rfl, k1, k3, by omega, t1, t2, t3, hM.below⟩
/-- At every input: three slices and an error. -/
theorem tplay_all (g : G) (v u : Value) (b : Int) (ds : List Dd) (w : World) (hg : IsGraph w v g) (hu : IsTup 5 cellsD w u ds) (hd : ∀ d ∈ ds, DdOk d) :
    Calls Try.prog 11 #[v, .int .i64 b, u] w fun e w' => ∃ aO nO cO aT nT cT aG nG cG c, e = .returned (.tuple #[.agg #[.slice aO nO cO, .slice aT nT cT, .slice aG nG cG], .int .i64 c]) ∧ Below w.heap.size w w' := by
  by_cases hk : Good g ∧ (b = 1 ∨ b = 2 ∨ b = 3) ∧ ds.length ≤ 100
  · refine (tplay_good g hk.1 v u b hk.2.1 ds w hg hu hd hk.2.2).mono ?_
    rintro e w' ⟨aO, cO, aT, cT, aG, cG, rfl, _, _, _, _, _, _, hb⟩
    exact ⟨_, _, _, _, _, _, _, _, _, _, rfl, hb⟩
  · refine (tplay_no g v u b ds w hg hu hk).mono ?_
    rintro e w' ⟨c, _, rfl, hb⟩
    exact ⟨_, _, _, _, _, _, _, _, _, _, rfl, hb⟩
/-- Play again, in any world of this call. -/
def TAgain (g : G) (b : Int) (ds : List Dd) (v u : Value) (w : World) (n nK : Nat) : Prop :=
  ∀ (X : World) (L : List Ent) (R : Ending → World → Prop), Mem w.heap.size w X L →
    (∀ aD cD aH nH cH aK cK w', Mem w.heap.size w w' (rowT 39 3 cellsO (.slice aD n cD) (runs (tstep b) (startT g) ds).2 :: rowI 3 (.slice aK nK cK) (runs (tstep b) (startT g) ds).1.x.gone :: L) →
      R (.returned (.tuple #[.agg #[.slice aD n cD, .slice aH nH cH, .slice aK nK cK], .int .i64 0])) w') →
    Calls Try.prog 11 #[v, .int .i64 b, u] X R
theorem tAgain (g : G) (hG : Good g) (v u : Value) (b : Int) (hb : b = 1 ∨ b = 2 ∨ b = 3) (ds : List Dd) (w : World) (hg : IsGraph w v g) (hu : IsTup 5 cellsD w u ds) (hd : ∀ d ∈ ds, DdOk d) (hn : ds.length ≤ 100) (n nK : Nat) (hnn : ds.length = n) (hnK : (runs (tstep b) (startT g) ds).1.x.gone.length = nK) : TAgain g b ds v u w n nK := by
  intro X L R hM hR
  refine (tplay_yes g hG v u b hb ds X (hg.later hM.below) (hu.later hM.below) hd hn).mono ?_
  rintro e w' ⟨s, vo, vt, vg, hs, rfl, hM2⟩
  have hI := runsT_inv hG hb ds.length ds (Nat.le_refl _) hn
  rw [List.take_length] at hI
  have h1 := hI.2
  have h2 := hI.1.goneLen
  rw [← hs] at h1 h2
  have hl : (runs (tstep b) (startT g) ds).2.length = ds.length := runs_len _ _ _
  have t1 := hM2.isTup 0 rfl (fun _ => rfl) (by rw [hl]; omega)
  have t2 := hM2.isTup 1 rfl (fun _ => rfl) (by have := hues_le s; omega)
  obtain ⟨aO, cO, rfl, _⟩ := t1.slice
  obtain ⟨aT, cT, rfl, _⟩ := t2.slice
  obtain ⟨aG, cG, rfl⟩ := hM2.intsSlice 2 rfl
  have hM3 := hM.callMem hM2
  subst hs
  rw [hl, hnn] at hM3 ⊢
  rw [hnK] at hM3 ⊢
  refine hR aO cO aT _ cT aG cG w' (hM3.drop ?_)
  exact .cons_cons _ (.cons _ (List.Sublist.refl _))
set_option maxRecDepth 100000 in
set_option maxHeartbeats 4000000 in
theorem triFront_good (g : G) (hG : Good g) (v : Value) (au : Option Addr) (cu : Nat) (b : Int) (hb : b = 1 ∨ b = 2 ∨ b = 3) (ds : List Dd) (q : Nat) (hq : q < 256) (w : World) (hg : IsGraph w v g) (hu : IsTup 5 cellsD w (.slice au ds.length cu) ds) (hcu : ds.length ≤ cu) (hd : ∀ d ∈ ds, DdOk d) (hn : ds.length ≤ 100) :
    Calls Try.prog 4 #[v, .int .i64 b, .slice au ds.length cu, .int .u8 (q : Int)] w fun e w' => e = .returned (.bool true) ∧ Below w.heap.size w w' := by
  have Hg := Lib.hid hg
  obtain ⟨vo, vr, rfl, ho, hr⟩ := hg
  obtain ⟨ao, co, rfl, hlo⟩ := ho.slice
  obtain ⟨ar, cr, rfl, hlr⟩ := hr.slice
  have hM0 := (Mem.start w).alloc #[.slice ao g.objs.length co, .slice ar g.roots.length cr] 25
  obtain ⟨L, hL⟩ : ∃ L, ds.length = L := ⟨_, rfl⟩
  obtain ⟨n, hn'⟩ : ∃ n, q % (L + 1) = n := ⟨_, rfl⟩
  have hnL : n ≤ L := by rw [← hn']; have := Nat.mod_lt q (show 0 < L + 1 by omega); omega
  have hln : (ds.take n).length = n := by rw [List.length_take]; omega
  have hun := isTup_take hu n (by omega)
  have hdn : ∀ d ∈ ds.take n, DdOk d := fun d h => hd d (List.mem_of_mem_take h)
  obtain ⟨n1, hn1⟩ : ∃ n1, (runs (tstep b) (startT g) ds).1.x.gone.length = n1 := ⟨_, rfl⟩
  obtain ⟨n2, hn2⟩ : ∃ n2, (runs (tstep b) (startT g) (ds.take n)).1.x.gone.length = n2 := ⟨_, rfl⟩
  have HP1 := Lib.hid (tAgain g hG _ _ b hb ds w Hg.out hu hd hn L n1 hL hn1)
  have HP2 := Lib.hid (tAgain g hG _ _ b hb (ds.take n) w Hg.out hun hdn (by omega) n n2 hln hn2)
  have hgone := goneT_front hG hb hn (n := n) (by omega)
  have hout := runs_front (tstep b) (startT g) ds n
  have hlo1 : (runs (tstep b) (startT g) ds).2.length = L := by rw [runs_len]; exact hL
  have hlo2 : (runs (tstep b) (startT g) (ds.take n)).2.length = n := by rw [runs_len]; exact hln
  have hi1 := (runsT_inv hG hb ds.length ds (Nat.le_refl _) hn)
  rw [List.take_length] at hi1
  have hi2 := (runsT_inv hG hb n ds (by omega) (by omega))
  have hok : ∀ s : Sm Tx, InvT b s ∧ s.os.length ≤ 24 + 100 → s.x.gone.length ≤ 1000 ∧ ∀ x ∈ s.x.gone, i64ok x := by
    rintro s ⟨h1, h2⟩
    refine ⟨by have := h1.goneLen; omega, fun x hx => ?_⟩
    obtain ⟨h3, h4, _⟩ := (h1.gone x).1 hx
    exact ⟨by omega, by omega⟩
  have hok1 := hok _ ⟨hi1.1, by omega⟩
  have hok2 := hok _ ⟨hi2.1, by omega⟩
  obtain ⟨O1, hO1⟩ : ∃ O1, (runs (tstep b) (startT g) ds).2 = O1 := ⟨_, rfl⟩
  obtain ⟨O2, hO2⟩ : ∃ O2, (runs (tstep b) (startT g) (ds.take n)).2 = O2 := ⟨_, rfl⟩
  obtain ⟨G1, hG1⟩ : ∃ G1, (runs (tstep b) (startT g) ds).1.x.gone = G1 := ⟨_, rfl⟩
  obtain ⟨G2, hG2⟩ : ∃ G2, (runs (tstep b) (startT g) (ds.take n)).1.x.gone = G2 := ⟨_, rfl⟩
  unfold TAgain at HP1 HP2
  rw [hO1, hG1] at HP1
  rw [hO2, hG2] at HP2
  rw [hO1, hO2] at hout
  rw [hG1, hG2] at hgone
  rw [hO1] at hlo1
  rw [hO2] at hlo2
  rw [hG1] at hok1 hn1
  rw [hG2] at hok2 hn2
  have Hgone := Lib.hid hgone
  have Hout := Lib.hid hout
  have HM0 := Lib.hid hM0
  have Hlo := Lib.hid (And.intro hlo1 hlo2)
  have Hln := Lib.hid (And.intro hn1 hn2)
  have Hok := Lib.hid (And.intro hok1 hok2)
  have hmod : ((q : Int) % ((L : Int) + 1)) = (n : Int) := by rw [← hn']; simp
  have htmod : ((q : Int).tmod ((L : Int) + 1)) = (n : Int) := by rw [Int.tmod_eq_emod_of_nonneg (by omega)]; exact hmod
  have hncl : n ≤ cu := by omega
  rw [hL] at hn HP1 ⊢
  have hL0 : ¬ (L : Int) + 1 = 0 := by omega
  clear hu hd hun hdn hM0 hG hL hln hn' ho hr hcu hlo1 hlo2 hout hgone hok1 hok2 hok hi1 hi2 hO1 hO2 hG1 hG2 hn1 hn2
  go_enter Try.func4, Try.ntmps4
  go_wp2_with fail
  refine HP1.out _ _ _ HM0.out ?_
  intro aO cO aT tn cT aG cG w1 hM1
  dsimp only
  have hM1 := hM1.alloc #[.slice aO L cO, .slice aT tn cT, .slice aG n1 cG] 31
  obtain ⟨W1, hW1⟩ : ∃ W1, w1.alloc (.cells #[.slice aO L cO, .slice aT tn cT, .slice aG n1 cG] 31) = W1 := ⟨_, rfl⟩
  rw [hW1] at hM1
  obtain ⟨b9, hb9⟩ : ∃ b9, w1.heap.size = b9 := ⟨_, rfl⟩
  rw [hb9] at hM1
  have HNz := Lib.hid hM1
  have HW1 := Lib.hid hW1
  have Hb9 := Lib.hid hb9
  clear hM1 hW1 hb9 HP1 HM0
  go_upto_region 3 with (fail)
  rw [HW1.out, Hb9.out]
  clear HW1 Hb9
  go_cut [12, 13] (fun s12 s13 W => s13 = .int .i64 0 ∧ ∃ b12 aD cD aH nH cH aK cK, s12 = .pointer (some ⟨b12, 0, none⟩) ∧ Mem w.heap.size w W (ebox b12 #[.slice aD n cD, .slice aH nH cH, .slice aK n2 cK] 31 :: rowT 39 3 cellsO (.slice aD n cD) O2 :: rowI 3 (.slice aK n2 cK) G2 :: ebox b9 #[.slice aO L cO, .slice aT tn cT, .slice aG n1 cG] 31 :: rowT 39 3 cellsO (.slice aO L cO) O1 :: rowI 3 (.slice aG n1 cG) G1 :: [ebox w.heap.size #[.slice ao g.objs.length co, .slice ar g.roots.length cr] 25]))
  case first =>
    go_region_held3 (fun X => X.cell? ⟨w.heap.size, 0, none⟩ = some (.slice ao g.objs.length co) ∧ X.cell? ⟨w.heap.size, 1, none⟩ = some (.slice ar g.roots.length cr))
      (first | (refine BoxIn.both (B := w.heap.size) (w0 := w) (t := 25) ?_; apply Exists.intro; apply And.intro; (focus (repeat (first | exact hR | exact HNz.out | with_reducible apply Mem.drew | with_reducible apply Mem.alloc | with_reducible apply Mem.setBox0))); (focus (repeat (first | exact List.mem_cons_self | refine List.mem_cons_of_mem _ ?_)))) | fail)
      (first
        | (go_at_call 11
           apply HP2.out
           (focus (repeat (first | exact hR | exact HNz.out | with_reducible apply Mem.drew | with_reducible apply Mem.alloc | with_reducible apply Mem.setBox0)))
           intro aD cD aH nH cH aK cK w5 hR
           (first
             | (refine box3 hR (b := W1.heap.size) (x := .slice none 0 0) (y := .slice none 0 0) (z := .slice none 0 0) (t := 31) ?_ ?_
                (focus ((repeat (first | exact List.mem_cons_self | refine List.mem_cons_of_mem _ ?_)); done))
                intro x0 x1 x2 y0 y1 y2 z0
                replace hR := Mem.perm hR permC)
             | skip))
        | fail)
    all_goals
      go_wp2_with fail
      go_meet
      refine ⟨rfl, _, aD, cD, aH, nH, cH, aK, cK, rfl, ?_⟩
      apply mem_cps
      (focus (repeat (first | exact hR | exact HNz.out | with_reducible apply Mem.drew | with_reducible apply Mem.alloc | with_reducible apply Mem.setBox0)))
      intro hF
      exact hF
  case rest =>
    obtain ⟨rfl, b12, aD, cD, aH, nH, cH, aK, cK, rfl, hM⟩ := hcut
    clear HNz HP2
    have c0 := hM.cell 0 rfl 0
    have c1 := hM.cell 0 rfl 1
    have c2 := hM.cell 0 rfl 2
    have cb := (hM.box 0 rfl).2.1
    have d0 := hM.cell 3 rfl 0
    have d1 := hM.cell 3 rfl 1
    have d2 := hM.cell 3 rfl 2
    have db := (hM.box 3 rfl).2.1
    have hO2 := hM.isTup 1 rfl (fun _ => rfl) (by have := Hlo.out.2; omega)
    have hO1 := hM.isTup 4 rfl (fun _ => rfl) (by have := Hlo.out.1; omega)
    have hG2 := isInts_of_own (hM.row 2 rfl) (by have := Hok.out.2.1; omega) Hok.out.2.2
    have hG1 := isInts_of_own (hM.row 5 rfl) (by have := Hok.out.1.1; omega) Hok.out.1.2
    have kO := ownCap (hM.row 4 rfl)
    have kG := ownCap (hM.row 5 rfl)
    rw [Hlo.out.1] at kO
    rw [Hln.out.1] at kG
    have hle := Hgone.out.length_le
    rw [Hln.out.1, Hln.out.2] at hle
    have HPr : Hid (∀ X, Below wc.heap.size wc X → Calls Try.prog 15 #[.slice aD n cD, .slice aO L cO] X fun e w' => e = .returned (.bool true) ∧ Below X.heap.size X w') := Lib.hid fun X hX =>
      prefix_yes _ _ _ _ _ _ _ _ X (hO2.later hX) (hO1.later hX) Hout.out Hlo.out.2 Hlo.out.1 kO
    have HIn : Hid (∀ X, Below wc.heap.size wc X → Calls Try.prog 16 #[.slice aK n2 cK, .slice aG n2 cG] X fun e w' => e = .returned (.bool true) ∧ Below X.heap.size X w') := Lib.hid fun X hX => by
      have h1 := isInts_take (hG1.later hX) n2 (by rw [Hln.out.1]; exact hle)
      have h2 : G2 = G1.take n2 := by rw [← Hln.out.2]; exact List.prefix_iff_eq_take.1 Hgone.out
      rw [← h2] at h1
      have := refInts_any _ _ _ _ X (hG2.later hX) h1
      simpa using this
    have q1 : ((L : Int) == (L : Int)) = true := by simp
    have q2 : ((n : Int) == (n : Int)) = true := by simp
    have q3 : (n2 : Int) ≤ (n1 : Int) := by omega
    have q4 : decide ((n2 : Int) ≤ (n1 : Int)) = true := by simpa using q3
    have q5 : decide (n2 ≤ n1) = true := by simpa using hle
    have q6 : n2 ≤ cG := by omega
    have q7 : (n2 : Int) ≤ (cG : Int) := by omega
    have HB := Lib.hid hM.below
    clear hM hO1 hO2 hG1 hG2 kO kG
    go_upto_region 6 with (fail)
    go_region_held3 (fun X => (X.cell? ⟨b12, 0, none⟩ = some (.slice aD n cD) ∧ X.cell? ⟨b12, 2, none⟩ = some (.slice aK n2 cK)) ∧ X.cell? ⟨b9, 0, none⟩ = some (.slice aO L cO) ∧ X.cell? ⟨b9, 2, none⟩ = some (.slice aG n1 cG))
      (first | exact ⟨⟨((show Below wc.heap.size wc _ from (by repeat (first | exact Below.refl _ _ | assumption | refine Below.setCell ?_ (by first | exact Nat.le_refl _ | (simp; done) | (simp; omega) | (simp at *; omega)) _ | refine Below.alloc ?_ (by first | exact Nat.le_refl _ | (simp; done) | (simp; omega) | (simp at *; omega)) _ | refine Below.drew ?_))).cell (p := ⟨_, _, none⟩) cb).trans c0, ((show Below wc.heap.size wc _ from (by repeat (first | exact Below.refl _ _ | assumption | refine Below.setCell ?_ (by first | exact Nat.le_refl _ | (simp; done) | (simp; omega) | (simp at *; omega)) _ | refine Below.alloc ?_ (by first | exact Nat.le_refl _ | (simp; done) | (simp; omega) | (simp at *; omega)) _ | refine Below.drew ?_))).cell (p := ⟨_, _, none⟩) cb).trans c2⟩, ((show Below wc.heap.size wc _ from (by repeat (first | exact Below.refl _ _ | assumption | refine Below.setCell ?_ (by first | exact Nat.le_refl _ | (simp; done) | (simp; omega) | (simp at *; omega)) _ | refine Below.alloc ?_ (by first | exact Nat.le_refl _ | (simp; done) | (simp; omega) | (simp at *; omega)) _ | refine Below.drew ?_))).cell (p := ⟨_, _, none⟩) db).trans d0, ((show Below wc.heap.size wc _ from (by repeat (first | exact Below.refl _ _ | assumption | refine Below.setCell ?_ (by first | exact Nat.le_refl _ | (simp; done) | (simp; omega) | (simp at *; omega)) _ | refine Below.alloc ?_ (by first | exact Nat.le_refl _ | (simp; done) | (simp; omega) | (simp at *; omega)) _ | refine Below.drew ?_))).cell (p := ⟨_, _, none⟩) db).trans d2⟩ | fail)
      (first
        | (go_at_call 15
           with_reducible refine (HPr.out _ (by repeat (first | exact Below.refl _ _ | assumption | refine Below.setCell ?_ (by first | exact Nat.le_refl _ | (simp; done) | (simp; omega) | (simp at *; omega)) _ | refine Below.alloc ?_ (by first | exact Nat.le_refl _ | (simp; done) | (simp; omega) | (simp at *; omega)) _ | refine Below.drew ?_))).mono ?_
           rintro e w5 ⟨rfl, hb5⟩
           have hB5 : Below wc.heap.size wc w5 := by
             refine (show Below wc.heap.size wc _ → _ from fun h => h.trans (hb5.mono h.size)) ?_
             exact (by repeat (first | exact Below.refl _ _ | assumption | refine Below.setCell ?_ (by first | exact Nat.le_refl _ | (simp; done) | (simp; omega) | (simp at *; omega)) _ | refine Below.alloc ?_ (by first | exact Nat.le_refl _ | (simp; done) | (simp; omega) | (simp at *; omega)) _ | refine Below.drew ?_)))
        | (go_at_call 16
           with_reducible refine (HIn.out _ (by repeat (first | exact Below.refl _ _ | assumption | refine Below.setCell ?_ (by first | exact Nat.le_refl _ | (simp; done) | (simp; omega) | (simp at *; omega)) _ | refine Below.alloc ?_ (by first | exact Nat.le_refl _ | (simp; done) | (simp; omega) | (simp at *; omega)) _ | refine Below.drew ?_))).mono ?_
           rintro e w6 ⟨rfl, hb6⟩
           have hB6 : Below wc.heap.size wc w6 := by
             refine (show Below wc.heap.size wc _ → _ from fun h => h.trans (hb6.mono h.size)) ?_
             exact (by repeat (first | exact Below.refl _ _ | assumption | refine Below.setCell ?_ (by first | exact Nat.le_refl _ | (simp; done) | (simp; omega) | (simp at *; omega)) _ | refine Below.alloc ?_ (by first | exact Nat.le_refl _ | (simp; done) | (simp; omega) | (simp at *; omega)) _ | refine Below.drew ?_)))
        | fail)
    all_goals
      go_wp2
      go_ret
      exact ⟨rfl, HB.out.trans (hB6.mono HB.out.size)⟩
end Go.Proofs.Ytjnbnfmlpdnngaa

/- Opening scripts of what is done, with their room; no longer than the form's own reach. -/
namespace Go.Proofs.Ytjnbnfmlpdnngaa
open Go.RowKit Go.ChangeShapes Go.WideShapes Go.Joins
set_option maxRecDepth 100000 in
open Go.Deep in
theorem open_dosC {H : Type} {enc : TypeId × Value → H} {W : World} {base : Nat} {v : Value} {d : DataW H} {p : List MemPlace} {ts : List TypeId} {ds : List (DataW H)} {j : Nat}
    (hv : Value.okWide Try.prog W .any base 26 v) (h : DataW.Trod enc Try.prog W 0 (fun _ => true) true 26 v d p)
    (hs : (DataW.weightsEach Try.prog ts ds).all (· ≤ reachBytes) = true) (ht : ts[j]? = some 26) (hd : ds[j]? = some d) :
    ∃ l : List Dd, ((IsTup 5 cellsD W v l ∧ ∀ d ∈ l, DdOk d) ∧ l.length ≤ 17592186044416) ∧ ∃ a c, v = .slice a l.length c ∧ l.length ≤ c := by
  obtain ⟨a, len, cap, rfl⟩ := okWide_slice Try.underlying26 hv
  obtain ⟨n, hn⟩ := h
  obtain ⟨u, l, e, hy, hl, hx⟩ := open_intTup Try.underlying26 Try.underlying37 (by kernel_rfl) (by kernel_rfl) (by decide) (by
    intro j f hj
    match j, hj with
    | 0, hj => cases hj; exact Try.underlying3
    | 1, hj => cases hj; exact Try.underlying3
    | 2, hj => cases hj; exact Try.underlying3
    | 3, hj => cases hj; exact Try.underlying3
    | 4, hj => cases hj; exact Try.underlying2
    | n + 5, hj => simp at hj) hn
  obtain rfl := (List.cons.inj e).1
  have hlen : (Value.slice a len cap) = .slice a l.length cap := by
    obtain ⟨a', c', e', _⟩ := hl.slice
    cases e'; rfl
  refine ⟨l.map fun y => ⟨y.getD 0 0, y.getD 1 0, y.getD 2 0, y.getD 3 0, y.getD 4 0⟩, ⟨⟨hl.map _ ?_, ?_⟩, ?_⟩, a, cap, by rw [List.length_map]; exact hlen, ?_⟩
  · intro y hyl
    obtain ⟨h3, _⟩ := hy y hyl
    match y, h3 with
    | [a, b, c, d, e], _ => rfl
  · intro d hd
    obtain ⟨y, hyl, rfl⟩ := List.mem_map.1 hd
    obtain ⟨h3, h4⟩ := hy y hyl
    match y, h3, h4 with
    | [a, b, c, d, e], _, h4 => exact ⟨h4 a (by simp), h4 b (by simp), h4 c (by simp), h4 d (by simp), h4 e (by simp)⟩
  · rw [List.length_map]
    rcases hx with ⟨_, rfl⟩ | ⟨el, sp, hd1, h2⟩
    · simp
    · have h1 := sized_slice hs ht (hd.trans (congrArg some (show d = _ from hd1))) Try.underlying26
      rw [show Try.prog.bytesOf 37 = 40 from by kernel_rfl] at h1
      have h2 := reachBytes_lt
      omega
  · rw [List.length_map]
    rcases open_slice_fields Try.underlying26 Try.underlying37 (by kernel_rfl) (by kernel_rfl) hn with ⟨e, _⟩ | ⟨a', len', cap', m, D, e, hlc, _⟩
    · have e1 := (List.cons.inj e).1
      injection e1 with e2 e3 e4
      injection hlen with e5 e6 e7
      omega
    · have e1 := (List.cons.inj e).1
      injection e1 with e2 e3 e4
      injection hlen with e5 e6 e7
      omega
end Go.Proofs.Ytjnbnfmlpdnngaa

/- TriFront, walked at every input. -/
namespace Go.Proofs.Ytjnbnfmlpdnngaa
open Go.RowKit Go.Shelf

def TAny (b : Int) (v u : Value) (w : World) : Prop :=
  ∀ (X : World) (L : List Ent) (R : Ending → World → Prop), Mem w.heap.size w X L →
    (∀ aD nD cD aH nH cH aK nK cK c w', Mem w.heap.size w w' L → R (.returned (.tuple #[.agg #[.slice aD nD cD, .slice aH nH cH, .slice aK nK cK], .int .i64 c])) w') →
    Calls Try.prog 11 #[v, .int .i64 b, u] X R
theorem tAny (g : G) (v u : Value) (b : Int) (ds : List Dd) (w : World) (hg : IsGraph w v g) (hu : IsTup 5 cellsD w u ds) (hd : ∀ d ∈ ds, DdOk d) : TAny b v u w := by
  intro X L R hM hR
  refine (tplay_all g v u b ds X (hg.later hM.below) (hu.later hM.below) hd).mono ?_
  rintro e w' ⟨aD, nD, cD, aH, nH, cH, aK, nK, cK, c, rfl, hb⟩
  exact hR _ _ _ _ _ _ _ _ _ _ _ (hM.call hb)
set_option maxRecDepth 100000 in
set_option maxHeartbeats 4000000 in
theorem triFront_bad (g : G) (v : Value) (au : Option Addr) (cu : Nat) (b : Int) (ds : List Dd) (hk : ¬ (Good g ∧ (b = 1 ∨ b = 2 ∨ b = 3) ∧ ds.length ≤ 100)) (hbig : ds.length ≤ 17592186044416) (q : Nat) (hq : q < 256) (w : World) (hg : IsGraph w v g) (hu : IsTup 5 cellsD w (.slice au ds.length cu) ds) (hcu : ds.length ≤ cu) (hd : ∀ d ∈ ds, DdOk d) :
    Calls Try.prog 4 #[v, .int .i64 b, .slice au ds.length cu, .int .u8 (q : Int)] w fun e w' => e = .returned (.bool true) ∧ Below w.heap.size w w' := by
  have Hg := Lib.hid hg
  obtain ⟨vo, vr, rfl, ho, hr⟩ := hg
  obtain ⟨ao, co, rfl, hlo⟩ := ho.slice
  obtain ⟨ar, cr, rfl, hlr⟩ := hr.slice
  have hM0 := (Mem.start w).alloc #[.slice ao g.objs.length co, .slice ar g.roots.length cr] 25
  obtain ⟨L, hL⟩ : ∃ L, ds.length = L := ⟨_, rfl⟩
  obtain ⟨n, hn'⟩ : ∃ n, q % (L + 1) = n := ⟨_, rfl⟩
  have hnL : n ≤ L := by rw [← hn']; have := Nat.mod_lt q (show 0 < L + 1 by omega); omega
  have hun := isTup_take hu n (by omega)
  have hdn : ∀ d ∈ ds.take n, DdOk d := fun d h => hd d (List.mem_of_mem_take h)
  have HP1 := Lib.hid (tplay_no g _ _ b ds _ (Hg.out.later hM0.below) (hu.later hM0.below) hk)
  have HP2 := Lib.hid (tAny g _ _ b (ds.take n) w Hg.out hun hdn)
  have HM0 := Lib.hid hM0
  have hmod : ((q : Int) % ((L : Int) + 1)) = (n : Int) := by rw [← hn']; simp
  have htmod : ((q : Int).tmod ((L : Int) + 1)) = (n : Int) := by rw [Int.tmod_eq_emod_of_nonneg (by omega)]; exact hmod
  have hncl : n ≤ cu := by omega
  rw [hL] at HP1 hbig ⊢
  unfold TAny at HP2
  have hL0 : ¬ (L : Int) + 1 = 0 := by omega
  clear hu hd hun hdn hM0 hL hn' ho hr hcu hk
  go_enter Try.func4, Try.ntmps4
  go_wp2_with fail
  refine HP1.out.mono ?_
  rintro e w1 ⟨c, hc, rfl, hb1⟩
  rw [show NilC = .agg #[.slice none 0 0, .slice none 0 0, .slice none 0 0] from rfl]
  have hM1 := (HM0.out.call hb1).alloc #[.slice none 0 0, .slice none 0 0, .slice none 0 0] 31
  obtain ⟨W1, hW1⟩ : ∃ W1, w1.alloc (.cells #[.slice none 0 0, .slice none 0 0, .slice none 0 0] 31) = W1 := ⟨_, rfl⟩
  rw [hW1] at hM1
  obtain ⟨b9, hb9⟩ : ∃ b9, w1.heap.size = b9 := ⟨_, rfl⟩
  rw [hb9] at hM1
  have HNz := Lib.hid hM1
  have HW1 := Lib.hid hW1
  have Hb9 := Lib.hid hb9
  clear hM1 hW1 hb9 HP1 HM0 hb1
  have hcn : (c != 0) = true := by rw [bne, hc]; rfl
  go_upto_region 3 with (fail)
  rw [HW1.out, Hb9.out]
  clear HW1 Hb9
  go_cut [12, 13] (fun s12 s13 W => ∃ b12 c12, s12 = .pointer (some ⟨b12, 0, none⟩) ∧ s13 = .int .i64 c12 ∧ Below w.heap.size w W)
  case first =>
    go_region_held3 (fun X => X.cell? ⟨w.heap.size, 0, none⟩ = some (.slice ao g.objs.length co) ∧ X.cell? ⟨w.heap.size, 1, none⟩ = some (.slice ar g.roots.length cr))
      (first | (refine BoxIn.both (B := w.heap.size) (w0 := w) (t := 25) ?_; apply Exists.intro; apply And.intro; (focus (repeat (first | exact hR | exact HNz.out | with_reducible apply Mem.drew | with_reducible apply Mem.alloc | with_reducible apply Mem.setBox0))); (focus (repeat (first | exact List.mem_cons_self | refine List.mem_cons_of_mem _ ?_)))) | fail)
      (first
        | (go_at_call 11
           apply HP2.out
           (focus (repeat (first | exact hR | exact HNz.out | with_reducible apply Mem.drew | with_reducible apply Mem.alloc | with_reducible apply Mem.setBox0)))
           intro aD nD cD aH nH cH aK nK cK c12 w5 hR
           (first
             | (refine box3 hR (b := W1.heap.size) (x := .slice none 0 0) (y := .slice none 0 0) (z := .slice none 0 0) (t := 31) ?_ ?_
                (focus ((repeat (first | exact List.mem_cons_self | refine List.mem_cons_of_mem _ ?_)); done))
                intro x0 x1 x2 y0 y1 y2 z0)
             | skip))
        | fail)
    all_goals
      go_wp2_with fail
      go_meet
      refine ⟨_, c12, rfl, rfl, ?_⟩
      apply Mem.below
      (focus (repeat (first | exact hR | exact HNz.out | with_reducible apply Mem.drew | with_reducible apply Mem.alloc | with_reducible apply Mem.setBox0)))
  case rest =>
    obtain ⟨b12, c12, rfl, rfl, hB⟩ := hcut
    clear HNz HP2
    have HB := Lib.hid hB
    clear hB
    go_wp2
    go_ret
    exact ⟨rfl, HB.out⟩
theorem triFront_walk (W : World) (v0 v1 v2 v3 : Value) (g0 : ∃ g, IsGraph W v0 g) (g1 : ∃ x : Int, v1 = .int .i64 x ∧ i64ok x) (g2 : ∃ l : List Dd, ((IsTup 5 cellsD W v2 l ∧ ∀ d ∈ l, DdOk d) ∧ l.length ≤ 17592186044416) ∧ ∃ a c, v2 = .slice a l.length c ∧ l.length ≤ c) (g3 : ∃ k : Nat, v3 = .int .u8 (k : Int) ∧ k < 256) :
    Calls Try.prog 4 #[v0, v1, v2, v3] W fun e w' => e = .returned (.bool true) ∧ Below W.heap.size W w' := by
  obtain ⟨g, hg⟩ := g0
  obtain ⟨b, rfl, _⟩ := g1
  obtain ⟨ds, ⟨⟨hu, hd⟩, hbig⟩, a, c, rfl, hc⟩ := g2
  obtain ⟨q, rfl, hq⟩ := g3
  by_cases hk : Good g ∧ (b = 1 ∨ b = 2 ∨ b = 3) ∧ ds.length ≤ 100
  · exact triFront_good g hk.1 v0 a c b hk.2.1 ds q hq W hg hu hc hd hk.2.2
  · exact triFront_bad g v0 a c b ds hk hbig q hq W hg hu hc hd
end Go.Proofs.Ytjnbnfmlpdnngaa
