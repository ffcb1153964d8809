/- objects, made, split, prefix, walked. -/
import Derived.Test.YtmmcjjklmcfegaaU0
import Derived.Test.YtmmcjjklmcfegaaS1
import Derived.Test.YtmmcjjklmcfegaaBase1
import Derived.Test.YtmmcjjklmcfegaaTak
import Derived.Deep.CutBlock
namespace Go.Proofs.Ytmmcjjklmcfegaa
open Go.RowKit Go.Shelf

def cellsK (p : Int × Int) : List Value := [.int .i64 p.1, .int .i64 p.2]
set_option maxRecDepth 100000 in
set_option maxHeartbeats 2000000 in
theorem objects_any (v : Value) (l : List (Int × Int)) (w : World) (hv : IsTup 2 cellsK w v l) (hn : l.length ≤ 1000000) :
    Calls Try.prog 26 #[v] w fun e w' => ∃ u, e = .returned u ∧ Mem w.heap.size w w' [rowI 3 u (l.map Prod.fst)] := by
  have Hv := Lib.hid hv
  obtain ⟨a, c, rfl, _⟩ := hv.slice
  obtain ⟨n, hn'⟩ : ∃ n, l.length = n := ⟨_, rfl⟩
  rw [hn'] at Hv hn ⊢
  have Hn := Lib.hid hn'
  have HM := Lib.hid ((Mem.start w).nilI 3)
  clear hv hn'
  go_enter Try.func26, Try.ntmps26
  go_upto_region 3 with (fail)
  go_loopw [3, 5, 8] (fun s3 _ s8 wq => ∃ k : Nat, k ≤ n ∧ s8 = .int .i64 (k : Int) ∧ Mem w.heap.size w wq [rowI 3 s3 ((l.take k).map Prod.fst)]) (fun _ _ i _ => n - (intOf i).toNat)
  case atStart => exact ⟨0, Nat.zero_le _, rfl, HM.out⟩
  case round =>
    clear HM
    obtain ⟨k, hk, rfl, hM⟩ := hrel
    by_cases hlt : k < n
    · obtain ⟨p, hp⟩ := get_some l k (by rw [Hn.out]; exact hlt)
      obtain ⟨b, off, rfl, _, hb2, hc⟩ := Hv.out.at2 hM.below hp
      obtain ⟨p1, p2⟩ := p
      have c0 : wr.cell? ⟨b, off + k * 2, none⟩ = some (.int .i64 p1) := hc 0 _ rfl
      have c1 : wr.cell? ⟨b, off + k * 2 + 1, none⟩ = some (.int .i64 p2) := hc 1 _ rfl
      have e2 : (k : Int) < (n : Int) := by omega
      have HT : Hid ((l.take (k + 1)).map Prod.fst = (l.take k).map Prod.fst ++ [p1]) := Lib.hid (by rw [take_succ_some _ _ _ hp, List.map_append]; rfl)
      obtain ⟨Y, hY⟩ : ∃ Y, (l.take k).map Prod.fst = Y := ⟨_, rfl⟩
      have hlY : Y.length ≤ 1000000 := by rw [← hY, List.length_map, List.length_take]; omega
      rw [hY] at hM HT
      have hMa := hM.alloc_ (.cells #[.int .i64 p1, .int .i64 p2] 53)
      have HMa := Lib.hid hMa
      clear hp hc hM hMa hY
      go_wp2_with (first
        | (refine Mem.wp_appI elemInts rfl (.tmp 12) (.tmp 15) rfl HMa.out 0 rfl rfl _ p1 _ _ rfl (by simp) hlY ?_
           intro ad n1 cp w8 hn1 hM8 hs8 hk8 ha8)
        | fail)
      go_roundw
      case rel => exact ⟨k + 1, by omega, by go_num, by rw [HT.out]; exact hM8⟩
      case measure => simp [intOf]; omega
    · obtain rfl : k = n := by omega
      rw [List.take_of_length_le (by rw [Hn.out]; exact Nat.le_refl _)] at hM
      go_wp2
      go_ret
      exact ⟨_, rfl, hM⟩
/-- How many were made. -/
def madeN (ds : List Dd) (os : List Ot) : Nat := (ds.zip os).countP fun p => decide (p.1.kind = 1) && decide (p.2.code = 0)
theorem madeN_snoc {ds : List Dd} {os : List Ot} {k : Nat} {d : Dd} {o : Ot} (hl : os.length = ds.length) (hd : ds[k]? = some d) (ho : os[k]? = some o) : madeN (ds.take (k + 1)) (os.take (k + 1)) = madeN (ds.take k) (os.take k) + if d.kind = 1 ∧ o.code = 0 then 1 else 0 := by
  unfold madeN
  rw [take_succ_some _ _ _ hd, take_succ_some _ _ _ ho, List.zip_append (by rw [List.length_take, List.length_take, hl]), List.countP_append]
  congr 1
  simp only [List.zip_cons_cons, List.zip_nil_right, List.countP_cons, List.countP_nil]
  by_cases h1 : d.kind = 1 <;> by_cases h2 : o.code = 0 <;> simp [h1, h2]
theorem madeN_le (ds : List Dd) (os : List Ot) : madeN ds os ≤ ds.length := by
  unfold madeN
  refine Nat.le_trans List.countP_le_length ?_
  rw [List.length_zip]; omega
set_option maxRecDepth 100000 in
set_option maxHeartbeats 4000000 in
theorem made_any (g : G) (v u o : Value) (ds : List Dd) (os : List Ot) (w : World) (hg : IsGraph w v g) (hgn : g.objs.length ≤ 1000) (hu : IsTup 5 cellsD w u ds) (ho : IsTup 3 cellsO w o os) (hn : ds.length ≤ 100) (hl : os.length = ds.length) :
    Calls Try.prog 28 #[v, u, o] w fun e w' => e = .returned (.int .i64 ((g.objs.length + madeN ds os : Nat) : Int)) ∧ Below w.heap.size w w' := by
  have Hu := Lib.hid hu
  have Ho := Lib.hid ho
  have Hl := Lib.hid hl
  obtain ⟨au, cu, rfl, _⟩ := hu.slice
  obtain ⟨ao2, co2, rfl, _⟩ := ho.slice
  obtain ⟨vo, vr, rfl, ho, hr⟩ := hg
  obtain ⟨ao, co, rfl, hlo⟩ := ho.slice
  obtain ⟨ar, cr, rfl, hlr⟩ := hr.slice
  obtain ⟨n, hn'⟩ : ∃ n, ds.length = n := ⟨_, rfl⟩
  have Hn := Lib.hid hn'
  rw [hn'] at Hu Hl hl hn ⊢
  rw [hl] at Ho ⊢
  have hM0 := (Mem.start w).alloc #[.slice ao g.objs.length co, .slice ar g.roots.length cr] 25
  have HB := Lib.hid hM0.below
  obtain ⟨m, hm⟩ : ∃ m, g.objs.length = m := ⟨_, rfl⟩
  rw [hm] at hgn HB ⊢
  clear ho hr hu hM0 hl hn' hm
  go_enter Try.func28, Try.ntmps28
  go_upto_region 3 with (fail)
  go_loopw [7, 8, 9, 15] (fun s7 _ _ s15 wq => ∃ k : Nat, k ≤ n ∧ s15 = .int .i64 (k : Int) ∧ s7 = .int .i64 ((m + madeN (ds.take k) (os.take k) : Nat) : Int) ∧ Below w.heap.size w wq) (fun _ _ _ i _ => n - (intOf i).toNat)
  case atStart => exact ⟨0, Nat.zero_le _, rfl, rfl, HB.out⟩
  case round =>
    clear HB
    obtain ⟨k, hk, rfl, rfl, hB⟩ := hrel
    by_cases hlt : k < n
    · obtain ⟨d, hd⟩ := get_some ds k (by rw [Hn.out]; exact hlt)
      obtain ⟨q, hq⟩ := get_some os k (by rw [Hl.out]; exact hlt)
      have hlen : os.length = ds.length := by rw [Hl.out, Hn.out]
      have HT := Lib.hid (madeN_snoc hlen hd hq)
      have hlY := madeN_le (ds.take k) (os.take k)
      rw [List.length_take] at hlY
      obtain ⟨Y, hY⟩ : ∃ Y, madeN (ds.take k) (os.take k) = Y := ⟨_, rfl⟩
      rw [hY] at HT hlY ⊢
      obtain ⟨b, off, rfl, _, hb2, hc⟩ := Hu.out.at2 hB hd
      obtain ⟨b', off', rfl, _, hb2', hc'⟩ := Ho.out.at2 hB hq
      obtain ⟨dk, dt, df, da, dn⟩ := d
      obtain ⟨qc, qr, qn⟩ := q
      have c0 : wr.cell? ⟨b, off + k * 5, none⟩ = some (.int .i64 dk) := hc 0 _ rfl
      have c1 : wr.cell? ⟨b, off + k * 5 + 1, none⟩ = some (.int .i64 dt) := hc 1 _ rfl
      have c2 : wr.cell? ⟨b, off + k * 5 + 2, none⟩ = some (.int .i64 df) := hc 2 _ rfl
      have c3 : wr.cell? ⟨b, off + k * 5 + 3, none⟩ = some (.int .i64 da) := hc 3 _ rfl
      have c4 : wr.cell? ⟨b, off + k * 5 + 4, none⟩ = some (.int .i64 dn) := hc 4 _ rfl
      have y0 : wr.cell? ⟨b', off' + k * 3, none⟩ = some (.int .i64 qc) := hc' 0 _ rfl
      have e2 : (k : Int) < (n : Int) := by omega
      have HB := Lib.hid (hB.alloc hB.size (.cells #[.int .i64 dk, .int .i64 dt, .int .i64 df, .int .i64 da, .int .i64 dn] 58))
      have hmY : m + Y ≤ 1200 := by omega
      clear hd hq hc hc' hB hlen hY
      by_cases h1 : dk = 1
      · subst h1
        by_cases h2 : qc = 0
        · subst h2
          rw [if_pos ⟨rfl, rfl⟩] at HT
          go_wp2_with fail
          go_roundw
          case rel => exact ⟨k + 1, by omega, by go_num, by rw [HT.out]; go_num, HB.out⟩
          case measure => simp [intOf]; omega
        · rw [if_neg (fun h => h2 h.2)] at HT
          have hne : (qc == 0) = false := by simpa using h2
          go_wp2_with fail
          go_roundw
          case rel => exact ⟨k + 1, by omega, by go_num, by rw [HT.out]; rfl, HB.out⟩
          case measure => simp [intOf]; omega
      · rw [if_neg (fun h => h1 h.1)] at HT
        have hne : (dk == 1) = false := by simpa using h1
        go_wp2_with fail
        go_roundw
        case rel => exact ⟨k + 1, by omega, by go_num, by rw [HT.out]; rfl, HB.out⟩
        case measure => simp [intOf]; omega
    · obtain rfl : k = n := by omega
      rw [List.take_of_length_le (by rw [Hn.out]; exact Nat.le_refl _), List.take_of_length_le (by rw [Hl.out]; exact Nat.le_refl _)]
      go_wp2
      go_ret
      exact ⟨rfl, hB⟩
set_option maxRecDepth 100000 in
set_option maxHeartbeats 2000000 in
theorem prefix_yes (au av : Option Addr) (n m cu cv : Nat) (l q : List Ot) (w : World) (hu : IsTup 3 cellsO w (.slice au n cu) l) (hv : IsTup 3 cellsO w (.slice av m cv) q) (hp : l <+: q) (hn : l.length = n) (hm : q.length = m) (hc : m ≤ cv) :
    Calls Try.prog 22 #[.slice au n cu, .slice av m cv] w fun e w' => e = .returned (.bool true) ∧ Below w.heap.size w w' := by
  have hle := hp.length_le
  have hl : l = q.take n := by rw [← hn]; exact List.prefix_iff_eq_take.1 hp
  have h2 := isTup_take hv n (by omega)
  rw [← hl] at h2
  have HO := Lib.hid (outs_yes _ _ l w hu h2)
  rw [hn, hm] at hle
  have h3 : (n : Int) ≤ (m : Int) := by omega
  have h4 : n ≤ cv := by omega
  have h5 : decide ((n : Int) ≤ (m : Int)) = true := by simpa using hle
  have h6 : decide (n ≤ m) = true := by simpa using hle
  have h7 : (n : Int) ≤ (cv : Int) := by omega
  clear hu hv hp hl h2 hn hm hc
  go_enter Try.func22, Try.ntmps22
  go_wp2_with fail
  refine HO.out.mono ?_
  rintro e w1 ⟨rfl, hb⟩
  go_wp2
  go_ret
  exact ⟨rfl, hb⟩
end Go.Proofs.Ytmmcjjklmcfegaa
