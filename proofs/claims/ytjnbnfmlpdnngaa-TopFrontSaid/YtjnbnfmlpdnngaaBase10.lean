/- Texts U3 U4 Spl Ris in one. -/
import Derived.Test.YtjnbnfmlpdnngaaU0
import Derived.Test.YtjnbnfmlpdnngaaS1
import Derived.Test.YtjnbnfmlpdnngaaBase1
import Derived.Test.YtjnbnfmlpdnngaaTak
import Derived.Deep.CutBlock
import Derived.Test.YtjnbnfmlpdnngaaRows
import Derived.BigQuiet
import Derived.Deep.QuietTactic
/- objects, made, split, prefix, walked. -/
namespace Go.Proofs.Ytjnbnfmlpdnngaa
open Go.RowKit Go.Shelf

def cellsK (p : Int × Int) : List Value := [.int .i64 p.1, .int .i64 p.2]
set_option maxRecDepth 100000 in
set_option maxHeartbeats 2000000 in
theorem objects_any (v : Value) (l : List (Int × Int)) (w : World) (hv : IsTup 2 cellsK w v l) (hn : l.length ≤ 1000000) :
    Calls Try.prog 19 #[v] w fun e w' => ∃ u, e = .returned u ∧ Mem w.heap.size w w' [rowI 3 u (l.map Prod.fst)] := by
  have Hv := Lib.hid hv
  obtain ⟨a, c, rfl, _⟩ := hv.slice
  obtain ⟨n, hn'⟩ : ∃ n, l.length = n := ⟨_, rfl⟩
  rw [hn'] at Hv hn ⊢
  have Hn := Lib.hid hn'
  have HM := Lib.hid ((Mem.start w).nilI 3)
  clear hv hn'
  go_enter Try.func19, Try.ntmps19
  go_upto_region 3 with (fail)
  go_loopw [3, 5, 8] (fun s3 _ s8 wq => ∃ k : Nat, k ≤ n ∧ s8 = .int .i64 (k : Int) ∧ Mem w.heap.size w wq [rowI 3 s3 ((l.take k).map Prod.fst)]) (fun _ _ i _ => n - (intOf i).toNat)
  case atStart => exact ⟨0, Nat.zero_le _, rfl, HM.out⟩
  case round =>
    clear HM
    obtain ⟨k, hk, rfl, hM⟩ := hrel
    by_cases hlt : k < n
    · obtain ⟨p, hp⟩ := get_some l k (by rw [Hn.out]; exact hlt)
      obtain ⟨b, off, rfl, _, hb2, hc⟩ := Hv.out.at2 hM.below hp
      obtain ⟨p1, p2⟩ := p
      have c0 : wr.cell? ⟨b, off + k * 2, none⟩ = some (.int .i64 p1) := hc 0 _ rfl
      have c1 : wr.cell? ⟨b, off + k * 2 + 1, none⟩ = some (.int .i64 p2) := hc 1 _ rfl
      have e2 : (k : Int) < (n : Int) := by omega
      have HT : Hid ((l.take (k + 1)).map Prod.fst = (l.take k).map Prod.fst ++ [p1]) := Lib.hid (by rw [take_succ_some _ _ _ hp, List.map_append]; rfl)
      obtain ⟨Y, hY⟩ : ∃ Y, (l.take k).map Prod.fst = Y := ⟨_, rfl⟩
      have hlY : Y.length ≤ 1000000 := by rw [← hY, List.length_map, List.length_take]; omega
      rw [hY] at hM HT
      have hMa := hM.alloc_ (.cells #[.int .i64 p1, .int .i64 p2] 98)
      have HMa := Lib.hid hMa
      clear hp hc hM hMa hY
      go_wp2_with (first
        | (refine Mem.wp_appI elemInts rfl (.tmp 12) (.tmp 15) rfl HMa.out 0 rfl rfl _ p1 _ _ rfl (by simp) hlY ?_
           intro ad n1 cp w8 hn1 hM8 hs8 hk8 ha8)
        | fail)
      go_roundw
      case rel => exact ⟨k + 1, by omega, by go_num, by rw [HT.out]; exact hM8⟩
      case measure => simp [intOf]; omega
    · obtain rfl : k = n := by omega
      rw [List.take_of_length_le (by rw [Hn.out]; exact Nat.le_refl _)] at hM
      go_wp2
      go_ret
      exact ⟨_, rfl, hM⟩
/-- How many were made. -/
def madeN (ds : List Dd) (os : List Ot) : Nat := (ds.zip os).countP fun p => decide (p.1.kind = 1) && decide (p.2.code = 0)
theorem madeN_snoc {ds : List Dd} {os : List Ot} {k : Nat} {d : Dd} {o : Ot} (hl : os.length = ds.length) (hd : ds[k]? = some d) (ho : os[k]? = some o) : madeN (ds.take (k + 1)) (os.take (k + 1)) = madeN (ds.take k) (os.take k) + if d.kind = 1 ∧ o.code = 0 then 1 else 0 := by
  unfold madeN
  rw [take_succ_some _ _ _ hd, take_succ_some _ _ _ ho, List.zip_append (by rw [List.length_take, List.length_take, hl]), List.countP_append]
  congr 1
  simp only [List.zip_cons_cons, List.zip_nil_right, List.countP_cons, List.countP_nil]
  by_cases h1 : d.kind = 1 <;> by_cases h2 : o.code = 0 <;> simp [h1, h2]
theorem madeN_le (ds : List Dd) (os : List Ot) : madeN ds os ≤ ds.length := by
  unfold madeN
  refine Nat.le_trans List.countP_le_length ?_
  rw [List.length_zip]; omega
set_option maxRecDepth 100000 in
set_option maxHeartbeats 4000000 in
theorem made_any (g : G) (v u o : Value) (ds : List Dd) (os : List Ot) (w : World) (hg : IsGraph w v g) (hgn : g.objs.length ≤ 1000) (hu : IsTup 5 cellsD w u ds) (ho : IsTup 3 cellsO w o os) (hn : ds.length ≤ 100) (hl : os.length = ds.length) :
    Calls Try.prog 21 #[v, u, o] w fun e w' => e = .returned (.int .i64 ((g.objs.length + madeN ds os : Nat) : Int)) ∧ Below w.heap.size w w' := by
  have Hu := Lib.hid hu
  have Ho := Lib.hid ho
  have Hl := Lib.hid hl
  obtain ⟨au, cu, rfl, _⟩ := hu.slice
  obtain ⟨ao2, co2, rfl, _⟩ := ho.slice
  obtain ⟨vo, vr, rfl, ho, hr⟩ := hg
  obtain ⟨ao, co, rfl, hlo⟩ := ho.slice
  obtain ⟨ar, cr, rfl, hlr⟩ := hr.slice
  obtain ⟨n, hn'⟩ : ∃ n, ds.length = n := ⟨_, rfl⟩
  have Hn := Lib.hid hn'
  rw [hn'] at Hu Hl hl hn ⊢
  rw [hl] at Ho ⊢
  have hM0 := (Mem.start w).alloc #[.slice ao g.objs.length co, .slice ar g.roots.length cr] 25
  have HB := Lib.hid hM0.below
  obtain ⟨m, hm⟩ : ∃ m, g.objs.length = m := ⟨_, rfl⟩
  rw [hm] at hgn HB ⊢
  clear ho hr hu hM0 hl hn' hm
  go_enter Try.func21, Try.ntmps21
  go_upto_region 3 with (fail)
  go_loopw [7, 8, 9, 15] (fun s7 _ _ s15 wq => ∃ k : Nat, k ≤ n ∧ s15 = .int .i64 (k : Int) ∧ s7 = .int .i64 ((m + madeN (ds.take k) (os.take k) : Nat) : Int) ∧ Below w.heap.size w wq) (fun _ _ _ i _ => n - (intOf i).toNat)
  case atStart => exact ⟨0, Nat.zero_le _, rfl, rfl, HB.out⟩
  case round =>
    clear HB
    obtain ⟨k, hk, rfl, rfl, hB⟩ := hrel
    by_cases hlt : k < n
    · obtain ⟨d, hd⟩ := get_some ds k (by rw [Hn.out]; exact hlt)
      obtain ⟨q, hq⟩ := get_some os k (by rw [Hl.out]; exact hlt)
      have hlen : os.length = ds.length := by rw [Hl.out, Hn.out]
      have HT := Lib.hid (madeN_snoc hlen hd hq)
      have hlY := madeN_le (ds.take k) (os.take k)
      rw [List.length_take] at hlY
      obtain ⟨Y, hY⟩ : ∃ Y, madeN (ds.take k) (os.take k) = Y := ⟨_, rfl⟩
      rw [hY] at HT hlY ⊢
      obtain ⟨b, off, rfl, _, hb2, hc⟩ := Hu.out.at2 hB hd
      obtain ⟨b', off', rfl, _, hb2', hc'⟩ := Ho.out.at2 hB hq
      obtain ⟨dk, dt, df, da, dn⟩ := d
      obtain ⟨qc, qr, qn⟩ := q
      have c0 : wr.cell? ⟨b, off + k * 5, none⟩ = some (.int .i64 dk) := hc 0 _ rfl
      have c1 : wr.cell? ⟨b, off + k * 5 + 1, none⟩ = some (.int .i64 dt) := hc 1 _ rfl
      have c2 : wr.cell? ⟨b, off + k * 5 + 2, none⟩ = some (.int .i64 df) := hc 2 _ rfl
      have c3 : wr.cell? ⟨b, off + k * 5 + 3, none⟩ = some (.int .i64 da) := hc 3 _ rfl
      have c4 : wr.cell? ⟨b, off + k * 5 + 4, none⟩ = some (.int .i64 dn) := hc 4 _ rfl
      have y0 : wr.cell? ⟨b', off' + k * 3, none⟩ = some (.int .i64 qc) := hc' 0 _ rfl
      have e2 : (k : Int) < (n : Int) := by omega
      have HB := Lib.hid (hB.alloc hB.size (.cells #[.int .i64 dk, .int .i64 dt, .int .i64 df, .int .i64 da, .int .i64 dn] 37))
      have hmY : m + Y ≤ 1200 := by omega
      clear hd hq hc hc' hB hlen hY
      by_cases h1 : dk = 1
      · subst h1
        by_cases h2 : qc = 0
        · subst h2
          rw [if_pos ⟨rfl, rfl⟩] at HT
          go_wp2_with fail
          go_roundw
          case rel => exact ⟨k + 1, by omega, by go_num, by rw [HT.out]; go_num, HB.out⟩
          case measure => simp [intOf]; omega
        · rw [if_neg (fun h => h2 h.2)] at HT
          have hne : (qc == 0) = false := by simpa using h2
          go_wp2_with fail
          go_roundw
          case rel => exact ⟨k + 1, by omega, by go_num, by rw [HT.out]; rfl, HB.out⟩
          case measure => simp [intOf]; omega
      · rw [if_neg (fun h => h1 h.1)] at HT
        have hne : (dk == 1) = false := by simpa using h1
        go_wp2_with fail
        go_roundw
        case rel => exact ⟨k + 1, by omega, by go_num, by rw [HT.out]; rfl, HB.out⟩
        case measure => simp [intOf]; omega
    · obtain rfl : k = n := by omega
      rw [List.take_of_length_le (by rw [Hn.out]; exact Nat.le_refl _), List.take_of_length_le (by rw [Hl.out]; exact Nat.le_refl _)]
      go_wp2
      go_ret
      exact ⟨rfl, hB⟩
set_option maxRecDepth 100000 in
set_option maxHeartbeats 2000000 in
theorem prefix_yes (au av : Option Addr) (n m cu cv : Nat) (l q : List Ot) (w : World) (hu : IsTup 3 cellsO w (.slice au n cu) l) (hv : IsTup 3 cellsO w (.slice av m cv) q) (hp : l <+: q) (hn : l.length = n) (hm : q.length = m) (hc : m ≤ cv) :
    Calls Try.prog 15 #[.slice au n cu, .slice av m cv] w fun e w' => e = .returned (.bool true) ∧ Below w.heap.size w w' := by
  have hle := hp.length_le
  have hl : l = q.take n := by rw [← hn]; exact List.prefix_iff_eq_take.1 hp
  have h2 := isTup_take hv n (by omega)
  rw [← hl] at h2
  have HO := Lib.hid (outs_yes _ _ l w hu h2)
  rw [hn, hm] at hle
  have h3 : (n : Int) ≤ (m : Int) := by omega
  have h4 : n ≤ cv := by omega
  have h5 : decide ((n : Int) ≤ (m : Int)) = true := by simpa using hle
  have h6 : decide (n ≤ m) = true := by simpa using hle
  have h7 : (n : Int) ≤ (cv : Int) := by omega
  clear hu hv hp hl h2 hn hm hc
  go_enter Try.func15, Try.ntmps15
  go_wp2_with fail
  refine HO.out.mono ?_
  rintro e w1 ⟨rfl, hb⟩
  go_wp2
  go_ret
  exact ⟨rfl, hb⟩
end Go.Proofs.Ytjnbnfmlpdnngaa

/- How many are made. Plain. -/
namespace Go.Proofs.Ytjnbnfmlpdnngaa

theorem ikd_len (s : Sm Unit) (d : Dd) : (iKd.step s d).1.os.length = s.os.length + if d.kind = 1 ∧ (iKd.step s d).2.code = 0 then 1 else 0 := by
  unfold Kd.step
  split
  · rename_i hw
    rw [if_neg (fun h => hw h.2)]; rfl
  · split
    · rename_i e1
      show (s.os ++ [_]).length = _
      rw [if_pos ⟨e1, rfl⟩]; simp
    · rename_i e1
      have h0 : ∀ c : Int, (if d.kind = 1 ∧ c = 0 then 1 else 0 : Nat) = 0 := fun c => if_neg (fun h => e1 h.1)
      split
      · rw [h0]; rfl
      · split
        · rw [h0]; rfl
        · split
          · split
            · rw [h0]; rfl
            · rw [h0]; show (s.os.set _ _).length = _; rw [List.length_set]; rfl
          · split
            · split
              · rw [h0]; rfl
              · rw [h0]; rfl
            · split
              · rw [h0]; rfl
              · rw [h0]; rfl
theorem Tells.len {X : Type} {st : Sm X → Dd → Sm X × Ot} {W : Int → Bool} {s : Sm X} {d : Dd} (h : Tells st W s d) (hW : W 1 = false) : (st s d).1.os.length = s.os.length + if d.kind = 1 ∧ (st s d).2.code = 0 then 1 else 0 := by
  by_cases h1 : W d.kind = true ∨ (st s d).2.code = 6
  · have := (h.own h1).len
    rw [if_neg]
    · exact this
    · rintro ⟨h2, h3⟩
      rcases h1 with h1 | h1
      · rw [h2, hW] at h1; cases h1
      · rw [h3] at h1; cases h1
  · have h2 : W d.kind = false := by
      cases hc : W d.kind with
      | true => exact absurd (.inl hc) h1
      | false => rfl
    obtain ⟨h3, h4⟩ := h.pure_ h2 (fun e => h1 (.inr e))
    rw [h3]
    exact h4.len.trans (ikd_len (bare s) d)
theorem runs_made {X : Type} (st : Sm X → Dd → Sm X × Ot) (W : Int → Bool) (hW : W 1 = false) (s0 : Sm X) (ds : List Dd) (hT : ∀ k d, ds[k]? = some d → Tells st W (runs st s0 (ds.take k)).1 d) :
    ∀ k, k ≤ ds.length → (runs st s0 (ds.take k)).1.os.length = s0.os.length + madeN (ds.take k) (runs st s0 (ds.take k)).2 := by
  intro k
  induction k with
  | zero => intro _; rfl
  | succ k ih =>
    intro hk
    have h1 := ih (by omega)
    obtain ⟨d, hd⟩ : ∃ d, ds[k]? = some d := ⟨ds[k]'(by omega), List.getElem?_eq_getElem (by omega)⟩
    have h2 := (hT k d hd).len hW
    rw [take_succ_some _ _ _ hd, runs_snoc]
    obtain ⟨S, hS⟩ : ∃ S, runs st s0 (ds.take k) = S := ⟨_, rfl⟩
    have hl : (ds.take k).length = S.2.length := by rw [← hS, runs_len]
    rw [hS] at h1 h2 ⊢
    simp only
    rw [h2, h1]
    unfold madeN
    rw [List.zip_append hl, List.countP_append]
    simp only [List.zip_cons_cons, List.zip_nil_right, List.countP_cons, List.countP_nil, Nat.zero_add, Bool.and_eq_true, decide_eq_true_eq]
    omega
/-- What is told of the front is the front of what is told. -/
theorem runs_front {X : Type} (st : Sm X → Dd → Sm X × Ot) (s0 : Sm X) (ds : List Dd) (n : Nat) : (runs st s0 (ds.take n)).2 <+: (runs st s0 ds).2 := by
  have h := runs_append st s0 (ds.take n) (ds.drop n)
  rw [List.take_append_drop] at h
  rw [h]
  exact List.prefix_append _ _
end Go.Proofs.Ytjnbnfmlpdnngaa

/- split: are all numbers below n in just one of two lists? The yes-case. -/
namespace Go.Proofs.Ytjnbnfmlpdnngaa
open Go.RowKit Go.Shelf

/-- Which numbers are in a list. -/
def markL (n : Nat) (P : List Int) : List Int := (List.range n).map fun (j : Nat) => if (j : Int) ∈ P then 1 else 0
theorem markL_len (n : Nat) (P : List Int) : (markL n P).length = n := by simp [markL]
theorem markL_at {n : Nat} (P : List Int) {j : Nat} (h : j < n) : (markL n P)[j]? = some (if (j : Int) ∈ P then 1 else 0) := by simp [markL, h]
theorem markL_nil (n : Nat) : markL n [] = List.replicate n 0 := by
  apply List.ext_getElem?
  intro j
  by_cases h : j < n
  · rw [markL_at _ h]; simp [h]
  · simp [markL, h]
theorem markL_snoc {n : Nat} (P : List Int) {i : Nat} (h : i < n) : (markL n P).set i 1 = markL n (P ++ [(i : Int)]) := by
  apply List.ext_getElem?
  intro k
  by_cases hk : k < n
  · rw [List.getElem?_set, markL_len, markL_at P hk, markL_at _ hk]
    by_cases e : i = k
    · subst e; rw [if_pos rfl, if_pos h, if_pos (by simp)]
    · rw [if_neg e]
      congr 1
      have : (k : Int) ∈ P ++ [(i : Int)] ↔ (k : Int) ∈ P := by simp; omega
      simp only [this]
  · rw [List.getElem?_eq_none (by simp [markL_len]; omega), List.getElem?_eq_none (by simp [markL_len]; omega)]
/-- The round that split is in: the list, and what was marked ahead of it. -/
def SplitAt (a b : List Int) (k : Nat) (cur dn : List Int) : Prop := (k = 0 → cur = a ∧ dn = []) ∧ (k = 1 → cur = b ∧ dn = a) ∧ (k = 2 → dn = a ++ b)
set_option maxRecDepth 100000 in
set_option maxHeartbeats 1000000 in
theorem split_yes (n : Nat) (hn : n ≤ 1000) (va vb : Value) (a b : List Int) (w : World) (ha : IsInts w va a) (hb : IsInts w vb b) (hnd : (a ++ b).Nodup) (hr : ∀ x ∈ a ++ b, 0 ≤ x ∧ x < (n : Int)) (hall : ∀ i : Nat, i < n → (i : Int) ∈ a ++ b) :
    Calls Try.prog 20 #[.int .i64 n, va, vb] w fun e w' => e = .returned (.bool true) ∧ Below w.heap.size w w' := by
  have Ha := Lib.hid ha
  have Hb := Lib.hid hb
  have Hnd := Lib.hid hnd
  have Hr := Lib.hid hr
  have Hall := Lib.hid hall
  obtain ⟨aa, ca, rfl, _⟩ := ha.slice
  obtain ⟨ab, cb, rfl, _⟩ := hb.slice
  have hM0 := Mem.start w
  clear ha hb hnd hr hall
  go_enter Try.func20, Try.ntmps20
  go_wp2_with (at_make; refine Mem.wp_makeI elemInts rfl _ _ rfl hM0 _ _ n rfl rfl (by go_num) (by go_num) (by omega) ?_; intro w1 hM1 hb1)
  have hM1b : Mem w.heap.size w w1 [rowI 3 (.slice (some ⟨w.heap.size, 0, none⟩) n n) (markL n [])] := by
    rw [markL_nil]; simpa using hM1
  clear hM1 hb1 hM0
  go_wp2
  go_loopw [8, 1] (fun kv lv wr => ∃ (k : Nat) (cur dn : List Int), k ≤ 2 ∧ kv = .int .i64 k ∧ IsInts w lv cur ∧ SplitAt a b k cur dn ∧ Mem w.heap.size w wr [rowI 3 (.slice (some ⟨w.heap.size, 0, none⟩) n n) (markL n dn)]) (fun kv _ _ => 2 - (intOf kv).toNat)
  case atStart => exact ⟨0, a, [], by omega, rfl, Ha.out, ⟨fun _ => ⟨rfl, rfl⟩, by omega, by omega⟩, hM1b⟩
  case round =>
    clear hM1b
    obtain ⟨k, cur, dn, hk, rfl, hcur, hS, hM⟩ := hrel
    have Hcur := Lib.hid hcur
    have HS := Lib.hid hS
    obtain ⟨ac, cc, rfl, hlc⟩ := hcur.slice
    clear hcur hS
    by_cases hlt : k < 2
    · have hnd2 : (dn ++ cur).Nodup ∧ (∀ x ∈ cur, 0 ≤ x ∧ x < (n : Int)) ∧ SplitAt a b (k + 1) b (dn ++ cur) := by
        obtain ⟨h0, h1, _⟩ := HS.out
        have h2 := Hnd.out
        have h3 := Hr.out
        rcases Nat.lt_or_ge k 1 with h | h
        · obtain rfl : k = 0 := by omega
          obtain ⟨rfl, rfl⟩ := h0 rfl
          exact ⟨by simpa using (List.nodup_append.1 h2).1, fun x hx => h3 x (List.mem_append_left _ hx), by simp, fun _ => ⟨rfl, by simp⟩, by simp⟩
        · obtain rfl : k = 1 := by omega
          obtain ⟨rfl, rfl⟩ := h1 rfl
          exact ⟨h2, fun x hx => h3 x (List.mem_append_right _ hx), by simp, by simp, fun _ => rfl⟩
      have Hnd2 := Lib.hid hnd2
      have HM := Lib.hid hM
      have hm0 : Mem w.heap.size w wr [rowI 3 (.slice (some ⟨w.heap.size, 0, none⟩) n n) (markL n (dn ++ cur.take 0))] := by simpa using hM
      clear hnd2 hM
      have hd : decide ((k : Int) < 2) = true := by simp; omega
      go_wp2
      go_loopw [21] (fun jv wr => ∃ j : Nat, j ≤ cur.length ∧ jv = .int .i64 j ∧ Mem w.heap.size w wr [rowI 3 (.slice (some ⟨w.heap.size, 0, none⟩) n n) (markL n (dn ++ cur.take j))]) (fun jv _ => cur.length - (intOf jv).toNat)
      case atStart => exact ⟨0, Nat.zero_le _, rfl, hm0⟩
      case round =>
        clear hm0
        obtain ⟨j, hj, rfl, hM⟩ := hrel
        by_cases hlj : j < cur.length
        · obtain ⟨x, hx⟩ := get_some _ _ hlj
          obtain ⟨bx, ox, cx, hv, hbx, hnx, c1, _⟩ := Hcur.out.at hM.below hx
          cases hv
          have hxr := Hnd2.out.2.1 x (List.mem_of_getElem? hx)
          obtain ⟨i, rfl⟩ : ∃ i : Nat, x = (i : Int) := ⟨x.toNat, by omega⟩
          have hi : i < n := by omega
          have hts := take_succ_some _ _ _ hx
          have hnot : (i : Int) ∉ dn ++ cur.take j := by
            have h1 : (dn ++ cur.take (j + 1)).Nodup := Hnd2.out.1.sublist (List.Sublist.append (List.Sublist.refl _) (List.take_sublist _ _))
            rw [hts, ← List.append_assoc] at h1
            have := (List.nodup_append.1 h1).2.2
            exact fun hm => this _ hm _ (List.mem_singleton.2 rfl) rfl
          have hat := markL_at (dn ++ cur.take j) hi
          rw [if_neg hnot] at hat
          obtain ⟨q1, q2⟩ := hM.intAt 0 rfl hat
          have hM2 := hM.setI 0 rfl (markL_len _ _) i 1
          have hM3 : Mem w.heap.size w _ [rowI 3 (.slice (some ⟨w.heap.size, 0, none⟩) n n) (markL n (dn ++ cur.take (j + 1)))] := hM2.cast (by rw [hts, ← List.append_assoc, ← markL_snoc _ hi]; rfl)
          have HM3 := Lib.hid hM3
          clear hx hts hnot hat hM hM2 hM3 hxr
          go_wp2
          go_roundw
          case rel => exact ⟨j + 1, by omega, by go_num, HM3.out⟩
          case measure => simp [intOf]; omega
        · obtain rfl : j = cur.length := by omega
          rw [List.take_length] at hM
          have HM := Lib.hid hM
          clear hM
          go_wp2
          go_roundw
          case rel => exact ⟨k + 1, b, dn ++ cur, by omega, by go_num, Hb.out, Hnd2.out.2.2, HM.out⟩
          case measure => simp [intOf]; omega
    · obtain rfl : k = 2 := by omega
      obtain rfl := HS.out.2.2 rfl
      clear HS
      go_wp2
      go_loopw [46] (fun jv wr => ∃ j : Nat, j ≤ n ∧ jv = .int .i64 j ∧ Mem w.heap.size w wr [rowI 3 (.slice (some ⟨w.heap.size, 0, none⟩) n n) (markL n (a ++ b))]) (fun jv _ => n - (intOf jv).toNat)
      case atStart => exact ⟨0, Nat.zero_le _, rfl, hM⟩
      case round =>
        clear hM
        obtain ⟨j, hj, rfl, hM⟩ := hrel
        by_cases hlj : j < n
        · have hat := markL_at (a ++ b) hlj
          rw [if_pos (Hall.out j hlj)] at hat
          obtain ⟨q1, q2⟩ := hM.intAt 0 rfl hat
          have HM := Lib.hid hM
          clear hat hM
          go_wp2
          go_roundw
          case rel => exact ⟨j + 1, by omega, by go_num, HM.out⟩
          case measure => simp [intOf]; omega
        · obtain rfl : n = j := by omega
          have HB := Lib.hid hM.below
          clear hM
          go_wp2
          go_ret
          exact ⟨rfl, HB.out⟩
end Go.Proofs.Ytjnbnfmlpdnngaa

/- rising, walked. -/
namespace Go.Proofs.Ytjnbnfmlpdnngaa
open Go.RowKit Go.Shelf

def Rising (l : List Int) : Prop := ∀ (k : Nat) (x y : Int), l[k]? = some x → l[k + 1]? = some y → x < y
set_option maxRecDepth 100000 in
set_option maxHeartbeats 400000 in
theorem rising_yes (v : Value) (l : List Int) (w : World) (hl : IsInts w v l) (h : Rising l) :
    Calls Try.prog 18 #[v] w fun e w' => e = .returned (.bool true) ∧ Below w.heap.size w w' := by
  obtain ⟨a, cap, rfl, hm⟩ := hl.slice
  have Hl := Lib.hid hl
  have H := Lib.hid h
  clear hl h
  go_enter Try.func18, Try.ntmps18
  go_wp2
  go_loopw [3] (fun i wr => ∃ k : Nat, k ≤ l.length ∧ i = .int .i64 (k + 1) ∧ Below w.heap.size w wr) (fun i _ => l.length + 1 - (intOf i).toNat)
  case atStart => exact ⟨0, Nat.zero_le _, rfl, Below.refl _ _⟩
  case round =>
    obtain ⟨k, hk, rfl, hB⟩ := hrel
    by_cases hlt : k + 1 < l.length
    · obtain ⟨x, hx⟩ := get_some l k (by omega)
      obtain ⟨y, hy⟩ := get_some l (k + 1) hlt
      obtain ⟨b, off, cap2, hv, hb, hn, c1, _⟩ := Hl.out.at hB hx
      cases hv
      obtain ⟨b', off', cap2', hv', _, _, c2, _⟩ := Hl.out.at hB hy
      cases hv'
      have h0 := H.out k x y hx hy
      have h1 : ¬ y ≤ x := by omega
      have hz : (k : Int) + 1 < l.length := by omega
      have hz2 : k < l.length := by omega
      clear hx hy h0
      go_wp2
      go_quiet (fail)
      go_wp2
      go_roundw
      case rel => exact ⟨k + 1, by omega, by go_num, hB.trans ⟨rfl, rfl, rfl, Nat.le_refl _, fun _ _ => rfl⟩⟩
      case measure => simp [intOf]; omega
    · have hz : ¬ (k : Int) + 1 < l.length := by omega
      go_wp2
      go_ret
      exact ⟨rfl, hB⟩
end Go.Proofs.Ytjnbnfmlpdnngaa
