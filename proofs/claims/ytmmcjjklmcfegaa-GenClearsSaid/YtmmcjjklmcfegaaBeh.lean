/- behind: one script behind the other, walked. -/
import Derived.Test.YtmmcjjklmcfegaaU2
import Derived.Test.YtmmcjjklmcfegaaTak
namespace Go.Proofs.Ytmmcjjklmcfegaa
open Go.RowKit Go.Shelf

theorem isTup_own4 {α : Type} {sz : Nat} {enc : α → List Value} {w : World} {v : Value} {l : List α} {B : Nat} {e : TypeId} (hz : ∀ x, (enc x).length = sz) (h : w.ownsRow B e sz v l.length (l.flatMap enc)) (hl : l.length ≤ 4000000) : IsTup sz enc w v l := by
  rcases h.2 with ⟨rfl, h0⟩ | ⟨g, cap, cur, rfl, _, hg, _⟩
  · have : l = [] := List.eq_nil_of_length_eq_zero h0
    subst this
    exact ⟨none, 0, rfl, by simp, by simp⟩
  · refine ⟨_, cap, rfl, by omega, fun k x hx => ?_⟩
    have hk : k < l.length := (List.getElem?_eq_some_iff.1 hx).1
    refine ⟨g, 0, rfl, (Array.getElem?_eq_some_iff.1 hg).1, fun j u hu => ?_⟩
    have hj : j < sz := by rw [← hz x]; exact (List.getElem?_eq_some_iff.1 hu).1
    have hlt : k * sz + j < l.length * sz := by
      have := Nat.mul_le_mul_right sz (show k + 1 ≤ l.length by omega)
      rw [Nat.add_mul] at this; omega
    rw [Nat.zero_add, h.cellAt _ hlt]
    exact getElem_tup hz l k x hx j u hu
/-- append(l, y), of up to four million. -/
theorem Mem.wp_appT4 {P : Program} {B : Nat} {w0 w : World} {L : List Ent} {t e : TypeId} {z : Value} {α : Type} {sz bytes : Nat} {enc : α → List Value} (T : Elem P t e sz bytes z) {ops : Array Oper} {rest : List Oper} {o : Oper} {ac : Act} {Q : Exit → Act → World → Prop} (hgd : o.guard = none) (s x : Operand)
    (ho : o.op = .call { callee := .builtin .append, args := #[s, x], argTypes := #[t, t] }) (h : Mem B w0 w L) (k : Nat) {v : Value} {l : List α} (hk : L[k]? = some (rowT e sz enc v l))
    (hs : ac.eval s = v) (c : Nat) (y : α) (news : Array Value) (hy : enc y = news.toList) (e2 : TypeId) (bl : Nat) (hx : ac.eval x = .slice (some ⟨bl, 0, none⟩) 1 c) (hbl : w.heap.size = bl) (hsz : news.size = sz)
    (h1 : news.toList.all (·.oneCell') = true) (hb : bytes ≤ 1000) (hn : l.length ≤ 4000000)
    (hh : ∀ ad cap w', Mem B w0 w' (L.set k (rowT e sz enc (.slice ad (l.length + 1) cap) (l ++ [y]))) → w.heap.size < w'.heap.size → wpList P ops Q rest (ac.put o.dst (.slice ad (l.length + 1) cap)) w') :
    wpList P ops Q (o :: rest) ac (w.alloc (.cells news e2)) := by
  subst hbl
  refine Mem.wp_append T hgd s x ho (h.alloc_ _) k hk hs ⟨w.heap.size, 0, none⟩ 1 c news.toList hx (by simpa using hsz) ?_ ?_ ?_ ?_ ?_
  · intro j u hj
    have e : (⟨w.heap.size, 0, none⟩ : Addr).add j = ⟨w.heap.size, j, none⟩ := by unfold Addr.add; split <;> simp_all
    rw [e, World.cell?_alloc_new]
    simpa using hj
  · intro u hu
    exact List.all_eq_true.1 h1 u hu
  · simp only [maxLen]; omega
  · have := Nat.mul_le_mul (show l.length + 1 ≤ 4000001 by omega) hb
    omega
  · intro ad cap w' h2 h3 h4 h5
    refine hh ad cap w' (h2.cast ?_) (by simp at h3; omega)
    simp [rowT, hy]
set_option maxRecDepth 100000 in
set_option maxHeartbeats 4000000 in
theorem behind_any (u v : Value) (a b : List Dd) (w : World) (hu : IsTup 5 cellsD w u a) (hv : IsTup 5 cellsD w v b) (hn : a.length + b.length ≤ 4000000) :
    Calls Try.prog 16 #[u, v] w fun e w' => ∃ x, e = .returned x ∧ Mem w.heap.size w w' [rowT 58 5 cellsD x (a ++ b)] := by
  have Hu := Lib.hid hu
  have Hv := Lib.hid hv
  obtain ⟨au, cu, rfl, _⟩ := hu.slice
  obtain ⟨av, cv, rfl, _⟩ := hv.slice
  obtain ⟨n, hna⟩ : ∃ n, a.length = n := ⟨_, rfl⟩
  obtain ⟨m, hnb⟩ : ∃ m, b.length = m := ⟨_, rfl⟩
  rw [hna] at Hu hn ⊢
  rw [hnb] at Hv hn ⊢
  have Hna := Lib.hid hna
  have Hnb := Lib.hid hnb
  have HM := Lib.hid ((Mem.start w).nilT 58 5 cellsD)
  clear hu hv hna hnb
  go_enter Try.func16, Try.ntmps16
  go_upto_region 3 with (fail)
  go_loopw [5, 7, 12] (fun s5 _ s12 wq => ∃ (k : Nat) (ad : Option Addr) (c2 : Nat), k ≤ n ∧ s12 = .int .i64 (k : Int) ∧ s5 = .slice ad k c2 ∧ Mem w.heap.size w wq [rowT 58 5 cellsD s5 (a.take k)]) (fun _ _ i _ => n - (intOf i).toNat)
  case atStart => exact ⟨0, none, 0, Nat.zero_le _, rfl, rfl, HM.out⟩
  case round =>
    clear HM
    obtain ⟨k, ad, c2, hk, rfl, rfl, hM⟩ := hrel
    by_cases hlt : k < n
    · obtain ⟨d, hd⟩ := get_some a k (by rw [Hna.out]; exact hlt)
      obtain ⟨b0, off, rfl, _, hb2, hc⟩ := Hu.out.at2 hM.below hd
      obtain ⟨dk, dt, df, da, dn⟩ := d
      have c0 : wr.cell? ⟨b0, off + k * 5, none⟩ = some (.int .i64 dk) := hc 0 _ rfl
      have c1 : wr.cell? ⟨b0, off + k * 5 + 1, none⟩ = some (.int .i64 dt) := hc 1 _ rfl
      have c2' : wr.cell? ⟨b0, off + k * 5 + 2, none⟩ = some (.int .i64 df) := hc 2 _ rfl
      have c3 : wr.cell? ⟨b0, off + k * 5 + 3, none⟩ = some (.int .i64 da) := hc 3 _ rfl
      have c4 : wr.cell? ⟨b0, off + k * 5 + 4, none⟩ = some (.int .i64 dn) := hc 4 _ rfl
      have HS := Lib.hid (take_succ_some _ _ _ hd)
      have e2 : (k : Int) < (n : Int) := by omega
      have hlY : (a.take k).length = k := by rw [List.length_take, Hna.out]; omega
      obtain ⟨Y, hY⟩ : ∃ Y, a.take k = Y := ⟨_, rfl⟩
      rw [hY] at hM HS hlY
      have hl4 : Y.length ≤ 4000000 := by omega
      have hMa := hM.alloc_ (.cells #[.int .i64 dk, .int .i64 dt, .int .i64 df, .int .i64 da, .int .i64 dn] 58)
      have HMa := Lib.hid hMa
      have HlY := Lib.hid hlY
      clear hd hc hM hMa hY hlY
      go_wp2_with (first
        | (refine Mem.wp_appT4 elemDos rfl (.tmp 16) (.tmp 18) rfl HMa.out 0 rfl rfl _ ⟨dk, dt, df, da, dn⟩ #[.int .i64 dk, .int .i64 dt, .int .i64 df, .int .i64 da, .int .i64 dn] rfl _ _ rfl (by simp) rfl rfl (by decide) hl4 ?_
           intro ad2 cp w8 hM8 hs8)
        | fail)
      go_roundw
      case rel =>
        rw [HlY.out] at hM8 ⊢
        exact ⟨k + 1, ad2, cp, by omega, by go_num, rfl, by rw [HS.out]; exact hM8⟩
      case measure => simp [intOf]; omega
    · obtain rfl : k = n := by omega
      rw [List.take_of_length_le (by rw [Hna.out]; exact Nat.le_refl _)] at hM
      have HM := Lib.hid hM
      clear hM
      go_upto_region 8 with (fail)
      go_loopw [5, 9, 23] (fun s5 _ s23 wq => ∃ (j : Nat) (ad : Option Addr) (c2 : Nat), j ≤ m ∧ s23 = .int .i64 (j : Int) ∧ s5 = .slice ad (k + j) c2 ∧ Mem w.heap.size w wq [rowT 58 5 cellsD s5 (a ++ b.take j)]) (fun _ _ i _ => m - (intOf i).toNat)
      case atStart => exact ⟨0, ad, c2, Nat.zero_le _, rfl, rfl, by rw [List.take_zero, List.append_nil]; exact HM.out⟩
      case round =>
        clear HM
        obtain ⟨j, ad, c2, hj, rfl, rfl, hM⟩ := hrel
        by_cases hltj : j < m
        · obtain ⟨d, hd⟩ := get_some b j (by rw [Hnb.out]; exact hltj)
          obtain ⟨b0, off, rfl, _, hb2, hc⟩ := Hv.out.at2 hM.below hd
          obtain ⟨dk, dt, df, da, dn⟩ := d
          have c0 : wr.cell? ⟨b0, off + j * 5, none⟩ = some (.int .i64 dk) := hc 0 _ rfl
          have c1 : wr.cell? ⟨b0, off + j * 5 + 1, none⟩ = some (.int .i64 dt) := hc 1 _ rfl
          have c2' : wr.cell? ⟨b0, off + j * 5 + 2, none⟩ = some (.int .i64 df) := hc 2 _ rfl
          have c3 : wr.cell? ⟨b0, off + j * 5 + 3, none⟩ = some (.int .i64 da) := hc 3 _ rfl
          have c4 : wr.cell? ⟨b0, off + j * 5 + 4, none⟩ = some (.int .i64 dn) := hc 4 _ rfl
          have HS : Hid (a ++ b.take (j + 1) = a ++ b.take j ++ [⟨dk, dt, df, da, dn⟩]) := Lib.hid (by rw [take_succ_some _ _ _ hd, List.append_assoc])
          have e2 : (j : Int) < (m : Int) := by omega
          have hlY : (a ++ b.take j).length = k + j := by rw [List.length_append, List.length_take, Hna.out, Hnb.out]; omega
          obtain ⟨Y, hY⟩ : ∃ Y, a ++ b.take j = Y := ⟨_, rfl⟩
          rw [hY] at hM HS hlY
          have hl4 : Y.length ≤ 4000000 := by omega
          have hMa := hM.alloc_ (.cells #[.int .i64 dk, .int .i64 dt, .int .i64 df, .int .i64 da, .int .i64 dn] 58)
          have HMa := Lib.hid hMa
          have HlY := Lib.hid hlY
          clear hd hc hM hMa hY hlY
          go_wp2_with (first
            | (refine Mem.wp_appT4 elemDos rfl (.tmp 27) (.tmp 29) rfl HMa.out 0 rfl rfl _ ⟨dk, dt, df, da, dn⟩ #[.int .i64 dk, .int .i64 dt, .int .i64 df, .int .i64 da, .int .i64 dn] rfl _ _ rfl (by simp) rfl rfl (by decide) hl4 ?_
               intro ad2 cp w8 hM8 hs8)
            | fail)
          go_roundw
          case rel =>
            rw [HlY.out] at hM8 ⊢
            exact ⟨j + 1, ad2, cp, by omega, by go_num, rfl, by rw [HS.out]; exact hM8⟩
          case measure => simp [intOf]; omega
        · obtain rfl : j = m := by omega
          rw [List.take_of_length_le (by rw [Hnb.out]; exact Nat.le_refl _)] at hM
          go_wp2
          go_ret
          exact ⟨_, rfl, hM⟩
end Go.Proofs.Ytmmcjjklmcfegaa
