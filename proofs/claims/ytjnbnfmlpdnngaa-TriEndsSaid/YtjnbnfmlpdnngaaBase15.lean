/- Texts S4 Oi Beh Cr Cv Cx Cy in one. -/
import Derived.Test.YtjnbnfmlpdnngaaBase1
import Derived.Test.YtjnbnfmlpdnngaaM8
import Derived.Lib.SmallJoins
import Derived.ProofKit
import Derived.SizedLaws
import Derived.Test.YtjnbnfmlpdnngaaBase13
import Derived.Test.YtjnbnfmlpdnngaaTak
import Derived.Test.YtjnbnfmlpdnngaaC2
import Derived.Test.YtjnbnfmlpdnngaaPc
import Derived.Test.YtjnbnfmlpdnngaaBase12
/- Opening scripts of what is done. -/
namespace Go.Proofs.Ytjnbnfmlpdnngaa
open Go.RowKit Go.ChangeShapes Go.WideShapes Go.Joins
set_option maxRecDepth 100000 in
open Go.Deep in
theorem open_dos {H : Type} {enc : TypeId × Value → H} {W : World} {base : Nat} {v : Value} {d : DataW H} {p : List MemPlace}
    (hv : Value.okWide Try.prog W .any base 26 v) (h : DataW.Trod enc Try.prog W 0 (fun _ => true) true 26 v d p) : ∃ l : List Dd, IsTup 5 cellsD W v l ∧ ∀ d ∈ l, DdOk d := by
  obtain ⟨a, len, cap, rfl⟩ := okWide_slice Try.underlying26 hv
  obtain ⟨n, hn⟩ := h
  obtain ⟨u, l, e, hy, hl, hx⟩ := open_intTup Try.underlying26 Try.underlying37 (by kernel_rfl) (by kernel_rfl) (by decide) (by
    intro j f hj
    match j, hj with
    | 0, hj => cases hj; exact Try.underlying3
    | 1, hj => cases hj; exact Try.underlying3
    | 2, hj => cases hj; exact Try.underlying3
    | 3, hj => cases hj; exact Try.underlying3
    | 4, hj => cases hj; exact Try.underlying2
    | n + 5, hj => simp at hj) hn
  obtain rfl := (List.cons.inj e).1
  refine ⟨l.map fun y => ⟨y.getD 0 0, y.getD 1 0, y.getD 2 0, y.getD 3 0, y.getD 4 0⟩, hl.map _ ?_, ?_⟩
  · intro y hyl
    obtain ⟨h3, _⟩ := hy y hyl
    match y, h3 with
    | [a, b, c, d, e], _ => rfl
  · intro d hd
    obtain ⟨y, hyl, rfl⟩ := List.mem_map.1 hd
    obtain ⟨h3, h4⟩ := hy y hyl
    match y, h3, h4 with
    | [a, b, c, d, e], _, h4 => exact ⟨h4 a (by simp), h4 b (by simp), h4 c (by simp), h4 d (by simp), h4 e (by simp)⟩
end Go.Proofs.Ytjnbnfmlpdnngaa

/- Opening ints and bytes. -/
namespace Go.Proofs.Ytjnbnfmlpdnngaa
open Go.RowKit Go.ChangeShapes Go.WideShapes Go.Joins

set_option maxRecDepth 100000 in
theorem open_i64' {H : Type} {enc : TypeId × Value → H} {W : World} {base : Nat} {v : Value} {d : DataW H} {p : List MemPlace}
    (hv : Value.okWide Try.prog W .any base 3 v) (h : DataW.Trod enc Try.prog W 0 (fun _ => true) true 3 v d p) : ∃ x : Int, v = .int .i64 x ∧ i64ok x := by
  obtain ⟨x, rfl, rfl, rfl, wx⟩ := open_int Try.underlying3 hv h
  have hb := bounds_i64 wx
  exact ⟨_, rfl, by omega, by omega⟩
set_option maxRecDepth 100000 in
theorem open_byte' {H : Type} {enc : TypeId × Value → H} {W : World} {base : Nat} {v : Value} {d : DataW H} {p : List MemPlace}
    (hv : Value.okWide Try.prog W .any base 5 v) (h : DataW.Trod enc Try.prog W 0 (fun _ => true) true 5 v d p) : ∃ k : Nat, v = .int .u8 (k : Int) ∧ k < 256 := by
  obtain ⟨x, rfl, rfl, rfl, wx⟩ := open_int Try.underlying5 hv h
  have hb := bounds_u8 wx
  exact ⟨x.toNat, by rw [Int.toNat_of_nonneg (by omega)], by omega⟩
end Go.Proofs.Ytjnbnfmlpdnngaa

/- behind: one script behind the other, walked. -/
namespace Go.Proofs.Ytjnbnfmlpdnngaa
open Go.RowKit Go.Shelf

theorem isTup_own4 {α : Type} {sz : Nat} {enc : α → List Value} {w : World} {v : Value} {l : List α} {B : Nat} {e : TypeId} (hz : ∀ x, (enc x).length = sz) (h : w.ownsRow B e sz v l.length (l.flatMap enc)) (hl : l.length ≤ 4000000) : IsTup sz enc w v l := by
  rcases h.2 with ⟨rfl, h0⟩ | ⟨g, cap, cur, rfl, _, hg, _⟩
  · have : l = [] := List.eq_nil_of_length_eq_zero h0
    subst this
    exact ⟨none, 0, rfl, by simp, by simp⟩
  · refine ⟨_, cap, rfl, by omega, fun k x hx => ?_⟩
    have hk : k < l.length := (List.getElem?_eq_some_iff.1 hx).1
    refine ⟨g, 0, rfl, (Array.getElem?_eq_some_iff.1 hg).1, fun j u hu => ?_⟩
    have hj : j < sz := by rw [← hz x]; exact (List.getElem?_eq_some_iff.1 hu).1
    have hlt : k * sz + j < l.length * sz := by
      have := Nat.mul_le_mul_right sz (show k + 1 ≤ l.length by omega)
      rw [Nat.add_mul] at this; omega
    rw [Nat.zero_add, h.cellAt _ hlt]
    exact getElem_tup hz l k x hx j u hu
/-- append(l, y), of up to four million. -/
theorem Mem.wp_appT4 {P : Program} {B : Nat} {w0 w : World} {L : List Ent} {t e : TypeId} {z : Value} {α : Type} {sz bytes : Nat} {enc : α → List Value} (T : Elem P t e sz bytes z) {ops : Array Oper} {rest : List Oper} {o : Oper} {ac : Act} {Q : Exit → Act → World → Prop} (hgd : o.guard = none) (s x : Operand)
    (ho : o.op = .call { callee := .builtin .append, args := #[s, x], argTypes := #[t, t] }) (h : Mem B w0 w L) (k : Nat) {v : Value} {l : List α} (hk : L[k]? = some (rowT e sz enc v l))
    (hs : ac.eval s = v) (c : Nat) (y : α) (news : Array Value) (hy : enc y = news.toList) (e2 : TypeId) (bl : Nat) (hx : ac.eval x = .slice (some ⟨bl, 0, none⟩) 1 c) (hbl : w.heap.size = bl) (hsz : news.size = sz)
    (h1 : news.toList.all (·.oneCell') = true) (hb : bytes ≤ 1000) (hn : l.length ≤ 4000000)
    (hh : ∀ ad cap w', Mem B w0 w' (L.set k (rowT e sz enc (.slice ad (l.length + 1) cap) (l ++ [y]))) → w.heap.size < w'.heap.size → wpList P ops Q rest (ac.put o.dst (.slice ad (l.length + 1) cap)) w') :
    wpList P ops Q (o :: rest) ac (w.alloc (.cells news e2)) := by
  subst hbl
  refine Mem.wp_append T hgd s x ho (h.alloc_ _) k hk hs ⟨w.heap.size, 0, none⟩ 1 c news.toList hx (by simpa using hsz) ?_ ?_ ?_ ?_ ?_
  · intro j u hj
    have e : (⟨w.heap.size, 0, none⟩ : Addr).add j = ⟨w.heap.size, j, none⟩ := by unfold Addr.add; split <;> simp_all
    rw [e, World.cell?_alloc_new]
    simpa using hj
  · intro u hu
    exact List.all_eq_true.1 h1 u hu
  · simp only [maxLen]; omega
  · have := Nat.mul_le_mul (show l.length + 1 ≤ 4000001 by omega) hb
    omega
  · intro ad cap w' h2 h3 h4 h5
    refine hh ad cap w' (h2.cast ?_) (by simp at h3; omega)
    simp [rowT, hy]
set_option maxRecDepth 100000 in
set_option maxHeartbeats 4000000 in
theorem behind_any (u v : Value) (a b : List Dd) (w : World) (hu : IsTup 5 cellsD w u a) (hv : IsTup 5 cellsD w v b) (hn : a.length + b.length ≤ 4000000) :
    Calls Try.prog 23 #[u, v] w fun e w' => ∃ x, e = .returned x ∧ Mem w.heap.size w w' [rowT 37 5 cellsD x (a ++ b)] := by
  have Hu := Lib.hid hu
  have Hv := Lib.hid hv
  obtain ⟨au, cu, rfl, _⟩ := hu.slice
  obtain ⟨av, cv, rfl, _⟩ := hv.slice
  obtain ⟨n, hna⟩ : ∃ n, a.length = n := ⟨_, rfl⟩
  obtain ⟨m, hnb⟩ : ∃ m, b.length = m := ⟨_, rfl⟩
  rw [hna] at Hu hn ⊢
  rw [hnb] at Hv hn ⊢
  have Hna := Lib.hid hna
  have Hnb := Lib.hid hnb
  have HM := Lib.hid ((Mem.start w).nilT 37 5 cellsD)
  clear hu hv hna hnb
  go_enter Try.func23, Try.ntmps23
  go_upto_region 3 with (fail)
  go_loopw [5, 7, 12] (fun s5 _ s12 wq => ∃ (k : Nat) (ad : Option Addr) (c2 : Nat), k ≤ n ∧ s12 = .int .i64 (k : Int) ∧ s5 = .slice ad k c2 ∧ Mem w.heap.size w wq [rowT 37 5 cellsD s5 (a.take k)]) (fun _ _ i _ => n - (intOf i).toNat)
  case atStart => exact ⟨0, none, 0, Nat.zero_le _, rfl, rfl, HM.out⟩
  case round =>
    clear HM
    obtain ⟨k, ad, c2, hk, rfl, rfl, hM⟩ := hrel
    by_cases hlt : k < n
    · obtain ⟨d, hd⟩ := get_some a k (by rw [Hna.out]; exact hlt)
      obtain ⟨b0, off, rfl, _, hb2, hc⟩ := Hu.out.at2 hM.below hd
      obtain ⟨dk, dt, df, da, dn⟩ := d
      have c0 : wr.cell? ⟨b0, off + k * 5, none⟩ = some (.int .i64 dk) := hc 0 _ rfl
      have c1 : wr.cell? ⟨b0, off + k * 5 + 1, none⟩ = some (.int .i64 dt) := hc 1 _ rfl
      have c2' : wr.cell? ⟨b0, off + k * 5 + 2, none⟩ = some (.int .i64 df) := hc 2 _ rfl
      have c3 : wr.cell? ⟨b0, off + k * 5 + 3, none⟩ = some (.int .i64 da) := hc 3 _ rfl
      have c4 : wr.cell? ⟨b0, off + k * 5 + 4, none⟩ = some (.int .i64 dn) := hc 4 _ rfl
      have HS := Lib.hid (take_succ_some _ _ _ hd)
      have e2 : (k : Int) < (n : Int) := by omega
      have hlY : (a.take k).length = k := by rw [List.length_take, Hna.out]; omega
      obtain ⟨Y, hY⟩ : ∃ Y, a.take k = Y := ⟨_, rfl⟩
      rw [hY] at hM HS hlY
      have hl4 : Y.length ≤ 4000000 := by omega
      have hMa := hM.alloc_ (.cells #[.int .i64 dk, .int .i64 dt, .int .i64 df, .int .i64 da, .int .i64 dn] 37)
      have HMa := Lib.hid hMa
      have HlY := Lib.hid hlY
      clear hd hc hM hMa hY hlY
      go_wp2_with (first
        | (refine Mem.wp_appT4 elemDos rfl (.tmp 16) (.tmp 18) rfl HMa.out 0 rfl rfl _ ⟨dk, dt, df, da, dn⟩ #[.int .i64 dk, .int .i64 dt, .int .i64 df, .int .i64 da, .int .i64 dn] rfl _ _ rfl (by simp) rfl rfl (by decide) hl4 ?_
           intro ad2 cp w8 hM8 hs8)
        | fail)
      go_roundw
      case rel =>
        rw [HlY.out] at hM8 ⊢
        exact ⟨k + 1, ad2, cp, by omega, by go_num, rfl, by rw [HS.out]; exact hM8⟩
      case measure => simp [intOf]; omega
    · obtain rfl : k = n := by omega
      rw [List.take_of_length_le (by rw [Hna.out]; exact Nat.le_refl _)] at hM
      have HM := Lib.hid hM
      clear hM
      go_upto_region 8 with (fail)
      go_loopw [5, 9, 23] (fun s5 _ s23 wq => ∃ (j : Nat) (ad : Option Addr) (c2 : Nat), j ≤ m ∧ s23 = .int .i64 (j : Int) ∧ s5 = .slice ad (k + j) c2 ∧ Mem w.heap.size w wq [rowT 37 5 cellsD s5 (a ++ b.take j)]) (fun _ _ i _ => m - (intOf i).toNat)
      case atStart => exact ⟨0, ad, c2, Nat.zero_le _, rfl, rfl, by rw [List.take_zero, List.append_nil]; exact HM.out⟩
      case round =>
        clear HM
        obtain ⟨j, ad, c2, hj, rfl, rfl, hM⟩ := hrel
        by_cases hltj : j < m
        · obtain ⟨d, hd⟩ := get_some b j (by rw [Hnb.out]; exact hltj)
          obtain ⟨b0, off, rfl, _, hb2, hc⟩ := Hv.out.at2 hM.below hd
          obtain ⟨dk, dt, df, da, dn⟩ := d
          have c0 : wr.cell? ⟨b0, off + j * 5, none⟩ = some (.int .i64 dk) := hc 0 _ rfl
          have c1 : wr.cell? ⟨b0, off + j * 5 + 1, none⟩ = some (.int .i64 dt) := hc 1 _ rfl
          have c2' : wr.cell? ⟨b0, off + j * 5 + 2, none⟩ = some (.int .i64 df) := hc 2 _ rfl
          have c3 : wr.cell? ⟨b0, off + j * 5 + 3, none⟩ = some (.int .i64 da) := hc 3 _ rfl
          have c4 : wr.cell? ⟨b0, off + j * 5 + 4, none⟩ = some (.int .i64 dn) := hc 4 _ rfl
          have HS : Hid (a ++ b.take (j + 1) = a ++ b.take j ++ [⟨dk, dt, df, da, dn⟩]) := Lib.hid (by rw [take_succ_some _ _ _ hd, List.append_assoc])
          have e2 : (j : Int) < (m : Int) := by omega
          have hlY : (a ++ b.take j).length = k + j := by rw [List.length_append, List.length_take, Hna.out, Hnb.out]; omega
          obtain ⟨Y, hY⟩ : ∃ Y, a ++ b.take j = Y := ⟨_, rfl⟩
          rw [hY] at hM HS hlY
          have hl4 : Y.length ≤ 4000000 := by omega
          have hMa := hM.alloc_ (.cells #[.int .i64 dk, .int .i64 dt, .int .i64 df, .int .i64 da, .int .i64 dn] 37)
          have HMa := Lib.hid hMa
          have HlY := Lib.hid hlY
          clear hd hc hM hMa hY hlY
          go_wp2_with (first
            | (refine Mem.wp_appT4 elemDos rfl (.tmp 27) (.tmp 29) rfl HMa.out 0 rfl rfl _ ⟨dk, dt, df, da, dn⟩ #[.int .i64 dk, .int .i64 dt, .int .i64 df, .int .i64 da, .int .i64 dn] rfl _ _ rfl (by simp) rfl rfl (by decide) hl4 ?_
               intro ad2 cp w8 hM8 hs8)
            | fail)
          go_roundw
          case rel =>
            rw [HlY.out] at hM8 ⊢
            exact ⟨j + 1, ad2, cp, by omega, by go_num, rfl, by rw [HS.out]; exact hM8⟩
          case measure => simp [intOf]; omega
        · obtain rfl : j = m := by omega
          rw [List.take_of_length_le (by rw [Hnb.out]; exact Nat.le_refl _)] at hM
          go_wp2
          go_ret
          exact ⟨_, rfl, hM⟩
end Go.Proofs.Ytjnbnfmlpdnngaa

/- Colours: works end a round. Plain. -/
namespace Go.Proofs.Ytjnbnfmlpdnngaa

/-- How many that are there are not black. -/
def todo (s : Sm Tx) : Nat := ((thereL s.os s.os.length).filter fun i => !(cAt s.x.col i == 2)).length
def Wk : Nat → Sm Tx → Sm Tx
  | 0, s => s
  | k + 1, s => (workS (Wk k s)).1
theorem todo_le (s : Sm Tx) : todo s ≤ (thereL s.os s.os.length).length := List.length_filter_le _ _
theorem work_none {s : Sm Tx} (h : hueL s.os s.x.col 1 s.os.length = []) : (workS s).1 = s := by
  unfold workS
  rw [h]; rfl
theorem filter_filter_imp {l : List Int} {p q : Int → Bool} (h : ∀ x ∈ l, q x = true → p x = true) : l.filter q = (l.filter p).filter q := by
  rw [List.filter_filter]
  apply List.filter_congr
  intro x hx
  cases hq : q x with
  | false => rfl
  | true => rw [h x hx hq]; rfl
theorem work_less {b : Int} {s : Sm Tx} (hI : InvT b s) (h : hueL s.os s.x.col 1 s.os.length ≠ []) : todo (workS s).1 < todo s := by
  obtain ⟨i, hi⟩ : ∃ i, (hueL s.os s.x.col 1 s.os.length).head? = some i := by
    cases hh : hueL s.os s.x.col 1 s.os.length with
    | nil => exact absurd hh h
    | cons a l => exact ⟨a, rfl⟩
  obtain ⟨hli, hgi⟩ := mem_hueL.1 (List.mem_of_mem_head? (by rw [hi]; exact rfl) : i ∈ hueL s.os s.x.col 1 s.os.length)
  have hil : i < (s.x.col.length : Int) := by have := hli.lt; have := hli.1; rw [hI.cl]; omega
  have hin : ∀ v ∈ objAt s.os i, InR s.x.col.length v := fun v hv => hI.inr _ _ hli.obj v hv
  have hw : (workS s).1 = ⟨s.regs, s.os, ⟨(shades s.x.col (objAt s.os i)).set i.toNat 2, s.x.gone⟩⟩ := by unfold workS; rw [hi]
  rw [hw]
  unfold todo
  show ((thereL s.os s.os.length).filter fun j => !(cAt ((shades s.x.col (objAt s.os i)).set i.toNat 2) j == 2)).length < _
  rw [filter_filter_imp (p := fun j => !(cAt s.x.col j == 2))]
  · rw [List.length_filter_lt_length_iff_exists]
    refine ⟨i, List.mem_filter.2 ⟨(mem_thereL (Nat.le_refl _)).2 ⟨hli, by have := hli.lt; have := hli.1; omega⟩, by rw [hgi]; rfl⟩, ?_⟩
    rw [cAt_set _ hli.1 (by rw [shades_len]; exact hil) hli.1, if_pos rfl]
    decide
  · intro x hx hq
    obtain ⟨hlx, _⟩ := (mem_thereL (Nat.le_refl _)).1 hx
    rw [cAt_set _ hli.1 (by rw [shades_len]; exact hil) hlx.1] at hq
    split at hq
    · cases hq
    · by_cases h2 : cAt s.x.col x = 2
      · rw [shades_keep hin hlx.1 (by rw [h2]; decide)] at hq; exact hq
      · simpa using h2
theorem Wk_inv {b : Int} {s : Sm Tx} (hI : InvT b s) : ∀ k, InvT b (Wk k s)
  | 0 => hI
  | k + 1 => (Wk_inv hI k).work
theorem Wk_os (s : Sm Tx) : ∀ k, (Wk k s).regs = s.regs ∧ (Wk k s).os = s.os ∧ (Wk k s).x.gone = s.x.gone
  | 0 => ⟨rfl, rfl, rfl⟩
  | k + 1 => by
    obtain ⟨h1, h2, h3⟩ := work_os (Wk k s)
    obtain ⟨g1, g2, g3⟩ := Wk_os s k
    exact ⟨h1.trans g1, h2.trans g2, h3.trans g3⟩
theorem Wk_end {b : Int} {s : Sm Tx} (hI : InvT b s) : ∀ k, hueL (Wk k s).os (Wk k s).x.col 1 (Wk k s).os.length = [] ∨ todo (Wk k s) + k ≤ todo s
  | 0 => .inr (Nat.le_refl _)
  | k + 1 => by
    by_cases h : hueL (Wk k s).os (Wk k s).x.col 1 (Wk k s).os.length = []
    · left
      show hueL (workS (Wk k s)).1.os (workS (Wk k s)).1.x.col 1 _ = []
      rw [show (Wk (k + 1) s) = (workS (Wk k s)).1 from rfl, work_none h]; exact h
    · have h1 := work_less (Wk_inv hI k) h
      rcases Wk_end hI k with h2 | h2
      · exact absurd h2 h
      · right
        show todo (workS (Wk k s)).1 + (k + 1) ≤ todo s
        omega
/-- With as many works as there are objects no grey one is left. -/
theorem Wk_done {b : Int} {s : Sm Tx} (hI : InvT b s) {n : Nat} (hn : (thereL s.os s.os.length).length ≤ n) : hueL (Wk n s).os (Wk n s).x.col 1 (Wk n s).os.length = [] := by
  rcases Wk_end hI n with h | h
  · exact h
  · have h1 := todo_le s
    have h0 : todo (Wk n s) = 0 := by omega
    unfold todo at h0
    have h2 := List.eq_nil_of_length_eq_zero h0
    unfold hueL
    rw [List.filter_eq_nil_iff] at h2 ⊢
    intro x hx hc
    have h3 : cAt (Wk n s).x.col x = 1 := by simpa using hc
    exact h2 x hx (by rw [h3]; rfl)
/-- No register points at a white one. -/
def RegsOk (s : Sm Tx) : Prop := ∀ v ∈ s.regs, v.ref = true → cAt s.x.col v.n ≠ 0
theorem shades_same {c : List Int} {l : List V} (h : ∀ v ∈ l, v.ref = true → cAt c v.n ≠ 0) : shades c l = c := by
  unfold shades
  induction l with
  | nil => rfl
  | cons v l ih =>
    have hv : shade c v = c := by
      unfold shade
      rw [if_neg]
      rintro ⟨h1, h2⟩
      exact h v (List.mem_cons_self ..) h1 h2
    rw [List.foldl_cons, hv]
    exact ih fun u hu => h u (List.mem_cons_of_mem _ hu)
theorem RegsOk.work {b : Int} {s : Sm Tx} (hI : InvT b s) (h : RegsOk s) : RegsOk (workS s).1 := by
  unfold workS
  split
  · exact h
  · rename_i i hi
    obtain ⟨hli, hgi⟩ := mem_hueL.1 (List.mem_of_mem_head? (by rw [hi]; exact rfl) : i ∈ hueL s.os s.x.col 1 s.os.length)
    have hil : i < (s.x.col.length : Int) := by have := hli.lt; have := hli.1; rw [hI.cl]; omega
    intro v hv hr
    have h1 := h v hv hr
    show cAt ((shades s.x.col (objAt s.os i)).set i.toNat 2) v.n ≠ 0
    have hR := hI.regR v hv hr
    rw [cAt_set _ hli.1 (by rw [shades_len]; exact hil) hR.1]
    split
    · decide
    · rw [shades_keep (fun v hv => hI.inr _ _ hli.obj v hv) hR.1 h1]; exact h1
theorem RegsOk.Wk {b : Int} {s : Sm Tx} (hI : InvT b s) (h : RegsOk s) : ∀ k, RegsOk (Wk k s)
  | 0 => h
  | k + 1 => RegsOk.work (Wk_inv hI k) (RegsOk.Wk hI h k)
/-- Behind any sweep registers point at no white ones. -/
theorem RegsOk.sweep {b : Int} {s : Sm Tx} (hI : InvT b s) : RegsOk (sweepS s).1 := by
  unfold sweepS
  split
  · intro v hv hr
    exact shades_hit hI.regR hv hr
  · intro v hv hr
    show cAt (beginC s.x.col.length s.regs) v.n ≠ 0
    rw [beginC_at hI.regR (hI.regR v hv hr).1, if_pos (mem_targets_iff'.2 ⟨v, hv, hr, rfl⟩)]
    decide
/-- A sweep with no grey one, and registers as they should be, is done. -/
theorem sweep_ok {s : Sm Tx} (h : RegsOk s) (hg : hueL s.os s.x.col 1 s.os.length = []) : (sweepS s).2 = 0 := by
  unfold sweepS
  rw [shades_same h, if_neg (fun hn => hn hg)]
/-- What is not white can be come to. -/
def Lit (s : Sm Tx) : Prop := ∀ j, 0 ≤ j → cAt s.x.col j ≠ 0 → RchM s.regs s.os j
theorem Lit.work {b : Int} {s : Sm Tx} (hI : InvT b s) (h : Lit s) : Lit (workS s).1 := by
  unfold workS
  split
  · exact h
  · rename_i i hi
    obtain ⟨hli, hgi⟩ := mem_hueL.1 (List.mem_of_mem_head? (by rw [hi]; exact rfl) : i ∈ hueL s.os s.x.col 1 s.os.length)
    have hil : i < (s.x.col.length : Int) := by have := hli.lt; have := hli.1; rw [hI.cl]; omega
    have hir := h i hli.1 (by rw [hgi]; decide)
    intro j hj hne
    change cAt ((shades s.x.col (objAt s.os i)).set i.toNat 2) j ≠ 0 at hne
    show RchM s.regs s.os j
    rw [cAt_set _ hli.1 (by rw [shades_len]; exact hil) hj] at hne
    by_cases e : j = i
    · subst e; exact hir
    · rw [if_neg e] at hne
      rcases shades_new (fun v hv => hI.inr _ _ hli.obj v hv) hj hne with h1 | ⟨v, hv, hr, rfl⟩
      · exact h j hj h1
      · exact .step hir hli.obj hv hr
theorem Lit.Wk {b : Int} {s : Sm Tx} (hI : InvT b s) (h : Lit s) : ∀ k, Lit (Wk k s)
  | 0 => h
  | k + 1 => Lit.work (Wk_inv hI k) (Lit.Wk hI h k)
theorem sweep_zero {s : Sm Tx} (h : (sweepS s).2 = 0) : hueL s.os (shades s.x.col s.regs) 1 s.os.length = [] ∧ (sweepS s).1 = ⟨s.regs, killL s.os (hueL s.os (shades s.x.col s.regs) 0 s.os.length), ⟨beginC s.x.col.length s.regs, s.x.gone ++ hueL s.os (shades s.x.col s.regs) 0 s.os.length⟩⟩ := by
  unfold sweepS at h ⊢
  split at h
  · cases h
  · rename_i hg
    rw [if_neg hg]
    exact ⟨Classical.byContradiction hg, rfl⟩
theorem Lit.sweep {b : Int} {s : Sm Tx} (hI : InvT b s) (h : (sweepS s).2 = 0) : Lit (sweepS s).1 := by
  rw [(sweep_zero h).2]
  intro j hj hne
  change cAt (beginC s.x.col.length s.regs) j ≠ 0 at hne
  rw [beginC_at hI.regR hj] at hne
  by_cases e : j ∈ targets s.regs
  · obtain ⟨v, hv, hr, rfl⟩ := mem_targets_iff'.1 e
    exact .root hv hr
  · rw [if_neg e] at hne; exact absurd rfl hne
/-- What is left behind a sweep where all that is not white can be come to. -/
theorem sweep_just {b : Int} {s : Sm Tx} (hI : InvT b s) (hr : RegsOk s) (hl : Lit s) (h : (sweepS s).2 = 0) : ∀ x, Lives (sweepS s).1.os x → RchM (sweepS s).1.regs (sweepS s).1.os x := by
  intro x hx
  have hk := sweep_kin hI
  have hz := sweep_zero h
  rw [shades_same hr] at hz
  refine (hk.rch (i := x)).2 ?_
  show RchM s.regs s.os x
  refine hl x hx.1 fun h0 => ?_
  rw [hz.2] at hx
  obtain ⟨hx0, l, hl2⟩ := hx
  change (killL s.os (hueL s.os s.x.col 0 s.os.length))[x.toNat]? = some (some l) at hl2
  rw [kill_get _ _ (fun y hy => (mem_hueL.1 hy).1.1)] at hl2
  split at hl2
  · cases hl2
  · rename_i hn
    refine hn ⟨?_, (List.getElem?_eq_some_iff.1 hl2).1⟩
    rw [Int.toNat_of_nonneg hx0]
    exact mem_hueL.2 ⟨⟨hx0, l, hl2⟩, h0⟩
theorem sweep_there {b : Int} {s : Sm Tx} (hI : InvT b s) : (thereL (sweepS s).1.os (sweepS s).1.os.length).length ≤ (thereL s.os s.os.length).length := by
  refine nodup_sub_le _ _ ((thereL_rising _ _).imp (fun h => by omega)) fun x hx => ?_
  obtain ⟨⟨h0, l, hl⟩, h2⟩ := (mem_thereL (Nat.le_refl _)).1 hx
  have hll := (sweep_os s).2.1
  have : s.os[x.toNat]? = some (some l) := by
    unfold sweepS at hl
    split at hl
    · exact hl
    · change (killL s.os _)[x.toNat]? = some (some l) at hl
      rw [kill_get _ _ (fun y hy => (mem_hueL.1 hy).1.1)] at hl
      split at hl
      · cases hl
      · exact hl
  have := hI.len
  exact (mem_thereL (Nat.le_refl _)).2 ⟨⟨h0, l, by assumption⟩, by omega⟩
/-- One round of works, and a sweep. -/
def Rd (n : Nat) (s : Sm Tx) : Sm Tx := (sweepS (Wk n s)).1
def Rc (n : Nat) (s : Sm Tx) : Int := (sweepS (Wk n s)).2
theorem Rd_inv {b : Int} {s : Sm Tx} (hI : InvT b s) (n : Nat) : InvT b (Rd n s) := (Wk_inv hI n).sweep
theorem Wk_there (s : Sm Tx) (n : Nat) : (thereL (Wk n s).os (Wk n s).os.length).length = (thereL s.os s.os.length).length := by rw [(Wk_os s n).2.1]
theorem Rd_there {b : Int} {s : Sm Tx} (hI : InvT b s) (n : Nat) : (thereL (Rd n s).os (Rd n s).os.length).length ≤ (thereL s.os s.os.length).length := by
  have := sweep_there (Wk_inv hI n)
  rw [Wk_there] at this
  exact this
/-- The second sweep at the latest is done, the third leaves just what can be come to. -/
theorem rounds_end {b : Int} {s : Sm Tx} (hI : InvT b s) {n : Nat} (hn : (thereL s.os s.os.length).length ≤ n) :
    Rc n (Rd n s) = 0 ∧ Rc n (Rd n (Rd n s)) = 0 ∧ ∀ x, Lives (Rd n (Rd n (Rd n s))).os x → RchM (Rd n (Rd n (Rd n s))).regs (Rd n (Rd n (Rd n s))).os x := by
  have h1 := Rd_inv hI n
  have h2 := Rd_inv h1 n
  have n1 := Rd_there hI n
  have n2 := Rd_there h1 n
  have r1 : RegsOk (Rd n s) := RegsOk.sweep (Wk_inv hI n)
  have r2 : RegsOk (Rd n (Rd n s)) := RegsOk.sweep (Wk_inv h1 n)
  have c2 : Rc n (Rd n s) = 0 := sweep_ok (RegsOk.Wk h1 r1 n) (Wk_done h1 (by omega))
  have c3 : Rc n (Rd n (Rd n s)) = 0 := sweep_ok (RegsOk.Wk h2 r2 n) (Wk_done h2 (by omega))
  have l2 : Lit (Rd n (Rd n s)) := Lit.sweep (Wk_inv h1 n) c2
  exact ⟨c2, c3, sweep_just (Wk_inv h2 n) (RegsOk.Wk h2 r2 n) (Lit.Wk h2 l2 n) c3⟩
def dW : Dd := ⟨8, 0, 0, 0, 0⟩
def dS : Dd := ⟨9, 0, 0, 0, 0⟩
theorem runs_works (b : Int) (s : Sm Tx) : ∀ n, (runs (tstep b) s (List.replicate n dW)).1 = Wk n s
  | 0 => rfl
  | n + 1 => by
    rw [List.replicate_succ', runs_snoc, runs_works b s n]
    show (tstep b (Wk n s) dW).1 = (workS (Wk n s)).1
    unfold tstep
    rw [if_pos (show dW.kind = 8 from rfl)]
theorem runs_round (b : Int) (s : Sm Tx) (n : Nat) : (runs (tstep b) s (List.replicate n dW ++ [dS])).1 = Rd n s ∧ (runs (tstep b) s (List.replicate n dW ++ [dS])).2.length = n + 1 ∧ (runs (tstep b) s (List.replicate n dW ++ [dS])).2[n]? = some ⟨Rc n s, false, 0⟩ := by
  have e : tstep b (Wk n s) dS = ((sweepS (Wk n s)).1, ⟨(sweepS (Wk n s)).2, false, 0⟩) := by
    unfold tstep
    rw [if_neg (show ¬ dS.kind = 8 by decide), if_pos (show dS.kind = 9 from rfl)]
  have hl : (runs (tstep b) s (List.replicate n dW)).2.length = n := by rw [runs_len, List.length_replicate]
  rw [runs_snoc, runs_works b s n, e]
  refine ⟨rfl, ?_, ?_⟩
  · show (_ ++ [_]).length = n + 1
    rw [List.length_append, hl]; rfl
  · show (_ ++ [_])[n]? = _
    rw [List.getElem?_append_right (by omega), hl, Nat.sub_self]; rfl
end Go.Proofs.Ytjnbnfmlpdnngaa

/- ragpickerkeep.works, walked; the script of TriEnds. -/
namespace Go.Proofs.Ytjnbnfmlpdnngaa
open Go.RowKit Go.Shelf

set_option maxRecDepth 100000 in
set_option maxHeartbeats 2000000 in
theorem works_any (n : Nat) (hn : n ≤ 1000) (w : World) : Calls Try.prog 22 #[.int .i64 (n : Int)] w fun e w' => ∃ v, e = .returned v ∧ Mem w.heap.size w w' [rowT 37 5 cellsD v (List.replicate n dW)] := by
  have hM0 := (Mem.start w).nilT 37 5 cellsD
  have HM0 := Lib.hid hM0
  clear hM0
  go_enter Try.func22, Try.ntmps22
  go_upto_region 3 with (fail)
  go_loopw [3, 4] (fun s3 s4 wr => ∃ (k : Nat) (vD : Value), k ≤ n ∧ vD = s3 ∧ s4 = .int .i64 (k : Int) ∧ Mem w.heap.size w wr [rowT 37 5 cellsD vD (List.replicate k dW)]) (fun _ i _ => n - (intOf i).toNat)
  case atStart => exact ⟨0, _, Nat.zero_le _, rfl, rfl, HM0.out⟩
  case round =>
    clear HM0
    obtain ⟨k, vD, hk, rfl, rfl, hM⟩ := hrel
    by_cases hlt : k < n
    · have e1 : (k : Int) < (n : Int) := by omega
      obtain ⟨aD, nD, cD, rfl⟩ := own_slice (hM.row 0 rfl)
      have hk1000 : (List.replicate k dW).length ≤ 1000000 := by rw [List.length_replicate]; omega
      have HM := Lib.hid hM
      clear hM
      go_wp2_with (at_builtin; refine Mem.wp_appT elemDos rfl (.tmp 10) (.tmp 12) rfl HM.out 0 rfl rfl _ dW #[.int .i64 8, .int .i64 0, .int .i64 0, .int .i64 0, .int .i64 0] rfl _ _ rfl (by simp) rfl rfl (by decide) hk1000 ?_; intro ad n1 cp w6 hn1 hM6 hs6 hk6 ha6)
      go_roundw
      case rel => exact ⟨k + 1, _, by omega, rfl, by go_num, by rw [List.replicate_succ']; exact hM6⟩
      case measure => simp [intOf]; omega
    · obtain rfl : k = n := by omega
      have e1 : ¬ (k : Int) < (k : Int) := by omega
      have HM := Lib.hid hM
      clear hM
      go_wp2
      go_ret
      exact ⟨_, rfl, HM.out⟩
/-- The script behind itself three rounds more. -/
def endsL (ds : List Dd) (n : Nat) : List Dd := ds ++ ((List.replicate n dW ++ [dS]) ++ ((List.replicate n dW ++ [dS]) ++ (List.replicate n dW ++ [dS])))
theorem endsL_len (ds : List Dd) (n : Nat) : (endsL ds n).length = ds.length + 3 * n + 3 := by unfold endsL; simp; omega
theorem ends_runs (b : Int) (s0 : Sm Tx) (ds : List Dd) (n : Nat) : (runs (tstep b) s0 (endsL ds n)).1 = Rd n (Rd n (Rd n (runs (tstep b) s0 ds).1)) ∧
    (runs (tstep b) s0 (endsL ds n)).2[ds.length + 2 * n + 1]? = some ⟨Rc n (Rd n (runs (tstep b) s0 ds).1), false, 0⟩ ∧
    (runs (tstep b) s0 (endsL ds n)).2[ds.length + 3 * n + 2]? = some ⟨Rc n (Rd n (Rd n (runs (tstep b) s0 ds).1)), false, 0⟩ := by
  unfold endsL
  obtain ⟨s, hs⟩ : ∃ s, (runs (tstep b) s0 ds).1 = s := ⟨_, rfl⟩
  have hl := runs_len (tstep b) s0 ds
  obtain ⟨a1, a2, a3⟩ := runs_round b s n
  obtain ⟨b1, b2, b3⟩ := runs_round b (Rd n s) n
  obtain ⟨c1, c2, c3⟩ := runs_round b (Rd n (Rd n s)) n
  rw [runs_append, hs, runs_append, a1, runs_append, b1]
  refine ⟨c1, ?_, ?_⟩
  · show (_ ++ (_ ++ (_ ++ _)))[_]? = _
    rw [List.getElem?_append_right (by omega), hl, List.getElem?_append_right (by omega), a2, List.getElem?_append_left (by rw [b2]; omega), show ds.length + 2 * n + 1 - ds.length - (n + 1) = n by omega]
    exact b3
  · show (_ ++ (_ ++ (_ ++ _)))[_]? = _
    rw [List.getElem?_append_right (by omega), hl, List.getElem?_append_right (by omega), a2, List.getElem?_append_right (by rw [b2]; omega), b2, show ds.length + 3 * n + 2 - ds.length - (n + 1) - (n + 1) = n by omega]
    exact c3
end Go.Proofs.Ytjnbnfmlpdnngaa

/- TriEnds, walked. -/
namespace Go.Proofs.Ytjnbnfmlpdnngaa
open Go.RowKit Go.Shelf

theorem ints2_new' {B : Nat} {w0 w : World} {L : List Ent} (h : Mem B w0 w L) {x y : Int} (hx : i64ok x) (hy : i64ok y) (t : TypeId) : IsInts (w.alloc (.cells #[.int .i64 x, .int .i64 y] t)) (.slice (some ⟨w.heap.size, 0, none⟩) 2 2) [x, y] := by
  have hM := h.alloc #[.int .i64 x, .int .i64 y] t
  refine ⟨some ⟨w.heap.size, 0, none⟩, 2, rfl, by simp, fun k z hk => ?_⟩
  match k with
  | 0 => cases hk; exact ⟨_, 0, rfl, by simp, hM.cell 0 rfl 0, hx⟩
  | 1 => cases hk; exact ⟨_, 0, rfl, by simp, hM.cell 0 rfl 1, hy⟩
  | k + 2 => simp at hk
/-- Play, in any world of this call: all three lists. -/
def TPlay5 (g : G) (b : Int) (ds : List Dd) (v u : Value) (w : World) (n nT nK : Nat) : Prop :=
  ∀ (X : World) (L : List Ent) (R : Ending → World → Prop), Mem w.heap.size w X L →
    (∀ aD cD aH cH aK cK w', Mem w.heap.size w w' (rowT 39 3 cellsO (.slice aD n cD) (runs (tstep b) (startT g) ds).2 :: rowT 98 2 cellsC (.slice aH nT cH) (hues (runs (tstep b) (startT g) ds).1 (runs (tstep b) (startT g) ds).1.os.length) :: rowI 3 (.slice aK nK cK) (runs (tstep b) (startT g) ds).1.x.gone :: L) →
      R (.returned (.tuple #[.agg #[.slice aD n cD, .slice aH nT cH, .slice aK nK cK], .int .i64 0])) w') →
    Calls Try.prog 11 #[v, .int .i64 b, u] X R
theorem tPlay5 (g : G) (hG : Good g) (v u : Value) (b : Int) (hb : b = 1 ∨ b = 2 ∨ b = 3) (ds : List Dd) (w : World) (hg : IsGraph w v g) (hu : IsTup 5 cellsD w u ds) (hd : ∀ d ∈ ds, DdOk d) (hn : ds.length ≤ 100) (n nT nK : Nat) (hnn : ds.length = n) (hnT : (hues (runs (tstep b) (startT g) ds).1 (runs (tstep b) (startT g) ds).1.os.length).length = nT) (hnK : (runs (tstep b) (startT g) ds).1.x.gone.length = nK) : TPlay5 g b ds v u w n nT nK := by
  intro X L R hM hR
  refine (tplay_yes g hG v u b hb ds X (hg.later hM.below) (hu.later hM.below) hd hn).mono ?_
  rintro e w' ⟨s, vo, vt, vg, hs, rfl, hM2⟩
  have hI := runsT_inv hG hb ds.length ds (Nat.le_refl _) hn
  rw [List.take_length] at hI
  have h1 := hI.2
  have h2 := hI.1.goneLen
  rw [← hs] at h1 h2
  have hl : (runs (tstep b) (startT g) ds).2.length = ds.length := runs_len _ _ _
  have t1 := hM2.isTup 0 rfl (fun _ => rfl) (by rw [hl]; omega)
  have t2 := hM2.isTup 1 rfl (fun _ => rfl) (by have := hues_le s; omega)
  obtain ⟨aO, cO, rfl, _⟩ := t1.slice
  obtain ⟨aT, cT, rfl, _⟩ := t2.slice
  obtain ⟨aG, cG, rfl⟩ := hM2.intsSlice 2 rfl
  have hM3 := hM.callMem hM2
  subst hs
  rw [hl, hnn] at hM3 ⊢
  rw [hnT] at hM3 ⊢
  rw [hnK] at hM3 ⊢
  exact hR aO cO aT cT aG cG w' hM3
set_option maxRecDepth 100000 in
set_option maxHeartbeats 8000000 in
theorem triEnds_good (g : G) (hG : Good g) (v : Value) (au : Option Addr) (cu : Nat) (b : Int) (hb : b = 1 ∨ b = 2 ∨ b = 3) (ds : List Dd) (w : World) (hg : IsGraph w v g) (hu : IsTup 5 cellsD w (.slice au ds.length cu) ds) (hd : ∀ d ∈ ds, DdOk d) (hn : ds.length ≤ 100) :
    Calls Try.prog 6 #[v, .int .i64 b, .slice au ds.length cu] w fun e w' => e = .returned (.bool true) ∧ Below w.heap.size w w' := by
  have Hg := Lib.hid hg
  obtain ⟨vo, vr, rfl, ho, hr⟩ := hg
  obtain ⟨ao, co, rfl, hlo⟩ := ho.slice
  obtain ⟨ar, cr, rfl, hlr⟩ := hr.slice
  have hM0 := (Mem.start w).alloc #[.slice ao g.objs.length co, .slice ar g.roots.length cr] 25
  obtain ⟨L, hL⟩ : ∃ L, ds.length = L := ⟨_, rfl⟩
  obtain ⟨S, hS⟩ : ∃ S, runs (tstep b) (startT g) ds = S := ⟨_, rfl⟩
  have hi := runsT_inv hG hb ds.length ds (Nat.le_refl _) hn
  rw [List.take_length, hS] at hi
  obtain ⟨hi, hi2⟩ := hi
  obtain ⟨nT, hnT⟩ : ∃ nT, (hues S.1 S.1.os.length).length = nT := ⟨_, rfl⟩
  obtain ⟨nK, hnK⟩ : ∃ nK, S.1.x.gone.length = nK := ⟨_, rfl⟩
  have hP := tPlay5 g hG _ _ b hb ds w Hg.out hu hd hn L nT nK hL (by rw [hS]; exact hnT) (by rw [hS]; exact hnK)
  unfold TPlay5 at hP
  have hSx := hS
  have HSx := Lib.hid hSx
  have HnTx := Lib.hid hnT
  have HI := Lib.hid hi
  have Hb := Lib.hid hb
  have hnT2 : nT ≤ 200 := by have := hues_le S.1; omega
  have hlo : S.2.length = L := by rw [← hS, runs_len]; exact hL
  rw [hL] at hP
  rw [hS] at hP
  obtain ⟨T1, hT1⟩ : ∃ T1, hues S.1 S.1.os.length = T1 := ⟨_, rfl⟩
  have hgl := hi.goneLen
  have hgok : ∀ x ∈ S.1.x.gone, i64ok x := by
    intro x hx
    obtain ⟨h1, h2, _⟩ := (hi.gone x).1 hx
    have := hi.len
    exact ⟨by omega, by omega⟩
  rw [hT1] at hP
  obtain ⟨O1, hO1⟩ : ∃ O1, S.2 = O1 := ⟨_, rfl⟩
  obtain ⟨G1, hG1⟩ : ∃ G1, S.1.x.gone = G1 := ⟨_, rfl⟩
  rw [hO1, hG1] at hP
  rw [hO1] at hlo
  rw [hG1] at hnK hgok hgl
  have HP := Lib.hid hP
  have HM0 := Lib.hid hM0
  have Hlo := Lib.hid hlo
  have HnK := Lib.hid hnK
  have Hgok := Lib.hid hgok
  have HL := Lib.hid hL
  have HG := Lib.hid hG
  have HD := Lib.hid hd
  have Hu := Lib.hid hu
  have hnK2 : nK ≤ 1000 := by have := hi.len; omega
  have hobj := hG.objs
  clear hSx
  rw [hL] at hn Hu ⊢
  clear hM0 ho hr hi hi2 hP hlo hT1 hO1 hG1 hnT hnK hL hS hG hd hu hgok hgl
  go_enter Try.func6, Try.ntmps6
  go_wp2_with fail
  refine HP.out _ _ _ HM0.out ?_
  intro aO cO aT cT aG cG w1 hM1
  have hM1 := hM1.alloc #[.slice aO L cO, .slice aT nT cT, .slice aG nK cG] 31
  obtain ⟨W1, hW1⟩ : ∃ W1, w1.alloc (.cells #[.slice aO L cO, .slice aT nT cT, .slice aG nK cG] 31) = W1 := ⟨_, rfl⟩
  rw [hW1] at hM1
  obtain ⟨b7, hb7⟩ : ∃ b7, w1.heap.size = b7 := ⟨_, rfl⟩
  rw [hb7] at hM1
  have g0 := hM1.cell 4 rfl 0
  have g1 := hM1.cell 4 rfl 1
  have gb := (hM1.box 4 rfl).2.1
  have c0 := hM1.cell 0 rfl 0
  have cb := (hM1.box 0 rfl).2.1
  have HM1 := Lib.hid hM1
  have HW1 := Lib.hid hW1
  have Hb7 := Lib.hid hb7
  have e0 : ((L : Int) != (L : Int)) = false := by simp
  clear hM1 hW1 hb7 HP HM0
  go_upto_region 2 with (fail)
  rw [HW1.out, Hb7.out]
  obtain ⟨m5, hm5⟩ : ∃ m5 : Nat, 3 * nT = m5 := ⟨_, rfl⟩
  obtain ⟨m6, hm6⟩ : ∃ m6 : Nat, L + m5 = m6 := ⟨_, rfl⟩
  obtain ⟨N, hN⟩ : ∃ N : Nat, m6 + 3 = N := ⟨_, rfl⟩
  have w5 : IntKind.i64.wrap (3 * (nT : Int)) = (m5 : Int) := by rw [IntKind.wrap_i64]; omega
  have w6 : IntKind.i64.wrap ((L : Int) + (m5 : Int)) = (m6 : Int) := by rw [IntKind.wrap_i64]; omega
  have w7 : IntKind.i64.wrap ((m6 : Int) + 3) = (N : Int) := by rw [IntKind.wrap_i64]; omega
  have c1 := HM1.out.cell 0 rfl 1
  have HBl := Lib.hid HM1.out.below
  by_cases h24 : 24 < nT
  · have e1 : (24 : Int) < (nT : Int) := by omega
    go_wp2
    go_ret
    exact ⟨rfl, HBl.out⟩
  · have e1 : ¬ (24 : Int) < (nT : Int) := by omega
    by_cases h100 : 100 < N
    · have e2 : (100 : Int) < (N : Int) := by omega
      go_wp2
      go_ret
      exact ⟨rfl, HBl.out⟩
    · have e2 : ¬ (100 : Int) < (N : Int) := by omega
      have Hwk := Lib.hid (works_any nT (by omega) W1)
      go_upto_region 7 with (fail)
      go_wp2_with fail
      refine Hwk.out.mono ?_
      rintro e w2 ⟨vD, rfl, hMw⟩
      have hM2 := HM1.out.callMem hMw
      obtain ⟨aD, nD, cD, rfl⟩ := own_slice (hM2.row 0 rfl)
      have hk1000 : (List.replicate nT dW).length ≤ 1000000 := by rw [List.length_replicate]; omega
      have HM2 := Lib.hid hM2
      clear hM2 hMw Hwk
      go_upto_region 8 with (at_builtin; refine Mem.wp_appT elemDos rfl (.tmp 49) (.tmp 51) rfl HM2.out 0 rfl rfl _ dS #[.int .i64 9, .int .i64 0, .int .i64 0, .int .i64 0, .int .i64 0] rfl _ _ rfl (by simp) rfl rfl (by decide) hk1000 ?_; intro ad n1 cp w3 hn1 hM3 hs3 hk3 ha3)
      have hT3 := isTup_own4 (enc := cellsD) (fun _ => rfl) (hM3.row 0 rfl) (by simp; omega)
      have HM3 := Lib.hid hM3
      have HT3 := Lib.hid hT3
      have Hbe := Lib.hid (behind_any _ _ _ _ w3 hT3 hT3 (by simp; omega))
      clear hM3 hT3 HM2
      go_wp2_with fail
      refine Hbe.out.mono ?_
      rintro e w4 ⟨x4, rfl, hM4⟩
      have hT4 := isTup_own4 (enc := cellsD) (fun _ => rfl) (hM4.row 0 rfl) (by simp; omega)
      obtain ⟨a4, n4, c4, rfl⟩ := own_slice (hM4.row 0 rfl)
      have Hbe2 := Lib.hid (behind_any _ _ _ _ w4 (HT3.out.later hM4.below) hT4 (by simp; omega))
      have HM4 := Lib.hid (HM3.out.callMem hM4)
      clear hM4 hT4 Hbe
      go_wp2_with fail
      refine Hbe2.out.mono ?_
      rintro e w5 ⟨x5, rfl, hM5⟩
      have hT5 := isTup_own4 (enc := cellsD) (fun _ => rfl) (hM5.row 0 rfl) (by simp; omega)
      obtain ⟨a5, n5, c5, rfl⟩ := own_slice (hM5.row 0 rfl)
      have Hbe3 := Lib.hid (behind_any (.slice au L cu) _ ds _ w5 (Hu.out.later (HM4.out.callMem hM5).below) hT5 (by simp; rw [HL.out]; omega))
      have HM5 := Lib.hid (HM4.out.callMem hM5)
      clear hM5 hT5 Hbe2
      go_wp2_with fail
      refine Hbe3.out.mono ?_
      rintro e w6 ⟨x6, rfl, hM6⟩
      have hT6 := isTup_own4 (enc := cellsD) (fun _ => rfl) (hM6.row 0 rfl) (by simp; rw [HL.out]; omega)
      obtain ⟨a6, c6, rfl, _⟩ := hT6.slice
      have hN6 : (endsL ds nT).length = N := by rw [endsL_len, HL.out]; omega
      have hT6b : IsTup 5 cellsD w6 (.slice a6 (endsL ds nT).length c6) (endsL ds nT) := hT6
      have hM6b : Mem w5.heap.size w5 w6 [rowT 37 5 cellsD (.slice a6 (endsL ds nT).length c6) (endsL ds nT)] := hM6
      have hM6c := HM5.out.callMem hM6b
      have hd2 : ∀ d ∈ endsL ds nT, DdOk d := by
        have hw : ∀ d ∈ (List.replicate nT dW ++ [dS]), DdOk d := by
          intro d hd
          rcases List.mem_append.1 hd with h | h
          · rw [List.eq_of_mem_replicate h]; constructor <;> exact ⟨by decide, by decide⟩
          · rw [List.mem_singleton.1 h]; constructor <;> exact ⟨by decide, by decide⟩
        intro d hd
        rcases List.mem_append.1 hd with h | h
        · exact HD.out d h
        · rcases List.mem_append.1 h with h | h
          · exact hw d h
          · rcases List.mem_append.1 h with h | h <;> exact hw d h
      have hp2 := tplay_yes g HG.out (.agg #[.slice ao g.objs.length co, .slice ar g.roots.length cr]) _ b Hb.out (endsL ds nT) w6 (Hg.out.later hM6c.below) hT6b hd2 (by rw [hN6]; omega)
      change Calls _ _ #[_, _, .slice a6 (endsL ds nT).length c6] _ _ at hp2
      obtain ⟨S2, hS2⟩ : ∃ S2, runs (tstep b) (startT g) (endsL ds nT) = S2 := ⟨_, rfl⟩
      unfold TPlaySays at hp2
      rw [hN6, hS2] at hp2
      rw [hN6] at hT6b hM6c
      have hlist : ((ds ++ (List.replicate nT dW ++ [dS] ++ (List.replicate nT dW ++ [dS] ++ (List.replicate nT dW ++ [dS])))) : List Dd).length = N := hN6
      rw [hlist]
      have HT6 := Lib.hid hT6b
      have HM6 := Lib.hid hM6c
      have HP2 := Lib.hid hp2
      have HS2 := Lib.hid hS2
      have HN6 := Lib.hid hN6
      have HD2 := Lib.hid hd2
      have g0 := hM6c.cell 8 rfl 0
      have g1 := hM6c.cell 8 rfl 1
      have gb := (hM6c.box 8 rfl).2.1
      clear hM6 hT6 Hbe3 hT6b hM6b hM6c hp2 hS2 hlist hd2 hN6
      go_upto_region 9 with (fail)
      go_wp2_with fail
      refine HP2.out.mono ?_
      rintro e w7 ⟨s2, vo2, vt2, vg2, rfl, rfl, hM7⟩
      have hl2 : S2.2.length = N := by rw [← HS2.out, runs_len]; exact HN6.out
      have hinv2 := runsT_inv HG.out Hb.out (endsL ds nT).length (endsL ds nT) (Nat.le_refl _) (by rw [HN6.out]; omega)
      rw [List.take_length, HS2.out] at hinv2
      obtain ⟨nT2, hnT2⟩ : ∃ nT2, (hues S2.1 S2.1.os.length).length = nT2 := ⟨_, rfl⟩
      have hTle := hues_le S2.1
      have t1 := hM7.isTup 0 rfl (fun _ => rfl) (by rw [hl2]; omega)
      have t2 := hM7.isTup 1 rfl (fun _ => rfl) (by have := hinv2.1.len; omega)
      obtain ⟨aO2, cO2, rfl, _⟩ := t1.slice
      obtain ⟨aT2, cT2, rfl, _⟩ := t2.slice
      obtain ⟨aG2, cG2, rfl⟩ := hM7.intsSlice 2 rfl
      obtain ⟨t, ht1, ht2, ht3⟩ := tri_told HG.out Hb.out (ds := endsL ds nT) (by rw [HN6.out]; omega)
      rw [HS2.out] at ht1 ht2
      have hrd := rounds_end HI.out (n := nT) (by
        have h1 := HnTx.out
        unfold hues at h1
        rw [List.length_map, List.take_of_length_le (thereL_len _ _)] at h1
        omega)
      obtain ⟨hr1, hr2, hr3⟩ := ends_runs b (startT g) ds nT
      rw [HS2.out] at hr1 hr2 hr3
      rw [HSx.out] at hr1 hr2 hr3
      rw [hrd.1, HL.out] at hr2
      rw [hrd.2.1, HL.out] at hr3
      have hall : ∀ x, Lives S2.1.os x → RchM S2.1.regs S2.1.os x := by rw [hr1]; exact hrd.2.2
      have hcl : ∀ c, CanonS (gOf t.regs t.os) c → c.objs.length = nT2 := by
        intro c hc
        rw [canon_eq ht2 ht3 hc hall, ← hnT2]
        unfold hues
        rw [List.length_map, List.take_of_length_le (thereL_len _ _)]; rfl
      obtain ⟨nK2, hnK2⟩ : ∃ nK2, S2.1.x.gone.length = nK2 := ⟨_, rfl⟩
      rw [hl2, hnT2, hnK2] at hM7
      rw [hl2] at t1
      have hM8 := (HM6.out.callMem hM7).alloc #[.slice aO2 N cO2, .slice aT2 nT2 cT2, .slice aG2 nK2 cG2] 31
      rw [hl2, hnT2, hnK2]
      obtain ⟨W8, hW8⟩ : ∃ W8, w7.alloc (.cells #[.slice aO2 N cO2, .slice aT2 nT2 cT2, .slice aG2 nK2 cG2] 31) = W8 := ⟨_, rfl⟩
      rw [hW8] at hM8
      obtain ⟨b12, hb12⟩ : ∃ b12, w7.heap.size = b12 := ⟨_, rfl⟩
      rw [hb12] at hM8
      have hM8b := hM8.alloc #[.int .i64 8, .int .i64 9] 3
      have hO2 := hM8.isTup 1 rfl (fun _ => rfl) (by rw [hl2]; omega)
      have hTo := told_any g HG.out (.agg #[.slice ao g.objs.length co, .slice ar g.roots.length cr]) (.slice a6 N c6) (.slice aO2 N cO2) (.slice (some ⟨W8.heap.size, 0, none⟩) 2 2) (endsL ds nT) S2.2 [8, 9] _ (Hg.out.later hM8b.below) (HT6.out.later ((hM7.below.trans (by rw [← hW8]; exact (Below.refl _ _).alloc hM7.below.size _)).trans ((Below.refl _ _).alloc (by have := hM7.below.size; rw [← hW8]; simp; omega) _))) (hO2.later ((Below.refl _ _).alloc (Nat.le_refl _) _)) (ints2_new' hM8 ⟨by omega, by omega⟩ ⟨by omega, by omega⟩ 3) HD2.out (by rw [HN6.out]; omega) (by rw [hl2, HN6.out]) (by rw [ht1])
      have HTo := Lib.hid hTo
      have HM8b := Lib.hid hM8b
      have HT := Lib.hid ht1
      have Hcl := Lib.hid hcl
      have HW8 := Lib.hid hW8
      have Hb12 := Lib.hid hb12
      have Hr2 := Lib.hid hr2
      have Hr3 := Lib.hid hr3
      have Hl2 := Lib.hid hl2
      have g0' := hM8.cell 12 rfl 0
      have g1' := hM8.cell 12 rfl 1
      have gb' := (hM8.box 12 rfl).2.1
      have c0' := hM8.cell 0 rfl 0
      have cb' := (hM8.box 0 rfl).2.1
      clear hM8 hM8b hM7 t1 t2 hinv2 hTle ht1 ht2 ht3 hrd hr1 hr2 hr3 hall hcl hW8 hb12 hO2 hTo hl2 hnT2 hnK2 g0 g1 gb HP2
      go_upto_region 10 with (fail)
      rw [HW8.out, Hb12.out]
      have e9 : ((N : Int) != (N : Int)) = false := by simp
      go_upto_region 12 with (fail)
      go_wp2_with fail
      refine HTo.out.mono ?_
      rintro e w9 ⟨v', c, rfl, hca, hgc, hb9⟩
      rw [HT.out] at hca
      have hcn := Hcl.out c hca
      obtain ⟨vo3, vr3, rfl, ho3, hr3⟩ := hgc
      obtain ⟨ao3, co3, rfl, _⟩ := ho3.slice
      obtain ⟨ar3, cr3, rfl, _⟩ := hr3.slice
      rw [hcn]
      have hM9 := (HM8b.out.call hb9).alloc #[.slice ao3 nT2 co3, .slice ar3 c.roots.length cr3] 25
      obtain ⟨W9, hW9⟩ : ∃ W9, w9.alloc (.cells #[.slice ao3 nT2 co3, .slice ar3 c.roots.length cr3] 25) = W9 := ⟨_, rfl⟩
      rw [hW9] at hM9
      obtain ⟨b13, hb13⟩ : ∃ b13, w9.heap.size = b13 := ⟨_, rfl⟩
      rw [hb13] at hM9
      obtain ⟨m2, hm2⟩ : ∃ m2 : Nat, 2 * nT = m2 := ⟨_, rfl⟩
      obtain ⟨m3, hm3⟩ : ∃ m3 : Nat, L + m2 = m3 := ⟨_, rfl⟩
      obtain ⟨j1, hj1⟩ : ∃ j1 : Nat, L + 2 * nT + 1 = j1 := ⟨_, rfl⟩
      obtain ⟨j2, hj2⟩ : ∃ j2 : Nat, L + 3 * nT + 2 = j2 := ⟨_, rfl⟩
      have v1 : IntKind.i64.wrap (2 * (nT : Int)) = (m2 : Int) := by rw [IntKind.wrap_i64]; omega
      have v2 : IntKind.i64.wrap ((L : Int) + (m2 : Int)) = (m3 : Int) := by rw [IntKind.wrap_i64]; omega
      have v3 : IntKind.i64.wrap ((m3 : Int) + 1) = (j1 : Int) := by rw [IntKind.wrap_i64]; omega
      have v4 : IntKind.i64.wrap ((N : Int) - 1) = (j2 : Int) := by rw [IntKind.wrap_i64]; omega
      have hr2 := Hr2.out
      have hr3 := Hr3.out
      rw [hj1] at hr2
      rw [hj2] at hr3
      have x10 : (j1 : Int) < (N : Int) := by omega
      have x11 : (j2 : Int) < (N : Int) := by omega
      have x12 : ((nT2 : Int) == (nT2 : Int)) = true := by simp
      have tO := hM9.isTup 3 rfl (fun _ => rfl) (by rw [Hl2.out]; omega)
      have h0 := hM9.cell 0 rfl 0
      have h0b := (hM9.box 0 rfl).2.1
      have k0 := hM9.cell 2 rfl 0
      have k1 := hM9.cell 2 rfl 1
      have kb := (hM9.box 2 rfl).2.1
      obtain ⟨bo, oo, rfl, _, hbo2, hco⟩ := tO.at2 (Below.refl _ _) hr2
      obtain ⟨bo', oo', hv', _, _, hco2⟩ := tO.at2 (Below.refl _ _) hr3
      cases hv'
      have o1 : W9.cell? ⟨bo, oo + j1 * 3, none⟩ = some (.int .i64 0) := hco 0 _ rfl
      have o2 : W9.cell? ⟨bo, oo + j2 * 3, none⟩ = some (.int .i64 0) := hco2 0 _ rfl
      have HB9 := Lib.hid hM9.below
      have HW9 := Lib.hid hW9
      have Hb13 := Lib.hid hb13
      clear hM9 hW9 hb13 hca hb9 ho3 hr3 hcn hr2 tO hco hco2 HTo HM8b g0' g1' gb' c0' cb' hm2 hm3 hj1 hj2 hm5 hm6
      go_upto_region 13 with (fail)
      rw [HW9.out, Hb13.out]
      go_wp2
      go_ret
      exact ⟨rfl, HB9.out⟩
end Go.Proofs.Ytjnbnfmlpdnngaa

/- TriEnds, walked at every input. -/
namespace Go.Proofs.Ytjnbnfmlpdnngaa
open Go.RowKit Go.Shelf

set_option maxRecDepth 100000 in
set_option maxHeartbeats 2000000 in
theorem triEnds_bad (g : G) (v : Value) (u : Value) (b : Int) (ds : List Dd) (hk : ¬ (Good g ∧ (b = 1 ∨ b = 2 ∨ b = 3) ∧ ds.length ≤ 100)) (w : World) (hg : IsGraph w v g) (hu : IsTup 5 cellsD w u ds) :
    Calls Try.prog 6 #[v, .int .i64 b, u] w fun e w' => e = .returned (.bool true) ∧ Below w.heap.size w w' := by
  have Hg := Lib.hid hg
  obtain ⟨au, cu, rfl, _⟩ := hu.slice
  obtain ⟨vo, vr, rfl, ho, hr⟩ := hg
  obtain ⟨ao, co, rfl, hlo⟩ := ho.slice
  obtain ⟨ar, cr, rfl, hlr⟩ := hr.slice
  have hM0 := (Mem.start w).alloc #[.slice ao g.objs.length co, .slice ar g.roots.length cr] 25
  have HP1 := Lib.hid (tplay_no g _ _ b ds _ (Hg.out.later hM0.below) (hu.later hM0.below) hk)
  have HM0 := Lib.hid hM0
  clear hu hM0 ho hr hk
  go_enter Try.func6, Try.ntmps6
  go_wp2_with fail
  refine HP1.out.mono ?_
  rintro e w1 ⟨c, hc, rfl, hb1⟩
  rw [show NilC = .agg #[.slice none 0 0, .slice none 0 0, .slice none 0 0] from rfl]
  have hM1 := (HM0.out.call hb1).alloc #[.slice none 0 0, .slice none 0 0, .slice none 0 0] 31
  have HB := Lib.hid hM1.below
  have hcn : (c != 0) = true := by rw [bne, hc]; rfl
  clear hM1 hb1
  go_wp2
  go_ret
  exact ⟨rfl, HB.out⟩
theorem triEnds_walk (W : World) (v0 v1 v2 : Value) (g0 : ∃ g, IsGraph W v0 g) (g1 : ∃ x : Int, v1 = .int .i64 x ∧ i64ok x) (g2 : ∃ ds, IsTup 5 cellsD W v2 ds ∧ ∀ d ∈ ds, DdOk d) :
    Calls Try.prog 6 #[v0, v1, v2] W fun e w' => e = .returned (.bool true) ∧ Below W.heap.size W w' := by
  obtain ⟨g, hg⟩ := g0
  obtain ⟨b, rfl, _⟩ := g1
  obtain ⟨ds, hu, hd⟩ := g2
  by_cases hk : Good g ∧ (b = 1 ∨ b = 2 ∨ b = 3) ∧ ds.length ≤ 100
  · obtain ⟨a, c, rfl, _⟩ := hu.slice
    exact triEnds_good g hk.1 v0 a c b hk.2.1 ds W hg hu hd hk.2.2
  · exact triEnds_bad g v0 v2 b ds hk W hg hu
end Go.Proofs.Ytjnbnfmlpdnngaa
