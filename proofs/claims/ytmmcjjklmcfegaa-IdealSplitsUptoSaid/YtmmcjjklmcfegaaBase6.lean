/- Texts Rz Bm Rq Rr Ro Rp Va in one. -/
import Derived.Test.YtmmcjjklmcfegaaBase1
import Derived.StillTailTactics
import Derived.Deep.RegionLaw
import Derived.Deep.DrawnRows
import Derived.Test.YtmmcjjklmcfegaaBase4
import Derived.Test.YtmmcjjklmcfegaaBase5
import Derived.BigQuiet
import Derived.Deep.QuietTactic
/- ragpickerref.place, walked. -/
namespace Go.Proofs.Ytmmcjjklmcfegaa
open Go.RowKit Go.Shelf

theorem drop_get {l : List Int} {k : Nat} {x : Int} (h : l[k]? = some x) : l.drop k = x :: l.drop (k + 1) := by
  obtain ⟨hk, rfl⟩ := List.getElem?_eq_some_iff.1 h
  exact List.drop_eq_getElem_cons hk

set_option maxHeartbeats 400000 in
theorem place_any (v : Value) (l : List Int) (y : Int) (w : World) (hl : IsInts w v l) :
    Calls Try.prog 93 #[v, .int .i64 y] w fun e w' => e = .returned (.int .i64 (plc l y 0)) ∧ w = w' := by
  obtain ⟨a, cap, rfl, hm⟩ := hl.slice
  have Hl := Lib.hid hl
  clear hl
  go_enter Try.func93, Try.ntmps93
  go_wp2
  go_loop [5] (fun i => ∃ k : Nat, k ≤ l.length ∧ i = .int .i64 k ∧ plc l y 0 = plc (l.drop k) y k) (fun i => l.length - (intOf i).toNat)
  case atStart => exact ⟨0, Nat.zero_le _, rfl, rfl⟩
  case round =>
    obtain ⟨k, hk, rfl, hN⟩ := hrel
    by_cases hlt : k < l.length
    · obtain ⟨x, hx⟩ := get_some _ _ hlt
      obtain ⟨b, off, cap2, hv, hb, hn, c1, _⟩ := Hl.out.at (Below.refl _ _) hx
      cases hv
      have h2 := hN
      rw [drop_get hx, plc] at h2
      clear hx hN
      by_cases hxy : x = y
      · rw [if_pos hxy] at h2
        subst hxy
        have H2 := Lib.hid h2
        clear h2
        go_wp2
        go_ret
        exact ⟨by rw [H2.out]; rfl, rfl⟩
      · rw [if_neg hxy] at h2
        have H2 := Lib.hid h2
        clear h2
        go_wp2
        go_round
        case rel => exact ⟨k + 1, by omega, by go_num, H2.out⟩
        case measure => simp [intOf]; omega
    · obtain rfl : k = l.length := by omega
      rw [List.drop_length, plc] at hN
      have HN := Lib.hid hN
      clear hN
      go_wp2
      go_ret
      exact ⟨by rw [HN.out]; rfl, rfl⟩
end Go.Proofs.Ytmmcjjklmcfegaa

/- The order in which objects are found, plainly. -/
namespace Go.Proofs.Ytmmcjjklmcfegaa

def tk (F : List Int) (i : Int) : List Int := if i ∈ F then F else F ++ [i]
def tks (F l : List Int) : List Int := l.foldl tk F
theorem tk_old {F : List Int} {i : Int} (h : i ∈ F) : tk F i = F := if_pos h
theorem tk_new {F : List Int} {i : Int} (h : i ∉ F) : tk F i = F ++ [i] := if_neg h
theorem tk_prefix (F : List Int) (i : Int) : F <+: tk F i := by
  unfold tk; split
  · exact List.prefix_refl _
  · exact List.prefix_append _ _
theorem tks_prefix : ∀ (l F : List Int), F <+: tks F l
  | [], _ => List.prefix_refl _
  | i :: l, F => (tk_prefix F i).trans (tks_prefix l (tk F i))
theorem tks_append (F l m : List Int) : tks F (l ++ m) = tks (tks F l) m := List.foldl_append
theorem tks_snoc (F l : List Int) (i : Int) : tks F (l ++ [i]) = tk (tks F l) i := by rw [tks_append]; rfl
theorem mem_tk {F : List Int} {i x : Int} : x ∈ tk F i ↔ x ∈ F ∨ x = i := by
  unfold tk; split
  · rename_i h
    constructor
    · exact .inl
    · rintro (h1 | rfl)
      · exact h1
      · exact h
  · simp
theorem mem_tks : ∀ (l F : List Int) (x : Int), x ∈ tks F l ↔ x ∈ F ∨ x ∈ l
  | [], F, x => by simp [tks]
  | i :: l, F, x => by
    rw [show tks F (i :: l) = tks (tk F i) l from rfl, mem_tks l (tk F i) x, mem_tk, List.mem_cons, or_assoc]
theorem tk_nodup {F : List Int} (h : F.Nodup) (i : Int) : (tk F i).Nodup := by
  unfold tk; split
  · exact h
  · rename_i hn
    rw [List.nodup_append]
    refine ⟨h, by simp, ?_⟩
    intro a ha b hb e
    simp at hb; subst hb e; exact hn ha
theorem tks_nodup : ∀ (l F : List Int), F.Nodup → (tks F l).Nodup
  | [], _, h => h
  | i :: l, F, h => tks_nodup l (tk F i) (tk_nodup h i)

def ordAt (g : G) : Nat → List Int
  | 0 => tks [] (targets g.roots)
  | k + 1 => tks (ordAt g k) (targets (fieldsAt g ((ordAt g k).getD k 0)))
theorem ordAt_nodup (g : G) : ∀ k, (ordAt g k).Nodup
  | 0 => tks_nodup _ _ (by simp)
  | k + 1 => tks_nodup _ _ (ordAt_nodup g k)
theorem ordAt_prefix (g : G) (j : Nat) : ∀ k, j ≤ k → ordAt g j <+: ordAt g k
  | 0, h => by obtain rfl : j = 0 := by omega
               exact List.prefix_refl _
  | k + 1, h => by
    rcases Nat.lt_or_ge k j with h1 | h1
    · obtain rfl : j = k + 1 := by omega
      exact List.prefix_refl _
    · exact (ordAt_prefix g j k h1).trans (tks_prefix _ _)
/-- References are to objects that there are. -/
theorem ordAt_rng {g : G} (h : Rng g) : ∀ k, ∀ x ∈ ordAt g k, 0 ≤ x ∧ x < (g.objs.length : Int)
  | 0, x, hx => by
    rcases (mem_tks _ _ _).1 hx with h1 | h1
    · cases h1
    · exact h.target (roots_in g) h1
  | k + 1, x, hx => by
    rcases (mem_tks _ _ _).1 hx with h1 | h1
    · exact ordAt_rng h k x h1
    · exact h.target (fields_in g _) h1
def upTo (n : Nat) : List Int := (List.range n).map fun (i : Nat) => (i : Int)
theorem upTo_len (n : Nat) : (upTo n).length = n := by simp [upTo]
theorem mem_upTo {n : Nat} {x : Int} : x ∈ upTo n ↔ 0 ≤ x ∧ x < (n : Int) := by
  unfold upTo
  rw [List.mem_map]
  constructor
  · rintro ⟨i, hi, rfl⟩; have := List.mem_range.1 hi; omega
  · intro h; exact ⟨x.toNat, List.mem_range.2 (by omega), by omega⟩
theorem ordAt_len {g : G} (h : Rng g) (k : Nat) : (ordAt g k).length ≤ g.objs.length := by
  have := nodup_sub_len (ordAt g k) (upTo g.objs.length) (ordAt_nodup g k) (fun x hx => mem_upTo.2 (ordAt_rng h k x hx))
  rwa [upTo_len] at this

/-- F is what is found, in order. -/
def OrdS (g : G) (F : List Int) : Prop := ordAt g F.length = F ∧ ∀ j, j < F.length → j < (ordAt g j).length
theorem ord_exists {g : G} (h : Rng g) : ∃ F, OrdS g F := by
  have key : ∀ (fuel k : Nat), g.objs.length ≤ k + fuel → (∀ j, j < k → j < (ordAt g j).length) → ∃ K, (∀ j, j < K → j < (ordAt g j).length) ∧ (ordAt g K).length ≤ K := by
    intro fuel
    induction fuel with
    | zero => intro k hk hj; exact ⟨k, hj, by have := ordAt_len h k; omega⟩
    | succ f ih =>
      intro k hk hj
      by_cases hle : (ordAt g k).length ≤ k
      · exact ⟨k, hj, hle⟩
      · refine ih (k + 1) (by omega) ?_
        intro j hj2
        rcases Nat.lt_or_ge j k with h1 | h1
        · exact hj j h1
        · obtain rfl : j = k := by omega
          omega
  obtain ⟨K, hK, hle⟩ := key g.objs.length 0 (by omega) (fun j hj => absurd hj (by omega))
  have hlen : (ordAt g K).length = K := by
    cases K with
    | zero => omega
    | succ k =>
      have h1 := hK k (by omega)
      have h2 := (ordAt_prefix g k (k + 1) (by omega)).length_le
      omega
  exact ⟨ordAt g K, by rw [hlen], by rw [hlen]; exact hK⟩
theorem OrdS.unique {g : G} {F E : List Int} (hF : OrdS g F) (hE : OrdS g E) : F = E := by
  rcases Nat.lt_trichotomy F.length E.length with h | h | h
  · have := hE.2 _ h; rw [hF.1] at this; omega
  · rw [← hF.1, ← hE.1, h]
  · have := hF.2 _ h; rw [hE.1] at this; omega
theorem OrdS.nodup {g : G} {F : List Int} (h : OrdS g F) : F.Nodup := by rw [← h.1]; exact ordAt_nodup g _
theorem OrdS.rng {g : G} {F : List Int} (h : OrdS g F) (hr : Rng g) : ∀ x ∈ F, 0 ≤ x ∧ x < (g.objs.length : Int) := by
  intro x hx; rw [← h.1] at hx; exact ordAt_rng hr _ x hx
theorem OrdS.pre {g : G} {F : List Int} (h : OrdS g F) {k : Nat} (hk : k ≤ F.length) : ordAt g k <+: F := by
  have := ordAt_prefix g k F.length hk
  rwa [h.1] at this
theorem prefix_get {α : Type} {l m : List α} (h : l <+: m) {k : Nat} (hk : k < l.length) : m[k]? = l[k]? := by
  obtain ⟨t, rfl⟩ := h
  rw [List.getElem?_append_left hk]
theorem OrdS.at_ {g : G} {F : List Int} (h : OrdS g F) {k : Nat} (hk : k < F.length) : (ordAt g k).getD k 0 = F.getD k 0 := by
  rw [List.getD_eq_getElem?_getD, List.getD_eq_getElem?_getD, prefix_get (h.pre (Nat.le_of_lt hk)) (h.2 k hk)]
theorem OrdS.roots {g : G} {F : List Int} (h : OrdS g F) : ∀ j ∈ targets g.roots, j ∈ F := by
  intro j hj
  exact (h.pre (Nat.zero_le _)).subset ((mem_tks _ _ _).2 (.inr hj))
theorem OrdS.closed {g : G} {F : List Int} (h : OrdS g F) {x : Int} (hx : x ∈ F) : ∀ j ∈ targets (fieldsAt g x), j ∈ F := by
  intro j hj
  obtain ⟨k, hk⟩ := List.getElem?_of_mem hx
  have hkl := (List.getElem?_eq_some_iff.1 hk).1
  refine (h.pre (show k + 1 ≤ F.length by omega)).subset ((mem_tks _ _ _).2 (.inr ?_))
  rw [h.at_ hkl, List.getD_eq_getElem?_getD, hk]
  exact hj
theorem OrdS.least {g : G} {F : List Int} (h : OrdS g F) {P : Int → Prop} (h0 : ∀ j ∈ targets g.roots, P j) (h1 : ∀ x, P x → ∀ j ∈ targets (fieldsAt g x), P j) : ∀ x ∈ F, P x := by
  have key : ∀ k, k ≤ F.length → ∀ x ∈ ordAt g k, P x := by
    intro k
    induction k with
    | zero =>
      intro _ x hx
      rcases (mem_tks _ _ _).1 hx with h2 | h2
      · cases h2
      · exact h0 x h2
    | succ k ih =>
      intro hk x hx
      rcases (mem_tks _ _ _).1 hx with h2 | h2
      · exact ih (by omega) x h2
      · have hlt := h.2 k (by omega)
        refine h1 _ (ih (by omega) _ ?_) x h2
        rw [List.getD_eq_getElem?_getD, List.getElem?_eq_getElem hlt]
        exact List.getElem_mem hlt
  intro x hx
  rw [← h.1] at hx
  exact key _ (Nat.le_refl _) x hx

/-! ### Relabelled -/
theorem tk_map {L F : List Int} {p : Int → Int} (hinj : ∀ x ∈ L, ∀ y ∈ L, p x = p y → x = y) (hF : ∀ x ∈ F, x ∈ L) {i : Int} (hi : i ∈ L) : tk (F.map p) (p i) = (tk F i).map p := by
  by_cases h : i ∈ F
  · rw [tk_old h, tk_old (List.mem_map.2 ⟨i, h, rfl⟩)]
  · rw [tk_new h, tk_new, List.map_append, List.map_singleton]
    intro h2
    obtain ⟨y, hy, e⟩ := List.mem_map.1 h2
    exact h (hinj y (hF y hy) i hi e ▸ hy)
theorem tks_map {L : List Int} {p : Int → Int} (hinj : ∀ x ∈ L, ∀ y ∈ L, p x = p y → x = y) : ∀ (l F : List Int), (∀ x ∈ F, x ∈ L) → (∀ x ∈ l, x ∈ L) → tks (F.map p) (l.map p) = (tks F l).map p
  | [], _, _, _ => rfl
  | i :: l, F, hF, hl => by
    rw [List.map_cons]
    show tks (tk (F.map p) (p i)) (l.map p) = (tks (tk F i) l).map p
    rw [tk_map hinj hF (hl i List.mem_cons_self)]
    refine tks_map hinj l (tk F i) ?_ (fun x hx => hl x (List.mem_cons_of_mem _ hx))
    intro x hx
    rcases mem_tk.1 hx with h | rfl
    · exact hF x h
    · exact hl x List.mem_cons_self
theorem iso_ord {g h : G} {L : List Int} {p : Int → Int} (I : Iso g h L p) {F : List Int} (hF : OrdS g F) : OrdS h (F.map p) := by
  have key : ∀ k, k ≤ F.length → ordAt h k = (ordAt g k).map p ∧ ∀ x ∈ ordAt g k, x ∈ L := by
    intro k
    induction k with
    | zero =>
      intro _
      refine ⟨?_, ?_⟩
      · unfold ordAt
        rw [I.roots, targets_map]
        have := tks_map I.inj (targets g.roots) [] (by simp) I.rootsL
        simpa using this
      · intro x hx
        rcases (mem_tks _ _ _).1 hx with h2 | h2
        · cases h2
        · exact I.rootsL x h2
    | succ k ih =>
      intro hk
      obtain ⟨e, hL⟩ := ih (by omega)
      have hlt := hF.2 k (by omega)
      obtain ⟨x, hx⟩ : ∃ x, (ordAt g k)[k]? = some x := ⟨_, List.getElem?_eq_getElem hlt⟩
      have hxL := hL x (List.mem_of_getElem? hx)
      have g1 : (ordAt g k).getD k 0 = x := by rw [List.getD_eq_getElem?_getD, hx]; rfl
      have g2 : (ordAt h k).getD k 0 = p x := by rw [e, List.getD_eq_getElem?_getD, List.getElem?_map, hx]; rfl
      refine ⟨?_, ?_⟩
      · show tks (ordAt h k) (targets (fieldsAt h ((ordAt h k).getD k 0))) = (tks (ordAt g k) (targets (fieldsAt g ((ordAt g k).getD k 0)))).map p
        rw [g1, g2, I.fields x hxL, targets_map, e]
        exact tks_map I.inj _ _ hL (I.fieldsL x hxL)
      · intro y hy
        rcases (mem_tks _ _ _).1 hy with h2 | h2
        · exact hL y h2
        · rw [g1] at h2; exact I.fieldsL x hxL y h2
  refine ⟨?_, ?_⟩
  · rw [List.length_map, (key _ (Nat.le_refl _)).1, hF.1]
  · intro j hj
    rw [List.length_map] at hj
    rw [(key j (by omega)).1, List.length_map]; exact hF.2 j hj
theorem plc_at {F : List Int} (hn : F.Nodup) {k : Nat} {x : Int} (h : F[k]? = some x) : plc F x 0 = k := by
  rw [plc_get F x 0 k h ?_, Nat.zero_add]
  intro j hj e
  have hjl := (List.getElem?_eq_some_iff.1 e).1
  have hkl := (List.getElem?_eq_some_iff.1 h).1
  have h1 := (List.getElem?_eq_some_iff.1 e).2
  have h2 := (List.getElem?_eq_some_iff.1 h).2
  have := (List.nodup_iff_pairwise_ne.1 hn)
  exact List.pairwise_iff_getElem.1 this j k hjl hkl hj (h1.trans h2.symm)
theorem plc_map {F : List Int} (hn : F.Nodup) : F.map (fun y => plc F y 0) = upTo F.length := by
  refine List.ext_getElem? fun k => ?_
  rw [List.getElem?_map]
  by_cases hk : k < F.length
  · obtain ⟨x, hx⟩ : ∃ x, F[k]? = some x := ⟨_, List.getElem?_eq_getElem hk⟩
    rw [hx, Option.map_some, plc_at hn hx]
    simp [upTo, hk]
  · rw [List.getElem?_eq_none (by omega), List.getElem?_eq_none (by rw [upTo_len]; omega)]; rfl
theorem iso_plc {g : G} {F : List Int} (hr : Rng g) (h : OrdS g F) : Iso g (renumP g F (fun y => plc F y 0)) F (fun y => plc F y 0) := by
  have hat : ∀ x ∈ F, ∃ k : Nat, F[k]? = some x ∧ plc F x 0 = k := by
    intro x hx
    obtain ⟨k, hk⟩ := List.getElem?_of_mem hx
    exact ⟨k, hk, plc_at h.nodup hk⟩
  refine ⟨?_, ?_, rfl, h.roots, ?_, fun x hx => h.closed hx⟩
  · intro x hx
    obtain ⟨k, hk, e⟩ := hat x hx
    have hkl := (List.getElem?_eq_some_iff.1 hk).1
    refine ⟨h.rng hr x hx, ?_⟩
    simp only [e, renumP, List.length_map]; omega
  · intro x hx y hy e
    obtain ⟨k, hk, e1⟩ := hat x hx
    obtain ⟨j, hj, e2⟩ := hat y hy
    simp only [e1, e2] at e
    obtain rfl : k = j := by omega
    rw [hk] at hj; exact Option.some.inj hj
  · intro x hx
    obtain ⟨k, hk, e⟩ := hat x hx
    show fieldsAt _ (plc F x 0) = _
    rw [e]
    unfold fieldsAt renumP
    rw [List.getD_eq_getElem?_getD, Int.toNat_natCast, List.getElem?_map, hk]
    rfl
/-- What was renumbered as found is found as it is numbered. -/
theorem ord_twice {g : G} {F : List Int} (hr : Rng g) (h : OrdS g F) : OrdS (renumP g F (fun y => plc F y 0)) (upTo F.length) := by
  have := iso_ord (iso_plc hr h) h
  rwa [plc_map h.nodup] at this
end Go.Proofs.Ytmmcjjklmcfegaa

/- ragpickerref.turned, Renumber, walked. -/
namespace Go.Proofs.Ytmmcjjklmcfegaa
open Go.RowKit Go.Shelf

set_option maxRecDepth 100000 in
set_option maxHeartbeats 1000000 in
theorem turned_any (w : World) (vs : Value) (l : List V) (u : Value) (li : List Int) (hl : IsVals w vs l) (hu : IsInts w u li) (hlen : l.length ≤ 1000) :
    Calls Try.prog 70 #[vs, u] w fun e w' => ∃ v', e = .returned v' ∧ Mem w.heap.size w w' [rowV 80 v' (l.map (turnV (fun y => plc li y 0)))] := by
  obtain ⟨a, cap, rfl, _⟩ := hl.slice
  obtain ⟨a', cap', rfl, _⟩ := hu.slice
  have Hl := Lib.hid hl
  have Hu := Lib.hid hu
  clear hl hu
  have hM0 := (Mem.start w).nilV 80
  go_enter Try.func70, Try.ntmps70
  go_wp2
  go_loopw [5, 10] (fun v i wr => ∃ k : Nat, k ≤ l.length ∧ i = .int .i64 k ∧ Mem w.heap.size w wr [rowV 80 v ((l.take k).map (turnV (fun y => plc li y 0)))]) (fun _ i _ => l.length - (intOf i).toNat)
  case atStart => exact ⟨0, Nat.zero_le _, rfl, hM0⟩
  case round =>
    obtain ⟨k, hk, rfl, hM⟩ := hrel
    by_cases hlt : k < l.length
    · obtain ⟨y, hx⟩ := get_some _ _ hlt
      obtain ⟨bl, off, cap2, hv, hb, hn, c1, c2, hi⟩ := Hl.out.at hM.below hx
      cases hv
      have HS := Lib.hid (take_succ_some _ _ _ hx)
      have htl : ((l.take k).map (turnV (fun y => plc li y 0))).length ≤ 1000000 := by rw [List.length_map]; have := take_len_le l k; omega
      have HM := Lib.hid hM
      have Htl := Lib.hid htl
      obtain ⟨r, m⟩ := y
      clear hx hM htl hi
      cases r
      · go_wp2_with (at_builtin; refine Mem.wp_appV elemVals rfl (.tmp 21) (.tmp 23) rfl (HM.out.alloc_ _) 0 rfl rfl _ ⟨false, m⟩ _ _ rfl (by simp) Htl.out ?_; intro ad n1 cp w1 hn1 hM3 hs1 hk1 ha1)
        go_roundw
        case rel => exact ⟨k + 1, by omega, by go_num, hM3.cast (by rw [HS.out]; simp [turnV])⟩
        case measure => simp [intOf]; omega
      · go_wp2_with fail
        refine (place_any _ li m _ (Hu.out.later (HM.out.alloc_ _).below)).mono ?_
        rintro e w1 ⟨rfl, rfl⟩
        go_wp2_with (at_builtin; refine Mem.wp_appV elemVals rfl (.tmp 21) (.tmp 23) rfl (HM.out.alloc_ _) 0 rfl rfl _ ⟨true, plc li m 0⟩ _ _ rfl (by simp) Htl.out ?_; intro ad n1 cp w1 hn1 hM3 hs1 hk1 ha1)
        go_roundw
        case rel => exact ⟨k + 1, by omega, by go_num, hM3.cast (by rw [HS.out]; simp [turnV])⟩
        case measure => simp [intOf]; omega
    · obtain rfl : k = l.length := by omega
      rw [List.take_length] at hM
      go_wp2
      go_ret
      exact ⟨_, rfl, hM⟩

theorem fits_len {g : G} (hG : Fits g) (x : Int) : (fieldsAt g x).length ≤ 1000 := by
  unfold fieldsAt
  rw [List.getD_eq_getElem?_getD]
  cases h : g.objs[x.toNat]? with
  | none => simp
  | some o => exact hG.fields o (List.mem_of_getElem? h)
theorem turnF_ok {g : G} (hG : Fits g) (l : List Int) (hl : l.length ≤ 1000) {v : V} (hv : v ∈ allV g) : i64ok (turnV (fun y => plc l y 0) v).n := by
  have h := hG.vals v hv
  obtain ⟨r, n⟩ := v
  cases r
  · exact h
  · simp only [turnV, if_true]
    have := plc_rng l n 0
    exact ⟨by omega, by omega⟩

set_option maxRecDepth 100000 in
set_option maxHeartbeats 4000000 in
theorem renumF_any (g : G) (hG : Fits g) (v : Value) (u : Value) (l : List Int) (w : World) (hg : IsGraph w v g) (hu : IsInts w u l) (hl : l.length ≤ 1000) (hr : ∀ x ∈ l, 0 ≤ x ∧ x < (g.objs.length : Int)) :
    Calls Try.prog 43 #[v, u] w fun e w' => ∃ v', e = .returned v' ∧ Graft w.heap.size w' v' (renumP g l (fun y => plc l y 0)) ∧ Below w.heap.size w w' := by
  obtain ⟨vo, vr, rfl, ho, hro⟩ := hg
  obtain ⟨ao, co, rfl, hlo⟩ := ho.slice
  obtain ⟨ar, cr, rfl, hlr⟩ := hro.slice
  obtain ⟨au, cu, rfl, hlu⟩ := hu.slice
  have Ho := Lib.hid ho
  have Hro := Lib.hid hro
  have Hu := Lib.hid hu
  have HR := Lib.hid hr
  clear ho hro hu hr
  have hM0 := ((Mem.start w).alloc #[.slice ao g.objs.length co, .slice ar g.roots.length cr] 25).allocAt (w.heap.size + 1) (by simp) #[.slice none 0 0, .slice none 0 0] 25
  go_enter Try.func43, Try.ntmps43
  go_wp2_with fail
  refine (turned_any _ _ g.roots _ l (Hro.out.later hM0.below) (Hu.out.later hM0.below) (by have := hG.roots; omega)).mono ?_
  rintro e w1 ⟨vR, rfl, hM1⟩
  obtain ⟨aR, nR, cR, rfl⟩ := hM1.isSlice 0 rfl
  have hM2 := hM0.callMem hM1
  obtain ⟨q, hq⟩ : ∃ q : Int → Int, (fun y => plc l y 0) = q := ⟨_, rfl⟩
  rw [hq] at hM2
  have hM3 := hM2.alloc #[.slice none 0 0, .slice aR nR cR] 25
  have hM4 : Mem w.heap.size w (w1.alloc (.cells #[.slice none 0 0, .slice aR nR cR] 25)) ([ebox w1.heap.size #[.slice none 0 0, .slice aR nR cR] 25, erow 94 1 (.slice none 0 0) 0 [], rowV 80 (.slice aR nR cR) (g.roots.map (turnV q)), ebox (w.heap.size + 1) #[.slice none 0 0, .slice none 0 0] 25, ebox w.heap.size #[.slice ao g.objs.length co, .slice ar g.roots.length cr] 25] ++ rowsE []) :=
    (hM3.nil 94 1).pick0 [1, 0, 2, 3, 4] (by decide) rfl
  have Hq := Lib.hid hq
  clear hM1 hM2 hM3 hq
  go_wp2
  go_loopw [15] (fun i wr => ∃ (k : Nat) (vO : Value) (rows : Rws), k ≤ l.length ∧ i = .int .i64 k ∧ rows.map (·.2) = (l.take k).map (fun x => (fieldsAt g x).map (turnV q)) ∧
    Mem w.heap.size w wr ([ebox w1.heap.size #[vO, .slice aR nR cR] 25, erow 94 1 vO k (rows.map (·.1)), rowV 80 (.slice aR nR cR) (g.roots.map (turnV q)), ebox (w.heap.size + 1) #[.slice none 0 0, .slice none 0 0] 25, ebox w.heap.size #[.slice ao g.objs.length co, .slice ar g.roots.length cr] 25] ++ rowsE rows))
    (fun i _ => l.length - (intOf i).toNat)
  case atStart => exact ⟨0, _, [], Nat.zero_le _, rfl, rfl, hM4⟩
  case round =>
    obtain ⟨k, vO, rows, hk, rfl, hrows, hM⟩ := hrel
    by_cases hlt : k < l.length
    · obtain ⟨x, hx⟩ := get_some _ _ hlt
      obtain ⟨bx, ox, cap2, hv, hb, hn, c1, hxi⟩ := Hu.out.at hM.below hx
      cases hv
      obtain ⟨hx0, hx1⟩ := HR.out x (List.mem_of_getElem? hx)
      obtain ⟨i, rfl⟩ : ∃ i : Nat, x = (i : Int) := ⟨x.toNat, by omega⟩
      have hi : i < g.objs.length := by omega
      obtain ⟨ob, hob⟩ := get_some _ _ hi
      obtain ⟨bo, oo, cap3, uo, hv2, hbo, hn3, c2, huo⟩ := Ho.out.at hM.below hob
      cases hv2
      obtain ⟨af, cf, rfl, hlf⟩ := huo.slice
      have s0 : wr.cell? ⟨w1.heap.size, 0, none⟩ = some vO := by have := hM.cell 0 rfl 0; simpa using this
      have s1 : wr.cell? ⟨w.heap.size, 0, none⟩ = some (.slice (some ⟨bo, oo, none⟩) g.objs.length co) := by have := hM.cell 4 rfl 0; simpa using this
      have Huo := Lib.hid (huo.later hM.below)
      have Hul := Lib.hid (Hu.out.later hM.below)
      have HM := Lib.hid hM
      have Hob := Lib.hid hob
      have Hx := Lib.hid hx
      have Hrows := Lib.hid hrows
      have hfl := hG.fields ob (List.mem_of_getElem? hob)
      clear hM hob hx hrows huo
      have hk1000 : k ≤ 1000000 := by omega
      have hgo : ob.length ≤ 1000 := by omega
      go_wp2
      go_region_law (first
        | (refine Mem.step_app1 elemObjs rfl (.tmp 20) (.tmp 30) rfl hM5 1 rfl rfl _ #[.slice aV nV cV] _ _ rfl rfl rfl rfl (by decide) hk1000 ?_
           intro ad cp w6 hM6 hs6 hk6
           have u0 : w6.cell? ⟨w1.heap.size, 0, none⟩ = some vO := by have := hM6.cell 0 rfl 0; simpa using this
           have u1 : w6.frozen? ⟨w1.heap.size, 0, none⟩ = false := hM6.free 0 rfl 0)
        | (go_simp
           refine (turned_any wr.drew _ ob _ l Huo.out Hul.out hgo).mono ?_
           rintro e w4 ⟨vv, rfl, hM4⟩
           rw [Hq.out] at hM4
           obtain ⟨aV, nV, cV, rfl⟩ := hM4.isSlice 0 rfl
           have hM5 := (HM.out.drew.callMem hM4).rowsSnoc
           have t0 : w4.cell? ⟨w1.heap.size, 0, none⟩ = some vO := by have := hM5.cell 0 rfl 0; simpa using this
           have t1 : w1.heap.size < w4.heap.size := (hM5.box 0 rfl).2.1))
      all_goals
        go_wp2
        go_roundw
        case rel =>
          refine ⟨k + 1, .slice ad (k + 1) cp, rows ++ [(.slice aV nV cV, ob.map (turnV q))], by omega, by go_num, ?_, ?_⟩
          · rw [take_succ_some _ _ _ Hx.out, List.map_append, List.map_append, Hrows.out]
            simp only [List.map_cons, List.map_nil]
            congr 2
            unfold fieldsAt
            rw [Int.toNat_natCast, List.getD_eq_getElem?_getD, Hob.out]; rfl
          · exact (hM6.setBox 0 rfl 0 (.slice ad (k + 1) cp)).cast (by simp)
        case measure => simp [intOf]; omega
    · obtain rfl : k = l.length := by omega
      rw [List.take_length] at hrows
      obtain ⟨aO, nO, cO, rfl⟩ := hM.isSlice 1 rfl
      have s0 : wr.cell? ⟨w1.heap.size, 0, none⟩ = some (.slice aO nO cO) := by have := hM.cell 0 rfl 0; simpa using this
      have s1 : wr.cell? ⟨w1.heap.size, 1, none⟩ = some (.slice aR nR cR) := by have := hM.cell 0 rfl 1; simpa using this
      have s2 : wr.cell? ⟨w.heap.size + 1, 0, none⟩ = some (.slice none 0 0) := by have := hM.cell 3 rfl 0; simpa using this
      have s3 : wr.cell? ⟨w.heap.size + 1, 1, none⟩ = some (.slice none 0 0) := by have := hM.cell 3 rfl 1; simpa using this
      have s4 : wr.frozen? ⟨w.heap.size + 1, 0, none⟩ = false := hM.free 3 rfl 0
      have s5 : wr.frozen? ⟨w.heap.size + 1, 1, none⟩ = false := hM.free 3 rfl 1
      have s6 : w.heap.size + 1 < wr.heap.size := (hM.box 3 rfl).2.1
      have hM6 := (hM.setBox 3 rfl 0 (.slice aO nO cO)).setBox 3 rfl 1 (.slice aR nR cR)
      have Hrows := Lib.hid hrows
      have HM6 := Lib.hid hM6
      clear hM hM6 hrows
      go_wp2
      obtain ⟨W6, hW6⟩ : ∃ W6, W6 = (wr.setCell ⟨w.heap.size + 1, 0, none⟩ (.slice aO nO cO)).setCell ⟨w.heap.size + 1, 1, none⟩ (.slice aR nR cR) := ⟨_, rfl⟩
      have hM7 := HM6.out
      rw [← hW6] at hM7 ⊢
      have r0 : W6.cell? ⟨w.heap.size + 1, 0, none⟩ = some (.slice aO nO cO) := by have := hM7.cell 3 rfl 0; simpa using this
      have r1 : W6.cell? ⟨w.heap.size + 1, 1, none⟩ = some (.slice aR nR cR) := by have := hM7.cell 3 rfl 1; simpa using this
      refine bodyPost_ret (v := .agg #[.slice aO nO cO, .slice aR nR cR]) (by simp [results, Try.results43, go_sem, r0, r1]) rfl ⟨_, rfl, ?_, hM7.below⟩
      intro W' hs' hb'
      have hM9 := hM7.move hs' hb'
      have hM8 : Mem w.heap.size W' W' (rowsE rows) := hM9.drop (List.sublist_append_right [_, _, _, _, _] _)
      refine ⟨_, _, rfl, ?_, ?_⟩
      · have hlen : rows.length = l.length := by have := congrArg List.length Hrows.out; simpa using this
        have h2 := isObjs_of_own (hM9.row 1 rfl) (by omega) (fun r hr => hM8.isValsM (e := 80) (List.mem_map.2 ⟨r, hr, rfl⟩) ?_ ?_)
        · rw [Hrows.out, ← Hq.out] at h2; exact h2
        · have h3 : r.2 ∈ rows.map (·.2) := List.mem_map.2 ⟨r, hr, rfl⟩
          rw [Hrows.out] at h3
          obtain ⟨x, _, he⟩ := List.mem_map.1 h3
          rw [← he, List.length_map]; have := fits_len hG x; omega
        · have h3 : r.2 ∈ rows.map (·.2) := List.mem_map.2 ⟨r, hr, rfl⟩
          rw [Hrows.out] at h3
          obtain ⟨x, _, he⟩ := List.mem_map.1 h3
          intro y hy
          rw [← he] at hy
          obtain ⟨z, hz, rfl⟩ := List.mem_map.1 hy
          rw [← Hq.out]
          exact turnF_ok hG l hl (fields_in g x z hz)
      · have h2 := hM9.isVals 2 rfl (by rw [List.length_map]; have := hG.roots; omega) (by
          intro y hy
          obtain ⟨z, hz, rfl⟩ := List.mem_map.1 hy
          rw [← Hq.out]
          exact turnF_ok hG l hl (roots_in g z hz))
        rw [← Hq.out] at h2; exact h2

end Go.Proofs.Ytmmcjjklmcfegaa

/- ragpickerref.Renumber of a good graph. -/
namespace Go.Proofs.Ytmmcjjklmcfegaa
open Go.RowKit Go.Shelf

theorem renumR_any (g : G) (hG : Good g) (v : Value) (u : Value) (l : List Int) (w : World) (hg : IsGraph w v g) (hu : IsInts w u l) (hl : l.length ≤ 1000) (hr : ∀ x ∈ l, 0 ≤ x ∧ x < (g.objs.length : Int)) :
    Calls Try.prog 43 #[v, u] w fun e w' => ∃ v', e = .returned v' ∧ Graft w.heap.size w' v' (renumP g l (fun y => plc l y 0)) ∧ Below w.heap.size w w' := renumF_any g hG.fits v u l w hg hu hl hr
end Go.Proofs.Ytmmcjjklmcfegaa

/- rotated, walked. -/
namespace Go.Proofs.Ytmmcjjklmcfegaa
open Go.RowKit Go.Shelf

def rot (n k : Nat) : List Int := (List.range n).map fun i => (((i + k) % n : Nat) : Int)
theorem rot_take (n k j : Nat) (h : j < n) : ((rot n k).take j) ++ [(((j + k) % n : Nat) : Int)] = (rot n k).take (j + 1) := by
  have : (rot n k)[j]? = some (((j + k) % n : Nat) : Int) := by simp [rot, h]
  rw [take_succ_some _ _ _ this]
theorem length_rot (n k : Nat) : (rot n k).length = n := by simp [rot]
theorem rot_rng (n k : Nat) : ∀ x ∈ rot n k, 0 ≤ x ∧ x < (n : Int) := by
  intro x hx
  obtain ⟨i, hi, rfl⟩ := List.mem_map.1 hx
  have := List.mem_range.1 hi
  have := Nat.mod_lt (i + k) (show 0 < n by omega)
  omega

set_option maxRecDepth 100000 in
set_option maxHeartbeats 1000000 in
theorem rotated_any (g : G) (hG : Good g) (k : Nat) (hk : k < g.objs.length) (v : Value) (w : World) (hg : IsGraph w v g) :
    Calls Try.prog 20 #[v, .int .i64 k] w fun e w' => ∃ v', e = .returned v' ∧ Graft w.heap.size w' v' (renumP g (rot g.objs.length k) (fun y => plc (rot g.objs.length k) y 0)) ∧ Below w.heap.size w w' := by
  have Hg := Lib.hid hg
  obtain ⟨vo, vr, rfl, ho, hr⟩ := hg
  obtain ⟨ao, co, rfl, hlo⟩ := ho.slice
  obtain ⟨ar, cr, rfl, hlr⟩ := hr.slice
  clear ho hr
  have hn24 := hG.objs
  have hM0 := (((Mem.start w).alloc #[.slice ao g.objs.length co, .slice ar g.roots.length cr] 25).allocAt (w.heap.size + 1) (by simp) #[.slice none 0 0, .slice none 0 0] 25).nilI 3
  obtain ⟨n, hn⟩ : ∃ n, g.objs.length = n := ⟨_, rfl⟩
  rw [hn] at hk hM0 hn24 ⊢
  go_enter Try.func20, Try.ntmps20
  go_wp2
  go_loopw [6, 7] (fun v i wr => ∃ j : Nat, j ≤ n ∧ i = .int .i64 j ∧ Mem w.heap.size w wr [rowI 3 v ((rot n k).take j), ebox (w.heap.size + 1) #[.slice none 0 0, .slice none 0 0] 25, ebox w.heap.size #[.slice ao n co, .slice ar g.roots.length cr] 25]) (fun _ i _ => n - (intOf i).toNat)
  case atStart => exact ⟨0, Nat.zero_le _, rfl, hM0⟩
  case round =>
    obtain ⟨j, hj, rfl, hM⟩ := hrel
    by_cases hlt : j < n
    · have HM := Lib.hid hM
      have Htk := Lib.hid (show ((rot n k).take j).length ≤ 1000000 by rw [List.length_take, length_rot]; omega)
      have hmod : ((j : Int) + k).tmod n = (((j + k) % n : Nat) : Int) := by rw [← Int.natCast_add]; exact Int.ofNat_tmod _ _
      have hn0 : ¬ (n : Int) = 0 := by omega
      clear hM
      go_wp2_with (at_builtin; refine Mem.wp_appI elemInts rfl (.tmp 16) (.tmp 22) rfl HM.out 0 rfl rfl _ (((j + k) % n : Nat) : Int) _ _ rfl (by simp) Htk.out ?_; intro ad n1 cp w1 hn1 hM3 hs1 hk1 ha1)
      go_roundw
      case rel => exact ⟨j + 1, by omega, by go_num, hM3.cast (by rw [rot_take _ _ _ hlt]; rfl)⟩
      case measure => simp [intOf]; omega
    · obtain rfl : j = n := by omega
      rw [List.take_of_length_le (by rw [length_rot]; exact Nat.le_refl _)] at hM
      obtain ⟨p0, p1⟩ := hM.cells2 2 rfl
      have hI : IsInts wr u6 (rot j k) := isInts_of_own (hM.ownI 0 rfl) (by rw [length_rot]; omega) (fun x hx => by have := rot_rng j k x hx; exact ⟨by omega, by omega⟩)
      have HI := Lib.hid hI
      have HM := Lib.hid hM
      clear hI hM
      go_wp2_with fail
      refine (renumR_any g hG _ _ (rot j k) _ (by rw [← hn]; exact Hg.out.later HM.out.below) HI.out (by rw [length_rot]; omega) (by rw [hn]; exact rot_rng j k)).mono ?_
      rintro e w3 ⟨v', rfl, hgr, hb3⟩
      obtain ⟨c, hc⟩ : ∃ c, c = renumP g (rot j k) (fun y => plc (rot j k) y 0) := ⟨_, rfl⟩
      rw [← hc] at hgr
      have HGr := Lib.hid hgr
      have hM4 := HM.out.call hb3
      obtain ⟨vo3, vr3, rfl, ho3, hr3⟩ := hgr.here
      obtain ⟨ao3, co3, rfl, _⟩ := ho3.slice
      obtain ⟨ar3, cr3, rfl, _⟩ := hr3.slice
      have Hc := Lib.hid hc
      clear hc hgr ho3 hr3
      obtain ⟨s2, s3⟩ := hM4.cells2 1 rfl
      have s4 : w3.frozen? ⟨w.heap.size + 1, 0, none⟩ = false := hM4.free 1 rfl 0
      have s5 : w3.frozen? ⟨w.heap.size + 1, 1, none⟩ = false := hM4.free 1 rfl 1
      have hM6 := (hM4.setBox 1 rfl 0 (.slice ao3 c.objs.length co3)).setBox 1 rfl 1 (.slice ar3 c.roots.length cr3)
      have HM6 := Lib.hid hM6
      clear hM4 hM6
      go_wp2
      obtain ⟨W6, hW6⟩ : ∃ W6, W6 = (w3.setCell ⟨w.heap.size + 1, 0, none⟩ (.slice ao3 c.objs.length co3)).setCell ⟨w.heap.size + 1, 1, none⟩ (.slice ar3 c.roots.length cr3) := ⟨_, rfl⟩
      have hM7 := HM6.out
      have hsz2 : w.heap.size + 1 < wr.heap.size := (HM.out.box 1 rfl).2.1
      rw [← hW6] at hM7 ⊢
      obtain ⟨r0, r1⟩ := hM7.cells2 (x := .slice ao3 c.objs.length co3) (y := .slice ar3 c.roots.length cr3) 1 rfl
      refine bodyPost_ret (v := .agg #[.slice ao3 c.objs.length co3, .slice ar3 c.roots.length cr3]) (by simp [results, Try.results20, go_sem, r0, r1]) rfl ⟨_, rfl, ?_, hM7.below⟩
      rw [← Hc.out]
      refine HGr.out.step (by omega) (by rw [hW6]; simp) ?_
      intro b h1 h2
      rw [hW6, heap_setCell_other _ _ _ _ (by simp only; omega), heap_setCell_other _ _ _ _ (by simp only; omega)]
end Go.Proofs.Ytmmcjjklmcfegaa

/- GraphRenamed, the plain law: a rotated graph, and one with an object more, have the same Canon. -/
namespace Go.Proofs.Ytmmcjjklmcfegaa

def idx (n : Nat) : List Int := (List.range n).map Int.ofNat
theorem mem_idx {n : Nat} {x : Int} : x ∈ idx n ↔ 0 ≤ x ∧ x < n := by
  unfold idx
  rw [List.mem_map]
  constructor
  · rintro ⟨i, hi, rfl⟩; have := List.mem_range.1 hi; show 0 ≤ (i : Int) ∧ (i : Int) < n; omega
  · intro h; exact ⟨x.toNat, List.mem_range.2 (by omega), by show ((x.toNat : Nat) : Int) = x; omega⟩

theorem rot_get {n k i : Nat} (h : i < n) : (rot n k)[i]? = some (((i + k) % n : Nat) : Int) := by simp [rot, h]
theorem rot_inj {n k i j : Nat} (hi : i < n) (hj : j < n) (hk : k < n) (h : (i + k) % n = (j + k) % n) : i = j := by
  rcases Nat.lt_or_ge (i + k) n with h1 | h1 <;> rcases Nat.lt_or_ge (j + k) n with h2 | h2
  · rw [Nat.mod_eq_of_lt h1, Nat.mod_eq_of_lt h2] at h; omega
  · rw [Nat.mod_eq_of_lt h1, Nat.mod_eq_sub_mod h2, Nat.mod_eq_of_lt (by omega)] at h; omega
  · rw [Nat.mod_eq_of_lt h2, Nat.mod_eq_sub_mod h1, Nat.mod_eq_of_lt (by omega)] at h; omega
  · rw [Nat.mod_eq_sub_mod h1, Nat.mod_eq_of_lt (show i + k - n < n by omega), Nat.mod_eq_sub_mod h2, Nat.mod_eq_of_lt (by omega)] at h; omega
theorem rot_has {n k : Nat} (hk : k < n) {a : Nat} (ha : a < n) : ∃ i, i < n ∧ (i + k) % n = a := by
  rcases Nat.lt_or_ge a k with h | h
  · exact ⟨a + n - k, by omega, by rw [show a + n - k + k = a + n by omega, Nat.add_mod_right, Nat.mod_eq_of_lt ha]⟩
  · exact ⟨a - k, by omega, by rw [show a - k + k = a by omega, Nat.mod_eq_of_lt ha]⟩
/-- Where a number stands in the rotated row. -/
theorem rot_plc {n k : Nat} (hk : k < n) {x : Int} (hx : 0 ≤ x ∧ x < n) : ∃ i, i < n ∧ plc (rot n k) x 0 = (i : Int) ∧ (rot n k)[i]? = some x := by
  obtain ⟨i, hi, he⟩ := rot_has hk (show x.toNat < n by omega)
  have hg : (rot n k)[i]? = some x := by rw [rot_get hi, he]; congr 1; omega
  refine ⟨i, hi, ?_, hg⟩
  rw [plc_get _ x 0 i hg ?_, Nat.zero_add]
  intro j hj e
  rw [rot_get (by omega)] at e
  have e2 : (j + k) % n = (i + k) % n := by rw [he]; injection e with e; omega
  have := rot_inj (by omega) hi hk e2
  omega

theorem good_targets {g : G} (hG : Good g) : (∀ j ∈ targets g.roots, j ∈ idx g.objs.length) ∧ ∀ x j, j ∈ targets (fieldsAt g x) → j ∈ idx g.objs.length :=
  ⟨fun _ hj => mem_idx.2 (hG.target (roots_all g) hj), fun x _ hj => mem_idx.2 (hG.target (fields_all g x) hj)⟩

theorem iso_rot {g : G} (hG : Good g) {k : Nat} (hk : k < g.objs.length) : Iso g (renumP g (rot g.objs.length k) (fun y => plc (rot g.objs.length k) y 0)) (idx g.objs.length) (fun y => plc (rot g.objs.length k) y 0) := by
  have hlen : (renumP g (rot g.objs.length k) (fun y => plc (rot g.objs.length k) y 0)).objs.length = g.objs.length := by simp [renumP, length_rot]
  obtain ⟨ht1, ht2⟩ := good_targets hG
  refine ⟨?_, ?_, rfl, ht1, ?_, fun x _ j hj => ht2 x j hj⟩
  · intro x hx
    have h1 := mem_idx.1 hx
    obtain ⟨i, hi, he, _⟩ := rot_plc hk h1
    rw [hlen]
    simp only [he]
    omega
  · intro x hx y hy h
    obtain ⟨i, hi, he, hg⟩ := rot_plc hk (mem_idx.1 hx)
    obtain ⟨j, hj, he2, hg2⟩ := rot_plc hk (mem_idx.1 hy)
    simp only [he, he2] at h
    have : i = j := by omega
    subst this
    rw [hg] at hg2; cases hg2; rfl
  · intro x hx
    obtain ⟨i, hi, he, hg⟩ := rot_plc hk (mem_idx.1 hx)
    simp only [he]
    show ((rot g.objs.length k).map _).getD (i : Int).toNat [] = _
    rw [Int.toNat_natCast, List.getD_eq_getElem?_getD, List.getElem?_map, hg]; rfl

theorem good_rot {g : G} (hG : Good g) {k : Nat} (hk : k < g.objs.length) : Good (renumP g (rot g.objs.length k) (fun y => plc (rot g.objs.length k) y 0)) := by
  have hlen : (renumP g (rot g.objs.length k) (fun y => plc (rot g.objs.length k) y 0)).objs.length = g.objs.length := by simp [renumP, length_rot]
  have hv : ∀ v ∈ allV g, badC (turnV (fun y => plc (rot g.objs.length k) y 0) v) g.objs.length = 0 := by
    intro v hv
    have h := hG.vals v hv
    obtain ⟨r, n⟩ := v
    cases r
    · exact h
    · unfold badC at h
      simp only [if_true] at h
      split at h
      · cases h
      · obtain ⟨i, hi, he, _⟩ := rot_plc hk (show 0 ≤ n ∧ n < (g.objs.length : Int) by omega)
        simp only [turnV, if_true, he, badC]
        rw [if_neg (by omega)]
  refine ⟨by rw [hlen]; exact hG.objs, by simpa [renumP] using hG.roots, ?_, ?_⟩
  · intro o ho
    obtain ⟨x, _, rfl⟩ := List.mem_map.1 ho
    rw [List.length_map]; exact fieldsAt_len hG x
  · rw [hlen]
    intro v hv2
    rcases List.mem_append.1 hv2 with h | h
    · obtain ⟨z, hz, rfl⟩ := List.mem_map.1 h
      exact hv z (roots_all g z hz)
    · obtain ⟨o, ho, hvo⟩ := List.mem_flatten.1 h
      obtain ⟨x, _, rfl⟩ := List.mem_map.1 ho
      obtain ⟨z, hz, rfl⟩ := List.mem_map.1 hvo
      exact hv z (fields_all g x z hz)

def more (g : G) : G := ⟨g.objs ++ [[⟨true, 0⟩]], g.roots⟩
theorem turn_id {p : Int → Int} {l : List V} (h : ∀ x, p x = x) : l.map (turnV p) = l := by
  conv => rhs; rw [← List.map_id l]
  apply List.map_congr_left
  intro v _
  obtain ⟨r, n⟩ := v
  cases r <;> simp [turnV, h]
theorem iso_more {g : G} (hG : Good g) : Iso g (more g) (idx g.objs.length) (fun y => y) := by
  obtain ⟨ht1, ht2⟩ := good_targets hG
  refine ⟨?_, fun x _ y _ h => h, (turn_id (fun _ => rfl)).symm, ht1, ?_, fun x _ j hj => ht2 x j hj⟩
  · intro x hx
    have := mem_idx.1 hx
    simp [more]; omega
  · intro x hx
    have := mem_idx.1 hx
    rw [turn_id (fun _ => rfl)]
    unfold fieldsAt more
    rw [List.getD_eq_getElem?_getD, List.getD_eq_getElem?_getD, List.getElem?_append_left (by omega)]
theorem good_more {g : G} (hG : Good g) (hn : g.objs.length < 24) : Good (more g) := by
  refine ⟨by simp [more]; omega, hG.roots, ?_, ?_⟩
  · intro o ho
    rcases List.mem_append.1 ho with h | h
    · exact hG.fields o h
    · simp at h; subst h; simp
  · intro v hv
    have hlen : (more g).objs.length = g.objs.length + 1 := by simp [more]
    rw [hlen]
    have hold : ∀ v ∈ allV g, badC v ((g.objs.length + 1 : Nat) : Int) = 0 := by
      intro v hv
      have h := hG.vals v hv
      unfold badC at h ⊢
      split
      · rename_i hr
        rw [if_pos hr] at h
        split at h
        · cases h
        · rw [if_neg (by omega)]
      · rename_i hr
        rw [if_neg hr] at h
        exact h
    rcases List.mem_append.1 hv with h | h
    · exact hold v (roots_all g v h)
    · simp only [more, List.flatten_append, List.mem_append] at h
      rcases h with h | h
      · exact hold v (List.mem_append_right _ h)
      · simp at h; subst h; simp [badC]
end Go.Proofs.Ytmmcjjklmcfegaa

/- ragpickerref.Values, Graphs, walked. -/
namespace Go.Proofs.Ytmmcjjklmcfegaa
open Go.RowKit Go.Shelf

set_option maxRecDepth 100000 in
set_option maxHeartbeats 400000 in
theorem values_eq (u v : Value) (l m : List V) (w : World) (hl : IsVals w u l) (hm : IsVals w v m) :
    Calls Try.prog 41 #[u, v] w fun e w' => e = .returned (.bool (decide (l = m))) ∧ ∃ q, w' = w.drewN q := by
  obtain ⟨a, cap, rfl, hl0⟩ := hl.slice
  obtain ⟨a', cap', rfl, hm0⟩ := hm.slice
  have Hl := Lib.hid hl
  have Hm := Lib.hid hm
  clear hl hm
  by_cases hlen : l.length = m.length
  · have Hlen := Lib.hid hlen
    have hlen2 : (m.length : Int) = l.length := by omega
    go_enter Try.func41, Try.ntmps41
    go_wp2
    clear hlen hlen2
    go_loopw [5] (fun i wr => ∃ k : Nat, k ≤ l.length ∧ i = .int .i64 k ∧ l.take k = m.take k ∧ ∃ q, wr = w.drewN q) (fun i _ => l.length - (intOf i).toNat)
    case atStart => exact ⟨0, Nat.zero_le _, rfl, rfl, 0, rfl⟩
    case round =>
      obtain ⟨k, hk, rfl, hT, q, rfl⟩ := hrel
      by_cases hlt : k < l.length
      · obtain ⟨x, hx⟩ := get_some _ _ hlt
        obtain ⟨y, hy⟩ := get_some m k (by have := Hlen.out; omega)
        have hltm : k < m.length := by have := Hlen.out; omega
        obtain ⟨b, off, cap2, hv, hb, hn, c1, c2, _⟩ := Hl.out.at (Below.refl _ _) hx
        cases hv
        obtain ⟨b', off', cap2', hv', hb', hn', d1, d2, _⟩ := Hm.out.at (Below.refl _ _) hy
        cases hv'
        have HS := Lib.hid (take_succ_some _ _ _ hx)
        have HS2 := Lib.hid (take_succ_some _ _ _ hy)
        have Hx := Lib.hid hx
        have Hy := Lib.hid hy
        have HT := Lib.hid hT
        clear hx hy hT
        obtain ⟨r, n⟩ := x
        obtain ⟨r', n'⟩ := y
        by_cases hxy : r = r' ∧ n = n'
        · obtain ⟨rfl, rfl⟩ := hxy
          go_wp2
          go_quiet (fail)
          go_wp2
          go_roundw
          case rel => exact ⟨k + 1, by omega, by go_num, by rw [HS.out, HS2.out, HT.out], _, rfl⟩
          case measure => simp [intOf]; omega
        · have hne : l ≠ m := take_ne Hx.out Hy.out (by intro e; cases e; exact hxy ⟨rfl, rfl⟩)
          have Hne := Lib.hid hne
          clear hne
          cases r <;> cases r'
          · have hn : ¬ n = n' := fun e => hxy ⟨rfl, e⟩
            clear hxy
            go_wp2
            go_quiet (fail)
            go_wp2
            go_ret
            exact ⟨by simp [Hne.out], _, World.drewN_drewN _ _ _⟩
          · clear hxy
            go_wp2
            go_quiet (fail)
            go_wp2
            go_ret
            exact ⟨by simp [Hne.out], _, World.drewN_drewN _ _ _⟩
          · clear hxy
            go_wp2
            go_quiet (fail)
            go_wp2
            go_ret
            exact ⟨by simp [Hne.out], _, World.drewN_drewN _ _ _⟩
          · have hn : ¬ n = n' := fun e => hxy ⟨rfl, e⟩
            clear hxy
            go_wp2
            go_quiet (fail)
            go_wp2
            go_ret
            exact ⟨by simp [Hne.out], _, World.drewN_drewN _ _ _⟩
      · obtain rfl : k = l.length := by omega
        have he : l = m := by have := Hlen.out; rw [List.take_length, this, List.take_length] at hT; exact hT
        have He := Lib.hid he
        clear he hT
        go_wp2
        go_ret
        exact ⟨by simp [He.out], _, rfl⟩
  · have hne : l ≠ m := by rintro rfl; exact hlen rfl
    have Hne := Lib.hid hne
    clear hne
    go_enter Try.func41, Try.ntmps41
    go_wp2
    go_ret
    exact ⟨by simp [Hne.out], 0, rfl⟩

theorem graphs_parts {g h : G} (h1 : g.objs.length = h.objs.length) (h2 : ∀ (k : Nat) (x y : List V), g.objs[k]? = some x → h.objs[k]? = some y → x = y) (h3 : g.roots = h.roots) : g = h := by
  obtain ⟨o, r⟩ := g
  obtain ⟨o', r'⟩ := h
  simp only at h1 h2 h3
  subst h3
  congr 1
  apply List.ext_getElem h1
  intro i hi hi'
  exact h2 i _ _ (List.getElem?_eq_getElem hi) (List.getElem?_eq_getElem hi')

set_option maxRecDepth 100000 in
set_option maxHeartbeats 400000 in
theorem graphs_same (u v : Value) (g : G) (w : World) (hu : IsGraph w u g) (hv : IsGraph w v g) :
    Calls Try.prog 18 #[u, v] w fun e w' => e = .returned (.bool true) ∧ Below w.heap.size w w' := by
  obtain ⟨uo, ur, rfl, huo, hur⟩ := hu
  obtain ⟨vo, vr, rfl, hvo, hvr⟩ := hv
  obtain ⟨a1, c1, rfl, _⟩ := huo.slice
  obtain ⟨a2, c2, rfl, _⟩ := hur.slice
  obtain ⟨a3, c3, rfl, _⟩ := hvo.slice
  obtain ⟨a4, c4, rfl, _⟩ := hvr.slice
  have Huo := Lib.hid huo
  have Hur := Lib.hid hur
  have Hvo := Lib.hid hvo
  have Hvr := Lib.hid hvr
  clear huo hur hvo hvr
  have hM0 := ((Mem.start w).alloc #[.slice a1 g.objs.length c1, .slice a2 g.roots.length c2] 25).allocAt (w.heap.size + 1) (by simp) #[.slice a3 g.objs.length c3, .slice a4 g.roots.length c4] 25
  go_enter Try.func18, Try.ntmps18
  go_wp2_with fail
  refine (values_eq _ _ g.roots g.roots _ (Hur.out.later hM0.below) (Hvr.out.later hM0.below)).mono ?_
  rintro e w1 ⟨rfl, q1, rfl⟩
  have hd : decide (g.roots = g.roots) = true := by simp
  rw [hd]
  clear hd
  have hM1 := hM0.drewN q1
  go_wp2
  go_loopw [5] (fun i wr => ∃ k : Nat, k ≤ g.objs.length ∧ i = .int .i64 k ∧ Mem w.heap.size w wr [ebox (w.heap.size + 1) #[.slice a3 g.objs.length c3, .slice a4 g.roots.length c4] 25, ebox w.heap.size #[.slice a1 g.objs.length c1, .slice a2 g.roots.length c2] 25]) (fun i _ => g.objs.length - (intOf i).toNat)
  case atStart => exact ⟨0, Nat.zero_le _, rfl, hM1⟩
  case round =>
    obtain ⟨k, hk, rfl, hM⟩ := hrel
    have p0 : wr.cell? ⟨w.heap.size + 1, 0, none⟩ = some (.slice a3 g.objs.length c3) := by have := hM.cell 0 rfl 0; simpa using this
    have p1 : wr.cell? ⟨w.heap.size, 0, none⟩ = some (.slice a1 g.objs.length c1) := by have := hM.cell 1 rfl 0; simpa using this
    by_cases hlt : k < g.objs.length
    · obtain ⟨x, hx⟩ := get_some _ _ hlt
      obtain ⟨b, off, cap2, ux, hv, hb, hn, d1, hux⟩ := Huo.out.at hM.below hx
      cases hv
      obtain ⟨b', off', cap2', uy, hv', hb', hn', d2, huy⟩ := Hvo.out.at hM.below hx
      cases hv'
      obtain ⟨ax, cx, rfl, _⟩ := hux.slice
      obtain ⟨ay, cy, rfl, _⟩ := huy.slice
      have Hux := Lib.hid (hux.later hM.below)
      have Huy := Lib.hid (huy.later hM.below)
      have HM := Lib.hid hM
      have htrue : ∀ n, Calls Try.prog 41 #[.slice ax x.length cx, .slice ay x.length cy] (wr.drewN n) fun e w'' => e = .returned (.bool true) ∧ ∃ m, w'' = (wr.drewN n).drewN m := by
        intro n
        have := values_eq _ _ x x (wr.drewN n) (Hux.out.later ⟨rfl, rfl, rfl, Nat.le_refl _, fun _ _ => rfl⟩) (Huy.out.later ⟨rfl, rfl, rfl, Nat.le_refl _, fun _ _ => rfl⟩)
        rwa [show decide (x = x) = true by simp] at this
      have Ht := Lib.hid htrue
      clear hx hux huy hM htrue
      go_wp2
      go_quiet (refine Calls.quiet_of (Ht.out _))
      go_wp2
      go_roundw
      case rel => exact ⟨k + 1, by omega, by go_num, HM.out.drewN _⟩
      case measure => simp [intOf]; omega
    · obtain rfl : k = g.objs.length := by omega
      go_wp2
      go_ret
      exact ⟨rfl, hM.below⟩
end Go.Proofs.Ytmmcjjklmcfegaa
