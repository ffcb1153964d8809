/- Counting: what holds itself up stays. Plain. -/
import Derived.Test.YtmmcjjklmcfegaaV3
namespace Go.Proofs.Ytmmcjjklmcfegaa

/-- Each of some is pointed at by a register, or by one of them. -/
structure Sup (rg : List V) (os : Os) (Z : Int → Prop) : Prop where
  lives : ∀ i, Z i → Lives os i
  held : ∀ i, Z i → (∃ v ∈ rg, v.ref = true ∧ v.n = i) ∨ ∃ k, Z k ∧ ∃ v ∈ objAt os k, v.ref = true ∧ v.n = i
theorem objAt_unset {os : Os} {i k : Int} (hi : 0 ≤ i) (hk : 0 ≤ k) (h : k ≠ i) : objAt (os.set i.toNat none) k = objAt os k := by
  unfold objAt
  rw [List.getElem?_set_ne (by omega)]
theorem Sup.drop {rg q : List V} {s : Cst} {Z : Int → Prop} (h : Sup rg s.os Z) (hI : InvP rg s q) {i : Int} (hi : Lives s.os i) (h0 : s.cs[i.toNat]? = some 0) : Sup rg (s.os.set i.toNat none) Z := by
  have hc := hI.at hi
  rw [h0] at hc
  have hz : cnt rg i = 0 ∧ cnt (allO s.os) i = 0 := by
    have := Option.some.inj hc
    omega
  have hni : ¬ Z i := by
    intro hZ
    rcases h.held i hZ with ⟨v, hv, hr, hn⟩ | ⟨k, hk, v, hv, hr, hn⟩
    · exact cnt_zero hz.1 hv hr hn
    · exact cnt_zero hz.2 (mem_allO (h.lives k hk).obj hv) hr hn
  refine ⟨fun j hj => (h.lives j hj).unset hi.1 (fun e => hni (e ▸ hj)), fun j hj => ?_⟩
  rcases h.held j hj with h1 | ⟨k, hk, v, hv, hr, hn⟩
  · exact .inl h1
  · exact .inr ⟨k, hk, v, by rw [objAt_unset hi.1 (h.lives k hk).1 (fun e => hni (e ▸ hk))]; exact hv, hr, hn⟩
theorem Dn.sup {rg p : List V} {s t : Cst} {Z : Int → Prop} (h : Dn p s t) : ∀ q, InvP rg s (p ++ q) → Sup rg s.os Z → Sup rg t.os Z := by
  induction h with
  | nil s => intro q _ hS; exact hS
  | num hr _ ih => intro q hI hS; exact ih q (hI.num hr) hS
  | dec k hr hk hne _ ih =>
    intro q hI hS
    obtain ⟨k', hk', _, _, hI2⟩ := hI.dec hr
    rw [hk] at hk'
    cases hk'
    exact ih q hI2 hS
  | @drop v p s t u hr hk h1 h2 ih1 ih2 =>
    intro q hI hS
    have hv := hI.held v (by simp) hr
    obtain ⟨k', hk', _, _, hI2⟩ := hI.dec hr
    rw [hk] at hk'
    cases hk'
    have hlt : v.n.toNat < s.cs.length := (List.getElem?_eq_some_iff.1 hk).1
    have h0 : (s.cs.set v.n.toNat (1 - 1))[v.n.toNat]? = some 0 := by rw [List.getElem?_set_self hlt]; rfl
    have hD := hI2.drop (i := v.n) hv h0 (s.gone ++ [v.n])
    have hS2 := Sup.drop (s := ⟨s.os, s.cs.set v.n.toNat (1 - 1), s.gone⟩) hS hI2 (i := v.n) hv h0
    have hT := ih1 (p ++ q) hD hS2
    have hE := (dnF_end (p := objAt s.os v.n) (q := p ++ q) hD)
    have ht := hE.1.det h1
    rw [ht] at hE
    exact ih2 q hE.2.inv hT
theorem zap1_sup {rg : List V} {s : Cst} {i : Nat} {Z : Int → Prop} (hI : InvP rg s []) (hS : Sup rg s.os Z) : Sup rg (zap1 s i).os Z := by
  unfold zap1
  split
  · rename_i hc
    have hl := lives_some hc.2
    have h0 : s.cs[((i : Nat) : Int).toNat]? = some 0 := by
      have := hI.at hl
      rw [this]
      have h2 := hc.1
      rw [Int.toNat_natCast] at this
      rw [List.getD_eq_getElem?_getD, this] at h2
      simp only [Option.getD_some] at h2
      rw [h2]
    have hD := hI.drop hl h0 (s.gone ++ [(i : Int)])
    have hS2 := hS.drop hI hl h0
    rw [Int.toNat_natCast] at hD hS2
    exact (dnF_end (p := objAt s.os (i : Int)) (q := []) hD).1.sup [] hD hS2
  · exact hS
theorem zaps_sup {rg : List V} {s : Cst} {Z : Int → Prop} (hI : InvP rg s []) (hS : Sup rg s.os Z) : ∀ k : Nat, k ≤ s.os.length → Sup rg (zaps s k).os Z := by
  intro k
  induction k with
  | zero => exact fun _ => hS
  | succ k ih =>
    intro hk
    rw [zaps_succ]
    exact zap1_sup (zaps_end hI k (by omega)).1.inv (ih (by omega))
end Go.Proofs.Ytmmcjjklmcfegaa
