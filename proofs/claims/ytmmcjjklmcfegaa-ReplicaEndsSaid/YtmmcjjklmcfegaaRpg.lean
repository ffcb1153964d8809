/- A memory that is copied: a register without a copy is looked for, walked. -/
import Derived.Test.YtmmcjjklmcfegaaRpf
namespace Go.Proofs.Ytmmcjjklmcfegaa
open Go.RowKit Go.Shelf

section
variable (B : Nat) (w0 : World) (bx : Nat) (regs : List V) (mv : Value) (bm : Nat)
def FindSays (os : Os) (x : Px) (rg : List V) (T : List Ent) (e : Ending) (w' : World) : Prop :=
  (rg.find? (needs x.cps) = none → e = .returned (.int .i64 (-1)) ∧ PM B w0 bx regs mv bm os x T w') ∧
  (∀ v, rg.find? (needs x.cps) = some v → ∃ r : Int, e = .returned (.int .i64 r) ∧ 0 ≤ r ∧ PM B w0 bx regs mv bm os { x with cps := (copied os (x.cps, x.made) v).1, made := (copied os (x.cps, x.made) v).2 } T w')
set_option maxRecDepth 100000 in
set_option maxHeartbeats 4000000 in
theorem findC_any (T : List Ent) (w : World) (os : Os) (x : Px) (hO : OkP os x) (rg : List V) (n : Nat) (hn : rg.length = n) (hn8 : n ≤ 8) (hrg : ∀ v ∈ rg, i64ok v.n ∧ (v.ref = true → Lives os v.n)) (b3 : Nat) (hb3 : ebox b3 (rg.flatMap cellsV).toArray 82 ∈ T) (hC : PM B w0 bx regs mv bm os x T w) :
    Calls Try.prog 98 #[.slice (some ⟨b3, 0, none⟩) n n, .func (.func 79) #[.pointer (some ⟨bm, 0, none⟩)] #[]] w fun e w' => FindSays B w0 bx regs mv bm os x rg T e w' := by
  have HO := Lib.hid hO
  have Hn := Lib.hid hn
  have Hrg := Lib.hid hrg
  have Hb3 := Lib.hid hb3
  have HC := Lib.hid hC
  clear hO hn hrg hb3 hC
  go_enter Try.func98, Try.ntmps98
  go_upto_region 2 with (fail)
  go_loopw [5, 8] (fun _ s8 wr => ∃ k : Nat, k ≤ n ∧ s8 = .int .i64 (k : Int) ∧ (∀ v ∈ rg.take k, needs x.cps v = false) ∧ PM B w0 bx regs mv bm os x T wr) (fun _ i _ => n - (intOf i).toNat)
  case atStart => exact ⟨0, Nat.zero_le _, rfl, by simp, HC.out⟩
  case round =>
    clear HC
    obtain ⟨k, hk, rfl, hno, hM⟩ := hrel
    by_cases hlt : k < n
    · obtain ⟨v, hv⟩ := get_some rg k (by rw [Hn.out]; exact hlt)
      have hvm := List.mem_of_getElem? hv
      obtain ⟨Lt, hLt, hLtm⟩ := hM.tail
      have hbm := hLtm _ Hb3.out
      obtain ⟨h1, h2⟩ := getElem_cellsV rg k v hv
      have c0 : wr.cell? ⟨b3, k * 2, none⟩ = some (.bool v.ref) := hLt.boxCell hbm (k * 2) (by rw [List.getElem?_toArray]; exact h1)
      have c1 : wr.cell? ⟨b3, k * 2 + 1, none⟩ = some (.int .i64 v.n) := hLt.boxCell hbm (k * 2 + 1) (by rw [List.getElem?_toArray]; exact h2)
      have cb : b3 < wr.heap.size := (hLt.boxFree hbm 0).2
      obtain ⟨hvi, hvl⟩ := Hrg.out v hvm
      have hO := HO.out
      have hcp := copied_any B w0 bx regs mv bm T wr os x v hvi hvl hO.cp.cl hO.len (by have := hO.made; have := hO.len; omega) (hO.len4 _) hM
      have htk := take_succ_some _ _ _ hv
      have e1 : (k : Int) < (n : Int) := by omega
      have Hcp := Lib.hid hcp
      have Hno := Lib.hid hno
      have Htk := Lib.hid htk
      have Hv := Lib.hid hv
      clear hcp hM hLt hLtm hbm h1 h2 hvm hv hvi hvl hO htk hno
      go_wp2_with fail
      refine Hcp.out.mono ?_
      rintro e w2 ⟨rfl, hM2⟩
      have HM2 := Lib.hid hM2
      clear hM2
      by_cases hnd : needs x.cps v = true
      · rw [hnd]
        have hf : rg.find? (needs x.cps) = some v := by
          have e : rg = rg.take k ++ v :: rg.drop (k + 1) := by
            conv => lhs; rw [← List.take_append_drop k rg]
            rw [List.drop_eq_getElem_cons (List.getElem?_eq_some_iff.1 Hv.out).1]
            congr 2
            exact (List.getElem?_eq_some_iff.1 Hv.out).2
          rw [e, List.find?_append, List.find?_eq_none.2 (fun u hu => by rw [Hno.out u hu]; decide)]
          simp [hnd]
        have Hf := Lib.hid hf
        clear hf hnd
        go_wp2_with fail
        go_ret
        refine ⟨fun h => (by rw [Hf.out] at h; cases h), fun u hu => ⟨(k : Int), rfl, by omega, ?_⟩⟩
        rw [Hf.out] at hu
        cases hu
        exact HM2.out
      · have hnf : needs x.cps v = false := by simpa using hnd
        have hcpd : copied os (x.cps, x.made) v = (x.cps, x.made) := by unfold copied; rw [if_neg hnd]
        have hM3 := HM2.out
        rw [hcpd] at hM3
        have HM3 := Lib.hid hM3
        have Hnx : Hid (∀ u ∈ rg.take (k + 1), needs x.cps u = false) := Lib.hid (by
          rw [Htk.out]
          intro u hu
          rcases List.mem_append.1 hu with hu | hu
          · exact Hno.out u hu
          · rw [List.mem_singleton] at hu; rw [hu]; exact hnf)
        rw [hnf]
        clear hM3 hcpd hnd hnf HM2
        go_wp2_with fail
        go_roundw
        case rel => exact ⟨k + 1, by omega, by go_num, Hnx.out, HM3.out⟩
        case measure => simp [intOf]; omega
    · obtain rfl : k = n := by omega
      rw [List.take_of_length_le (by rw [Hn.out]; exact Nat.le_refl _)] at hno
      have Hf : Hid (rg.find? (needs x.cps) = none) := Lib.hid (List.find?_eq_none.2 (fun u hu => by rw [hno u hu]; decide))
      have HM := Lib.hid hM
      clear hno hM
      go_wp2_with fail
      go_ret
      exact ⟨fun _ => ⟨rfl, HM.out⟩, fun u hu => by rw [Hf.out] at hu; cases hu⟩
def HitSays (os : Os) (x : Px) (rg : List V) (T : List Ent) (e : Ending) (w' : World) : Prop :=
  (rg.find? (needs x.cps) = none → e = .returned (.bool false) ∧ PM B w0 bx regs mv bm os x T w') ∧
  (∀ v, rg.find? (needs x.cps) = some v → e = .returned (.bool true) ∧ PM B w0 bx regs mv bm os { x with cps := (copied os (x.cps, x.made) v).1, made := (copied os (x.cps, x.made) v).2 } T w')
set_option maxRecDepth 100000 in
set_option maxHeartbeats 2000000 in
theorem hitC_any (T : List Ent) (w : World) (os : Os) (x : Px) (hO : OkP os x) (rg : List V) (n : Nat) (hn : rg.length = n) (hn8 : n ≤ 8) (hrg : ∀ v ∈ rg, i64ok v.n ∧ (v.ref = true → Lives os v.n)) (b3 : Nat) (hb3 : ebox b3 (rg.flatMap cellsV).toArray 82 ∈ T) (hC : PM B w0 bx regs mv bm os x T w) :
    Calls Try.prog 78 #[.slice (some ⟨b3, 0, none⟩) n n, .func (.func 79) #[.pointer (some ⟨bm, 0, none⟩)] #[]] w fun e w' => HitSays B w0 bx regs mv bm os x rg T e w' := by
  have HF := Lib.hid (findC_any B w0 bx regs mv bm T w os x hO rg n hn hn8 hrg b3 hb3 hC)
  clear hO hn hrg hb3 hC
  go_enter Try.func78, Try.ntmps78
  go_wp2_with fail
  refine HF.out.mono ?_
  intro e w2 h
  cases hf : rg.find? (needs x.cps) with
  | none =>
    obtain ⟨rfl, hM⟩ := h.1 hf
    have HM := Lib.hid hM
    have Hf := Lib.hid hf
    clear hM h hf
    go_wp2_with fail
    go_ret
    exact ⟨fun _ => ⟨rfl, HM.out⟩, fun u hu => by rw [Hf.out] at hu; cases hu⟩
  | some v =>
    obtain ⟨r, rfl, hr, hM⟩ := h.2 v hf
    have HM := Lib.hid hM
    have Hf := Lib.hid hf
    clear hM h hf
    go_wp2_with fail
    go_ret
    refine ⟨fun hu => (by rw [Hf.out] at hu; cases hu), fun u hu => ⟨rfl, ?_⟩⟩
    rw [Hf.out] at hu
    cases hu
    exact HM.out
end
end Go.Proofs.Ytmmcjjklmcfegaa
