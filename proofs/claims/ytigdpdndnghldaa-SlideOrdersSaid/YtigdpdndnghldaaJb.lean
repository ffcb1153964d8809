/- slide.turned: words with references to where objects come to stand. Walked. -/
import Derived.Test.YtigdpdndnghldaaJa
import Derived.Test.YtigdpdndnghldaaBase2
namespace Go.Proofs.Ytigdpdndnghldaa
open Go.RowKit Go.Shelf Go.Maps

/-- The map tells of each object that lives where it comes to stand. -/
def Tells (w : World) (bm : Nat) (os : List Ob) (F R : List Int) : Prop := ∀ (i : Nat) (X : World), i < os.length → (i : Int) ∈ F → Below w.heap.size w X →
  (Instr.lookup 97 (.map (some bm)) (.int .i64 (place os i)) false).run Try.prog X = .ok (.int .i64 (placeF os R (plc R i 0).toNat : Nat)) X
theorem Tells.later {w w' : World} {bm : Nat} {os : List Ob} {F R : List Int} (h : Tells w bm os F R) (hB : Below w.heap.size w w') : Tells w' bm os F R := fun i X hi hF hX => h i X hi hF (hB.trans (hX.mono hB.size))

set_option maxRecDepth 100000 in
set_option maxHeartbeats 1000000 in
theorem sturned_any (vl : Value) (l : List Int) (bm : Nat) (os : List Ob) (F R : List Int) (w : World) (hl : IsW w vl l) (hlen : l.length ≤ 1000) (hT : Tells w bm os F R)
    (hp : ∀ j, placeF os R j ≤ 256) (hx : ∀ x ∈ l, x % 2 = 1 ∨ x % 2 = 0 ∧ x < 512 ∧ ∃ i : Nat, i < os.length ∧ x / 2 = place os i ∧ (i : Int) ∈ F) :
    Calls Try.prog 68 #[vl, .map (some bm)] w fun e w' => ∃ r, e = .returned r ∧ Mem w.heap.size w w' [rowW 55 r (l.map (mvW os R))] := by
  have Hl := Lib.hid hl
  have HT := Lib.hid hT
  have Hp := Lib.hid hp
  have Hx := Lib.hid hx
  obtain ⟨a, cap, rfl, hm⟩ := hl.slice
  obtain ⟨n, hn⟩ : ∃ n, l.length = n := ⟨_, rfl⟩
  rw [hn] at hlen hm ⊢
  have Hn := Lib.hid hn
  have HM0 : Hid (Mem w.heap.size w w [rowW 55 (.slice none 0 0) []]) := Lib.hid ((Mem.start w).nilW 55)
  clear hl hT hp hx hn
  go_enter Try.func68, Try.ntmps68
  go_wp2
  go_loopw [5, 12] (fun r i wr => ∃ k : Nat, k ≤ n ∧ i = .int .i64 k ∧ Mem w.heap.size w wr [rowW 55 r ((l.take k).map (mvW os R))]) (fun _ i _ => n - (intOf i).toNat)
  case atStart => exact ⟨0, Nat.zero_le _, rfl, HM0.out⟩
  case round =>
    clear HM0
    obtain ⟨k, hk, rfl, hM⟩ := hrel
    by_cases hlt : k < n
    · obtain ⟨x, hx⟩ := get_some l k (by rw [Hn.out]; exact hlt)
      obtain ⟨b, off, cap2, hv, _, hb1, d0, hx64⟩ := Hl.out.at hM.below hx
      rw [Hn.out] at hv
      cases hv
      have hX : (l.take (k + 1)).map (mvW os R) = (l.take k).map (mvW os R) ++ [mvW os R x] := by rw [take_succ_some _ _ _ hx, List.map_append]; rfl
      have Hln : Hid (((l.take k).map (mvW os R)).length ≤ 1000000) := Lib.hid (by rw [List.length_map, List.length_take]; omega)
      have HM := Lib.hid hM
      rcases Hx.out x (List.mem_of_getElem? hx) with hodd | ⟨heven, hsm, i, hi, hxi, hiF⟩
      · have HR := Lib.hid (aref_int x wr hx64.1 hx64.2 hodd)
        have hmv : mvW os R x = x := if_pos hodd
        rw [hmv] at hX
        have HX := Lib.hid hX
        clear hM hx hX hmv hodd
        go_wp2_with fail
        refine HR.out.mono ?_
        rintro e w7 ⟨rfl, rfl⟩
        clear HR
        go_wp2_with (at_builtin; refine Mem.wp_appW elemWords rfl (.tmp 27) (.tmp 29) rfl HM.out 0 rfl rfl _ x _ _ rfl (by simp) Hln.out ?_; intro ad n1 cp w6 hn1 hM6 hs6 hk6 ha6)
        go_roundw
        case rel => exact ⟨k + 1, by omega, by go_num, hM6.cast (by rw [HX.out]; rfl)⟩
        case measure => simp [intOf]; omega
      · have hR := aref_ref x wr hx64.1 hsm heven
        rw [hxi] at hR
        have HR := Lib.hid hR
        have l1 := HT.out i wr hi hiF hM.below
        obtain ⟨q, hq⟩ : ∃ q, place os i = q := ⟨_, rfl⟩
        obtain ⟨p, hpe⟩ : ∃ p, placeF os R (plc R (i : Int) 0).toNat = p := ⟨_, rfl⟩
        have hp256 := Hp.out (plc R (i : Int) 0).toNat
        have hmv : mvW os R x = (p : Int) * 2 := by unfold mvW; rw [if_neg (by omega), hxi, idx_place hi, hpe]; omega
        rw [hpe] at hp256 l1
        rw [hq] at l1 HR
        rw [hmv] at hX
        have HX := Lib.hid hX
        clear hM hx hX hmv hR heven hq hpe hxi hiF hi
        go_wp2_with fail
        refine HR.out.mono ?_
        rintro e w7 ⟨rfl, rfl⟩
        clear HR
        go_wp2_with (at_builtin; refine Mem.wp_appW elemWords rfl (.tmp 27) (.tmp 29) rfl HM.out 0 rfl rfl _ ((p : Int) * 2) _ _ rfl (by simp) Hln.out ?_; intro ad n1 cp w6 hn1 hM6 hs6 hk6 ha6)
        go_roundw
        case rel => exact ⟨k + 1, by omega, by go_num, hM6.cast (by rw [HX.out]; rfl)⟩
        case measure => simp [intOf]; omega
    · obtain rfl : k = n := by omega
      rw [show l.take k = l by rw [← Hn.out, List.take_length]] at hM
      have HM := Lib.hid hM
      clear hM
      go_wp2
      go_ret
      exact ⟨_, rfl, HM.out⟩
end Go.Proofs.Ytigdpdndnghldaa
