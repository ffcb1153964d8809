/- What was moved down, and then moved as found, is what was moved as found at once. Plain. -/
import Derived.Test.YtigdpdndnghldaaJa
import Derived.Test.YtigdpdndnghldaaBq
namespace Go.Proofs.Ytigdpdndnghldaa
open Go.RowKit

theorem word_in' {rs : List Int} {os : List Ob} {R : List Int} (hK : Keeps os rs R) :
    (∀ x ∈ rs, x % 2 = 1 ∨ x % 2 = 0 ∧ (idx os (x / 2) : Int) ∈ R) ∧ ∀ i ∈ R, ∀ x ∈ (obj os i).2, x % 2 = 1 ∨ x % 2 = 0 ∧ (idx os (x / 2) : Int) ∈ R := by
  constructor
  · intro x hx
    by_cases hp : x % 2 = 1
    · exact .inl hp
    · exact .inr ⟨by omega, hK.roots x hx (by omega)⟩
  · intro i hi x hx
    by_cases hp : x % 2 = 1
    · exact .inl hp
    · exact .inr ⟨by omega, hK.fields i hi x hx (by omega)⟩
theorem hc_rng {ws rs : List Int} {os : List Ob} {R : List Int} (hc : ClosedF (readG os rs) R) (_h : Sound ws rs os) : ∀ x ∈ R, 0 ≤ x ∧ x < (os.length : Int) := fun x hx => by
  have := hc.rng x hx
  rwa [show (readG os rs).objs.length = os.length by unfold readG; simp] at this
theorem moves_plain {ws rs : List Int} {os os1 : List Ob} {rs1 F R F1 : List Int} (h : Sound ws rs os) (hF : OrdS (readG os rs) F) (hR : R = riseN F os.length) (e1 : os1 = relO os R (hdD os)) (e2 : rs1 = rs.map (mvW os R))
    (hS1 : Sound (flat os1) rs1 os1) (hc : ClosedF (readG os rs) R) (hrd : readG os1 rs1 = renumP (readG os rs) R (fun y => plc R y 0)) (hF1 : OrdS (readG os1 rs1) F1) :
    relO os1 F1 (hdC os1) = relO os F (hdC os) ∧ rs1.map (mvW os1 F1) = rs.map (mvW os F) := by
  have hl1 : os1.length = R.length := by rw [e1]; unfold relO; rw [List.length_map]
  have eF := slide_order hc hrd hF hF1
  have hr1 : ∀ j ∈ F1, 0 ≤ j ∧ j < (R.length : Int) := fun j hj => by
    have := hF1.rng (read_rng hS1) j hj
    rwa [hrd, show (renumP (readG os rs) R fun y => plc R y 0).objs.length = R.length by unfold renumP; simp] at this
  have hobj : ∀ j : Int, 0 ≤ j ∧ j < (R.length : Int) → obj os1 j = (hdD os (backF R j), (obj os (backF R j)).2.map (mvW os R)) ∧ backF R j ∈ R := by
    intro j hj
    obtain ⟨k, rfl⟩ : ∃ k : Nat, j = k := ⟨j.toNat, by omega⟩
    obtain ⟨x, hx⟩ := get_some R k (by omega)
    have hb : backF R (k : Int) = x := by unfold backF; rw [Int.toNat_natCast, List.getD_eq_getElem?_getD, hx]; rfl
    rw [hb]
    refine ⟨obj_at' ?_, List.mem_of_getElem? hx⟩
    rw [e1]; exact rel_obj hx
  have hsz : ∀ j ∈ F1, szO os1 j = szO os (backF R j) := fun j hj => by
    unfold szO
    rw [(hobj j (hr1 j hj)).1]; simp
  have hpl : ∀ k, placeF os1 F1 k = placeF os F k := fun k => by
    unfold placeF
    rw [eF, ← List.map_take, List.map_map]
    congr 1
    exact List.map_congr_left fun j hj => hsz j (List.mem_of_mem_take hj)
  have hRm : ∀ x, x ∈ R ↔ x ∈ F := fun x => by rw [hR]; exact rise_mem h hF
  have hmv : ∀ x : Int, x % 2 = 1 ∨ x % 2 = 0 ∧ (idx os (x / 2) : Int) ∈ R → mvW os1 F1 (mvW os R x) = mvW os F x := by
    intro x hx
    rcases hx with hodd | ⟨heven, hin⟩
    · have h1 : ∀ (o : List Ob) (E : List Int), mvW o E x = x := fun o E => if_pos hodd
      rw [h1, h1, h1]
    · obtain ⟨i, hi⟩ : ∃ i, (idx os (x / 2) : Int) = i := ⟨_, rfl⟩
      rw [hi] at hin
      obtain ⟨j, hj⟩ := List.getElem?_of_mem hin
      have hpj := plc_at hc.nodup hj
      have hjl := (List.getElem?_eq_some_iff.1 hj).1
      have hm1 : mvW os R x = 2 * (place os1 j : Int) := by
        unfold mvW
        rw [if_neg (by omega), hi, hpj, Int.toNat_natCast, e1, rel_place]
      have hm2 : mvW os F x = 2 * (placeF os F (plc F i 0).toNat : Int) := by
        unfold mvW
        rw [if_neg (by omega), hi]
      have hjF1 : (j : Int) ∈ F1 := slide_all hc hrd hF hF1 (read_rng hS1) (fun x hx => (hRm x).1 hx) (j : Int) ⟨by omega, by omega⟩
      obtain ⟨k, hk⟩ := List.getElem?_of_mem hjF1
      have hbj : backF R (j : Int) = i := by unfold backF; rw [Int.toNat_natCast, List.getD_eq_getElem?_getD, hj]; rfl
      have hk2 : F[k]? = some i := by rw [eF, List.getElem?_map, hk, Option.map_some, hbj]
      have p1 := plc_at hF1.nodup hk
      have p2 := plc_at hF.nodup hk2
      rw [hm1, hm2, p2]
      unfold mvW
      rw [if_neg (by omega), show 2 * (place os1 j : Int) / 2 = (place os1 j : Int) by omega, idx_place (by rw [hl1]; exact hjl), p1, hpl]
  have hK := rise_keeps h hF
  rw [← hR] at hK
  have hword := word_in' hK
  constructor
  · have hrO : relO os F (hdC os) = F1.map fun j => (hdC os (backF R j), (obj os (backF R j)).2.map (mvW os F)) := by
      have h0 : ∀ f : Int → Ob, F.map f = F1.map fun j => f (backF R j) := fun f => by
        conv => lhs; rw [eF]
        rw [List.map_map]; rfl
      exact h0 _
    rw [hrO]
    unfold relO
    refine List.map_congr_left fun j hj => ?_
    obtain ⟨o1, o2⟩ := hobj j (hr1 j hj)
    have hg := h.laid.good (obj_get (hc_rng hc h (backF R j) o2))
    have hp := hdS_parts hg.1 false
    show (hdC os1 j, (obj os1 j).2.map (mvW os1 F1)) = (hdC os (backF R j), (obj os (backF R j)).2.map (mvW os F))
    unfold hdC
    rw [o1]
    refine Prod.ext ?_ ?_
    · simp only [List.length_map]
      rw [show hdD os (backF R j) / 512 % 8 = (obj os (backF R j)).1 / 512 % 8 from hp.2.2.1]
    · simp only
      rw [List.map_map]
      exact List.map_congr_left fun x hx => hmv x (hword.2 _ o2 x hx)
  · rw [e2, List.map_map]
    exact List.map_congr_left fun x hx => hmv x (hword.1 x hx)
end Go.Proofs.Ytigdpdndnghldaa
