/- A memory that is copied: begin, the registers gone through, walked. -/
import Derived.Test.YtmmcjjklmcfegaaRpe
namespace Go.Proofs.Ytmmcjjklmcfegaa
open Go.RowKit Go.Shelf

theorem rowC_nones : ∀ (n : Nat), (List.replicate n (none : Option (Value × List V))).map rowC = List.replicate n enone := fun n => by rw [List.map_replicate]; rfl
theorem Mem.nones {B : Nat} {w0 w : World} {L : List Ent} (h : Mem B w0 w L) : ∀ n : Nat, Mem B w0 w (List.replicate n enone ++ L)
  | 0 => h
  | n + 1 => (Mem.nones h n).addNone
theorem cpF_nones (n : Nat) : cpF (List.replicate n none) = fun _ => none := by
  funext u
  unfold cpF
  split
  · rw [List.getElem?_replicate]
    split <;> rfl
  · rfl
theorem contsC_nones (n : Nat) : contsC (List.replicate n none) = noCps n := by unfold contsC noCps; rw [List.map_replicate]; rfl
section
variable (B : Nat) (w0 : World) (bm : Nat)
set_option maxRecDepth 100000 in
set_option maxHeartbeats 2000000 in
/-- A round begins: whatever lay there before. -/
theorem pbegin_any (w : World) (vo vr : Value) (vc vm : Value) (fil : Nat) (vl : Value) (times : Int) (L1 L2 : List Ent) (hM : Mem B w0 w (L1 ++ (ebox bm #[vo, vr, vc, vm, .int .i64 (fil : Int), vl, .int .i64 times] 115 :: L2))) :
    Calls Try.prog 50 #[.pointer (some ⟨bm, 0, none⟩)] w fun e w' => e = .returned (.tuple #[]) ∧ ∃ bc, Mem B w0 w' (gmap mapIV bc 0 (fun _ => none) :: (L1 ++ (boxP bm bc vo vr (.slice none 0 0) 0 (.slice none 0 0) times :: L2))) := by
  have hM1 := hM.newMapAt mapIV w.heap.size rfl
  have hk : ((gmap mapIV w.heap.size 0 (fun _ => none) :: L1) ++ (ebox bm #[vo, vr, vc, vm, .int .i64 (fil : Int), vl, .int .i64 times] 115 :: L2))[(L1.length + 1)]? = some (ebox bm #[vo, vr, vc, vm, .int .i64 (fil : Int), vl, .int .i64 times] 115) := by
    rw [List.getElem?_append_right (by simp)]; simp
  have hM2 : Mem B w0 (w.alloc (.map #[] 0)) ((gmap mapIV w.heap.size 0 (fun _ => none) :: L1) ++ (ebox bm #[vo, vr, vc, vm, .int .i64 (fil : Int), vl, .int .i64 times] 115 :: L2)) := hM1
  have s2 := hM2.cell _ hk 2
  have s3 := hM2.cell _ hk 3
  have s4 := hM2.cell _ hk 4
  have s5 := hM2.cell _ hk 5
  have f2 := hM2.free _ hk 2
  have f3 := hM2.free _ hk 3
  have f4 := hM2.free _ hk 4
  have f5 := hM2.free _ hk 5
  have mb := (hM2.box _ hk).2.1
  simp only [List.getElem?_toArray] at s2 s3 s4 s5
  have hset : ∀ (c c' : Array Value), ((gmap mapIV w.heap.size 0 (fun _ => none) :: L1) ++ (ebox bm c 115 :: L2)).set (L1.length + 1) (ebox bm c' 115) = (gmap mapIV w.heap.size 0 (fun _ => none) :: L1) ++ (ebox bm c' 115 :: L2) := by
    intro c c'
    rw [List.set_append_right _ _ (by simp)]; simp
  have hget : ∀ (c : Array Value), ((gmap mapIV w.heap.size 0 (fun _ => none) :: L1) ++ (ebox bm c 115 :: L2))[(L1.length + 1)]? = some (ebox bm c 115) := by
    intro c
    rw [List.getElem?_append_right (by simp)]; simp
  have h3 := hM2.setBox _ hk 2 (.map (some w.heap.size))
  rw [hset] at h3
  have h4 := h3.setBox _ (hget _) 3 (.slice none 0 0)
  rw [hset] at h4
  have h5 := h4.setBox _ (hget _) 4 (.int .i64 0)
  rw [hset] at h5
  have h6 := h5.setBox _ (hget _) 5 (.slice none 0 0)
  rw [hset] at h6
  have hmm := @run_makeMap Try.prog
  have HM6 := Lib.hid h6
  clear hM hM1 hM2 h3 h4 h5 h6 hset hget hk
  go_enter Try.func50, Try.ntmps50
  go_wp2_with fail
  refine bodyPost_end (results_none rfl _ _ _) rfl ?_
  exact ⟨rfl, w.heap.size, HM6.out⟩
end
end Go.Proofs.Ytmmcjjklmcfegaa
