/- Methods behind the interface: ideal's memory. -/
import Derived.Test.YtmmcjjklmcfegaaQ3
import Derived.Test.YtmmcjjklmcfegaaQ5
namespace Go.Proofs.Ytmmcjjklmcfegaa
open Go.RowKit Go.Shelf

/-- A method of an embedded value, come to through a pointer: the receiver is loaded. -/
theorem method_in {P : Program} {T S X E : TypeId} {name : String} {f : FuncId} (hm : ((P.info? T).bind fun i => i.methods.find? fun x => x.name == name).map (fun m => (m.path, m.func)) = some (#[⟨S, 0, true⟩], some (f, false)))
    (hfol : ∀ bm w, (follow [⟨S, 0, true⟩] T (.val (.pointer (some ⟨bm, 0, none⟩)))).run P w = .ok (X, .var ⟨bm, 0, none⟩) w) (hX : P.underlying X = some (.slice E)) (hA : ∀ w, (isAgg X).run P w = .ok false w)
    (k bm : Nat) (vo : Value) (w : World) (h : w.cell? ⟨bm, 0, none⟩ = some vo) :
    (method (k + 1) T (.pointer (some ⟨bm, 0, none⟩)) name).run P w = .ok (f, vo) w := by
  obtain ⟨m, hm1, hm2⟩ := Option.map_eq_some_iff.1 hm
  obtain ⟨i, hi, hf⟩ := Option.bind_eq_some_iff.1 hm1
  obtain ⟨hp, hfn⟩ := Prod.mk.inj hm2
  unfold method
  have hI : (typeInfo T).run P w = .ok i w := by simp [typeInfo, hi]
  have hR : ∀ o, (receiverAt X (.var ⟨bm, 0, none⟩) false o).run P w = .ok vo w := by
    intro o
    unfold receiverAt
    simp [run_underlying hX, Place.get, loadVar, hA, h]
  simp only [Sem.run_bind, hI, Result.andThen_ok, hf, hp, hfn, hfol, hR, Sem.run_pure]
section
variable {B : Nat} {w0 : World} {bx bm : Nat} {regs : List V} {mv : Value} {mc : Array Value} {mt : TypeId} {vo : Value} {cs : List (Option Oc)} {E : List Ent}
/-- A memory's own: its box, the objects, and what else it has. -/
@[reducible] def embL (bm : Nat) (mc : Array Value) (mt : TypeId) (vo : Value) (cs : List (Option Oc)) (E : List Ent) : List Ent := ebox bm mc mt :: rowP vo cs :: (objsE cs ++ E)
theorem emb_at {T : List Ent} {w : World} (h : HoldsM B w0 bx regs mv (embL bm mc mt vo cs E) T w) : Mem B w0 w ([mbox bx regs mv, ebox bm mc mt, rowP vo cs] ++ (objsE cs ++ (E ++ T))) := Mem.cast h (by simp)
theorem emb_of {T : List Ent} {w : World} (h : Mem B w0 w ([mbox bx regs mv, ebox bm mc mt, rowP vo cs] ++ (objsE cs ++ (E ++ T)))) : HoldsM B w0 bx regs mv (embL bm mc mt vo cs E) T w := Mem.cast h (by simp)
theorem emb_oat (T : List Ent) : OAt ([mbox bx regs mv, ebox bm mc mt, rowP vo cs] ++ (objsE cs ++ (E ++ T))) 2 3 vo cs := oAt_of (A := [mbox bx regs mv, ebox bm mc mt, rowP vo cs]) rfl
theorem lives_cs {i : Int} (h : Lives (conts cs) i) : ∃ o, cs[i.toNat]? = some (some o) ∧ o.l = objAt (conts cs) i := by
  obtain ⟨o, h1, h2⟩ := conts_get h.obj
  exact ⟨o, h1, h2⟩
set_option maxRecDepth 100000 in
theorem emb_len {T : TypeId} (hm0 : mc[0]? = some vo) (hent : ∀ k w, w.cell? ⟨bm, 0, none⟩ = some vo → (method (k + 1) T (.pointer (some ⟨bm, 0, none⟩)) "Len").run Try.prog w = .ok (154, vo) w)
    (hv : mv = .iface T (.pointer (some ⟨bm, 0, none⟩))) {i : Int} (hi : Lives (conts cs) i) :
    MethAt mv "Len" (HoldsM B w0 bx regs mv (embL bm mc mt vo cs E)) #[.int .i64 i] fun _ w e w' => e = .returned (.int .i64 ((objAt (conts cs) i).length : Int)) ∧ w' = w := by
  refine ⟨T, _, vo, 154, hv, fun _ _ => rfl, fun T' w h => ?_⟩
  have hM := emb_at h
  have hc : w.cell? ⟨bm, 0, none⟩ = some vo := (hM.cell 1 rfl 0).trans hm0
  refine ⟨fun k => hent k w hc, ?_⟩
  obtain ⟨o, ho, hl⟩ := lives_cs hi
  have h0 := hi.1
  have := olen_any B w0 w _ 2 3 vo cs hM (emb_oat T') i.toNat o ho
  rw [hl, Int.toNat_of_nonneg h0] at this
  exact this
set_option maxRecDepth 100000 in
theorem emb_get {T : TypeId} (hm0 : mc[0]? = some vo) (hent : ∀ k w, w.cell? ⟨bm, 0, none⟩ = some vo → (method (k + 1) T (.pointer (some ⟨bm, 0, none⟩)) "Get").run Try.prog w = .ok (152, vo) w)
    (hv : mv = .iface T (.pointer (some ⟨bm, 0, none⟩))) {i : Int} (hi : Lives (conts cs) i) {k : Nat} {u : V} (hu : (objAt (conts cs) i)[k]? = some u) :
    MethAt mv "Get" (HoldsM B w0 bx regs mv (embL bm mc mt vo cs E)) #[.int .i64 i, .int .i64 k] fun _ w e w' => e = .returned (.agg #[.bool u.ref, .int .i64 u.n]) ∧ Below w.heap.size w w' := by
  refine ⟨T, _, vo, 152, hv, fun _ _ => rfl, fun T' w h => ?_⟩
  have hM := emb_at h
  have hc : w.cell? ⟨bm, 0, none⟩ = some vo := (hM.cell 1 rfl 0).trans hm0
  refine ⟨fun k => hent k w hc, ?_⟩
  obtain ⟨o, ho, hl⟩ := lives_cs hi
  have h0 := hi.1
  have := oget_any B w0 w _ 2 3 vo cs hM (emb_oat T') i.toNat o ho k u (by rw [hl]; exact hu)
  rw [Int.toNat_of_nonneg h0] at this
  exact this
/-- Put, seen with all that the machine holds. -/
theorem emb_put {i : Int} (hi : Lives (conts cs) i) {k : Nat} (hk : k < (objAt (conts cs) i).length) (u : V) (T : List Ent) (w : World) (h : HoldsM B w0 bx regs mv (embL bm mc mt vo cs E) T w) :
    Calls Try.prog 156 #[vo, .int .i64 i, .int .i64 k, .agg #[.bool u.ref, .int .i64 u.n]] w fun e w' => e = .returned (.tuple #[]) ∧ ∃ cs', conts cs' = (conts cs).set i.toNat (some ((objAt (conts cs) i).set k u)) ∧ HoldsM B w0 bx regs mv (embL bm mc mt vo cs' E) T w' := by
  have hM := emb_at h
  obtain ⟨o, ho, hl⟩ := lives_cs hi
  have h0 := hi.1
  have := oput_any B w0 w _ 2 3 vo cs hM (emb_oat T) i.toNat o ho k (by rw [hl]; exact hk) u
  rw [Int.toNat_of_nonneg h0] at this
  refine this.mono ?_
  rintro e w' ⟨rfl, hM'⟩
  refine ⟨rfl, cs.set i.toNat (some ⟨o.b, o.v, o.l.set k u⟩), ?_, ?_⟩
  · unfold conts
    rw [List.map_set]
    show (conts cs).set i.toNat (some (o.l.set k u)) = _
    rw [hl]; rfl
  · have h1 := objs_set (A := [mbox bx regs mv, ebox bm mc mt, rowP vo cs]) (R := E ++ T) ho (c' := some ⟨o.b, o.v, o.l.set k u⟩) rfl
    have h2 : rowP vo (cs.set i.toNat (some ⟨o.b, o.v, o.l.set k u⟩)) = rowP vo cs := by
      unfold rowP
      rw [List.length_set, List.map_set]
      congr 1
      exact set_same (by rw [List.getElem?_map, ho]; rfl)
    refine emb_of (hM'.cast ?_)
    rw [h2]
    exact h1
end
def IsI (bm : Nat) (os : Os) (_ : Unit) (L : List Ent) : Prop := ∃ vo cs, conts cs = os ∧ os.length ≤ 1000 ∧ L = embL bm #[vo] 77 vo cs []
theorem iLen (k bm : Nat) (vo : Value) (w : World) (h : w.cell? ⟨bm, 0, none⟩ = some vo) :
    (method (k + 1) 72 (.pointer (some ⟨bm, 0, none⟩)) "Len").run Try.prog w = .ok (154, vo) w :=
  method_in (S := 77) (X := 74) (E := 101) (by kernel_rfl) (fun _ _ => by kernel_rfl) Try.underlying74 (fun _ => by kernel_rfl) k bm vo w h
theorem iGet (k bm : Nat) (vo : Value) (w : World) (h : w.cell? ⟨bm, 0, none⟩ = some vo) :
    (method (k + 1) 72 (.pointer (some ⟨bm, 0, none⟩)) "Get").run Try.prog w = .ok (152, vo) w :=
  method_in (S := 77) (X := 74) (E := 101) (by kernel_rfl) (fun _ _ => by kernel_rfl) Try.underlying74 (fun _ => by kernel_rfl) k bm vo w h
theorem iPut (k bm : Nat) (vo : Value) (w : World) (h : w.cell? ⟨bm, 0, none⟩ = some vo) :
    (method (k + 1) 72 (.pointer (some ⟨bm, 0, none⟩)) "Put").run Try.prog w = .ok (156, vo) w :=
  method_in (S := 77) (X := 74) (E := 101) (by kernel_rfl) (fun _ _ => by kernel_rfl) Try.underlying74 (fun _ => by kernel_rfl) k bm vo w h
theorem iNew (k bm : Nat) (w : World) :
    (method (k + 1) 72 (.pointer (some ⟨bm, 0, none⟩)) "New").run Try.prog w = .ok (155, .pointer (some ⟨bm, 0, none⟩)) w := by kernel_rfl
theorem iHold (k bm : Nat) (w : World) :
    (method (k + 1) 72 (.pointer (some ⟨bm, 0, none⟩)) "Hold").run Try.prog w = .ok (153, .pointer (some ⟨bm, 0, none⟩)) w := by kernel_rfl
set_option maxRecDepth 100000 in
theorem ihold_any (bm : Nat) (r : Int) (u : V) (w : World) : Calls Try.prog 153 #[.pointer (some ⟨bm, 0, none⟩), .int .i64 r, .agg #[.bool u.ref, .int .i64 u.n]] w fun e w' => e = .returned (.tuple #[]) ∧ Below w.heap.size w w' := by
  go_enter Try.func153, Try.ntmps153
  go_wp2
  refine bodyPost_end (results_none rfl _ _ _) rfl ?_
  exact ⟨rfl, (Below.refl _ w).alloc (Nat.le_refl _) _⟩
def iMv (bm : Nat) : Value := .iface 72 (.pointer (some ⟨bm, 0, none⟩))
set_option maxRecDepth 100000 in
theorem iface_ideal (B : Nat) (w0 : World) (bx bm : Nat) : Face iKd (IsI bm) InvI B w0 bx (iMv bm) := by
  refine ⟨fun s h => h.fine, ?_, fun s n => rfl, fun s i k u => rfl, fun s r u => rfl, ?_, ?_, ?_, ?_, ?_, ?_, ?_⟩
  · intro s v u hI hv hr hu
    exact hI.fld hv hr hu
  · rintro s L i hI ⟨vo, cs, hc, _, rfl⟩ hi
    rw [← hc] at hi ⊢
    exact emb_len rfl (fun k w h => iLen k bm vo w h) rfl hi
  · rintro s L i k u hI ⟨vo, cs, hc, _, rfl⟩ hi hu
    rw [← hc] at hi hu
    exact emb_get rfl (fun k w h => iGet k bm vo w h) rfl hi hu
  · rintro s L i k u hI ⟨vo, cs, hc, hl, rfl⟩ hi hk hu
    refine ⟨72, _, vo, 156, rfl, fun _ _ => rfl, fun T w h => ?_⟩
    have hcell : w.cell? ⟨bm, 0, none⟩ = some vo := (emb_at h).cell 1 rfl 0
    refine ⟨fun k => iPut k bm vo w hcell, ?_⟩
    rw [← hc] at hi hk
    refine (emb_put hi hk u T w h).mono ?_
    rintro e w' ⟨rfl, cs', h1, h2⟩
    refine ⟨rfl, _, ⟨vo, cs', ?_, ?_, rfl⟩, h2⟩
    · rw [h1, hc]; rfl
    · show (s.os.set _ _).length ≤ 1000
      rw [List.length_set]; exact hl
  · rintro s L r u hI ⟨vo, cs, hc, hl, rfl⟩ hr hu
    refine ⟨72, _, _, 153, rfl, fun _ _ => rfl, fun T w h => ⟨fun k => iHold k bm w, ?_⟩⟩
    refine (ihold_any bm r u w).mono ?_
    rintro e w' ⟨rfl, hb⟩
    exact ⟨rfl, _, ⟨vo, cs, hc, hl, rfl⟩, h.call hb⟩
  · rintro s L n hI _ hn h
    cases h
  · rintro s L n o hI ⟨vo, cs, hc, hl, rfl⟩ hn h
    cases h
    refine ⟨72, _, _, 155, rfl, fun _ _ => rfl, fun T w h => ⟨fun k => iNew k bm w, ?_⟩⟩
    have hcl : cs.length = s.os.length := by rw [← hc, conts_len]
    have hroom := hI.room
    refine (onew_any B w0 w _ 1 2 3 bm #[vo] 77 vo cs (emb_at h) (emb_oat T) rfl rfl (by decide) n hn (by omega)).mono ?_
    rintro e w' ⟨b', v', vo', rfl, hM⟩
    refine ⟨by rw [hcl], _, ⟨vo', cs ++ [some ⟨b', v', zerosV n⟩], ?_, ?_, rfl⟩, ?_⟩
    · show conts (cs ++ _) = s.os ++ _
      rw [← hc]; simp [conts]
    · show (s.os ++ _).length ≤ 1000
      rw [List.length_append]; simp; omega
    · refine emb_of (objs_push (c := some ⟨b', v', zerosV n⟩) (hM.cast ?_))
      rfl
  · rintro s n o L1 r hI hn h ⟨vo, cs, hc, hl, rfl⟩ hr
    refine ⟨72, _, _, 153, rfl, fun _ _ => rfl, fun T w h => ⟨fun k => iHold k bm w, ?_⟩⟩
    refine (ihold_any bm r ⟨true, o⟩ w).mono ?_
    rintro e w' ⟨rfl, hb⟩
    exact ⟨rfl, _, ⟨vo, cs, hc, hl, rfl⟩, h.call hb⟩
end Go.Proofs.Ytmmcjjklmcfegaa
