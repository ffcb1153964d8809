/- The climber's climb, walked. -/
import Derived.Test.YtgdodbdipbomfaaKc
import Derived.Deep.LoopGhost
namespace Go.Proofs.Ytgdodbdipbomfaa
open Go.RowKit Go.Shelf Go.Maps

def bn (os : List Ob) : List Int → Nat
  | [] => 0
  | t :: _ => place os t.toNat + 1
theorem bk_bn (os : List Ob) (T : List Int) : bk os T = (bn os T : Int) * 2 := by cases T <;> simp [bk, bn]
def muC (os : List Ob) (M : List Int) (D : Int → Nat) : Nat := ((flat os).length - sumD os D) + (os.length - M.length)
theorem VI.len {ws rs : List Int} {os : List Ob} {F M : List Int} {D : Int → Nat} {T : List Int} {c : Int} {r : Nat} (h : VI os rs F M D T c) (hE : Env ws rs os F r) : M.length ≤ os.length := by
  have := nodup_sub_len M (upTo os.length) h.nodup (fun x hx => mem_upTo.2 (hE.rng x (h.sub x hx)))
  rwa [upTo_len] at this
theorem VI.trng {ws rs : List Int} {os : List Ob} {F M : List Int} {D : Int → Nat} {T : List Int} {c : Int} {r : Nat} (h : VI os rs F M D T c) (hE : Env ws rs os F r) : ∀ t ∈ T, 0 ≤ t ∧ t < (os.length : Int) := fun t ht => hE.rng t (h.sub t (h.tm t (List.mem_cons_of_mem _ ht)))
theorem bn_le {ws rs : List Int} {os : List Ob} (hS : Sound ws rs os) {T : List Int} (hT : ∀ t ∈ T, 0 ≤ t ∧ t < (os.length : Int)) : bn os T ≤ 256 := by
  cases T with
  | nil => simp [bn]
  | cons t T =>
    have h1 := hT t List.mem_cons_self
    obtain ⟨o, ho⟩ := get_some os t.toNat (by omega)
    have := hS.laid.fit ho
    have h3 := hS.words
    show place os t.toNat + 1 ≤ 256
    omega
/-- What the field at which one stands holds. -/
theorem stand_at {ws rs : List Int} {os : List Ob} {F M : List Int} {D : Int → Nat} {T : List Int} {k : Nat} {r : Nat} (h : VI os rs F M D T k) (hE : Env ws rs os F r) (hk : k < os.length) (hd : D k < (obj os k).2.length) :
    ∃ x, (obj os k).2[D k]? = some x ∧ (wT os M D T)[place os k + 1 + D k]? = some x ∧ w64 x ∧ (x % 2 = 1 ∨ x % 2 = 0 ∧ x < 512 ∧ ∃ j : Nat, j < os.length ∧ x / 2 = place os j ∧ (j : Int) ∈ F) := by
  obtain ⟨x, hx⟩ := get_some (obj os k).2 (D k) hd
  have hkF := h.sub _ (h.tm _ List.mem_cons_self)
  obtain ⟨h1, h2, h3⟩ := hE.fld hkF x (List.mem_of_getElem? hx)
  refine ⟨x, hx, wT_field os M D T hk (by rw [fldT_out os D (List.nodup_cons.1 h.tn).1]; exact hx), h3, ?_⟩
  rcases h2 with ho | ⟨he, hsm, hst⟩
  · exact .inl ho
  · obtain ⟨j, hj, e⟩ := starts_mem.1 hst
    rcases h1 with ho | hm
    · omega
    · rw [e, idx_place hj] at hm
      exact .inr ⟨he, hsm, j, hj, e, hm⟩
/-- arena.Fields at an object on the way. -/
theorem fields_at {ws rs : List Int} {os : List Ob} {F : List Int} {r : Nat} (hE : Env ws rs os F r) (hw : ∀ x ∈ ws, w64 x) {n : Nat} (hn : ws.length = n) {B g cw : Nat} {w0 w : World} {L : List Ent} (M : List Int) (D : Int → Nat) (T : List Int) (hT : ∀ t ∈ T, 0 ≤ t ∧ t < (os.length : Int)) (i : Nat) {e : TypeId}
    (hM : Mem B w0 w L) (hk : L[i]? = some (rowW e (.slice (some ⟨g, 0, none⟩) n cw) (wT os M D T))) (k : Nat) (hkl : k < os.length) :
    ∃ a c, ((obj os k).2.length = 0 ∨ a = some ⟨g, place os k + 1, none⟩) ∧ Calls Try.prog 49 #[.slice (some ⟨g, 0, none⟩) n cw, .int .i64 (place os k : Nat)] w fun e w' => e = .returned (.slice a (obj os k).2.length c) ∧ Below w.heap.size w w' := by
  have hws := hE.sound.words
  have hfl : (wT os M D T).length = n := by rw [wT_len, ← hE.sound.laid.1, hn]
  have hI := isW_of_own (hM.ownW i hk) (by omega) (wT_64 hE.sound.laid (by rw [← hE.sound.laid.1]; exact hws) (by rw [← hE.sound.laid.1]; exact hw) M D hT)
  obtain ⟨o, ho⟩ := get_some os k hkl
  have hft := hE.sound.laid.fit ho
  have hg := hd_good hE.sound.laid hkl
  have hp := hdS_parts hg.1 (decide ((k : Int) ∈ M))
  have := aFields_at w g 0 n cw (wT os M D T) (obj os k).2 (place os k) (obj os k).2.length (hdM os M k) hI (wT_head os M D T hkl) hp.2.2.2.1 (by unfold hdM; rw [hp.1, hg.2.1]) rfl (by rw [obj_at' ho]; omega) (by omega)
  rwa [Nat.zero_add] at this

theorem wT_inc {os : List Ob} {rs F M : List Int} {D : Int → Nat} {T : List Int} {c : Int} (h : VI os rs F M D T c) : wT os M (inc D c) T = wT os M D T := by
  refine wT_ext os M fun t ht => inc_ne D ?_
  rintro rfl
  exact (List.nodup_cons.1 h.tn).1 ht

set_option maxRecDepth 100000 in
set_option maxHeartbeats 4000000 in
theorem climb_any (w0 w : World) (bC bm g n cw r : Nat) (ov : Value) (ws rs : List Int) (os : List Ob) (F M0 : List Int) (D0 : Int → Nat) (f0 : Int → Option Value) (L : List Ent) (i : Nat) (hE : Env ws rs os F r) (hw : ∀ x ∈ ws, w64 x) (hn : ws.length = n)
    (hi : i < os.length) (hV : VR os rs F M0 D0) (hm : (i : Int) ∉ M0) (hF : (i : Int) ∈ F) (hroot : HasRef os rs i) (hf : Tab os D0 f0) (hM : Mem w0.heap.size w0 w (ownV bC bm (.slice (some ⟨g, 0, none⟩) n cw) ov os M0 D0 [] (sumD os D0) f0 ++ L)) :
    Calls Try.prog 42 #[.pointer (some ⟨bC, 0, none⟩), .int .i64 (place os i : Nat)] w fun e w' => e = .returned (.tuple #[]) ∧ ∃ ov' M D f, VR os rs F M D ∧ (∀ x ∈ M0, x ∈ M) ∧ (i : Int) ∈ M ∧ Tab os D f ∧ Mem w0.heap.size w0 w' (ownV bC bm (.slice (some ⟨g, 0, none⟩) n cw) ov' os M D [] (sumD os D) f ++ L) := by
  have hVI := hV.start hm hF hroot
  have hlen := hVI.len hE
  have hos : os.length ≤ 256 := by have := hE.sound.laid.count; have := hE.sound.words; omega
  have hl0 : M0.length ≤ 1000 := by simp at hlen; omega
  have HEn := Lib.hid (enter_any w0 w bC bm g n cw ov ws os M0 D0 [] _ f0 L i hE.sound.laid hn hi hl0 hM)
  have HV := Lib.hid (And.intro hVI (And.intro hf hi))
  have HE := Lib.hid (And.intro hE (And.intro hw hn))
  clear hV hE hw hn hm hF hroot hf hM hVI hlen hl0 hi
  go_enter Try.func42, Try.ntmps42
  go_wp2_with fail
  go_step3
  go_wp2_with fail
  refine HEn.out.mono ?_
  rintro e w2 ⟨rfl, ov1, hM⟩
  have HM := Lib.hid hM
  clear hM HEn
  obtain ⟨n0, hn0⟩ : ∃ n0, muC os (M0 ++ [(i : Int)]) D0 = n0 := ⟨_, rfl⟩
  obtain ⟨q0, hq0⟩ : ∃ q0, place os i = q0 := ⟨_, rfl⟩
  have Hn0 := Lib.hid hn0
  have Hq0 := Lib.hid hq0
  rw [hq0]
  clear hn0 hq0
  go_wp2_with fail
  go_step3
  go_wp2_with fail
  go_loopg [1, 4] n0 (fun gk s1 s4 wr => ∃ (ov : Value) (M : List Int) (D : Int → Nat) (T : List Int) (c : Nat) (f : Int → Option Value), muC os M D = gk ∧ s1 = .int .i64 (place os c : Nat) ∧ s4 = .int .i64 ((bn os T : Int) - 1) ∧ VI os rs F M D T c ∧ c < os.length ∧ (∀ x ∈ M0, x ∈ M) ∧ (i : Int) ∈ M ∧ Tab os D f ∧ Mem w0.heap.size w0 wr (ownV bC bm (.slice (some ⟨g, 0, none⟩) n cw) ov os M D T (sumD os D) f ++ L))
  case atStart => exact ⟨ov1, _, _, [], i, f0, Hn0.out, by rw [Hq0.out], rfl, HV.out.1, HV.out.2.2, fun x hx => List.mem_append_left _ hx, by simp, HV.out.2.1, HM.out⟩
  case round =>
    clear HM HV Hn0 Hq0
    obtain ⟨ov, M, D, T, c, f, hgk, rfl, rfl, hV, hc, hM0, hiM, hT, hM⟩ := hrel
    have HgO : Hid (∃ gO, gO = gk) := Lib.hid ⟨_, rfl⟩
    obtain ⟨gO, hgO⟩ := HgO.out
    have HgO := Lib.hid hgO
    clear hgO
    have hFld := fields_at HE.out.1 HE.out.2.1 HE.out.2.2 M D T (hV.trng HE.out.1) 1 hM rfl c hc
    obtain ⟨q, hq⟩ : ∃ q, place os c = q := ⟨_, rfl⟩
    obtain ⟨m, hm⟩ : ∃ m, (obj os c).2.length = m := ⟨_, rfl⟩
    have hm4 : m ≤ 4 := by rw [← hm]; exact (hd_good HE.out.1.sound.laid hc).2.2
    obtain ⟨oc, hoc⟩ := get_some os c hc
    have hqf := HE.out.1.sound.laid.fit hoc
    rw [HE.out.2.2, hq, ← obj_at' hoc, hm] at hqf
    have hns : n ≤ 256 := by rw [← HE.out.2.2]; exact HE.out.1.sound.words
    rw [hq, hm] at hFld
    obtain ⟨aF, cF, haF, hFl⟩ := hFld
    have hbn := bn_le HE.out.1.sound (hV.trng HE.out.1)
    obtain ⟨B, hB⟩ : ∃ B, bn os T = B := ⟨_, rfl⟩
    rw [hB] at hbn
    rw [hq, hB]
    have HFl := Lib.hid hFl
    have e0 : wr.cell? ⟨bC, 0, none⟩ = some (.slice (some ⟨g, 0, none⟩) n cw) := by have := hM.cell 0 rfl 0; simpa using this
    have ez : bC < wr.heap.size := (hM.box 0 rfl).2.1
    have HV := Lib.hid (And.intro hV (And.intro hT (And.intro hgk (And.intro hM0 (And.intro hiM hc)))))
    have HM := Lib.hid hM
    have HaF := Lib.hid haF
    have Hq := Lib.hid hq
    have Hm := Lib.hid hm
    have HB := Lib.hid hB
    clear hV hT hgk hM0 hiM hM haF hq hm hoc hFl hB
    go_wp2_with fail
    refine HFl.out.mono ?_
    rintro e w3 ⟨rfl, hb3⟩
    have HM3 := Lib.hid (HM.out.call hb3)
    clear hb3 HM HFl e0 ez
    obtain ⟨gj0, hgj0⟩ : ∃ gj0, m - D c = gj0 := ⟨_, rfl⟩
    have Hgj0 := Lib.hid hgj0
    clear hgj0
    go_wp2
    go_loopg [1, 4] gj0 (fun gj s1 s4 wr => ∃ (D : Int → Nat) (f : Int → Option Value), s1 = .int .i64 (q : Nat) ∧ s4 = .int .i64 ((B : Int) - 1) ∧ m - D c = gj ∧ muC os M D ≤ gO ∧ VI os rs F M D T c ∧ Tab os D f ∧ Mem w0.heap.size w0 wr (ownV bC bm (.slice (some ⟨g, 0, none⟩) n cw) ov os M D T (sumD os D) f ++ L))
    case atStart => exact ⟨D, f, rfl, rfl, Hgj0.out, by rw [HV.out.2.2.1, HgO.out]; exact Nat.le_refl _, HV.out.1, HV.out.2.1, HM3.out⟩
    case round =>
      clear HM3 Hgj0
      obtain ⟨D2, f2, rfl, rfl, hgj, hmu, hV, hT, hM⟩ := hrel
      have hc := HV.out.2.2.2.2.2
      have hq64 : i64ok (q : Int) := by unfold i64ok; omega
      have hl := (gmap_look (M := mapII) (hM.get 2 rfl) (x := (q : Int)) hq64).1
      have hTc := hT c hc
      rw [Hq.out] at hTc
      have hl2 : (Instr.lookup 75 (.map (some bm)) (.int .i64 q) false).run Try.prog wr = .ok (.int .i64 (D2 c : Nat)) wr := by rw [← hTc]; exact hl
      obtain ⟨d, hd⟩ : ∃ d, D2 c = d := ⟨_, rfl⟩
      rw [hd] at hl2 hgj
      have hsum := hV.sum
      have hflO : (flat os).length = n := by rw [← HE.out.1.sound.laid.1]; exact HE.out.2.2
      have c1 : wr.cell? ⟨bC, 1, none⟩ = some (.map (some bm)) := by have := hM.cell 0 rfl 1; simpa using this
      have c0 : wr.cell? ⟨bC, 0, none⟩ = some (.slice (some ⟨g, 0, none⟩) n cw) := by have := hM.cell 0 rfl 0; simpa using this
      have cz : bC < wr.heap.size := (hM.box 0 rfl).2.1
      have Hs : Hid (sumD os D2 ≤ 100000) := Lib.hid (by omega)
      have HM := Lib.hid hM
      have Hd := Lib.hid hd
      have Hq64 := Lib.hid hq64
      have HfO := Lib.hid hflO
      have e1 : IntKind.i64.wrap ((d : Int) + 1) = (d : Int) + 1 := IntWalk.i64_in _ (by have := hV.dle c (hV.tm _ List.mem_cons_self); rw [hd, Hm.out] at this; omega)
      by_cases hlt : d < m
      · obtain ⟨x, hx, hxw, hx64, hxr⟩ := stand_at hV HE.out.1 hc (by rw [hd, Hm.out]; exact hlt)
        rw [Hq.out, hd] at hxw
        obtain ⟨g', cw', hv, hg, dx, fx⟩ := hM.wordsAt 1 rfl hxw
        rw [wT_len, hflO] at hv
        cases hv
        obtain rfl : aF = some ⟨g, q + 1, none⟩ := HaF.out.resolve_left (by omega)
        have ed : (d : Int) < m := by omega
        have HV2 := Lib.hid hV
        have HT2 := Lib.hid hT
        have Hgj := Lib.hid hgj
        have Hmu := Lib.hid hmu
        have HX := Lib.hid hx
        have hskip : (x % 2 = 0 → (idx os (x / 2) : Int) ∈ M) → (m - inc D2 c c = gk - 1 ∧ muC os M (inc D2 c) ≤ gO ∧ VI os rs F M (inc D2 c) T c ∧ sumD os (inc D2 c) = sumD os D2 + 1) := by
          intro h
          have hV3 := hV.skip hx h
          have hs := sumD_inc (os := os) D2 hc
          clear hxr e1 hxw hx64
          refine ⟨by rw [inc_self, hd]; omega, ?_, hV3, hs⟩
          unfold muC at hmu ⊢
          omega
        have Hskip := Lib.hid hskip
        rcases hxr with hodd | ⟨heven, hsm, j, hj, hxj, hjF⟩
        · have HR := Lib.hid (aref_int x wr hx64.1 hx64.2 hodd)
          have Hsk := Lib.hid (hskip (fun h => by omega))
          clear hl hTc hM hd hV hT hsum hflO hx hxw hx64 hmu hgj hq64 hskip Hskip hodd hc hg
          go_wp2_with fail
          refine HR.out.mono ?_
          rintro e w7 ⟨rfl, rfl⟩
          clear HR
          go_wp2_with (at_mapUpdate; refine Mem.wp_putG (M := mapII) rfl (.tmp 68) (.tmp 69) _ rfl HM.out 2 rfl Hs.out rfl (q : Int) (.int .i64 ((d : Int) + 1)) rfl rfl Hq64.out ?_; intro w5 hM5 hs5)
          go_roundg (gk - 1)
          case rel => exact ⟨inc D2 c, _, rfl, rfl, Hsk.out.1, Hsk.out.2.1, Hsk.out.2.2.1, by have := HT2.out.put HV.out.2.2.2.2.2; rw [Hd.out, Hq.out] at this; exact this, hM5.cast (by unfold ownV; rw [Hsk.out.2.2.2, wT_inc HV2.out]; rfl)⟩
          case measure => have := Hgj.out; omega
        · have hR := aref_ref x wr hx64.1 hsm heven
          obtain ⟨t, ht⟩ : ∃ t, place os j = t := ⟨_, rfl⟩
          rw [hxj, ht] at hR
          have HR := Lib.hid hR
          have hidx : (idx os (x / 2) : Int) = j := by rw [hxj, idx_place hj]
          have hh := wT_head os M D2 T hj
          rw [ht] at hh
          obtain ⟨g', cw', hv, hg2, dh, _⟩ := hM.wordsAt 1 rfl hh
          rw [wT_len, hflO] at hv
          cases hv
          obtain ⟨oj, hoj⟩ := get_some os j hj
          have htf := HE.out.1.sound.laid.fit hoj
          rw [HE.out.2.2, ht] at htf
          have htn : t < n := by omega
          have htn2 : (t : Int) < n := by omega
          have hgd := (hd_good HE.out.1.sound.laid hj).1
          have hp := hdS_parts hgd (decide ((j : Int) ∈ M))
          obtain ⟨h, hhe⟩ : ∃ h, hdM os M j = h := ⟨_, rfl⟩
          rw [hhe] at dh
          have hB := mbit_any h wr (by rw [← hhe]; exact hp.2.2.2.1)
          rw [show (h / 256 % 2 == 1) = decide ((j : Int) ∈ M) by rw [← hhe]; exact hp.2.1] at hB
          by_cases hjM : (j : Int) ∈ M
          · rw [decide_eq_true hjM] at hB
            have HBt := Lib.hid hB
            have Hsk := Lib.hid (hskip (fun _ => by rw [hidx]; exact hjM))
            clear hl hTc hM hd hV hT hsum hflO hx hxw hx64 hmu hgj hq64 hskip Hskip heven hc hg hR ht hidx hh hoj htf hgd hp hhe hB hjM hg2 hxj hjF hj
            go_wp2_with fail
            refine HR.out.mono ?_
            rintro e w7 ⟨rfl, rfl⟩
            clear HR
            go_wp2_with fail
            refine HBt.out.mono ?_
            rintro e w7 ⟨rfl, rfl⟩
            clear HBt
            go_wp2_with (at_mapUpdate; refine Mem.wp_putG (M := mapII) rfl (.tmp 68) (.tmp 69) _ rfl HM.out 2 rfl Hs.out rfl (q : Int) (.int .i64 ((d : Int) + 1)) rfl rfl Hq64.out ?_; intro w5 hM5 hs5)
            go_roundg (gk - 1)
            case rel => exact ⟨inc D2 c, _, rfl, rfl, Hsk.out.1, Hsk.out.2.1, Hsk.out.2.2.1, by have := HT2.out.put HV.out.2.2.2.2.2; rw [Hd.out, Hq.out] at this; exact this, hM5.cast (by unfold ownV; rw [Hsk.out.2.2.2, wT_inc HV2.out]; rfl)⟩
            case measure => have := Hgj.out; omega
          · rw [decide_eq_false hjM] at hB
            have HBt := Lib.hid hB
            have hV3 := hV.down hj hx heven hxj hjM hjF
            have hMl := hV3.len HE.out.1
            have hMl2 : (M ++ [(j : Int)]).length = M.length + 1 := by simp
            have hBk := fun X => back_any B X hbn
            have HBk := Lib.hid hBk
            have hwd := wT_down os M D2 hc (List.nodup_cons.1 hV.tn).1 (by rw [hd, Hm.out]; exact hlt)
            rw [Hq.out, hd, bk_bn, HB.out] at hwd
            have hMs := hM.setW 1 rfl (by rw [wT_len, hflO]) (q + 1 + d) ((B : Int) * 2)
            obtain ⟨W9, hW9⟩ : ∃ W9, wr.setCell ⟨g, q + 1 + d, none⟩ (.int .u64 ((B : Int) * 2)) = W9 := ⟨_, rfl⟩
            rw [hW9] at hMs
            have hMs2 : Mem w0.heap.size w0 W9 (ownV bC bm (.slice (some ⟨g, 0, none⟩) n cw) ov os M D2 ((c : Int) :: T) (sumD os D2) f2 ++ L) := hMs.cast (by rw [hwd]; rfl)
            have hEn := enter_any w0 W9 bC bm g n cw ov ws os M D2 ((c : Int) :: T) _ f2 L j HE.out.1.sound.laid HE.out.2.2 hj (by omega) hMs2
            rw [ht] at hEn
            have HEn := Lib.hid hEn
            have HW9 := Lib.hid hW9
            have HV3 := Lib.hid (And.intro hV3 (And.intro hj ht))
            have hmu2 : muC os (M ++ [(j : Int)]) D2 < gO := by unfold muC at hmu ⊢; omega
            clear hl hTc hM hd hV hT hsum hflO hx hxw hx64 hmu hgj hq64 hskip Hskip heven hc hg hR ht hidx hh hoj htf hgd hp hhe hB hjM hg2 hxj hjF hj hwd hMs hMs2 hEn hW9 hV3 hBk hMl hMl2
            go_wp2_with fail
            refine HR.out.mono ?_
            rintro e w7 ⟨rfl, rfl⟩
            clear HR
            go_wp2_with fail
            refine HBt.out.mono ?_
            rintro e w7 ⟨rfl, rfl⟩
            clear HBt
            go_wp2_with fail
            refine (HBk.out _).mono ?_
            rintro e w7 ⟨rfl, rfl⟩
            clear HBk
            go_wp2_with fail
            rw [HW9.out]
            refine HEn.out.mono ?_
            rintro e w8 ⟨rfl, ov3, hM8⟩
            have HM8 := Lib.hid hM8
            clear hM8 HEn dx fx dh
            go_wp2
            go_roundg (muC os (M ++ [(j : Int)]) D2)
            case rel => exact ⟨ov3, _, D2, _, j, f2, rfl, by rw [HV3.out.2.2], by simp [bn, Hq.out], HV3.out.1, HV3.out.2.1, fun x hx => List.mem_append_left _ (HV.out.2.2.2.1 x hx), List.mem_append_left _ HV.out.2.2.2.2.1, HT2.out, HM8.out⟩
            case measure => rw [← HgO.out]; exact hmu2
      · have hdm : d = m := by have := hV.dle c (hV.tm _ List.mem_cons_self); rw [hd, Hm.out] at this; omega
        have hfin : D2 c = (obj os c).2.length := by rw [hd, Hm.out, hdm]
        cases T with
        | nil =>
          have hB0 : (B : Int) - 1 = -1 := by rw [← HB.out]; rfl
          have HV2 := Lib.hid (hV.done hfin)
          have HT2 := Lib.hid hT
          rw [hB0]
          clear hl hTc hM hd hV hT hsum hflO hmu hgj hq64 hc hfin hB0
          go_wp2
          rw [Exit.noGoto_ret]
          refine bodyPost_ret (results_none rfl _ _ _) rfl ?_
          exact ⟨rfl, ov, M, D2, f2, HV2.out, HV.out.2.2.2.1, HV.out.2.2.2.2.1, HT2.out, HM.out⟩
        | cons p T =>
          have hpr := hV.trng HE.out.1 p List.mem_cons_self
          obtain ⟨pN, rfl⟩ : ∃ pN : Nat, p = pN := ⟨p.toNat, by omega⟩
          have hpl : pN < os.length := by omega
          have hl1 := hV.link.1
          rw [Int.toNat_natCast, Hq.out] at hl1
          have hpdl := (List.getElem?_eq_some_iff.1 hl1).1
          obtain ⟨qp, hqp⟩ : ∃ qp, place os pN = qp := ⟨_, rfl⟩
          have hBq : (B : Int) - 1 = qp := by
            rw [← HB.out]
            show ((place os (pN : Int).toNat + 1 : Nat) : Int) - 1 = _
            rw [Int.toNat_natCast, hqp]; omega
          obtain ⟨dp, hdp⟩ : ∃ dp, D2 pN = dp := ⟨_, rfl⟩
          obtain ⟨mp, hmp⟩ : ∃ mp, (obj os pN).2.length = mp := ⟨_, rfl⟩
          have hdlt : dp < mp := by rw [← hdp, ← hmp]; exact hpdl
          have hdlt2 : (dp : Int) < mp := by omega
          obtain ⟨op, hop⟩ := get_some os pN hpl
          have hqpf := HE.out.1.sound.laid.fit hop
          rw [HE.out.2.2, hqp] at hqpf
          have hqpne : ((qp : Int) == -1) = false := by simp
          have hp64 : i64ok (qp : Int) := by unfold i64ok; omega
          have hTp := hT pN hpl
          rw [hqp, hdp] at hTp
          have hTr := hV.trng HE.out.1
          have HX : Hid (∀ X, Below wr.heap.size wr X → X.cell? ⟨bC, 0, none⟩ = some (.slice (some ⟨g, 0, none⟩) n cw) ∧ X.cell? ⟨bC, 1, none⟩ = some (.map (some bm)) ∧ bC < X.heap.size ∧ (Instr.lookup 75 (.map (some bm)) (.int .i64 qp) false).run Try.prog X = .ok (.int .i64 (dp : Nat)) X) := Lib.hid (fun X hX => by
            have hMX := hM.call hX
            refine ⟨by have := hMX.cell 0 rfl 0; simpa using this, by have := hMX.cell 0 rfl 1; simpa using this, (hMX.box 0 rfl).2.1, ?_⟩
            have := (gmap_look (M := mapII) (hMX.get 2 rfl) (x := (qp : Int)) hp64).1
            rw [← hTp]; exact this)
          have HFl : Hid (∀ X, Below wr.heap.size wr X → ∃ a c, (mp = 0 ∨ a = some ⟨g, qp + 1, none⟩) ∧ Calls Try.prog 49 #[.slice (some ⟨g, 0, none⟩) n cw, .int .i64 (qp : Nat)] X fun e w' => e = .returned (.slice a mp c) ∧ Below X.heap.size X w') := Lib.hid (fun X hX => by
            have := fields_at HE.out.1 HE.out.2.1 HE.out.2.2 M D2 ((pN : Int) :: T) hTr 1 (hM.call hX) rfl pN hpl
            rwa [hqp, hmp] at this)
          have hV3 := hV.up hfin ⟨c, rfl, hc⟩
          have hsi := sumD_inc (os := os) D2 hpl
          have hs3 := hV3.sum
          have hmu2 : muC os M (inc D2 pN) < gO := by unfold muC at hmu ⊢; omega
          have hpT : (pN : Int) ∉ T := (List.nodup_cons.1 (List.nodup_cons.1 hV.tn).2).1
          have hwu := wT_up os M D2 hpl hpT hl1
          have hbT := bn_le HE.out.1.sound (fun t ht => hTr t (List.mem_cons_of_mem _ ht))
          have hwf := wT_field os M D2 ((pN : Int) :: T) hpl (fldT_top os D2 T hpdl)
          rw [hqp, hdp] at hwu hwf
          rw [bk_bn] at hwf
          obtain ⟨B2, hB2⟩ : ∃ B2, bn os T = B2 := ⟨_, rfl⟩
          rw [hB2] at hwf hbT
          have hwi : wT os M (inc D2 pN) T = wT os M D2 T := wT_ext os M fun t ht => inc_ne D2 (by rintro rfl; exact hpT ht)
          have Hwf := Lib.hid hwf
          have Hwu := Lib.hid hwu
          have Hwi := Lib.hid hwi
          have HB2 := Lib.hid hB2
          have HV3 := Lib.hid (And.intro hV3 (And.intro hpl (And.intro hqp hdp)))
          have HT2 := Lib.hid hT
          have Hsi := Lib.hid hsi
          have Hp64 := Lib.hid hp64
          have HBd := Lib.hid ((Below.refl wr.heap.size wr).drew)
          have HWy := Lib.hid (fun X => way_any B2 X (by omega))
          have e2 : IntKind.i64.wrap ((dp : Int) + 1) = (dp : Int) + 1 := IntWalk.i64_in _ (by have := (hd_good HE.out.1.sound.laid hpl).2.2; rw [hmp] at this; omega)
          rw [hBq]
          clear hl hTc hM hd hV hT hsum hflO hmu hgj hq64 hc hfin hBq hV3 hsi hs3 hwu hwf hwi hB2 hpT hTr hTp hop hqpf hp64 hl1 hpdl hpr hpl hqp hdp hmp HB
          obtain ⟨_, _, _, tl⟩ := HX.out _ HBd.out
          go_wp2
          go_cut [9] (fun s9 W => s9 = .pointer (some ⟨g, qp + 1 + dp, none⟩) ∧ Mem w0.heap.size w0 W (ownV bC bm (.slice (some ⟨g, 0, none⟩) n cw) ov os M D2 ((pN : Int) :: T) (sumD os D2) f2 ++ L))
          case first =>
            go_region_law (first
              | (go_simp
                 obtain ⟨aP, cP, haP, hCl⟩ := HFl.out _ HBd.out
                 obtain rfl : aP = some ⟨g, qp + 1, none⟩ := haP.resolve_left (by omega)
                 refine hCl.mono ?_
                 rintro e w9 ⟨rfl, hb9⟩
                 have hB9 := HBd.out.trans (hb9.mono HBd.out.size)
                 obtain ⟨t0, t1, tz, tl⟩ := HX.out _ hB9
                 clear hb9))
            all_goals
              go_wp2_with fail
              go_meet
              exact ⟨rfl, HM.out.call hB9⟩
          case rest =>
            clear HX HFl tl HM HBd c0 c1 cz hl2
            obtain ⟨rfl, hM⟩ := hcut
            obtain ⟨g', cw', hv, hg3, dy, fy⟩ := hM.wordsAt 1 rfl Hwf.out
            rw [wT_len, HfO.out] at hv
            cases hv
            have hMs := hM.setW 1 rfl (by rw [wT_len, HfO.out]) (qp + 1 + dp) ((q : Int) * 2)
            rw [show (q : Int) * 2 = 2 * (q : Int) by omega, Hwu.out, show 2 * (q : Int) = (q : Int) * 2 by omega] at hMs
            have hTp := HT2.out pN HV3.out.2.1
            rw [HV3.out.2.2.1, HV3.out.2.2.2] at hTp
            have hl := (gmap_look (M := mapII) (hMs.get 2 rfl) (x := (qp : Int)) Hp64.out).1
            have hl3 : (Instr.lookup 75 (.map (some bm)) (.int .i64 qp) false).run Try.prog (wc.setCell ⟨g, qp + 1 + dp, none⟩ (.int .u64 ((q : Int) * 2))) = .ok (.int .i64 (dp : Nat)) (wc.setCell ⟨g, qp + 1 + dp, none⟩ (.int .u64 ((q : Int) * 2))) := by rw [← hTp]; exact hl
            have k1 : (wc.setCell ⟨g, qp + 1 + dp, none⟩ (.int .u64 ((q : Int) * 2))).cell? ⟨bC, 1, none⟩ = some (.map (some bm)) := by have := hMs.cell 0 rfl 1; simpa using this
            have kz : bC < (wc.setCell ⟨g, qp + 1 + dp, none⟩ (.int .u64 ((q : Int) * 2))).heap.size := (hMs.box 0 rfl).2.1
            have HMs := Lib.hid hMs
            clear hM hMs hTp hl
            go_wp2_with fail
            refine (HWy.out _).mono ?_
            rintro e w7 ⟨rfl, rfl⟩
            clear HWy
            go_wp2_with (first
              | (at_mapUpdate; refine Mem.wp_putG (M := mapII) rfl (.tmp 101) (.tmp 102) _ rfl HMs.out 2 rfl Hs.out rfl (qp : Int) (.int .i64 ((dp : Int) + 1)) rfl rfl Hp64.out ?_; intro w5 hM5 hs5))
            go_roundg (muC os M (inc D2 pN))
            case rel => exact ⟨ov, M, inc D2 pN, T, pN, _, rfl, by rw [HV3.out.2.2.1], by rw [HB2.out], HV3.out.1, HV3.out.2.1, HV.out.2.2.2.1, HV.out.2.2.2.2.1, by have := HT2.out.put HV3.out.2.1; rw [HV3.out.2.2.1, HV3.out.2.2.2] at this; exact this, hM5.cast (by unfold ownV; rw [Hsi.out, Hwi.out]; rfl)⟩
            case measure => rw [← HgO.out]; exact hmu2
end Go.Proofs.Ytgdodbdipbomfaa
