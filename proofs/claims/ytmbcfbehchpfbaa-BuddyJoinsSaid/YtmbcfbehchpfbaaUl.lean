/- Free words: Give, walked. -/
import Derived.Test.YtmbcfbehchpfbaaUk
import Derived.Test.YtmbcfbehchpfbaaUg
namespace Go.Proofs.Ytmbcfbehchpfbaa
open Go.RowKit

def lstF (l0 : List (Nat × Nat)) (i : Nat) : Nat → List (Nat × Nat)
  | 0 => l0
  | 1 => mergeAt l0 i
  | _ => if 1 ≤ i then mergeAt (mergeAt l0 i) (i - 1) else mergeAt l0 i
theorem merge_num {fr : List (Nat × Nat)} {k N M : Nat} (h : ∀ b ∈ fr, b.1 ≤ N ∧ b.2 ≤ M) : ∀ b ∈ mergeAt fr k, b.1 ≤ N ∧ b.2 ≤ 2 * M := by
  intro b hb
  unfold mergeAt at hb
  split at hb
  · rename_i hc
    have hb2 := List.mem_of_mem_eraseIdx hb
    rcases List.mem_or_eq_of_mem_set hb2 with h1 | h1
    · have := h b h1; omega
    · have h2 : fr.getD k (0, 0) ∈ fr := by rw [List.getD_eq_getElem?_getD, List.getElem?_eq_getElem (by omega)]; exact List.getElem_mem _
      have h3 : fr.getD (k + 1) (0, 0) ∈ fr := by rw [List.getD_eq_getElem?_getD, List.getElem?_eq_getElem hc.1]; exact List.getElem_mem _
      have := h _ h2
      have := h _ h3
      subst h1
      simp only
      omega
  · have := h b hb; omega
theorem merge_len (fr : List (Nat × Nat)) (k : Nat) : (mergeAt fr k).length ≤ fr.length := by
  unfold mergeAt
  split
  · have := List.length_eraseIdx_le (fr.set k ((fr.getD k (0, 0)).1, (fr.getD k (0, 0)).2 + (fr.getD (k + 1) (0, 0)).2)) (k + 1)
    simpa using this
  · exact Nat.le_refl _
theorem lst_num {l0 : List (Nat × Nat)} {i : Nat} (h : ∀ b ∈ l0, b.1 + b.2 ≤ 256) (c : Nat) (hc : c < 2) : ∀ b ∈ lstF l0 i c, b.1 ≤ 256 ∧ b.2 ≤ 512 := by
  have h0 : ∀ b ∈ l0, b.1 ≤ 256 ∧ b.2 ≤ 256 := fun b hb => by have := h b hb; omega
  have hc2 : c = 0 ∨ c = 1 := by omega
  rcases hc2 with rfl | rfl
  · intro b hb
    have := h0 b hb; omega
  · exact merge_num h0
theorem lst_len {l0 : List (Nat × Nat)} {i : Nat} (c : Nat) : (lstF l0 i c).length ≤ l0.length := by
  unfold lstF
  split
  · exact Nat.le_refl _
  · exact merge_len _ _
  · split
    · exact Nat.le_trans (merge_len _ _) (merge_len _ _)
    · exact merge_len _ _
def GiveSays (B : Nat) (w0 : World) (Bl Bm m : Nat) (s : FSt) (L' : List Ent) (r : Option FSt) (e : Ending) (w' : World) : Prop :=
  match r with
  | none => e = .returned (.bool false) ∧ ∃ v, Mem B w0 w' (ownL Bl Bm v m s ++ L')
  | some s' => e = .returned (.bool true) ∧ ∃ v, Mem B w0 w' (ownL Bl Bm v m s' ++ L')
theorem tkV_look {Bl Bm m : Nat} {v : Value} {s : FSt} {L' : List Ent} {B : Nat} {w0 w : World} (h : Mem B w0 w (ownL Bl Bm v m s ++ L')) {x : Int} (hx : i64ok x) :
    (Instr.lookup 71 (.map (some Bm)) (.int .i64 x) true).run Try.prog w = .ok (.tuple #[((tkV s.tk x).getD (.int .i64 0)), .bool (tkV s.tk x).isSome]) w := (gmap_look (M := mapII) (h.get 2 rfl) (x := x) hx).2
theorem own_given (Bl Bm m : Nat) (v : Value) (fr : List (Nat × Nat)) (s : FSt) (x : Int) :
    [ebox Bl #[v, .map (some Bm), .int .i64 (s.last : Int)] 73, rowB v fr, gmap mapII Bm m (fun u => if u = x then none else tkV s.tk u)] = ownL Bl Bm v m ⟨fr, fun y => if y = x then none else s.tk y, s.last⟩ := by
  unfold ownL
  have e : (fun u : Int => if u = x then none else tkV s.tk u) = tkV (fun y => if y = x then none else s.tk y) := by
    funext u
    unfold tkV
    by_cases h : u = x
    · simp [h]
    · simp [h]
  rw [e]
set_option maxRecDepth 100000 in
set_option maxHeartbeats 1000000 in
theorem give_words (B : Nat) (w0 w : World) (Bl Bm m : Nat) (v : Value) (s : FSt) (x : Int) (L' : List Ent) (hM : Mem B w0 w (ownL Bl Bm v m s ++ L')) (hO : FOk s) (hr : Rise s.fr) (hx : i64ok x)
    (ht : ∀ n, s.tk x = some n → ∃ p : Nat, x = (p : Int) ∧ p + n ≤ 256) :
    Calls Try.prog 34 #[.pointer (some ⟨Bl, 0, none⟩), .int .i64 x] w (GiveSays B w0 Bl Bm m s L' (giveF s x)) := by
  have hl := tkV_look hM hx
  have c0 : w.cell? ⟨Bl, 0, none⟩ = some v := by have := hM.cell 0 rfl 0; simpa using this
  have c1 : w.cell? ⟨Bl, 1, none⟩ = some (.map (some Bm)) := by have := hM.cell 0 rfl 1; simpa using this
  have zl : Bl < w.heap.size := (hM.box 0 rfl).2.1
  cases htk : s.tk x with
  | none =>
    have hg : giveF s x = none := by unfold giveF; rw [htk]
    have e1 : tkV s.tk x = none := by unfold tkV; rw [htk]; rfl
    rw [e1] at hl
    have hl2 : (Instr.lookup 71 (.map (some Bm)) (.int .i64 x) true).run Try.prog w = .ok (.tuple #[.int .i64 0, .bool false]) w := hl
    have HM := Lib.hid hM
    have HG := Lib.hid hg
    clear hM hg e1 hl htk ht hr
    go_enter Try.func34, Try.ntmps34
    go_wp2_with fail
    go_ret
    rw [HG.out]
    exact ⟨rfl, _, HM.out⟩
  | some nn =>
    obtain ⟨p, rfl, hp⟩ := ht nn htk
    have e1 : tkV s.tk (p : Int) = some (.int .i64 (nn : Int)) := by unfold tkV; rw [htk]; rfl
    rw [e1] at hl
    have hl2 : (Instr.lookup 71 (.map (some Bm)) (.int .i64 (p : Int)) true).run Try.prog w = .ok (.tuple #[.int .i64 (nn : Int), .bool true]) w := hl
    obtain ⟨i, hi⟩ : ∃ i, belowF s.fr (p : Int) = i := ⟨_, rfl⟩
    have hil : i ≤ s.fr.length := by rw [← hi]; exact below_le _ _
    have hg : giveF s (p : Int) = some ⟨lstF (s.fr.insertIdx i (p, nn)) i 2, fun y => if y = (p : Int) then none else s.tk y, s.last⟩ := by
      unfold giveF; rw [htk]; simp only [giveL, Int.toNat_natCast, hi]; rfl
    have HM := Lib.hid hM
    have HG := Lib.hid hg
    have HO := Lib.hid hO
    have HR := Lib.hid hr
    have HI := Lib.hid hi
    clear hM hg e1 hl htk ht hr hO hi
    go_enter Try.func34, Try.ntmps34
    go_wp2_with (refine Mem.wp_delG (M := mapII) rfl (.tmp 25) (.tmp 26) rfl HM.out 2 rfl rfl (p : Int) rfl hx ?_; intro w1 hM1 hs1; have g0 : w1.cell? ⟨Bl, 0, none⟩ = some v := (by have := hM1.cell 0 rfl 0; simpa using this))
    have hM1' : Mem B w0 w1 (ownL Bl Bm v m ⟨s.fr, fun y => if y = (p : Int) then none else s.tk y, s.last⟩ ++ L') := hM1.cast (congrArg (· ++ L') (own_given Bl Bm m v s.fr s (p : Int)))
    have HM1 := Lib.hid hM1'
    have HS := Lib.hid (search_blk v s.fr (p : Int) w1 (hM1'.isTup 1 rfl encB_len (by have := HO.out.len; omega)) HR.out (by have := HO.out.len; omega))
    rw [HI.out] at HS
    clear hM1 hM1' hl2 HM c0 c1 zl hs1
    with_reducible refine HS.out.mono ?_
    rintro e w2 ⟨bb, rfl, hb2⟩
    have hM2 := (HM1.out.call hb2).alloc #[.int .i64 (p : Int), .int .i64 (nn : Int)] 34
    have g2 : w2.cell? ⟨Bl, 0, none⟩ = some v := by have := (HM1.out.call hb2).cell 0 rfl 0; simpa using this
    have z2 : Bl < w2.heap.size := ((HM1.out.call hb2).box 0 rfl).2.1
    have hb0 := (hM2.box 0 rfl).2.2
    have hne : v.ownBlock ≠ some w2.heap.size := by
      intro e
      have := ((HM1.out.call hb2).row 1 rfl).lt _ e
      omega
    have HIn := Lib.hid (insert_any B w0 _ _ 2 w2.heap.size 1 i (i : Int) 34 v s.fr (p, nn) hM2 rfl HO.out.len hil rfl hb0 hne)
    clear hM2 hb0 hne HS HM1 g0 hb2
    go_wp2_with fail
    with_reducible refine HIn.out.mono ?_
    rintro e w3 ⟨a3, n3, c3, rfl, hM3, _⟩
    obtain ⟨l0, hl0⟩ : ∃ l0, s.fr.insertIdx i (p, nn) = l0 := ⟨_, rfl⟩
    have hn0 : ∀ b ∈ l0, b.1 + b.2 ≤ 256 := by
      intro b hb
      rw [← hl0] at hb
      rcases (List.mem_insertIdx hil).1 hb with rfl | h1
      · exact hp
      · exact HO.out.num b h1
    have hlen0 : l0.length ≤ 256 := by rw [← hl0, List.length_insertIdx]; split <;> (have := HO.out.len; omega)
    rw [hl0] at hM3
    have g3 : w3.cell? ⟨Bl, 0, none⟩ = some v := by have := hM3.cell 1 rfl 0; simpa using this
    have f3 : w3.frozen? ⟨Bl, 0, none⟩ = false := hM3.free 1 rfl 0
    have z3 : Bl < w3.heap.size := (hM3.box 1 rfl).2.1
    have HM3 := Lib.hid ((hM3.setBox 1 rfl 0 (.slice a3 n3 c3)).drop (List.sublist_cons_self _ _))
    have Hn0 := Lib.hid hn0
    have Hl0 := Lib.hid hl0
    clear hM3 HIn hn0 hl0 g2 z2
    have hi255 : i ≤ 255 := by have := HO.out.len; omega
    go_wp2_with fail
    go_loopw [53] (fun j wr => ∃ (c : Nat) (a : Option Addr) (n cc : Nat), c ≤ 2 ∧ j = .int .i64 (c : Int) ∧ Mem B w0 wr (ownL Bl Bm (.slice a n cc) m ⟨lstF l0 i c, fun y => if y = (p : Int) then none else s.tk y, s.last⟩ ++ L')) (fun j _ => 2 - (intOf j).toNat)
    case atStart => exact ⟨0, a3, n3, c3, by omega, rfl, HM3.out.cast rfl⟩
    case round =>
      clear HM3 g3 f3 z3
      obtain ⟨c, av, nv, cv, hc, rfl, hM⟩ := hrel
      by_cases hlt : c < 2
      · obtain ⟨kk, hidx, hkk⟩ : ∃ kk : Int, (∀ w, (Instr.index 101 (.agg #[.int .i64 (i : Int), .int .i64 ((i : Int) - 1)]) (.int .i64 (c : Int))).run Try.prog w = .ok (.int .i64 kk) w) ∧ ((kk = -1 ∧ lstF l0 i (c + 1) = lstF l0 i c) ∨ ∃ k : Nat, kk = (k : Int) ∧ k ≤ 255 ∧ lstF l0 i (c + 1) = mergeAt (lstF l0 i c) k) := by
          have hc2 : c = 0 ∨ c = 1 := by omega
          rcases hc2 with rfl | rfl
          · exact ⟨_, fun _ => by kernel_rfl, .inr ⟨i, rfl, hi255, rfl⟩⟩
          · refine ⟨(i : Int) - 1, fun _ => by kernel_rfl, ?_⟩
            by_cases h1 : 1 ≤ i
            · exact .inr ⟨i - 1, by omega, by omega, by simp [lstF, h1]⟩
            · exact .inl ⟨by omega, by simp [lstF, h1]⟩
        obtain ⟨lc, hlc⟩ : ∃ lc, lstF l0 i c = lc := ⟨_, rfl⟩
        obtain ⟨ld, hld⟩ : ∃ ld, lstF l0 i (c + 1) = ld := ⟨_, rfl⟩
        have hnum := lst_num (i := i) Hn0.out c hlt
        have hlen := lst_len (l0 := l0) (i := i) c
        rw [hlc] at hnum hlen hkk hM
        rw [hld] at hkk
        have Hld := Lib.hid hld
        clear hlc hld
        have d0 : wr.cell? ⟨Bl, 0, none⟩ = some (.slice av nv cv) := by have := hM.cell 0 rfl 0; simpa using this
        have dz : Bl < wr.heap.size := (hM.box 0 rfl).2.1
        rcases hkk with ⟨rfl, hsame⟩ | ⟨k, rfl, hk255, hmg⟩
        · have HM := Lib.hid hM
          have HS := Lib.hid hsame
          clear hM hsame hnum hlen
          have q1 : decide ((-1 : Int) ≥ 0) = false := rfl
          go_wp2
          go_quiet (fail)
          go_wp2
          go_roundw
          case rel => exact ⟨c + 1, av, nv, cv, by omega, by go_num, (HM.out.drewN _).cast (by rw [Hld.out, HS.out])⟩
          case measure => simp [intOf]; omega
        · obtain ⟨n, hn⟩ : ∃ n, lc.length = n := ⟨_, rfl⟩
          obtain rfl : nv = n := by
            rcases (hM.row 1 rfl).2 with ⟨h1, h2⟩ | ⟨g, cap, cur, h1, _⟩
            · have h2' : lc.length = 0 := h2
              cases h1; omega
            · cases h1; exact hn
          have q1 : decide ((k : Int) ≥ 0) = true := decide_eq_true (by omega)
          by_cases hk1 : k + 1 < nv
          · obtain ⟨b, hb⟩ := get_some lc k (by omega)
            obtain ⟨b2, hb2⟩ := get_some lc (k + 1) (by omega)
            have hgd : lc.getD k (0, 0) = b := by rw [List.getD_eq_getElem?_getD, hb]; rfl
            have hgd2 : lc.getD (k + 1) (0, 0) = b2 := by rw [List.getD_eq_getElem?_getD, hb2]; rfl
            have hmg2 : mergeAt lc k = if b.1 + b.2 = b2.1 then (lc.set k (b.1, b.2 + b2.2)).eraseIdx (k + 1) else lc := by
              unfold mergeAt
              rw [hgd, hgd2, hn]
              by_cases he : b.1 + b.2 = b2.1
              · rw [if_pos ⟨hk1, he⟩, if_pos he]
              · rw [if_neg (fun h => he h.2), if_neg he]
            rw [hmg2] at hmg
            obtain ⟨g, cap, hav⟩ : ∃ g cap, Value.slice av nv cv = .slice (some ⟨g, 0, none⟩) nv cap := by
              rcases (hM.row 1 rfl).2 with ⟨h1, h2⟩ | ⟨g, cap, cur, h1, _⟩
              · cases h1; omega
              · exact ⟨g, cap, by rw [h1, hn]⟩
            cases hav
            have b0 := (hM.tupAt 1 (i := k) (x := b) rfl encB_len hb 0 _ rfl)
            have b1 := (hM.tupAt 1 (i := k) (x := b) rfl encB_len hb 1 _ rfl)
            have b2a := (hM.tupAt 1 (i := k + 1) (x := b2) rfl encB_len hb2 0 _ rfl).1
            have b2b := (hM.tupAt 1 (i := k + 1) (x := b2) rfl encB_len hb2 1 _ rfl).1
            obtain ⟨b0, _⟩ := b0
            obtain ⟨b1, b1f⟩ := b1
            rw [Nat.add_zero] at b0 b2a
            have zg : g < wr.heap.size := ((hM.row 1 rfl).lt g rfl).2
            have n1 := hnum b (List.mem_of_getElem? hb)
            have n2 := hnum b2 (List.mem_of_getElem? hb2)
            have q2 : (k : Int) + 1 < (nv : Int) := by omega
            have q2d : decide ((k : Int) + 1 < (nv : Int)) = true := decide_eq_true q2
            have q3 : k < nv := by omega
            have q4 : (k : Int) < (nv : Int) := by omega
            have q5 : (0 : Int) ≤ (k : Int) := by omega
            have q6 : (0 : Int) ≤ (k : Int) + 1 := by omega
            have q7 : ((k : Int) + 1).toNat = k + 1 := by omega
            have w1 : IntKind.i64.wrap ((k : Int) + 1) = (k : Int) + 1 := by rw [IntKind.wrap_i64]; omega
            have w2' : IntKind.i64.wrap ((b.1 : Int) + (b.2 : Int)) = (b.1 : Int) + (b.2 : Int) := by rw [IntKind.wrap_i64]; omega
            have w3' : IntKind.i64.wrap ((b.2 : Int) + (b2.2 : Int)) = (b.2 : Int) + (b2.2 : Int) := by rw [IntKind.wrap_i64]; omega
            by_cases he : b.1 + b.2 = b2.1
            · rw [if_pos he] at hmg
              have qe : ((b.1 : Int) + (b.2 : Int) == (b2.1 : Int)) = true := by rw [beq_iff_eq]; omega
              have HM := Lib.hid hM
              have HS := Lib.hid hmg
              clear hmg hmg2 hnum hlen hgd hgd2
              have hset : (lc.flatMap encB).set (k * 2 + 1) (.int .i64 ((b.2 : Int) + (b2.2 : Int))) = (lc.set k (b.1, b.2 + b2.2)).flatMap encB := set_one hb (.inr ⟨rfl, by simp [encB]⟩)
              have HM4 : Hid (∀ N, Mem B w0 ((wr.drewN N).setCell ⟨g, k * 2 + 1, none⟩ (.int .i64 ((b.2 : Int) + (b2.2 : Int)))) (ownL Bl Bm (.slice (some ⟨g, 0, none⟩) nv cv) m ⟨lc.set k (b.1, b.2 + b2.2), fun y => if y = (p : Int) then none else s.tk y, s.last⟩ ++ L')) := fun N => (hM.drewN N).setT 1 rfl hn (k * 2 + 1) (.int .i64 ((b.2 : Int) + (b2.2 : Int))) hset (by simp)
              have hln : (lc.set k (b.1, b.2 + b2.2)).length = nv := by rw [List.length_set, hn]
              clear hM hset he hb hb2 hn
              go_wp2
              go_quiet (fail)
              go_wp2
              go_cut [10] (fun s10 W => s10 = .int .i64 (k : Int) ∧ Mem B w0 W (ownL Bl Bm (.slice (some ⟨g, 0, none⟩) nv cv) m ⟨lc.set k (b.1, b.2 + b2.2), fun y => if y = (p : Int) then none else s.tk y, s.last⟩ ++ L'))
              case first =>
                go_region_law (fail)
                all_goals
                  go_wp2_with fail
                  go_meet
                  exact ⟨rfl, HM4.out _⟩
              case rest =>
                clear b0 b1 b1f b2a b2b d0 dz zg HM4 HM
                obtain ⟨rfl, hM5⟩ := hcut
                have d0 : wc.cell? ⟨Bl, 0, none⟩ = some (.slice (some ⟨g, 0, none⟩) nv cv) := by have := hM5.cell 0 rfl 0; simpa using this
                have dz : Bl < wc.heap.size := (hM5.box 0 rfl).2.1
                have HD := Lib.hid (delete_any B w0 wc _ 1 g nv cv _ (k + 1) ((k : Int) + 1) ((k : Int) + 2) hM5 rfl hln (by omega) (by omega) (by omega))
                clear hM5 hln
                go_wp2_with fail
                with_reducible refine HD.out.mono ?_
                rintro e w5 ⟨rfl, hM5, hz5⟩
                have f0 : w5.frozen? ⟨Bl, 0, none⟩ = false := hM5.free 0 rfl 0
                have f0' : w5.cell? ⟨Bl, 0, none⟩ = some (.slice (some ⟨g, 0, none⟩) nv cv) := by have := hM5.cell 0 rfl 0; simpa using this
                have z5 : Bl < w5.heap.size := (hM5.box 0 rfl).2.1
                have HM6 := Lib.hid (hM5.setBox 0 rfl 0 (.slice (some ⟨g, 0, none⟩) (nv - 1) cv))
                clear hM5 HD d0 dz
                go_wp2
                go_roundw
                case rel => exact ⟨c + 1, some ⟨g, 0, none⟩, nv - 1, cv, by omega, by go_num, HM6.out.cast (by rw [Hld.out, HS.out]; rfl)⟩
                case measure => simp [intOf]; omega
            · rw [if_neg he] at hmg
              have qe : ((b.1 : Int) + (b.2 : Int) == (b2.1 : Int)) = false := beq_eq_false_iff_ne.2 (by omega)
              have HM := Lib.hid hM
              have HS := Lib.hid hmg
              clear hM hmg hmg2 hnum hlen hgd hgd2 he hb hb2 hn
              go_wp2
              go_quiet (fail)
              go_wp2
              go_roundw
              case rel => exact ⟨c + 1, some ⟨g, 0, none⟩, nv, cv, by omega, by go_num, (HM.out.drewN _).cast (by rw [Hld.out, HS.out])⟩
              case measure => simp [intOf]; omega
          · have hmg2 : mergeAt lc k = lc := by unfold mergeAt; rw [if_neg (fun h => by have := h.1; omega)]
            rw [hmg2] at hmg
            have HM := Lib.hid hM
            have HS := Lib.hid hmg
            have q2 : decide ((k : Int) + 1 < (nv : Int)) = false := decide_eq_false (by omega)
            have w1 : IntKind.i64.wrap ((k : Int) + 1) = (k : Int) + 1 := by rw [IntKind.wrap_i64]; omega
            clear hM hmg hmg2 hnum hlen hn
            go_wp2
            go_quiet (fail)
            go_wp2
            go_roundw
            case rel => exact ⟨c + 1, av, nv, cv, by omega, by go_num, (HM.out.drewN _).cast (by rw [Hld.out, HS.out])⟩
            case measure => simp [intOf]; omega
      · obtain rfl : c = 2 := by omega
        have HM := Lib.hid hM
        clear hM
        go_wp2
        go_ret
        rw [HG.out]
        rw [Hl0.out]
        exact ⟨rfl, _, HM.out⟩
end Go.Proofs.Ytmbcfbehchpfbaa
