/- fill of a solver. -/
import Derived.Test.YtgdnehejeoiicaaSuJ
set_option linter.unusedVariables false
set_option linter.unusedSimpArgs false
namespace Go.Proofs.Ytgdnehejeoiicaa
open Go.RowKit

theorem upL_len (ah : Nat → Nat → Bool) (x : Nat) : ∀ (i : Nat) (l : List Nat) (ps : List Int), (upL ah x i l ps).1.length = l.length := by
  intro i
  induction i using Nat.strongRecOn with
  | _ i ih =>
    intro l ps
    by_cases h0 : 0 < i
    · by_cases h1 : ah x (l.getD ((i - 1) / 2) 0) = true
      · rw [upL_go h0 h1, ih _ (by omega)]
        simp
      · rw [upL_stop (fun _ => by simpa using h1)]
        simp
    · rw [upL_stop (fun h => absurd h h0)]
      simp
theorem pushX_len1 (s : HS) (v : Int) : (pushX s v).l.length ≤ s.l.length + 1 ∧ (pushX s v).fs = s.fs := by
  unfold pushX
  split
  · refine ⟨?_, rfl⟩
    unfold pushS
    simp only [upL_len, List.length_append, List.length_singleton]
    omega
  · exact ⟨by omega, rfl⟩

theorem HeapAt.keep {S : Nat → Prop} {w w' : World} {H V bs bp : Nat} {lv : Value} {s : HS} (h : HeapAt w H V bs bp lv s) (k : Fr S w w') (h1 : ¬ S H) (h2 : ¬ S V) (h3 : ¬ S bs) (h4 : ¬ S bp) (h5 : ∀ b, lv.ownBlock = some b → ¬ S b) : HeapAt w' H V bs bp lv s :=
  ⟨h.hH.keep k h1, h.hV.keep k h2, h.hs.keep k h3, h.hp.keep k h4, k.owns h.hl h5, h.hlp, h.hn, h.hm, h.hv, h.hL⟩
/-- A heap of the call's own, in blocks from B on. -/
def HeapB (B n k : Nat) (w : World) (H : Nat) : Prop :=
  ∃ V bs bp lv s, HeapAt w H V bs bp lv s ∧ s.fs.length = n ∧ s.l.length ≤ k ∧ B ≤ H ∧ B ≤ bp ∧ ∀ b, lv.ownBlock = some b → B ≤ b
theorem heapB_push {B n k : Nat} {w : World} {H : Nat} (h : HeapB B n k w H) (hk : k < 1048576) (v : Int) :
    Calls Try.prog 45 #[.pointer (some ⟨H, 0, none⟩), .int .i64 v] w fun e w' => (∃ r, e = .returned (.int .i64 r)) ∧ HeapB B n (k + 1) w' H ∧ Fr (fun b => B ≤ b) w w' := by
  obtain ⟨V, bs, bp, lv, s, h1, h2, h3, h4, h5, h6⟩ := h
  refine (push_heap h1 v (fun _ _ => by omega)).mono ?_
  rintro e w' ⟨rfl, lv', q1, q2, q3⟩
  obtain ⟨p1, p2⟩ := pushX_len1 s v
  have hw : B ≤ w.heap.size := by have := h1.hH.lt; omega
  refine ⟨⟨_, rfl⟩, ⟨V, bs, bp, lv', _, q1, by rw [p2]; exact h2, by omega, h4, h5, fun b hb => ?_⟩, q2.mono (fun b _ hb => ?_)⟩
  · rcases q3 b hb with e | e
    · exact h6 b e
    · omega
  · rcases hb with e | e | e
    · exact h6 b e
    · omega
    · omega

theorem SolverAt.refill {w : World} {S U : Nat} {hp ph sts pl mp : Value} {ad : Nat} {st : US} (h : SolverAt w S U hp ph sts pl mp ad st) (H : Nat) :
    SolverAt (w.setCell ⟨S, 3, none⟩ (.pointer (some ⟨H, 0, none⟩))) S U (.pointer (some ⟨H, 0, none⟩)) ph sts pl mp ad st ∧ Fr (fun b => b = S) w (w.setCell ⟨S, 3, none⟩ (.pointer (some ⟨H, 0, none⟩))) := by
  have k := Fr.set w ⟨S, 3, none⟩ (.pointer (some ⟨H, 0, none⟩))
  obtain ⟨c1, h1⟩ := h.hph
  obtain ⟨c2, h2⟩ := h.hst
  obtain ⟨c3, h3⟩ := h.hpl
  exact ⟨⟨h.hS.set 3 _, ⟨_, rfl⟩, ⟨c1, k.owns h1 (fun g e e' => row_ne h1 h.hS (by decide) (by rw [e]; exact congrArg some e'))⟩, ⟨c2, k.owns h2 (fun g e e' => row_ne h2 h.hS (by decide) (by rw [e]; exact congrArg some e'))⟩, ⟨c3, k.owns h3 (fun g e e' => row_ne h3 h.hS (by decide) (by rw [e]; exact congrArg some e'))⟩, h.hd⟩, k.mono (fun b _ e => e)⟩

set_option maxHeartbeats 1600000 in
set_option maxRecDepth 20000 in
theorem sfill_ok {N : Nat → Prop} {w : World} {S U : Nat} {st : US} (hN : ∀ b, N b → b < w.heap.size) (h : SolverN N w S U st) :
    Calls Try.prog 17 #[.pointer (some ⟨S, 0, none⟩)] w fun e w' => e = .returned (.tuple #[]) ∧ SolverN N w' S U st ∧ Fr (fun b => ¬ N b) w w' := by
  obtain ⟨hp, ph, sts, pl, mp, ad, h, huN, hO, had⟩ := h
  have huN' := huN
  obtain ⟨vs, cs, ms, cv, hu, u1, u2, u3, u4, u5⟩ := huN'
  obtain ⟨Hold, rfl⟩ := h.hp'
  have ha := uatoms_ok hu
  have hn := hu.hn
  have hnew := new_yes st.n w (by omega)
  have s2 : w.cell? ⟨S, 2, none⟩ = some (.pointer (some ⟨U, 0, none⟩)) := h.hS.cell rfl
  have s3 : w.cell? ⟨S, 3, none⟩ = some (.pointer Hold) := h.hS.cell rfl
  have s3f := h.hS.free 3
  obtain ⟨n, en⟩ : ∃ n, n = st.n := ⟨_, rfl⟩
  rw [← en] at ha hnew
  have HH := Lib.hid h
  have HU := Lib.hid huN
  have HUA := Lib.hid hu
  have HUN := Lib.hid (And.intro u1 (And.intro u2 (And.intro u3 (And.intro u4 u5))))
  have HO := Lib.hid hO
  have HNN := Lib.hid hN
  have HEN := Lib.hid en
  rw [← en] at hn
  clear h huN hu hO hN en u1 u2 u3 u4 u5
  go_enter Try.func17, Try.ntmps17
  go_wp2_with (first
    | (go_at_call 19; ((with_reducible refine ha.mono ?_); rintro e w' ⟨rfl, rfl⟩))
    | (go_at_call 44
       refine hnew.mono ?_
       rintro e w1 ⟨H, V, bs, bp, rfl, hh, f1, b1, b2, b3, b4⟩
       have S1 := HH.out.keep f1 (fun _ _ e => e)
       have c3 : w1.cell? ⟨S, 3, none⟩ = some (.pointer Hold) := S1.hS.cell rfl
       have c3f := S1.hS.free 3
       obtain ⟨S2, f2⟩ := S1.refill H
       obtain ⟨wS, eS⟩ : ∃ wS, wS = w1.setCell ⟨S, 3, none⟩ (.pointer (some ⟨H, 0, none⟩)) := ⟨_, rfl⟩
       rw [← eS] at S2 f2
       have cS2 : wS.cell? ⟨S, 2, none⟩ = some (.pointer (some ⟨U, 0, none⟩)) := S2.hS.cell rfl
       have cS3 : wS.cell? ⟨S, 3, none⟩ = some (.pointer (some ⟨H, 0, none⟩)) := S2.hS.cell rfl
       have hu2 := (HUA.out.keep f1 (fun e => e) (fun _ _ e => e) (fun _ _ e => e) (fun _ _ e => e) (fun _ _ _ _ e => e)).keep f2 (fun e => HUN.out.1 (.inr (.inl e))) (fun g e k => HUN.out.2.1 g e (.inr (.inl k))) (fun g e k => HUN.out.2.2.1 g e (.inr (.inl k))) (fun g e k => HUN.out.2.2.2.1 g e (.inr (.inl k))) (fun v hv g e k => HUN.out.2.2.2.2 v hv g e (.inr (.inl k)))
       have ha2 := uatoms_ok hu2
       rw [← HEN.out] at ha2
       have eS2 := eS.symm
       have hh2 : HeapB w.heap.size n 0 wS H := by
         have hSw := HH.out.hS.lt
         refine ⟨V, bs, bp, _, _, hh.keep f2 (fun e => by omega) (fun e => by omega) (fun e => by omega) (fun e => by omega) (fun b hb => by simp [Value.ownBlock] at hb), ?_, by simp [newS], b1, b4, fun b hb => by simp [Value.ownBlock] at hb⟩
         simp [newS, HEN.out]
       have HHB := Lib.hid hh2
       have HS2 := Lib.hid S2
       have HF2 := Lib.hid f2
       clear S2 f2 hu2 eS hh2
       have HS1 := Lib.hid S1
       have HF1 := Lib.hid f1
       have HHP := Lib.hid hh
       have HBN := Lib.hid (And.intro b1 (And.intro b2 (And.intro b3 b4)))
       clear S1 f1 hh b1 b2 b3 b4)
    | (go_at_call 19; ((with_reducible refine ha2.mono ?_); rintro e w' ⟨rfl, rfl⟩))
    | fail)
  go_loopw [2, 20] (fun v_ k_ wr => ∃ k : Nat, k_ = .int .i64 k ∧ k ≤ n ∧ Hid (HeapB w.heap.size n k wr H) ∧ Hid (Fr (fun b => w.heap.size ≤ b) wS wr)) (fun _ k_ _ => n - (intOf k_).toNat)
  case atStart => exact ⟨0, rfl, Nat.zero_le _, HHB.out, Fr.refl _ _⟩
  case round =>
    obtain ⟨k, rfl, hk, HB, HF⟩ := hrel
    have hSk := HS2.out.keep HF.out (fun b hb e => by have := HH.out.own_lt hb; omega)
    by_cases hlt : k < n
    · have c3 : wr.cell? ⟨S, 3, none⟩ = some (.pointer (some ⟨H, 0, none⟩)) := hSk.hS.cell rfl
      have hp := heapB_push HB.out (by omega) (k : Int)
      have b1 : (k : Int) < (n : Int) := by omega
      clear hSk
      go_wp2_with (go_at_call 45; refine hp.mono ?_; rintro e w' ⟨⟨r, rfl⟩, h5, f5⟩; have H5 := Lib.hid h5; have F5 := Lib.hid f5; clear h5 f5)
      go_roundw
      case rel => exact ⟨k + 1, (by go_num), by omega, H5.out, HF.out.then F5.out (fun _ _ e => e)⟩
      case measure => simp [intOf]; omega
    · have b1 : ¬ (k : Int) < (n : Int) := by omega
      have HSK := Lib.hid hSk
      clear hSk
      go_wp2
      go_end0
      have hSw := HH.out.hS.lt
      have fr1 : Fr (fun b => b = S ∨ w.heap.size ≤ b) w wr := ((HF1.out.trans HF2.out (fun _ _ e => e.elim) (fun _ _ e => .inl e)).then HF.out (fun _ _ e => .inr e))
      refine ⟨rfl, ⟨_, ph, sts, pl, mp, ad, HSK.out, HU.out.stay fr1 (fun b hb hn e => ?_), HO.out, had⟩, fr1.mono (fun b hb e => ?_)⟩
      · rcases e with e | e
        · exact hn (.inr (.inl e))
        · omega
      · rcases e with e | e
        · rw [e]; exact HO.out S (.inl rfl)
        · omega
end Go.Proofs.Ytgdnehejeoiicaa
