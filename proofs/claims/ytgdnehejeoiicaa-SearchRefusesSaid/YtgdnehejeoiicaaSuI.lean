/- put of a solver. -/
import Derived.Test.YtgdnehejeoiicaaSuH
import Derived.Deep.CutRange
import Derived.Deep.DeepCutAuto
import Derived.Deep.CutBlock
set_option linter.unusedVariables false
set_option linter.unusedSimpArgs false
namespace Go.Proofs.Ytgdnehejeoiicaa
open Go.RowKit

theorem info_step : (Try.prog.info? 70).map (fun i => (i.zero, i.size, i.bytes)) = some (some (.agg #[.int .i64 0, .slice none 0 0, .slice none 0 0, .slice none 0 0]), 4, 80) := by kernel_rfl
theorem und_steps : Try.prog.underlying 60 = some (.slice 70) := by kernel_rfl

/-- One of the solver's rows has grown by one element and is written into its field. -/
theorem field_app {w w3 : World} {S f n size : Nat} {T T' : TypeId} {cs : List Value} {v v' : Value} {c news : List Value} {o : Obj} (hB : Blk w S cs T') (hv : w.ownsRow 0 T size v n c) (hT : T ≠ T')
    (hg : (w.alloc o).grownBy w3 v.ownBlock) (hown : w3.ownsRow 0 T size v' (n + 1) (c ++ news)) (hat : v'.ownBlock = v.ownBlock ∨ v'.ownBlock = some (w.alloc o).heap.size) :
    Blk w3 S cs T' ∧ Blk (w3.setCell ⟨S, f, none⟩ v') S (cs.set f v') T' ∧ (∃ c', (w3.setCell ⟨S, f, none⟩ v').ownsRow 0 T size v' (n + 1) c') ∧ Fr (fun b => b = S ∨ v.ownBlock = some b) w (w3.setCell ⟨S, f, none⟩ v') ∧ (∀ b, v'.ownBlock = some b → v.ownBlock = some b ∨ w.heap.size ≤ b) := by
  have k0 : Fr (fun b => v.ownBlock = some b) w w3 := (Fr.alloc w o).trans (Fr.of_grown hg) (fun _ _ e => e.elim) (fun _ _ e => e.symm)
  have k1 := Fr.set w3 ⟨S, f, none⟩ v'
  have hvS : v.ownBlock ≠ some S := by
    intro e
    rcases owns_blk hv with ⟨rfl, _, _⟩ | ⟨g, cap, more, rfl, _, hgb, _⟩
    · simp [Value.ownBlock] at e
    · simp only [Value.ownBlock, Option.some.injEq] at e
      subst e
      exact hT (hgb.inj hB).2
  have hn' : ∀ b, v'.ownBlock = some b → v.ownBlock = some b ∨ w.heap.size ≤ b := by
    intro b hb
    rcases hat with e | e
    · exact .inl (by rw [← e]; exact hb)
    · rw [e] at hb
      simp only [Option.some.injEq] at hb
      exact .inr (by rw [← hb]; simp)
  have hv'S : v'.ownBlock ≠ some S := fun e => by
    rcases hn' S e with e | e
    · exact hvS e
    · have := hB.lt; omega
  have b3 := hB.keep k0 hvS
  exact ⟨b3, b3.set f v', ⟨_, k1.owns hown (fun g hg e => hv'S (by rw [hg]; exact congrArg some e))⟩, k0.trans k1 (fun _ _ e => .inr e) (fun _ _ e => .inl e), hn'⟩

/-- Behind the second region: the places have grown. -/
def Meet1 (S : Nat) (cs : List Value) (pl : Value) (k : Nat) (w1 : World) (wx : World) : Prop :=
  ∃ g cap, Blk wx S (cs.set 6 (.slice (some ⟨g, 0, none⟩) (k + 1) cap)) 62 ∧ (∃ c, wx.ownsRow 0 3 1 (.slice (some ⟨g, 0, none⟩) (k + 1) cap) (k + 1) c) ∧ Fr (fun b => b = S ∨ pl.ownBlock = some b) w1 wx ∧ (∀ b, some g = some b → pl.ownBlock = some b ∨ w1.heap.size ≤ b)

def Meet2 (S : Nat) (cs : List Value) (sts : Value) (k : Nat) (w1 : World) (wx : World) : Prop :=
  ∃ g cap, Blk wx S (cs.set 5 (.slice (some ⟨g, 0, none⟩) (k + 1) cap)) 62 ∧ (∃ c, wx.ownsRow 0 70 4 (.slice (some ⟨g, 0, none⟩) (k + 1) cap) (k + 1) c) ∧ Fr (fun b => b = S ∨ sts.ownBlock = some b) w1 wx ∧ (∀ b, some g = some b → sts.ownBlock = some b ∨ w1.heap.size ≤ b)

theorem sput_done {N : Nat → Prop} {w wb w2 w4 w6 : World} {S U K g6 cap6 : Nat} {hp ph sts pl mp : Value} {ad : Nat} {st st' : US} {scs : List Value} (hN : ∀ b, N b → b < w.heap.size) (h : SolverAt w S U hp ph sts pl mp ad st)
    (hO : ∀ b, Own4 S ph sts pl b → ¬ N b) (FD : Fr (fun _ => False) w wb) (HU : StoreN (fun b => (N b ∨ Own4 S ph sts pl b) ∨ b = w.heap.size) w2 U st') (HF : Fr (fun b => ¬ ((N b ∨ Own4 S ph sts pl b) ∨ b = w.heap.size)) wb w2)
    (escs : scs = [Value.bool true, .nilIface, .pointer (some ⟨U, 0, none⟩), hp, ph, sts, pl, mp, .int .i64 ad, .int .i64 0, .int .i64 0]) (hK' : st'.cls.length = K + 1) (hn' : st'.n = st.n)
    (b6 : Blk w4 S (scs.set 6 (.slice (some ⟨g6, 0, none⟩) (K + 1) cap6)) 62) (r6 : ∃ c, w4.ownsRow 0 3 1 (.slice (some ⟨g6, 0, none⟩) (K + 1) cap6) (K + 1) c) (f6 : Fr (fun b => b = S ∨ pl.ownBlock = some b) w2.drew w4) (n6 : ∀ b, some g6 = some b → pl.ownBlock = some b ∨ w2.drew.heap.size ≤ b)
    (M2 : Meet2 S (scs.set 6 (.slice (some ⟨g6, 0, none⟩) (K + 1) cap6)) sts K w4.drew w6) :
    (∃ sts' pl', SolverAt w6 S U hp ph sts' pl' mp ad st' ∧ StoreN (fun b => N b ∨ Own4 S ph sts' pl' b) w6 U st' ∧ (∀ b, Own4 S ph sts' pl' b → ¬ N b)) ∧ Fr (fun b => ¬ N b) w w6 := by
  obtain ⟨g5, cap5, b5, r5, f5, n5⟩ := M2
  have hs0 := FD.size
  have hs1 := HF.size
  have hs2 : w2.heap.size ≤ w4.heap.size := f6.size
  have hs3 : w4.heap.size ≤ w6.heap.size := f5.size
  have n6' : ∀ b, (Value.slice (some ⟨g6, 0, none⟩) (K + 1) cap6).ownBlock = some b → pl.ownBlock = some b ∨ w2.heap.size ≤ b := fun b e => n6 b e
  have n5' : ∀ b, (Value.slice (some ⟨g5, 0, none⟩) (K + 1) cap5).ownBlock = some b → sts.ownBlock = some b ∨ w4.heap.size ≤ b := fun b e => n5 b e
  have f6' : Fr (fun b => b = S ∨ pl.ownBlock = some b) w2 w4 := (Fr.drew w2).trans f6 (fun _ _ e => e.elim) (fun _ _ e => e)
  have f5' : Fr (fun b => b = S ∨ sts.ownBlock = some b) w4 w6 := (Fr.drew w4).trans f5 (fun _ _ e => e.elim) (fun _ _ e => e)
  have hS2 := (h.keep FD (fun _ _ e => e)).keep HF (fun b hb e => e (.inl (.inr hb)))
  have own_lt : ∀ b, Own4 S ph sts pl b → b < w.heap.size := fun b hb => h.own_lt hb
  obtain ⟨cph, hph⟩ := hS2.hph
  have hphS : ph.ownBlock ≠ some S := by
    intro e
    rcases owns_blk hph with ⟨rfl, _, _⟩ | ⟨g, cap, more, rfl, _, hgb, _⟩
    · simp [Value.ownBlock] at e
    · simp only [Value.ownBlock, Option.some.injEq] at e
      subst e
      exact (by decide : 3 ≠ 62) (hgb.inj hS2.hS).2
  obtain ⟨cst, hst⟩ := hS2.hst
  have hph4 := f6'.owns hph (fun g e => by
    rintro (e' | e')
    · exact hphS (by rw [← e']; exact e)
    · exact hS2.hd g e e')
  have hst4 := f6'.owns hst (fun g e => by
    rintro (e' | e')
    · subst e'
      rcases owns_blk hst with ⟨q, _, _⟩ | ⟨g1, cap1, more, q, _, hgb, _⟩
      · rw [q] at e; simp [Value.ownBlock] at e
      · rw [q] at e
        simp only [Value.ownBlock, Option.some.injEq] at e
        subst e
        exact (by decide : 70 ≠ 62) (hgb.inj hS2.hS).2
    · obtain ⟨cpl, hpl⟩ := hS2.hpl
      exact rows_apart hst hpl (by decide) e e')
  have hph6 := f5'.owns hph4 (fun g e => by
    rintro (e' | e')
    · exact hphS (by rw [← e']; exact e)
    · exact rows_apart hph4 hst4 (by decide) e e')
  obtain ⟨c6, r6⟩ := r6
  have hr6 := f5'.owns r6 (fun g e => by
    rintro (e' | e')
    · subst e'
      simp only [Value.ownBlock, Option.some.injEq] at e
      subst e
      rcases owns_blk r6 with ⟨q, _, _⟩ | ⟨g1, cap1, more, q, _, hgb, _⟩
      · cases q
      · simp only [Value.slice.injEq, Option.some.injEq, Addr.mk.injEq] at q
        obtain ⟨⟨rfl, _⟩, _⟩ := q
        exact (by decide : 3 ≠ 62) (hgb.inj b6).2
    · exact rows_apart r6 hst4 (by decide) e e')
  have hOwn : ∀ b, Own4 S ph (.slice (some ⟨g5, 0, none⟩) (K + 1) cap5) (.slice (some ⟨g6, 0, none⟩) (K + 1) cap6) b → Own4 S ph sts pl b ∨ w2.heap.size ≤ b := by
    rintro b (e | e | e | e)
    · exact .inl (.inl e)
    · exact .inl (.inr (.inl e))
    · rcases n5' b e with k | k
      · exact .inl (.inr (.inr (.inl k)))
      · exact .inr (by omega)
    · rcases n6' b e with k | k
      · exact .inl (.inr (.inr (.inr k)))
      · exact .inr k
  have hU1 : StoreN (fun b => ((N b ∨ Own4 S ph sts pl b) ∨ b = w.heap.size) ∨ w2.heap.size ≤ b) w2 U st' := HU.mono (fun b hb e => e.elim id (fun e => absurd hb (by omega)))
  have hU2 := (hU1.stay f6' (fun b hb hn e => hn (.inl (.inl (.inr (e.elim .inl (fun e => .inr (.inr (.inr e))))))))).stay f5' (fun b hb hn e => hn (.inl (.inl (.inr (e.elim .inl (fun e => .inr (.inr (.inl e))))))))
  refine ⟨⟨_, _, ⟨?_, h.hp', ⟨cph, by rw [hn']; exact hph6⟩, by rw [hK']; exact r5, ⟨c6, by rw [hK']; exact hr6⟩, ?_⟩, hU2.mono (fun b hb e => ?_), fun b hb => ?_⟩, ?_⟩
  · rw [escs] at b5
    exact b5
  · intro g e e'
    rcases n6' g e' with k | k
    · exact h.hd g e k
    · have := own_lt g (.inr (.inl e)); omega
  · rcases e with e | e
    · exact .inl (.inl (.inl e))
    · rcases hOwn b e with e | e
      · exact .inl (.inl (.inr e))
      · exact .inr e
  · rcases hOwn b hb with e | e
    · exact hO b e
    · exact fun k => by have := hN b k; omega
  · refine (((FD.trans HF (fun _ _ e => e.elim) (fun b hb e k => e (.inl (.inl k)))).trans f6' (fun _ _ e => e) (fun b hb e => ?_)).trans f5' (fun _ _ e => e) (fun b hb e => ?_))
    · exact hO b (e.elim .inl (fun e => .inr (.inr (.inr e))))
    · exact hO b (e.elim .inl (fun e => .inr (.inr (.inl e))))

set_option maxHeartbeats 4000000 in
set_option maxRecDepth 20000 in
theorem sput_ok {N : Nat → Prop} {w : World} {S U : Nat} {hp ph sts pl mp c : Value} {ad : Nat} {st : US} {xs : List Int} {kind : Int} (hN : ∀ b, N b → b < w.heap.size) (h : SolverAt w S U hp ph sts pl mp ad st)
    (hu : StoreN (fun b => N b ∨ Own4 S ph sts pl b) w U st) (hO : ∀ b, Own4 S ph sts pl b → ¬ N b) (hr : RdC w c xs) (hb : bads st.n xs = false) (hk : st.cls.length < 1048576) :
    Calls Try.prog 23 #[.pointer (some ⟨S, 0, none⟩), .agg #[.int .i64 kind, c, .slice none 0 0, .slice none 0 0]] w fun e w' => (∃ r, e = .returned (.int .i64 r)) ∧
      (∃ sts' pl', SolverAt w' S U hp ph sts' pl' mp ad { st with cls := st.cls ++ [⟨xs, 0, 0⟩] } ∧ StoreN (fun b => N b ∨ Own4 S ph sts' pl' b) w' U { st with cls := st.cls ++ [⟨xs, 0, 0⟩] } ∧ (∀ b, Own4 S ph sts' pl' b → ¬ N b)) ∧ Fr (fun b => ¬ N b) w w' := by
  obtain ⟨wa, ea⟩ : ∃ wa, wa = w.alloc (.cells #[.int .i64 kind, c, .slice none 0 0, .slice none 0 0] 70) := ⟨_, rfl⟩
  have fa : Fr (fun _ => False) w wa := by rw [ea]; exact Fr.alloc _ _
  have ba : Blk wa w.heap.size [.int .i64 kind, c, .slice none 0 0, .slice none 0 0] 70 := by rw [ea]; exact Blk.new' rfl
  have fd := fa.then (Fr.drew wa) (fun _ _ e => e)
  have bd := ba.keep (Fr.drew wa) (fun e => e)
  have hS2 := h.keep fd (fun _ _ e => e)
  have hw : ∀ b, b < w.heap.size → b < wa.drew.heap.size := fun b hb => Nat.lt_of_lt_of_le hb fd.size
  have hu2 : StoreN (fun b => (N b ∨ Own4 S ph sts pl b) ∨ b = w.heap.size) wa.drew U st := (hu.mono (M := fun b => (N b ∨ Own4 S ph sts pl b) ∨ b = w.heap.size) (fun b hb e => e.elim id (fun e => absurd hb (by omega)))).stay fd (fun _ _ _ e => e)
  have hadd := uadd_ok (fun b hb => by
    rcases hb with (e | e) | e
    · exact hw b (hN b e)
    · exact hw b (h.own_lt e)
    · rw [e]; exact bd.lt) hu2 (hr.keep fd (fun _ _ _ _ _ e => e)) hb hk
  have a2 : wa.cell? ⟨S, 2, none⟩ = some (.pointer (some ⟨U, 0, none⟩)) := (h.keep fa (fun _ _ e => e)).hS.cell rfl
  have a1 : wa.cell? ⟨w.heap.size, 1, none⟩ = some c := ba.cell rfl
  obtain ⟨aoc, capc, rfl⟩ : ∃ ao cap, c = .slice ao xs.length cap := by obtain ⟨ao, cap, e, _⟩ := hr; exact ⟨ao, cap, e⟩
  have HADD := Lib.hid hadd
  have HBD := Lib.hid bd
  have HS2 := Lib.hid hS2
  have HU2 := Lib.hid hu2
  have HNN := Lib.hid hN
  have HO := Lib.hid hO
  have FD := Lib.hid fd
  have H := Lib.hid h
  clear hadd bd hS2 hu2 hN hO fd h hu hr hb ba fa hw
  have ea2 := ea.symm
  clear ea
  go_enter Try.func23, Try.ntmps23
  obtain ⟨K, eK⟩ : ∃ K, K = st.cls.length := ⟨_, rfl⟩
  obtain ⟨st', est⟩ : ∃ st', st' = ({ st with cls := st.cls ++ [⟨xs, 0, 0⟩] } : US) := ⟨_, rfl⟩
  rw [← eK, ← est] at HADD
  rw [← est]
  have HEST := Lib.hid est
  clear est
  go_upto_region 1 with (fail)
  go_cut [5] from 7 to 16 (fun s5 wx => s5 = .int .i64 (K : Nat) ∧ Hid (StoreN (fun b => (N b ∨ Own4 S ph sts pl b) ∨ b = w.heap.size) wx U st') ∧ Hid (Fr (fun b => ¬ ((N b ∨ Own4 S ph sts pl b) ∨ b = w.heap.size)) wa.drew wx))
  case first =>
    go_region_with (go_at_call 27; refine HADD.out.mono ?_; rintro e w1 ⟨rfl, hu1, f1⟩)
    all_goals go_wp2
    all_goals go_meet
    all_goals exact ⟨by rw [eK], hu1, f1⟩
  case rest =>
    obtain ⟨rfl, HU, HF⟩ := hcut
    rename World => w2
    have hw1 := HS2.out.keep HF.out (fun b hb e => e (.inl (.inr hb)))
    have hb1 := HBD.out.keep HF.out (fun e => e (.inr rfl))
    obtain ⟨cpl, hpl⟩ := hw1.hpl
    obtain ⟨csts, hsts⟩ := hw1.hst
    obtain ⟨aop, capp, epl⟩ := owns_form hpl
    obtain ⟨aos, caps, ests⟩ := owns_form hsts
    rw [← eK] at epl ests
    obtain ⟨scs, escs⟩ : ∃ scs, scs = [Value.bool true, .nilIface, .pointer (some ⟨U, 0, none⟩), hp, ph, sts, pl, mp, .int .i64 ad, .int .i64 0, .int .i64 0] := ⟨_, rfl⟩
    have hSb := hw1.hS
    have s5 : w2.cell? ⟨S, 5, none⟩ = some (.slice aos K caps) := by rw [← ests]; exact hSb.cell rfl
    have s6 : w2.cell? ⟨S, 6, none⟩ = some (.slice aop K capp) := by rw [← epl]; exact hSb.cell rfl
    have s6a : (w2.alloc (.cells #[.int .i64 (K : Int)] 3)).cell? ⟨S, 6, none⟩ = some (.slice aop K capp) := by rw [← epl]; exact (hSb.keep (Fr.alloc w2 _) (fun e => e)).cell rfl
    rw [← escs] at hSb
    have fal := (Fr.drew w2).then (Fr.alloc w2.drew (.cells #[.int .i64 (K : Int)] 3)) (fun _ _ e => e)
    have hown0 := fal.owns hpl (fun _ _ e => e)
    rw [epl, ← eK] at hown0
    have hplK : w2.drew.ownsRow 0 3 1 (.slice aop K capp) K cpl := by have := (Fr.drew w2).owns hpl (fun _ _ e => e); rwa [epl, ← eK] at this
    obtain ⟨i0, hi0, hz0, hz1, hz2⟩ := info_parts info_int
    have hSd := hSb.keep (Fr.drew w2) (fun e => e)
    have HSD := Lib.hid hSd
    have HPL := Lib.hid hplK
    have HW1 := Lib.hid hw1
    have HB1 := Lib.hid hb1
    have HESC := Lib.hid escs
    have HEPL := Lib.hid epl
    have HESTS := Lib.hid ests
    have HEK := Lib.hid eK
    rw [← eK] at hk
    clear hSb hSd hplK hw1 hb1 escs epl ests eK hpl hsts fal
    go_wp2
    go_cut [] from 17 to 30 (fun wx => Hid (Meet1 S scs (.slice aop K capp) K w2.drew wx))
    case first =>
      go_region_law (first
        | (refine step_own rfl (.tmp 21) (.tmp 27) 22 rfl 0 3 i0 (.int .i64 0) 1 8 und_ints hi0 hz0 hz1 hz2 rfl (by decide) (.slice aop K capp) K cpl rfl hown0 ⟨w2.drew.heap.size, 0, none⟩ 1 1 [.int .i64 (K : Int)] rfl rfl (cell_one_new _ _ _) (by simp [Value.oneCell']) (by unfold maxLen; omega) (by omega) (Nat.zero_le _) ?_
           intro v' w3 hown1 hg1 hat1
           obtain ⟨g', cap', rfl⟩ := owns_shape hown1 (by omega)
           obtain ⟨B3, B4, B5, B6, B7⟩ := field_app (f := 6) HSD.out HPL.out (by decide) hg1 hown1 hat1
           have d1 : w3.cell? ⟨S, 6, none⟩ = some (.slice aop K capp) := by rw [← HEPL.out]; exact B3.cell (by rw [HESC.out]; rfl)
           have d2 := B3.free 6
           have HB3 := Lib.hid B3
           have HB4 := Lib.hid B4
           have HB5 := Lib.hid B5
           have HB6 := Lib.hid B6
           have HB7 := Lib.hid B7
           clear B3 B4 B5 B6 B7 hg1 hown1 hat1))
      all_goals go_wp2
      all_goals go_meet
      all_goals exact ⟨g', cap', HB4.out, HB5.out, HB6.out, fun b e => HB7.out b e⟩
    case rest =>
      obtain ⟨g6, cap6, m1, m2, m3, m4⟩ := hcut.out
      have M1 := Lib.hid (show Meet1 S scs (.slice aop K capp) K w2.drew wc from ⟨g6, cap6, m1, m2, m3, m4⟩)
      have hbw : ∀ b, Own4 S ph sts pl b → b < w.heap.size := fun b hb => H.out.own_lt hb
      have hbx := (HB1.out.keep (Fr.drew w2) (fun e => e)).keep m3 (fun e => by
        rcases e with e | e
        · have := hbw _ (.inl e); omega
        · rw [← HEPL.out] at e
          have := hbw _ (.inr (.inr (.inr e))); omega)
      obtain ⟨csts2, hsts2⟩ := HW1.out.hst
      have hst3 := ((Fr.drew w2).owns hsts2 (fun _ _ e => e))
      have hst4 := m3.owns hst3 (fun g e => by
        rintro (e' | e')
        · subst e'
          rcases owns_blk hst3 with ⟨q, _, _⟩ | ⟨g1, cap1, more, q, _, hgb, _⟩
          · rw [q] at e; simp [Value.ownBlock] at e
          · rw [q] at e
            simp only [Value.ownBlock, Option.some.injEq] at e
            subst e
            exact (by decide : 70 ≠ 62) (hgb.inj HSD.out).2
        · exact rows_apart hst3 HPL.out (by decide) e e')
      rw [HESTS.out, ← HEK.out] at hst4
      have x0 : wc.cell? ⟨w.heap.size, 0, none⟩ = some (.int .i64 kind) := hbx.cell rfl
      have x1 : wc.cell? ⟨w.heap.size, 1, none⟩ = some (.slice aoc xs.length capc) := hbx.cell rfl
      have x2 : wc.cell? ⟨w.heap.size, 2, none⟩ = some (.slice none 0 0) := hbx.cell rfl
      have x3 : wc.cell? ⟨w.heap.size, 3, none⟩ = some (.slice none 0 0) := hbx.cell rfl
      have y5 : wc.cell? ⟨S, 5, none⟩ = some (.slice aos K caps) := by rw [← HESTS.out]; exact m1.cell (by rw [HESC.out]; rfl)
      have y5a : (wc.alloc (.cells #[.int .i64 kind, .slice aoc xs.length capc, .slice none 0 0, .slice none 0 0] 70)).cell? ⟨S, 5, none⟩ = some (.slice aos K caps) := by rw [← HESTS.out]; exact (m1.keep (Fr.alloc wc _) (fun e => e)).cell (by rw [HESC.out]; rfl)
      have fal := (Fr.drew wc).then (Fr.alloc wc.drew (.cells #[.int .i64 kind, .slice aoc xs.length capc, .slice none 0 0, .slice none 0 0] 70)) (fun _ _ e => e)
      have hown3 := fal.owns hst4 (fun _ _ e => e)
      have hst5 := (Fr.drew wc).owns hst4 (fun _ _ e => e)
      have hnw := cells_new wc.drew [.int .i64 kind, .slice aoc xs.length capc, .slice none 0 0, .slice none 0 0] 70
      have hone : ∀ u ∈ [Value.int .i64 kind, .slice aoc xs.length capc, .slice none 0 0, .slice none 0 0], u.oneCell' = true := by
        intro u hu
        simp at hu
        rcases hu with rfl | rfl | rfl | rfl <;> rfl
      obtain ⟨i1, hi1, hy0, hy1, hy2⟩ := info_parts info_step
      have HM1 := Lib.hid m1
      have HM2 := Lib.hid m2
      have HM3 := Lib.hid (show Fr (fun b => b = S ∨ pl.ownBlock = some b) w2.drew wc by rw [HEPL.out]; exact m3)
      have HM4 := Lib.hid (show ∀ b, some g6 = some b → pl.ownBlock = some b ∨ w2.drew.heap.size ≤ b by rw [HEPL.out]; exact m4)
      have HMD := Lib.hid (m1.keep (Fr.drew wc) (fun e => e))
      have HST := Lib.hid hst5
      clear hst3 hst4 hst5 fal hbx hbw hsts2 m1 m2 m3 m4 hcut hown0
      go_wp2
      go_region_law (first
        | (refine step_own rfl (.tmp 35) (.tmp 37) 60 rfl 0 70 i1 (.agg #[.int .i64 0, .slice none 0 0, .slice none 0 0, .slice none 0 0]) 4 80 und_steps hi1 hy0 hy1 hy2 rfl (by decide) (.slice aos K caps) K csts2 rfl hown3 ⟨wc.drew.heap.size, 0, none⟩ 1 1 [.int .i64 kind, .slice aoc xs.length capc, .slice none 0 0, .slice none 0 0] rfl rfl hnw hone (by unfold maxLen; omega) (by omega) (Nat.zero_le _) ?_
           intro v' w3 hown1 hg1 hat1
           obtain ⟨g', cap', rfl⟩ := owns_shape hown1 (by omega)
           obtain ⟨B3, B4, B5, B6, B7⟩ := field_app (f := 5) HMD.out HST.out (by decide) hg1 hown1 hat1
           have d1 : w3.cell? ⟨S, 5, none⟩ = some (.slice aos K caps) := by rw [← HESTS.out]; exact B3.cell (by rw [HESC.out]; rfl)
           have d2 := B3.free 5
           have M2 := Lib.hid (show Meet2 S (scs.set 6 (.slice (some ⟨g6, 0, none⟩) (K + 1) cap6)) (.slice aos K caps) K wc.drew (w3.setCell ⟨S, 5, none⟩ (.slice (some ⟨g', 0, none⟩) (K + 1) cap')) from ⟨g', cap', B4, B5, B6, fun b e => B7 b e⟩)
           clear B3 B4 B5 B6 B7 hg1 hown1 hat1))
      all_goals go_wp2
      all_goals go_ret
      all_goals (refine ⟨⟨_, rfl⟩, sput_done HNN.out H.out HO.out FD.out HU.out HF.out HESC.out (by rw [HEST.out, HEK.out]; simp) (by rw [HEST.out]) HM1.out HM2.out HM3.out HM4.out (by rw [HESTS.out]; exact M2.out)⟩)
end Go.Proofs.Ytgdnehejeoiicaa
