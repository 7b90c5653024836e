/- search.New. -/
import Derived.Test.YtgdnehejeoiicaaSuL
import Derived.Carry
set_option linter.unusedVariables false
set_option linter.unusedSimpArgs false
namespace Go.Proofs.Ytgdnehejeoiicaa
open Go.RowKit

def SNewPost (n : Nat) (w : World) (e : Ending) (w' : World) : Prop := ∃ S U, e = .returned (.tuple #[.pointer (some ⟨S, 0, none⟩), .int .i64 0]) ∧ SolverN (fun b => b < w.heap.size) w' S U (newU n) ∧ Fr (fun _ => False) w w'

set_option maxHeartbeats 1600000 in
set_option maxRecDepth 20000 in
theorem snew_ok (n : Nat) (hn : n ≤ 262144) (w : World) : Calls Try.prog 5 #[.int .i64 n, .nilIface] w (SNewPost n w) := by
  have hu := unew_ok n hn w
  have mk := mk_ints (n + 1) (by omega)
  simp only [Int.natCast_add, Int.cast_ofNat_Int] at mk
  have hmm : ∀ (t : TypeId) (w : World), (Instr.makeMap t none).run Try.prog w = .ok (.map (some w.heap.size)) (w.alloc (.map #[] 0)) := fun t w => run_makeMap t w
  go_enter Try.func5, Try.ntmps5
  go_wp2_with (first
    | (go_at_call 11; refine hu.mono ?_; rintro e w1 ⟨U, rfl, hU, f1⟩; have HU := Lib.hid hU; have F1 := Lib.hid f1; clear hU f1)
    | fail)
  obtain ⟨wm, em⟩ : ∃ wm, wm = w1.alloc (.map #[] 0) := ⟨_, rfl⟩
  obtain ⟨wp, ep⟩ : ∃ wp, wp = wm.alloc (.cells (Array.replicate (n + 1) (.int .i64 0)) 3) := ⟨_, rfl⟩
  rw [← em]
  rw [← ep]
  have sm : wm.heap.size = w1.heap.size + 1 := by rw [em]; simp
  have sp : wp.heap.size = w1.heap.size + 1 + 1 := by rw [ep]; simp [sm]
  have bph : Blk wp (w1.heap.size + 1) (List.replicate (n + 1) (.int .i64 0)) 3 := by
    have q : Blk (wm.alloc (.cells (Array.replicate (n + 1) (.int .i64 0)) 3)) wm.heap.size (List.replicate (n + 1) (.int .i64 0)) 3 := Blk.new' (by simp)
    rw [ep]
    rw [sm] at q
    exact q
  have fm : Fr (fun _ => False) w1 wp := by
    rw [ep]
    exact (show Fr (fun _ => False) w1 wm by rw [em]; exact Fr.alloc _ _).then (Fr.alloc _ _) (fun _ _ e => e)
  obtain ⟨scs, es⟩ : ∃ scs, scs = [Value.bool true, .nilIface, .pointer (some ⟨U, 0, none⟩), .pointer none, .slice (some ⟨w1.heap.size + 1, 0, none⟩) (n + 1) (n + 1), .slice none 0 0, .slice none 0 0, .map (some w1.heap.size), .int .i64 0, .int .i64 0, .int .i64 0] := ⟨_, rfl⟩
  obtain ⟨ws, e7⟩ : ∃ ws, ws = wp.alloc (.cells scs.toArray 62) := ⟨_, rfl⟩
  have bS : Blk ws (w1.heap.size + 1 + 1) scs 62 := by
    have q := Blk.new wp scs 62
    rw [sp, ← e7] at q
    exact q
  have fs : Fr (fun _ => False) wp ws := by rw [e7]; exact Fr.alloc _ _
  have e8 := e7
  rw [es] at e8
  rw [← e8]
  have hw1 := F1.out.size
  have hU1 : StoreN (fun b => b < w.heap.size ∨ w1.heap.size ≤ b) w1 U (newU n) := HU.out.mono (fun b hb e => e.elim id (fun e => by omega))
  have hU2 := (hU1.stay fm (fun _ _ _ e => e)).stay fs (fun _ _ _ e => e)
  have hS : SolverN (fun b => b < w.heap.size) ws (w1.heap.size + 1 + 1) U (newU n) := by
    refine ⟨.pointer none, .slice (some ⟨w1.heap.size + 1, 0, none⟩) (n + 1) (n + 1), .slice none 0 0, .slice none 0 0, .map (some w1.heap.size), 0, ⟨?_, ⟨_, rfl⟩, ?_, ⟨[], rfl, .inl ⟨rfl, rfl⟩⟩, ⟨[], rfl, .inl ⟨rfl, rfl⟩⟩, ?_⟩, ?_, ?_, Nat.zero_le _⟩
    · rw [es] at bS
      exact bS
    · refine ⟨_, blk_owns (xs := List.replicate (n + 1) (.int .i64 0)) (more := []) (Nat.zero_le _) ?_ (Nat.le_refl _) (by unfold maxLen; omega) (by simp) (by simp [newU])⟩
      have := bph.keep fs (fun e => e)
      simpa using this
    · intro g e; simp [Value.ownBlock]
    · refine hU2.mono (fun b hb e => ?_)
      rcases e with e | e | e | e | e
      · exact .inl e
      · exact .inr (by omega)
      · simp [Value.ownBlock] at e; exact .inr (by omega)
      · simp [Value.ownBlock] at e
      · simp [Value.ownBlock] at e
    · rintro b (e | e | e | e)
      · omega
      · simp [Value.ownBlock] at e; omega
      · simp [Value.ownBlock] at e
      · simp [Value.ownBlock] at e
  have hfs := fs.size
  have hfm := fm.size
  have hf := sfill_ok (fun b hb => by omega) hS
  have FF := Lib.hid ((F1.out.trans fm (fun _ _ e => e) (fun _ _ e => e)).then fs (fun _ _ e => e))
  have HSZ := Lib.hid (And.intro hw1 (And.intro hfm hfs))
  clear hS hU1 hU2 bS bph fm fs e7 e8 em ep es sm sp
  refine hf.mono ?_
  rintro e w' ⟨rfl, hS', f'⟩
  have HS' := Lib.hid hS'
  have HF' := Lib.hid f'
  clear hS' f' hf
  go_wp2_with fail
  go_ret2
  exact ⟨_, U, rfl, HS'.out, (FF.out.trans HF'.out (fun _ _ e => e) (fun b hb e => e hb))⟩

set_option maxHeartbeats 400000 in
theorem snew_no (n : Int) (w : World) (hn : n < 0 ∨ 262144 < n) : Calls Try.prog 5 #[.int .i64 n, .nilIface] w fun e w' => e = .returned (.tuple #[.pointer none, .int .i64 (if n < 0 then 1 else 2)]) ∧ w = w' := by
  have hu := unew_no n w hn
  obtain ⟨c, ec⟩ : ∃ c : Int, c = if n < 0 then 1 else 2 := ⟨_, rfl⟩
  have b1 : (c != 0) = true := by rw [ec]; split <;> rfl
  rw [← ec] at hu ⊢
  clear ec hn
  go_enter Try.func5, Try.ntmps5
  go_wp2_with (go_at_call 11; ((with_reducible refine hu.mono ?_); rintro e w1 ⟨rfl, rfl⟩))
  go_ret2
  exact ⟨rfl, rfl⟩
end Go.Proofs.Ytgdnehejeoiicaa
