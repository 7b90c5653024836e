/- Walks of units.New and of Add. -/
import Derived.Test.YtgdnehejeoiicaaSuD
set_option linter.unusedVariables false
set_option linter.unusedSimpArgs false
namespace Go.Proofs.Ytgdnehejeoiicaa
open Go.RowKit

def newU (n : Nat) : US := { n := n, vals := List.replicate (n + 1) 0, cls := [], marks := [] }
def UNewPost (n : Nat) (w : World) (e : Ending) (w' : World) : Prop := ∃ U, e = .returned (.tuple #[.pointer (some ⟨U, 0, none⟩), .int .i64 0]) ∧ StoreN (fun b => b < w.heap.size) w' U (newU n) ∧ Fr (fun _ => False) w w'

set_option maxHeartbeats 800000 in
theorem unew_ok (n : Nat) (hn : n ≤ 262144) (w : World) : Calls Try.prog 11 #[.int .i64 n] w (UNewPost n w) := by
  have mk := mk_ints (n + 1) (by omega)
  simp only [Int.natCast_add, Int.cast_ofNat_Int] at mk
  have g1 : ¬ (n : Int) < 0 := by omega
  have g2 : ¬ (262144 : Int) < (n : Int) := by omega
  have g3 : decide ((262144 : Int) < (n : Int)) = false := by simp; omega
  go_enter Try.func11, Try.ntmps11
  go_wp2
  go_ret2
  refine ⟨_, rfl, ⟨.slice (some ⟨w.heap.size, 0, none⟩) (n + 1) (n + 1), .slice none 0 0, .slice none 0 0, [], ?_, ?_, ?_, ?_, ?_, ?_⟩, ?_⟩
  · have b1 : Blk (w.alloc (.cells (Array.replicate (n + 1) (.int .i64 0)) 3)) w.heap.size (List.replicate (n + 1) (.int .i64 0)) 3 := Blk.new' (by simp)
    have k := Fr.alloc (w.alloc (.cells (Array.replicate (n + 1) (.int .i64 0)) 3)) (.cells #[.bool true, .slice (some ⟨w.heap.size, 0, none⟩) (n + 1) (n + 1), .slice none 0 0, .slice none 0 0] 74)
    have q : Blk ((w.alloc (.cells (Array.replicate (n + 1) (.int .i64 0)) 3)).alloc (.cells #[.bool true, .slice (some ⟨w.heap.size, 0, none⟩) (n + 1) (n + 1), .slice none 0 0, .slice none 0 0] 74)) (w.alloc (.cells (Array.replicate (n + 1) (.int .i64 0)) 3)).heap.size [.bool true, .slice (some ⟨w.heap.size, 0, none⟩) (n + 1) (n + 1), .slice none 0 0, .slice none 0 0] 74 := Blk.new' rfl
    constructor
    · have e : (w.alloc (.cells (Array.replicate (n + 1) (.int .i64 0)) 3)).heap.size = w.heap.size + 1 := by simp
      rw [e] at q
      exact q
    · refine blk_owns (more := []) (Nat.zero_le _) ?_ (Nat.le_refl _) (by unfold maxLen; omega) (by simp [newU, ivl]) (by simp [newU, ivl])
      have := b1.keep k (fun e => e)
      simpa [newU, ivl] using this
    · exact ⟨rfl, .inl ⟨rfl, rfl⟩⟩
    · exact ⟨rfl, .inl ⟨rfl, rfl⟩⟩
    · rfl
    · intro i hi; simp at hi
    · exact hn
    · simp [newU]
    · simp [newU]
    · intro v hv; cases hv
  · simp
  · intro g hg; simp [Value.ownBlock] at hg; omega
  · intro g hg; simp [Value.ownBlock] at hg
  · intro g hg; simp [Value.ownBlock] at hg
  · intro v hv; cases hv
  · exact (Fr.alloc w _).then (Fr.alloc _ _) (fun _ _ e => e)

set_option maxHeartbeats 400000 in
theorem unew_no (n : Int) (w : World) (hn : n < 0 ∨ 262144 < n) : Calls Try.prog 11 #[.int .i64 n] w fun e w' => e = .returned (.tuple #[.pointer none, .int .i64 (if n < 0 then 1 else 2)]) ∧ w = w' := by
  by_cases h0 : n < 0
  · rw [if_pos h0]
    have g1 : decide (n < 0) = true := by simpa using h0
    clear hn
    go_enter Try.func11, Try.ntmps11
    go_wp2
    go_ret2
    exact ⟨rfl, rfl⟩
  · rw [if_neg h0]
    have g1 : decide (n < 0) = false := by simpa using h0
    have g2 : (262144 : Int) < n := by omega
    clear hn
    go_enter Try.func11, Try.ntmps11
    go_wp2
    go_ret2
    exact ⟨rfl, rfl⟩

def bads (n : Nat) (xs : List Int) : Bool := xs.any fun l => !isLit n l

set_option maxHeartbeats 800000 in
theorem uadd_bad {w : World} {U : Nat} {vs cs ms v : Value} {cv : List Value} {st : US} {xs : List Int} (h : StoreAt w U vs cs ms cv st) (hr : RdC w v xs) (hb : bads st.n xs = true) :
    Calls Try.prog 27 #[.pointer (some ⟨U, 0, none⟩), v] w fun e w' => e = .returned (.tuple #[.int .i64 0, .int .i64 180]) ∧ Fr (fun _ => False) w w' := by
  obtain ⟨wa, ea⟩ : ∃ wa, wa = w.alloc (.cells #[.pointer (some ⟨U, 0, none⟩)] 38) := ⟨_, rfl⟩
  have fa : Fr (fun _ => False) w wa := by rw [ea]; exact Fr.alloc _ _
  have ba : Blk wa w.heap.size [.pointer (some ⟨U, 0, none⟩)] 38 := by rw [ea]; exact Blk.new' rfl
  have ca : wa.cell? ⟨w.heap.size, 0, none⟩ = some (.pointer (some ⟨U, 0, none⟩)) := ba.cell rfl
  have h2 := h.keep fa (fun e => e) (fun _ _ e => e) (fun _ _ e => e) (fun _ _ e => e) (fun _ _ _ _ e => e)
  have hr2 := hr.keep fa (fun _ _ _ _ _ e => e)
  have hi := uis_ok h2
  have hct := contains_u hr2 (b := w.heap.size) (bad := fun l => !isLit st.n l) (fun l => ubad_ok h2 ca l)
  have hb' : (xs.any fun l => !isLit st.n l) = true := hb
  rw [hb'] at hct
  have HF := Lib.hid fa
  clear h hr h2 hr2 hb hb' ba fa
  have ea2 := ea.symm
  clear ea
  have hmf : ∀ (fn : Fn) (first cap : Array Value) (w : World), (Instr.makeFunc fn first cap).run Try.prog w = .ok (.func fn first cap) w := fun _ _ _ _ => rfl
  go_enter Try.func27, Try.ntmps27
  go_wp2_with (first | (go_at_call 36; ((with_reducible refine hi.mono ?_); rintro e w' ⟨rfl, rfl⟩)) | (go_at_call 20; ((with_reducible refine hct.mono ?_); rintro e w' ⟨rfl, rfl⟩)))
  go_ret2
  exact ⟨rfl, HF.out⟩
end Go.Proofs.Ytgdnehejeoiicaa
