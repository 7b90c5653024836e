/- Add of a solver. -/
import Derived.Test.YtgdnehejeoiicaaSuI
set_option linter.unusedVariables false
set_option linter.unusedSimpArgs false
namespace Go.Proofs.Ytgdnehejeoiicaa
open Go.RowKit

theorem row_ne {w : World} {b n size S : Nat} {T T' : TypeId} {v : Value} {xs cs : List Value} (ho : w.ownsRow b T size v n xs) (hS : Blk w S cs T') (hT : T ≠ T') : v.ownBlock ≠ some S := by
  intro e
  rcases owns_blk ho with ⟨rfl, _, _⟩ | ⟨g, cap, more, rfl, _, hgb, _⟩
  · simp [Value.ownBlock] at e
  · simp only [Value.ownBlock, Option.some.injEq] at e
    subst e
    exact hT (hgb.inj hS).2
theorem SolverAt.bump {w : World} {S U : Nat} {hp ph sts pl mp : Value} {ad : Nat} {st : US} (h : SolverAt w S U hp ph sts pl mp ad st) :
    SolverAt (w.setCell ⟨S, 8, none⟩ (.int .i64 ((ad + 1 : Nat) : Int))) S U hp ph sts pl mp (ad + 1) st ∧ Fr (fun b => b = S) w (w.setCell ⟨S, 8, none⟩ (.int .i64 ((ad + 1 : Nat) : Int))) := by
  have k := Fr.set w ⟨S, 8, none⟩ (.int .i64 ((ad + 1 : Nat) : Int))
  obtain ⟨c1, h1⟩ := h.hph
  obtain ⟨c2, h2⟩ := h.hst
  obtain ⟨c3, h3⟩ := h.hpl
  exact ⟨⟨h.hS.set 8 _, h.hp', ⟨c1, k.owns h1 (fun g e e' => row_ne h1 h.hS (by decide) (by rw [e]; exact congrArg some e'))⟩, ⟨c2, k.owns h2 (fun g e e' => row_ne h2 h.hS (by decide) (by rw [e]; exact congrArg some e'))⟩, ⟨c3, k.owns h3 (fun g e e' => row_ne h3 h.hS (by decide) (by rw [e]; exact congrArg some e'))⟩, h.hd⟩, k.mono (fun b _ e => e)⟩

set_option maxHeartbeats 800000 in
set_option maxRecDepth 20000 in
theorem sadd_bad {N : Nat → Prop} {w : World} {S U : Nat} {c : Value} {st : US} {xs : List Int} (h : SolverN N w S U st) (hr : RdC w c xs) (hb : bads st.n xs = true) :
    Calls Try.prog 8 #[.pointer (some ⟨S, 0, none⟩), c] w fun e w' => e = .returned (.int .i64 180) ∧ Fr (fun _ => False) w w' := by
  obtain ⟨hp, ph, sts, pl, mp, ad, h, hu, hO, had⟩ := h
  obtain ⟨vs, cs, ms, cv, hu, _⟩ := hu
  obtain ⟨wa, ea⟩ : ∃ wa, wa = w.alloc (.cells #[.pointer (some ⟨S, 0, none⟩)] 24) := ⟨_, rfl⟩
  have fa : Fr (fun _ => False) w wa := by rw [ea]; exact Fr.alloc _ _
  have ba : Blk wa w.heap.size [.pointer (some ⟨S, 0, none⟩)] 24 := by rw [ea]; exact Blk.new' rfl
  have ca : wa.cell? ⟨w.heap.size, 0, none⟩ = some (.pointer (some ⟨S, 0, none⟩)) := ba.cell rfl
  have h2 := h.keep fa (fun _ _ e => e)
  have hu2 := hu.keep fa (fun e => e) (fun _ _ e => e) (fun _ _ e => e) (fun _ _ e => e) (fun _ _ _ _ e => e)
  have hr2 := hr.keep fa (fun _ _ _ _ _ e => e)
  have hi := sis_ok h2
  have hct := contains_s hr2 (b := w.heap.size) (bad := fun l => !isLit st.n l) (fun l => sbad_ok h2 hu2 ca l)
  have hb' : (xs.any fun l => !isLit st.n l) = true := hb
  rw [hb'] at hct
  have HF := Lib.hid fa
  clear h hr h2 hr2 hb hb' ba fa hu hu2 hO had
  have ea2 := ea.symm
  clear ea
  have hmf : ∀ (fn : Fn) (first cap : Array Value) (w : World), (Instr.makeFunc fn first cap).run Try.prog w = .ok (.func fn first cap) w := fun _ _ _ _ => rfl
  go_enter Try.func8, Try.ntmps8
  go_wp2_with (first | (go_at_call 18; ((with_reducible refine hi.mono ?_); rintro e w' ⟨rfl, rfl⟩)) | (go_at_call 20; ((with_reducible refine hct.mono ?_); rintro e w' ⟨rfl, rfl⟩)))
  go_ret
  exact ⟨rfl, HF.out⟩

set_option maxHeartbeats 1600000 in
set_option maxRecDepth 20000 in
theorem sadd_ok {N : Nat → Prop} {w : World} {S U : Nat} {c : Value} {st : US} {xs : List Int} (hN : ∀ b, N b → b < w.heap.size) (h : SolverN N w S U st) (hr : RdC w c xs) (hcN : ∀ a n k, c = .slice (some a) n k → 0 < n → N a.block) (hb : bads st.n xs = false) (hk : st.cls.length < 1048576) :
    Calls Try.prog 8 #[.pointer (some ⟨S, 0, none⟩), c] w fun e w' => e = .returned (.int .i64 0) ∧ SolverN N w' S U { st with cls := st.cls ++ [⟨xs, 0, 0⟩] } ∧ Fr (fun b => ¬ N b) w w' := by
  obtain ⟨hp, ph, sts, pl, mp, ad, h, huN, hO, had⟩ := h
  have huN' := huN
  obtain ⟨vs, cs, ms, cv, hu, _⟩ := huN'
  obtain ⟨wa, ea⟩ : ∃ wa, wa = w.alloc (.cells #[.pointer (some ⟨S, 0, none⟩)] 24) := ⟨_, rfl⟩
  have fa : Fr (fun _ => False) w wa := by rw [ea]; exact Fr.alloc _ _
  have ba : Blk wa w.heap.size [.pointer (some ⟨S, 0, none⟩)] 24 := by rw [ea]; exact Blk.new' rfl
  have ca : wa.cell? ⟨w.heap.size, 0, none⟩ = some (.pointer (some ⟨S, 0, none⟩)) := ba.cell rfl
  have h2 := h.keep fa (fun _ _ e => e)
  have hu2 := hu.keep fa (fun e => e) (fun _ _ e => e) (fun _ _ e => e) (fun _ _ e => e) (fun _ _ _ _ e => e)
  have hr2 := hr.keep fa (fun _ _ _ _ _ e => e)
  have hi := sis_ok h2
  have hct := contains_s hr2 (b := w.heap.size) (bad := fun l => !isLit st.n l) (fun l => sbad_ok h2 hu2 ca l)
  have hb' : (xs.any fun l => !isLit st.n l) = false := hb
  rw [hb'] at hct
  have c8 : wa.cell? ⟨S, 8, none⟩ = some (.int .i64 (ad : Int)) := h2.hS.cell rfl
  have c8f := h2.hS.free 8
  have bad8 : ((ad : Int) == 1048576) = false := by simp; omega
  obtain ⟨q1, q2⟩ := h2.bump
  obtain ⟨wb, eb⟩ : ∃ wb, wb = wa.setCell ⟨S, 8, none⟩ (.int .i64 ((ad : Int) + 1)) := ⟨_, rfl⟩
  have e1 : ((ad + 1 : Nat) : Int) = (ad : Int) + 1 := by omega
  rw [e1, ← eb] at q1 q2
  have hSw : S < w.heap.size := h.hS.lt
  have fd := q2.then (Fr.drew wb) (fun _ _ e => e.elim)
  have FWD : Fr (fun b => b = S) w wb.drew := fa.trans fd (fun _ _ e => e.elim) (fun _ _ e => e)
  have hr3 := hr2.keep fd (fun a n k e h0 e' => by have := hcN a n k e h0; rw [e'] at this; exact hO S (.inl rfl) this)
  have q3 := q1.keep (Fr.drew wb) (fun _ _ e => e)
  have cb : wb.cell? ⟨w.heap.size, 0, none⟩ = some (.pointer (some ⟨S, 0, none⟩)) := (ba.keep q2 (fun e => by omega)).cell rfl
  have hcl := clone_ok hr3
  have hu3 : StoreN (fun b => N b ∨ Own4 S ph sts pl b) wb.drew U st := huN.stay FWD (fun b hb hn e => hn (.inr (.inl e)))
  have hbx := (ba.keep q2 (fun e => by omega)).keep (Fr.drew wb) (fun e => e)
  have hB8 : xs.length * 8 ≤ 140737488351232 := by obtain ⟨_, _, _, q, _⟩ := hr; exact q
  have hadb : ad < 1048576 := by omega
  have HF := Lib.hid FWD
  have HCL := Lib.hid hcl
  have HQ3 := Lib.hid q3
  have HU3 := Lib.hid hu3
  have HBX := Lib.hid hbx
  have HB8 := Lib.hid hB8
  have HNN := Lib.hid hN
  have HO := Lib.hid hO
  have HHB := Lib.hid hb
  have HHK := Lib.hid hk
  have HAD := Lib.hid had
  clear h huN hO had hu fa ba h2 hu2 hr hr2 hb hb' q1 q2 e1 fd FWD hr3 q3 hcl hu3 hbx hB8 hN hcN hSw
  have ea2 := ea.symm
  have eb2 := eb.symm
  clear ea eb
  have hmf : ∀ (fn : Fn) (first cap : Array Value) (w : World), (Instr.makeFunc fn first cap).run Try.prog w = .ok (.func fn first cap) w := fun _ _ _ _ => rfl
  go_enter Try.func8, Try.ntmps8
  go_wp2_with (first | (go_at_call 18; ((with_reducible refine hi.mono ?_); rintro e w' ⟨rfl, rfl⟩)) | (go_at_call 20; ((with_reducible refine hct.mono ?_); rintro e w' ⟨rfl, rfl⟩)) | fail)
  go_region_with (first
    | (go_at_call 24
       go_loud (
       refine HCL.out.mono ?_; rintro e w1 ⟨c', rfl, hcl, f1, hnil⟩
       obtain ⟨aoN, capN, rfl⟩ := owns_form hcl
       have cb1 : w1.cell? ⟨w.heap.size, 0, none⟩ = some (.pointer (some ⟨S, 0, none⟩)) := (HBX.out.keep f1 (fun e => e)).cell rfl
       have F1 := Lib.hid f1
       have HPUT := Lib.hid (sput_ok (kind := 1) (fun b hb => Nat.lt_of_lt_of_le (Nat.lt_of_lt_of_le (HNN.out b hb) HF.out.size) f1.size) (HQ3.out.keep f1 (fun _ _ e => e)) (HU3.out.stay f1 (fun _ _ _ e => e)) HO.out (rdC_owns hcl HB8.out) HHB.out HHK.out)
       clear hcl f1 hnil))
    | (go_at_call 23
       go_loud (
       refine HPUT.out.mono ?_; rintro e w2 ⟨⟨r, rfl⟩, hfin, f2⟩
       have HFIN := Lib.hid hfin
       have F2 := Lib.hid f2
       clear hfin f2)))
  all_goals go_wp2
  all_goals go_ret
  all_goals
    obtain ⟨sts', pl', r1, r2, r3⟩ := HFIN.out
    refine ⟨rfl, ⟨hp, ph, sts', pl', mp, ad + 1, r1, r2, r3, ?_⟩, ?_⟩
    · have := HAD.out
      simp
      omega
    · exact ((HF.out.mono (fun b _ e => by rw [e]; exact HO.out S (.inl rfl))).then F1.out (fun _ _ e => e.elim)).then F2.out (fun _ _ e => e)
end Go.Proofs.Ytgdnehejeoiicaa
