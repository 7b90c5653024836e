/- Add of a clause that may be: the walk. -/
import Derived.Test.YtgdnehejeoiicaaSuE
import Derived.Deep.RegionLaw
import Derived.Deep.AppendLies
set_option linter.unusedVariables false
set_option linter.unusedSimpArgs false
namespace Go.Proofs.Ytgdnehejeoiicaa
open Go.RowKit

theorem one3 {w : World} {base n : Nat} {e : TypeId} {size : Nat} {v : Value} {xs : List Value} (h : w.ownsRow base e size v n xs) {a b : Int} : ∀ u ∈ [v, .int .i64 a, .int .i64 b], u.oneCell' = true := by
  obtain ⟨ao, cap, rfl⟩ := owns_form h
  intro u hu
  simp at hu
  rcases hu with rfl | rfl | rfl <;> rfl

theorem cells_new (w : World) (cs : List Value) (T : TypeId) : ∀ j u, cs[j]? = some u → (w.alloc (.cells cs.toArray T)).cell? ((⟨w.heap.size, 0, none⟩ : Addr).add j) = some u := by
  intro j u h
  rw [Go.WideShapes.add_plain, Nat.zero_add]
  exact (Blk.new w cs T).cell h

/-- append to a row of the call's own, as one step of a region that draws its order. -/
theorem step_own {P : Program} {ops : Array Oper} {o : Oper} {a : Act} {w : World} {K : Act → World → Prop} {Q : Exit → Act → World → Prop} {E : Prop}
    (hg : o.guard = none) (s x : Operand) (t : TypeId) (hop : o.op = Op.call { callee := Callee.builtin Builtin.append, args := #[s, x], argTypes := #[t, t] })
    (base : Nat) (e : TypeId) (i : TypeInfo) (z : Value) (size bytes : Nat) (h1 : P.underlying t = some (.slice e)) (h2 : P.info? e = some i) (h3 : i.zero = some z) (h4 : i.size = size) (h5 : i.bytes = bytes) (h6 : z.cells.size = size) (h7 : 0 < size)
    (v : Value) (n : Nat) (xs : List Value) (hs : a.eval s = v) (hown : w.ownsRow base e size v n xs)
    (ad : Addr) (m c : Nat) (news : List Value) (hx : a.eval x = .slice (some ad) m c) (hn : news.length = m * size) (hc : ∀ j u, news[j]? = some u → w.cell? (ad.add j) = some u) (h1c : ∀ u ∈ news, u.oneCell' = true)
    (b1 : n + m ≤ maxLen) (b2 : (n + m) * bytes ≤ 140737488355328) (hb : base ≤ w.heap.size)
    (hK : ∀ v' w', w'.ownsRow base e size v' (n + m) (xs ++ news) → w.grownBy w' v.ownBlock → (v'.ownBlock = v.ownBlock ∨ v'.ownBlock = some w.heap.size) → K (a.put o.dst v') w') :
    if Region.wanted o (yielded ops a.tmps) = true then Oper.wp P o a w K Q else E := by
  have hw : Region.wanted o (yielded ops a.tmps) = true := by simp [Region.wanted, hg]
  rw [if_pos hw]
  obtain ⟨v', w', hrun, r1, r2, _, r4⟩ := run_append_own_at (P := P) w base t o.type e i z size bytes h1 h2 h3 h4 h5 h6 h7 v n xs hown ad m c news hn hc h1c b1 b2 hb
  unfold Oper.wp
  simp [execOp, hop, resolve, invoke, builtin, hs, hx, hrun, Result.andThen]
  exact hK v' w' r1 r2 r4

theorem after_clone {wa w1 : World} {U b B1 : Nat} {vs cs ms c' : Value} {cv : List Value} {st : US} {xs : List Int} (h : StoreAt wa U vs cs ms cv st) (ba : Blk wa b [.pointer (some ⟨U, 0, none⟩)] 38)
    (hcl : w1.ownsRow B1 3 1 c' xs.length (ivl xs)) (f1 : Fr (fun _ => False) wa w1) :
    StoreAt w1 U vs cs ms cv st ∧ w1.cell? ⟨U, 2, none⟩ = some cs ∧ w1.cell? ⟨b, 0, none⟩ = some (.pointer (some ⟨U, 0, none⟩)) ∧
      (w1.alloc (.cells #[c', .int .i64 0, .int .i64 0] 85)).ownsRow 0 85 3 cs st.cls.length (clCells st.cls cv) ∧
      (∀ j u, [c', .int .i64 0, .int .i64 0][j]? = some u → (w1.alloc (.cells #[c', .int .i64 0, .int .i64 0] 85)).cell? ((⟨w1.heap.size, 0, none⟩ : Addr).add j) = some u) ∧ (∀ u ∈ [c', .int .i64 0, .int .i64 0], u.oneCell' = true) ∧
      (w1.alloc (.cells #[c', .int .i64 0, .int .i64 0] 85)).cell? ⟨U, 2, none⟩ = some cs ∧ (w1.alloc (.cells #[c', .int .i64 0, .int .i64 0] 85)).cell? ⟨b, 0, none⟩ = some (.pointer (some ⟨U, 0, none⟩)) := by
  have h1 := h.keep f1 (fun e => e) (fun _ _ e => e) (fun _ _ e => e) (fun _ _ e => e) (fun _ _ _ _ e => e)
  exact ⟨h1, h1.hU.cell rfl, (ba.keep f1 (fun e => e)).cell rfl, (Fr.alloc w1 _).owns h1.hc (fun _ _ e => e), cells_new w1 [c', .int .i64 0, .int .i64 0] 85, one3 hcl, (h1.hU.keep (Fr.alloc w1 _) (fun e => e)).cell rfl, ((ba.keep f1 (fun e => e)).keep (Fr.alloc w1 _) (fun e => e)).cell rfl⟩
theorem after_grown {w1 w3 : World} {U b : Nat} {vs cs ms : Value} {cv : List Value} {st : US} {o : Obj} (h : StoreAt w1 U vs cs ms cv st) (ba : w1.cell? ⟨b, 0, none⟩ = some (.pointer (some ⟨U, 0, none⟩))) (hb : cs.ownBlock ≠ some b)
    (hg : (w1.alloc o).grownBy w3 cs.ownBlock) : w3.cell? ⟨b, 0, none⟩ = some (.pointer (some ⟨U, 0, none⟩)) ∧ w3.cell? ⟨U, 2, none⟩ = some cs ∧ w3.frozen? ⟨U, 2, none⟩ = false := by
  have k0 : Fr (fun b => cs.ownBlock = some b) w1 w3 := (Fr.alloc w1 o).trans (Fr.of_grown hg) (fun _ _ e => e.elim) (fun _ _ e => e.symm)
  have bU := h.hU.keep k0 h.rowU.2.1
  exact ⟨k0.cell (p := ⟨b, 0, none⟩) hb ba, bU.cell rfl, bU.free 2⟩

theorem uadd_done {w wb w1 w3 : World} {U K : Nat} {vs cs ms c' v' : Value} {cv : List Value} {st : US} {xs : List Int} {o : Obj} {N : Nat → Prop} (hN : ∀ b, N b → b < w.heap.size) (h : StoreAt w U vs cs ms cv st)
    (hNN : ¬ N U ∧ (∀ g, vs.ownBlock = some g → ¬ N g) ∧ (∀ g, cs.ownBlock = some g → ¬ N g) ∧ (∀ g, ms.ownBlock = some g → ¬ N g) ∧ ∀ v ∈ cv, ∀ g, v.ownBlock = some g → ¬ N g)
    (f0 : Fr (fun _ => False) w wb) (f1 : Fr (fun _ => False) wb w1) (h1 : StoreAt w1 U vs cs ms cv st) (hK : K = st.cls.length) (hk : K < 1048576) (hb : xs.length * 8 ≤ 140737488351232)
    (hcl : w1.ownsRow wb.heap.size 3 1 c' xs.length (ivl xs)) (hg : (w1.alloc o).grownBy w3 cs.ownBlock)
    (hown : w3.ownsRow 0 85 3 v' (K + 1) (clCells st.cls cv ++ [c', .int .i64 0, .int .i64 0])) (hat : v'.ownBlock = cs.ownBlock ∨ v'.ownBlock = some (w1.alloc o).heap.size) :
    StoreN N (w3.setCell ⟨U, 2, none⟩ v') U { st with cls := st.cls ++ [⟨xs, 0, 0⟩] } ∧ Fr (fun b => ¬ N b) w (w3.setCell ⟨U, 2, none⟩ v') := by
  subst hK
  obtain ⟨n1, n2, n3, n4, n5⟩ := hNN
  have hs0 := f0.size
  have hs1 := f1.size
  obtain ⟨q1, q2, q3⟩ := h1.added hk hb hcl (fun g e => by have := (owns_lt h.hv e).2; omega) hg hown hat
  refine ⟨⟨vs, v', ms, cv ++ [c'], q1, n1, n2, fun g e => ?_, n4, fun v hv g e => ?_⟩, ?_⟩
  · rcases q3 g e with e' | e'
    · exact n3 g e'
    · exact fun k => by have := hN g k; omega
  · rcases List.mem_append.1 hv with hv | hv
    · exact n5 v hv g e
    · simp at hv
      subst hv
      have := (owns_lt hcl e).1
      exact fun k => by have := hN g k; omega
  · refine ((f0.trans f1 (fun _ _ e => e) (fun _ _ e => e)).trans q2 (fun _ _ e => e.elim) (fun b hb e => ?_))
    rcases e with e | e
    · exact n3 b e
    · rw [e]; exact n1

set_option maxHeartbeats 4000000 in
set_option maxRecDepth 20000 in
theorem uadd_ok {w : World} {U : Nat} {v : Value} {st : US} {xs : List Int} {N : Nat → Prop} (hN : ∀ b, N b → b < w.heap.size) (h : StoreN N w U st) (hr : RdC w v xs) (hb : bads st.n xs = false) (hk : st.cls.length < 1048576) :
    Calls Try.prog 27 #[.pointer (some ⟨U, 0, none⟩), v] w fun e w' => e = .returned (.tuple #[.int .i64 (st.cls.length : Nat), .int .i64 0]) ∧ StoreN N w' U { st with cls := st.cls ++ [⟨xs, 0, 0⟩] } ∧ Fr (fun b => ¬ N b) w w' := by
  obtain ⟨i1, hi1, hz0, hz1, hz2⟩ := info_parts info_watched
  obtain ⟨vs, cs, ms, cv, h, b1, b2, b3, b4, b5⟩ := h
  obtain ⟨wa, ea⟩ : ∃ wa, wa = w.alloc (.cells #[.pointer (some ⟨U, 0, none⟩)] 38) := ⟨_, rfl⟩
  have fa : Fr (fun _ => False) w wa := by rw [ea]; exact Fr.alloc _ _
  have ba : Blk wa w.heap.size [.pointer (some ⟨U, 0, none⟩)] 38 := by rw [ea]; exact Blk.new' rfl
  have ca : wa.cell? ⟨w.heap.size, 0, none⟩ = some (.pointer (some ⟨U, 0, none⟩)) := ba.cell rfl
  have h2 := h.keep fa (fun e => e) (fun _ _ e => e) (fun _ _ e => e) (fun _ _ e => e) (fun _ _ _ _ e => e)
  have hr2 := hr.keep fa (fun _ _ _ _ _ e => e)
  have hi := uis_ok h2
  have hct := contains_u hr2 (b := w.heap.size) (bad := fun l => !isLit st.n l) (fun l => ubad_ok h2 ca l)
  have hb' : (xs.any fun l => !isLit st.n l) = false := hb
  rw [hb'] at hct
  have hr3 := hr2.keep (Fr.drew wa) (fun _ _ _ _ _ e => e)
  have hcl := clone_ok hr3
  have h3 := h2.keep (Fr.drew wa) (fun e => e) (fun _ _ e => e) (fun _ _ e => e) (fun _ _ e => e) (fun _ _ _ _ e => e)
  have ba3 := ba.keep (Fr.drew wa) (fun e => e)
  have hB8 : xs.length * 8 ≤ 140737488351232 := by obtain ⟨_, _, _, q, _⟩ := hr; exact q
  obtain ⟨aoc, capc, ec⟩ := owns_form h.hc
  have cU2 : wa.cell? ⟨U, 2, none⟩ = some cs := h2.hU.cell rfl
  obtain ⟨K, eK⟩ : ∃ K, K = st.cls.length := ⟨_, rfl⟩
  rw [← eK] at ec hk ⊢
  have bK : ((K : Int) == 1048576) = false := by simp; omega
  rw [ec] at cU2
  have hbc : cs.ownBlock ≠ some w.heap.size := fun e => by have := (owns_lt h.hc e).2; omega
  have HBC := Lib.hid hbc
  have HF := Lib.hid (fa.then (Fr.drew wa) (fun _ _ e => e))
  have HBA := Lib.hid ba3
  have H2 := Lib.hid h3
  have HEC := Lib.hid ec
  have HEK := Lib.hid eK
  have HB8 := Lib.hid hB8
  have HC := Lib.hid hcl
  have HNN := Lib.hid hN
  have HB1 := Lib.hid (And.intro b1 (And.intro b2 (And.intro b3 (And.intro b4 b5))))
  have HH := Lib.hid h
  clear h hr h2 hr2 hr3 h3 ba3 hb hb' ba fa hbc ec eK hB8 hcl hN b1 b2 b3 b4 b5
  have ea2 := ea.symm
  clear ea
  have hmf : ∀ (fn : Fn) (first cap : Array Value) (w : World), (Instr.makeFunc fn first cap).run Try.prog w = .ok (.func fn first cap) w := fun _ _ _ _ => rfl
  go_enter Try.func27, Try.ntmps27
  go_wp2_with (first | (go_at_call 36; ((with_reducible refine hi.mono ?_); rintro e w' ⟨rfl, rfl⟩)) | (go_at_call 20; ((with_reducible refine hct.mono ?_); rintro e w' ⟨rfl, rfl⟩)) | fail)
  go_region_law (first
    | (refine step_own rfl (.tmp 25) (.tmp 29) 72 rfl 0 85 i1 (.agg #[.slice none 0 0, .int .i64 0, .int .i64 0]) 3 40 und_watcheds hi1 hz0 hz1 hz2 rfl (by decide) (.slice aoc K capc) K _ rfl hown0 ⟨w1.heap.size, 0, none⟩ 1 1 [.slice aoN xs.length capN, .int .i64 0, .int .i64 0] rfl rfl hnw hone (by unfold maxLen; omega) (by omega) (Nat.zero_le _) ?_
       intro v' w3 hown1 hg1 hat1
       obtain ⟨g', cap', rfl⟩ := owns_shape hown1 (by omega)
       obtain ⟨d0, d1, d2⟩ := after_grown HW1.out cb1 HBC.out (by rw [HEC.out]; exact hg1)
       rw [HEC.out] at d1)
    | (go_simp; go_at_call 24
       refine HC.out.mono ?_; rintro e w1 ⟨c', rfl, hcl, f1, hnil⟩
       obtain ⟨aoN, capN, rfl⟩ := owns_form hcl
       obtain ⟨h1, cU1, cb1, hown0, hnw, hone, cU2a, cb2a⟩ := after_clone H2.out HBA.out hcl f1
       rw [HEC.out] at cU1 cU2a
       rw [HEC.out, ← HEK.out] at hown0
       have HCL := Lib.hid hcl
       have F1 := Lib.hid f1
       have HW1 := Lib.hid h1
       clear hcl f1 h1 hnil))
  all_goals go_wp2
  all_goals go_ret2
  all_goals exact ⟨by simp, uadd_done HNN.out HH.out HB1.out HF.out F1.out HW1.out HEK.out hk HB8.out HCL.out (by rw [HEC.out]; exact hg1) hown1 (by rw [HEC.out]; exact hat1)⟩
end Go.Proofs.Ytgdnehejeoiicaa
