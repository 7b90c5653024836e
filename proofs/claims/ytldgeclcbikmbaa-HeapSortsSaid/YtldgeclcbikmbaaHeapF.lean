/- pop of the inner queue. -/
import Derived.Test.YtldgeclcbikmbaaHeapE
set_option linter.unusedVariables false
set_option linter.unusedSimpArgs false
namespace Go.Proofs.Ytldgeclcbikmbaa
open Go.RowKit

/-- A row made shorter is written into the heap's field. -/
theorem HeapAt.cut {w : World} {H V bs bp : Nat} {lv : Value} {s : HS} (h : HeapAt w H V bs bp lv s) {g cap m : Nat} (e : lv = .slice (some ⟨g, 0, none⟩) s.l.length cap) (hm : m ≤ s.l.length) :
    HeapAt (w.setCell ⟨H, 0, none⟩ (.slice (some ⟨g, 0, none⟩) m cap)) H V bs bp (.slice (some ⟨g, 0, none⟩) m cap) { s with l := s.l.take m } := by
  subst e
  have hgH : g ≠ H := by
    intro e
    rcases owns_blk h.hl with ⟨e2, _, _⟩ | ⟨g', cap', more, e2, _, hgb, _⟩
    · simp at e2
    · simp only [Value.slice.injEq, Option.some.injEq, Addr.mk.injEq] at e2
      obtain ⟨⟨rfl, -⟩, -, rfl⟩ := e2
      subst e
      exact (by decide : 54 ≠ 3) (h.hH.inj hgb).2
  have k1 := Fr.set w ⟨H, 0, none⟩ (.slice (some ⟨g, 0, none⟩) m cap)
  constructor
  · exact h.hH.set 0 _
  · exact h.hV.keep k1 (by simpa using h.hV.ne h.hH (by decide))
  · exact h.hs.keep k1 (by simpa using h.hs.ne h.hH (by decide))
  · exact h.hp.keep k1 (by simpa using h.hp.ne h.hH (by decide))
  · have h0 := k1.owns h.hl (fun g' hg e => by simp only [Value.ownBlock, Option.some.injEq] at hg; exact hgH (hg.trans e))
    rcases owns_blk h0 with ⟨e2, _, _⟩ | ⟨g', cap', more, e2, _, hgb, h1, h2, h3⟩
    · simp at e2
    · simp only [Value.slice.injEq, Option.some.injEq, Addr.mk.injEq] at e2
      obtain ⟨⟨rfl, -⟩, -, rfl⟩ := e2
      have ex : nvl s.l ++ more = nvl (s.l.take m) ++ (nvl (s.l.drop m) ++ more) := by
        rw [← List.append_assoc]; unfold nvl; rw [← List.map_append, List.take_append_drop]
      rw [ex] at hgb h3
      have hlen : (s.l.take m).length = m := by simp; omega
      show World.ownsRow _ _ _ _ _ (s.l.take m).length _
      rw [hlen]
      exact blk_owns (Nat.zero_le _) hgb (by omega) h2 h3 (by simp [nvl]; omega)
  · exact h.hlp
  · exact h.hn
  · exact h.hm
  · intro v hv
    exact h.hv v (List.mem_of_mem_take hv)
  · simp; have := h.hL; omega

/-- A variable is told that it stands nowhere. -/
theorem HeapAt.place {w : World} {H V bs bp : Nat} {lv : Value} {s : HS} (h : HeapAt w H V bs bp lv s) {v : Nat} (i : Int) : HeapAt (w.setCell ⟨bp, v, none⟩ (.int .i64 i)) H V bs bp lv { s with ps := s.ps.set v i } := by
  have k1 := Fr.set w ⟨bp, v, none⟩ (.int .i64 i)
  constructor
  · exact h.hH.keep k1 (by simpa using h.hH.ne h.hp (by decide))
  · exact h.hV.keep k1 (by simpa using h.hV.ne h.hp (by decide))
  · exact h.hs.keep k1 (by simpa using h.hs.ne h.hp (by decide))
  · have := h.hp.set v (.int .i64 i)
    rw [ivl_set] at this
    exact this
  · exact k1.owns h.hl (fun g hg e => h.hlp (by rw [hg]; exact congrArg some e))
  · exact h.hlp
  · simpa using h.hn
  · exact h.hm
  · exact h.hv
  · exact h.hL

theorem moved_heap {w : World} {H V bs bp : Nat} {lv : Value} {s : HS} (h : HeapAt w H V bs bp lv s) {v : Nat} (hv : v < s.fs.length) (i : Int) :
    Calls Try.prog 34 #[.int .i64 v, .int .i64 i, .pointer (some ⟨V, 0, none⟩)] w fun e w' => e = .returned (.tuple #[]) ∧ HeapAt w' H V bs bp lv { s with ps := s.ps.set v i } ∧ Fr (fun b => b = bp) w w' :=
  (moved_any V H bp s.fs.length s.fs.length v i w _ hv h.hm (h.hV.cell rfl) (h.hH.cell rfl) (h.hp.cell (i := v) (by rw [ivl, List.getElem?_map, List.getElem?_eq_getElem (by have := h.hn; omega)]; rfl)) (h.hp.free _)).mono
    fun _ _ ⟨he, hw⟩ => ⟨he, by rw [hw]; exact h.place i, by rw [hw]; exact Fr.set w ⟨bp, v, none⟩ (.int .i64 i)⟩

/-- The first of the row is written anew. -/
theorem HeapAt.head {w : World} {H V bs bp : Nat} {lv : Value} {s : HS} (h : HeapAt w H V bs bp lv s) {g cap : Nat} (e : lv = .slice (some ⟨g, 0, none⟩) s.l.length cap) {v : Nat} (hv : v < s.fs.length) (h0 : 0 < s.l.length) :
    HeapAt (w.setCell ⟨g, 0, none⟩ (iv v)) H V bs bp lv { s with l := s.l.set 0 v } ∧ w.frozen? ⟨g, 0, none⟩ = false ∧ ∃ u, w.cell? ⟨g, 0, none⟩ = some u := by
  obtain ⟨g', cap', more, e2, hb, hc, g1, g2, g3, g4, hcm, hlen⟩ := h.row h0
  rw [e] at e2
  simp only [Value.slice.injEq, Option.some.injEq, Addr.mk.injEq] at e2
  obtain ⟨⟨rfl, -⟩, -, rfl⟩ := e2
  have k1 := Fr.set w ⟨g, 0, none⟩ (iv v)
  have b1 : Blk (w.setCell ⟨g, 0, none⟩ (iv v)) g (nvl (s.l.set 0 v) ++ more) 3 := by rw [← nvl_set _ _ _ _ h0]; exact hb.set 0 _
  refine ⟨?_, hb.free 0, _, hb.cell (nvl_get _ _ h0)⟩
  constructor
  · exact h.hH.keep k1 (fun e => g2 e.symm)
  · exact h.hV.keep k1 (fun e => g3 e.symm)
  · exact h.hs.keep k1 (fun e => g4 e.symm)
  · exact h.hp.keep k1 (fun e => g1 e.symm)
  · subst e
    show World.ownsRow _ _ _ _ _ (s.l.set 0 v).length _
    rw [List.length_set]
    exact blk_owns (Nat.zero_le _) b1 hc hcm (by rw [← nvl_set _ _ _ _ h0, List.length_set, Nat.mul_one]; exact hlen) (by simp [nvl])
  · exact h.hlp
  · exact h.hn
  · exact h.hm
  · intro u hu
    rcases List.mem_or_eq_of_mem_set hu with hu | rfl
    · exact h.hv u hu
    · exact hv
  · simpa using h.hL

theorem down0_heap {w : World} {H V bs bp : Nat} {lv : Value} {s : HS} (h : HeapAt w H V bs bp lv s) (hi : 0 < s.l.length) :
    Calls Try.prog 37 #[.pointer (some ⟨H, 0, none⟩), .int .i64 0] w fun e w' => e = .returned (.tuple #[]) ∧
      HeapAt w' H V bs bp lv { s with l := (downL (ahs s.fs) (s.l.getD 0 0) 0 s.l s.ps).1, ps := (downL (ahs s.fs) (s.l.getD 0 0) 0 s.l s.ps).2 } ∧ Fr (fun b => lv.ownBlock = some b ∨ b = bp) w w' :=
  down_heap h (i := 0) hi

/-- What pop leaves. -/
def popS (s : HS) : HS :=
  let x := s.l.getD 0 0
  let y := s.l.getD (s.l.length - 1) 0
  if s.l.length = 1 then { s with l := [], ps := s.ps.set x (-1) }
  else
    let d := downL (ahs s.fs) y 0 ((s.l.take (s.l.length - 1)).set 0 y) s.ps
    { s with l := d.1, ps := d.2.set x (-1) }

set_option maxHeartbeats 1000000 in
theorem qpop_heap {w : World} {H V bs bp : Nat} {lv : Value} {s : HS} (h : HeapAt w H V bs bp lv s) (h0 : 0 < s.l.length) :
    Calls Try.prog 30 #[.pointer (some ⟨H, 0, none⟩)] w fun e w' => e = .returned (.int .i64 (s.l.getD 0 0 : Nat)) ∧
      ∃ lv', HeapAt w' H V bs bp lv' (popS s) ∧ Fr (fun b => lv.ownBlock = some b ∨ b = bp ∨ b = H) w w' ∧ lv'.ownBlock = lv.ownBlock := by
  obtain ⟨g, cap, more, e, hb, hc, g1, g2, g3, g4, hcm, hlen⟩ := h.row h0
  have c0 : w.cell? ⟨H, 0, none⟩ = some (.slice (some ⟨g, 0, none⟩) s.l.length cap) := h.hH.cell (by rw [e]; rfl)
  have c0f := h.hH.free 0
  have c1' := hb.cell (nvl_get _ more h0)
  have c2' := hb.cell (nvl_get _ more (i := s.l.length - 1) (by omega))
  have hx := h.elem h0
  have hy := h.elem (i := s.l.length - 1) (by omega)
  have hcut := h.cut (m := s.l.length - 1) e (by omega)
  have hL := h.hL
  obtain ⟨x, ex⟩ : ∃ x, x = s.l.getD 0 0 := ⟨_, rfl⟩
  obtain ⟨y, ey⟩ : ∃ y, y = s.l.getD (s.l.length - 1) 0 := ⟨_, rfl⟩
  obtain ⟨L, eL⟩ : ∃ L, L + 1 = s.l.length := ⟨s.l.length - 1, by omega⟩
  have eL' : s.l.length - 1 = L := by omega
  rw [← ex] at c1' hx ⊢
  rw [← ey] at c2' hy
  rw [eL'] at c2' hcut
  rw [← eL] at c0 hc
  have c1 : w.cell? ⟨g, 0, none⟩ = some (.int .i64 (x : Int)) := c1'
  have c2 : w.cell? ⟨g, L, none⟩ = some (.int .i64 (y : Int)) := c2'
  have HE := Lib.hid e
  have HX := Lib.hid ex
  have HY := Lib.hid ey
  have HL := Lib.hid eL
  have HH := Lib.hid h
  have HC := Lib.hid hcut
  have w0 : IntKind.i64.wrap (L : Int) = (L : Int) := by rw [IntWalk.i64_in _ (by omega)]
  have w1 : IntKind.i64.wrap (((L + 1 : Nat) : Int) - 1) = (L : Int) := by rw [IntWalk.i64_in _ (by omega)]; omega
  have w1' : IntKind.i64.wrap ((L : Int) + 1 - 1) = (L : Int) := by rw [IntWalk.i64_in _ (by omega)]; omega
  have b1 : (0 : Int) ≤ (L : Int) := by omega
  have b2 : (L : Int) < ((L + 1 : Nat) : Int) := by omega
  have b3 : (0 : Int) < ((L + 1 : Nat) : Int) := by omega
  have b4 : (L : Int) ≤ (cap : Int) := by omega
  have b5 : L ≤ cap := by omega
  clear e ex ey eL eL' h hcut hb hlen c1' c2'
  go_enter Try.func30, Try.ntmps30
  go_wp2
  go_quiet (fail)
  go_wp2
  go_region
  obtain ⟨W, eW⟩ : ∃ W, W = (w.drewN (nq + 1)).setCell ⟨H, 0, none⟩ (Value.slice (some ⟨g, 0, none⟩) L cap) := ⟨_, rfl⟩
  have hW : HeapAt W H V bs bp (.slice (some ⟨g, 0, none⟩) L cap) { s with l := s.l.take L } := by
    rw [eW]
    exact (HH.out.drewN (nq + 1)).cut HE.out (by rw [← HL.out]; omega)
  have hFW : Fr (fun b => b = H) w W := by
    rw [eW]
    exact (Fr.drewN w (nq + 1)).trans (Fr.set _ _ _) (fun _ _ e => e.elim) (fun _ _ e => e)
  rw [← eW]
  clear eW c0 c0f c1 c2
  have hlen : (s.l.take L).length = L := by rw [List.length_take, ← HL.out]; omega
  have d0 : W.cell? ⟨H, 0, none⟩ = some (.slice (some ⟨g, 0, none⟩) L cap) := hW.hH.cell rfl
  have d2 : W.cell? ⟨H, 2, none⟩ = some (.func (.func 34) #[] #[.pointer (some ⟨V, 0, none⟩)]) := hW.hH.cell rfl
  have HW := Lib.hid hW
  have HFW := Lib.hid hFW
  have HLN := Lib.hid hlen
  clear hW hFW hlen w0 w1 w1'
  by_cases hL0 : L = 0
  · have hb : ¬ (0 : Int) < (L : Int) := by omega
    have hb' : ¬ 0 < L := by omega
    have hm := moved_heap HW.out (v := x) hx (-1)
    go_wp2_with (go_at_call 34; ((with_reducible refine hm.mono ?_); rintro e w' ⟨rfl, h5, h6⟩))
    go_ret
    refine ⟨rfl, .slice (some ⟨g, 0, none⟩) L cap, ?_, ?_, by rw [HE.out]; rfl⟩
    · unfold popS
      simp only
      rw [if_pos (by rw [← HL.out, hL0]), ← HX.out]
      have : s.l.take L = [] := by rw [hL0]; rfl
      rw [this] at h5
      exact h5
    · exact HFW.out.trans h6 (fun _ _ e => .inr (.inr e)) (fun _ _ e => .inr (.inl e))
  · have hb : (0 : Int) < (L : Int) := by omega
    have hb' : 0 < L := by omega
    obtain ⟨hhead, hff, u, hcu⟩ := HW.out.head (g := g) (cap := cap) (by show _ = Value.slice _ (s.l.take L).length _; rw [HLN.out]) (v := y) hy (by show 0 < (s.l.take L).length; rw [HLN.out]; exact hb')
    have hd := down0_heap hhead (by show 0 < ((s.l.take L).set 0 y).length; rw [List.length_set, HLN.out]; exact hb')
    have HHD := Lib.hid hhead
    clear hhead
    go_wp2_with (first
      | (go_at_call 37; ((with_reducible refine hd.mono ?_); rintro e w' ⟨rfl, h5, h6⟩; have d3 := h5.hH.cell (i := 2) rfl; have hm := moved_heap h5 (v := x) hx (-1)))
      | (go_at_call 34; ((with_reducible refine hm.mono ?_); rintro e w2 ⟨rfl, h7, h8⟩)))
    go_ret
    refine ⟨rfl, .slice (some ⟨g, 0, none⟩) L cap, ?_, ?_, by rw [HE.out]; rfl⟩
    · have e1 : s.l.length - 1 = L := by rw [← HL.out]; omega
      have e2 : s.l.getD (s.l.length - 1) 0 = y := HY.out.symm
      have e3 : ((s.l.take L).set 0 y).getD 0 0 = y := by
        have : 0 < (s.l.take L).length := by rw [HLN.out]; exact hb'
        rw [getD_lt _ _ (by rw [List.length_set]; exact this)]; simp
      simp only [e3] at h7
      unfold popS
      simp only
      rw [if_neg (by rw [← HL.out]; omega), ← HX.out, e2, e1]
      exact h7
    · have hown : ∀ b, (Value.slice (some ⟨g, 0, none⟩) L cap).ownBlock = some b → lv.ownBlock = some b := fun b e => by rw [HE.out]; exact e
      refine (HFW.out.trans ((Fr.set W ⟨g, 0, none⟩ (iv y)).trans h6 (S := fun b => lv.ownBlock = some b ∨ b = bp) (fun b _ e => .inl (hown b (by simp [Value.ownBlock, e]))) (fun b _ e => ?_)) (fun _ _ e => .inr (.inr e)) (fun _ _ e => ?_)).then h8 (fun _ _ e => .inr (.inl e))
      · rcases e with e | e
        · exact .inl (hown b e)
        · exact .inr e
      · rcases e with e | e
        · exact .inl e
        · exact .inr (.inl e)
end Go.Proofs.Ytldgeclcbikmbaa
