/- Order of a heap that is not empty. -/
import Derived.Test.YtldgeclcbikmbaaHeapT
import Derived.Laws.AppendOwnNone
import Derived.Deep.DeepFit
set_option linter.unusedVariables false
set_option linter.unusedSimpArgs false
namespace Go.Proofs.Ytldgeclcbikmbaa
open Go.RowKit Go.Sort Go.Proofs.Ytldgeclcbikmbaa.Flt

theorem addp (g j : Nat) : (⟨g, 0, none⟩ : Addr).add j = ⟨g, j, none⟩ := by unfold Addr.add; split <;> simp_all
def OrderPost (w : World) (s : HS) (e : Ending) (w' : World) : Prop := ∃ v, e = .returned v ∧ w'.ownsRow w.heap.size 3 1 v s.l.length (nvl (inOrder s.fs s.l)) ∧ Fr (fun _ => False) w w'

theorem z_int (w : World) : (Go.sizeOf 3).run Try.prog w = .ok 1 w := by kernel_rfl
theorem eg27 : ∀ args w, (callFunc 27 args).run Try.prog w = .ok (.enter 27 args) w := enters_of Try.func27 (by kernel_rfl) rfl

/-- Sorting a clone of a heap's row. -/
theorem sort_heap {w : World} {H V bs bp B c cap : Nat} {lv : Value} {s : HS} (h : HeapAt w H V bs bp lv s) (hO : STO (ahs s.fs)) (hB : w.cell? ⟨B, 0, none⟩ = some (.pointer (some ⟨H, 0, none⟩))) {more : List Value}
    (hc : Blk w c (nvl s.l ++ more) 3) (n1 : H ≠ c) (n2 : V ≠ c) (n3 : bs ≠ c) (n4 : bp ≠ c) (n5 : lv.ownBlock ≠ some c) (n6 : B ≠ c) (hL : 0 < s.l.length) :
    Calls Try.prog 26 #[.slice (some ⟨c, 0, none⟩) s.l.length cap, .func (.func 27) #[] #[.pointer (some ⟨B, 0, none⟩)]] w fun e w' =>
      e = .returned (.tuple #[]) ∧ Blk w' c (nvl (inOrder s.fs s.l) ++ more) 3 ∧ Fr (fun b => b = c) w w' := by
  obtain ⟨d, d1, d2, d3⟩ := inOrder_sub s.fs s.fs.length s.l h.hv
  have hn : 0 < s.fs.length := by
    have := h.hv _ (List.getElem_mem hL); omega
  haveI : Inhabited (Vr s.fs.length) := ⟨⟨0, hn⟩⟩
  rw [← d1] at hc
  have hcmp : CmpLays1 Try.prog 27 #[.pointer (some ⟨B, 0, none⟩)] (encV s.fs.length) (cfV s.fs s.fs.length) c 0 d.toArray.size w := by
    intro m os dk _ x y
    have k := sort_fr (encV s.fs.length) w c m dk os
    have h' := h.keep k n1 n2 n3 n4 (fun b hb e => n5 (by rw [hb, e]))
    have hB' : (sortWorld (encV s.fs.length) w c 0 m dk os).cell? ⟨B, 0, none⟩ = some (.pointer (some ⟨H, 0, none⟩)) := k.cell (p := ⟨B, 0, none⟩) n6 hB
    refine (order1_any h' hB' x.2 y.2).mono ?_
    rintro e w' ⟨rfl, q, rfl⟩
    exact ⟨rfl, q, #[], by rw [grow_empty]⟩
  have hd : d.toArray.size = s.l.length := by simpa using d3
  have hs := Try.slices_SortFunc_total (encV s.fs.length) (fun _ => rfl) (cfV s.fs s.fs.length) (swoV hO _) 27 #[.pointer (some ⟨B, 0, none⟩)] c 0 cap d.toArray w eg27 hcmp (holds_blk hc) hc.lt (by rw [hd]; have := h.hL; omega) (totV hO _)
  rw [hd] at hs
  refine hs.mono ?_
  rintro e w' ⟨rfl, m, os, rfl⟩
  refine ⟨rfl, ?_, sort_fr _ _ _ _ _ _⟩
  have := sort_blk (n := m) os hc (ts := d.mergeSort fun x y => !(ltOf (cfV s.fs s.fs.length)) y x) (by simp)
  rw [d2] at this
  exact this

set_option maxHeartbeats 1000000 in
theorem order_heap {w : World} {H V bs bp : Nat} {lv : Value} {s : HS} (h : HeapAt w H V bs bp lv s) (hO : STO (ahs s.fs)) (hL : 0 < s.l.length) :
    Calls Try.prog 13 #[.pointer (some ⟨H, 0, none⟩)] w (OrderPost w s) := by
  obtain ⟨i0, hi, hz0, hz1, hz2⟩ := info_parts info_int
  obtain ⟨g, cap, more, e, hb, hcp, g1, g2, g3, g4, hcm, hlen⟩ := h.row hL
  have hLL := h.hL
  have k0 := Fr.alloc w (.cells #[.pointer (some ⟨H, 0, none⟩)] 23)
  obtain ⟨W1, eW1⟩ : ∃ W1, W1 = w.alloc (.cells #[.pointer (some ⟨H, 0, none⟩)] 23) := ⟨_, rfl⟩
  have hs1 : W1.heap.size = w.heap.size + 1 := by rw [eW1]; simp
  have bB : Blk W1 w.heap.size [.pointer (some ⟨H, 0, none⟩)] 23 := by rw [eW1]; exact Blk.new' rfl
  rw [← eW1] at k0
  have h1 := h.keep k0 (fun e => e) (fun e => e) (fun e => e) (fun e => e) (fun _ _ e => e)
  have hb1 := hb.keep k0 (fun e => e)
  have c0 : W1.cell? ⟨H, 0, none⟩ = some (.slice (some ⟨g, 0, none⟩) s.l.length cap) := h1.hH.cell (by rw [e]; rfl)
  have cB : W1.cell? ⟨w.heap.size, 0, none⟩ = some (.pointer (some ⟨H, 0, none⟩)) := bB.cell rfl
  have hcl := Try.slices_Clone i0 _ 1 8 hi hz0 hz1 hz2 rfl (by decide) z_int g 0 s.l.length cap (nvl s.l) W1 (by simp [nvl]) (by unfold maxLen; omega) (by omega) (fun j u hj => by
      rw [Nat.zero_add]
      refine hb1.cell ?_
      rw [List.getElem?_append_left (by
        have := (List.getElem?_eq_some_iff.1 hj).1
        exact this)]
      exact hj) (fun u hu => by
      simp only [nvl, List.mem_map] at hu
      obtain ⟨x, _, rfl⟩ := hu
      rfl)
  have hlH := h.hH.lt
  have hlV := h.hV.lt
  have hls := h.hs.lt
  have hlp := h.hp.lt
  have hlg := hb.lt
  obtain ⟨L, eL⟩ : ∃ L, L = s.l.length := ⟨_, rfl⟩
  rw [← eL] at c0 hcl hLL
  have H1 := Lib.hid h1
  have HB := Lib.hid bB
  have HO := Lib.hid hO
  have HL := Lib.hid eL
  have HK0 := Lib.hid k0
  have HS1 := Lib.hid hs1
  have HLL := Lib.hid hL
  have HE := Lib.hid e
  have HW1 := Lib.hid eW1
  rw [eW1] at c0 cB hcl
  clear h h1 bB hO hb hb1 eL k0 hs1 hL e eW1
  go_enter Try.func13, Try.ntmps13
  go_wp2_with (go_at_call 25; go_fit hcl; rintro e w2 ⟨v2, rfl, q1, q2, q3⟩; obtain ⟨c, cap2, hv2⟩ := owns_shape q1 (by have := HL.out; have := HLL.out; omega); rw [hv2])
  rw [hv2] at q1
  rcases owns_blk q1 with ⟨e2, _, _⟩ | ⟨c', cap', more2, e2, hcb, hc2, hcl2, hcl3, hcl4⟩
  · simp at e2
  simp only [Value.slice.injEq, Option.some.injEq, Addr.mk.injEq] at e2
  obtain ⟨⟨rfl, -⟩, -, rfl⟩ := e2
  rw [← HW1.out] at q3 hcb
  have k1 : Fr (fun _ => False) W1 w2 := Fr.of_below q3
  have h2 := H1.out.keep k1 (fun e => e) (fun e => e) (fun e => e) (fun e => e) (fun _ _ e => e)
  have hcW : W1.heap.size ≤ c := hcb
  have hs1 := HS1.out
  have hst := sort_heap h2 HO.out (HB.out.keep k1 (fun e => e) |>.cell rfl) (c := c) (cap := cap2) hc2 (by omega) (by omega) (by omega) (by omega) (by rw [HE.out]; simp only [Value.ownBlock, ne_eq, Option.some.injEq]; omega) (by omega) HLL.out
  rw [← HL.out] at hst
  refine hst.mono ?_
  rintro e3 w3 ⟨rfl, r1, r2⟩
  have hnews : ∀ j u, (nvl (inOrder s.fs s.l))[j]? = some u → w3.cell? ((⟨c, 0, none⟩ : Addr).add j) = some u := fun j u hj => by
    rw [addp]
    refine r1.cell ?_
    rw [List.getElem?_append_left (List.getElem?_eq_some_iff.1 hj).1]
    exact hj
  have hnl : (nvl (inOrder s.fs s.l)).length = L * 1 := by simp [nvl, inOrder, HL.out]
  have h1c : ∀ u ∈ nvl (inOrder s.fs s.l), u.oneCell' = true := fun u hu => by
    simp only [nvl, List.mem_map] at hu
    obtain ⟨x, _, rfl⟩ := hu
    rfl
  have hown0 : w3.ownsRow w.heap.size 3 1 (.slice none 0 0) 0 [] := ⟨rfl, .inl ⟨rfl, rfl⟩⟩
  have hsz3 : w.heap.size ≤ w3.heap.size := by have := r2.size; have := k1.size; omega
  have hfr3 : Fr (fun _ => False) w w3 := ((HK0.out.then k1 (fun _ _ e => e)).then r2 (fun b hb e => by omega))
  obtain ⟨news, en⟩ : ∃ news, news = nvl (inOrder s.fs s.l) := ⟨_, rfl⟩
  rw [← en] at hnews hnl h1c
  have HN := Lib.hid en
  have HF3 := Lib.hid hfr3
  have HNW := Lib.hid hnews
  have HNL := Lib.hid hnl
  have HSZ := Lib.hid hsz3
  clear hst r1 r2 h2 k1 q1 q2 q3 hc2 hcl2 hcl3 hcl4 en hfr3 hnews hnl hsz3 hs1 hcW hcb
  go_wp2_with (at_builtin; refine wpList_append_own_at _ rfl (.const (.slice none 0 0)) (.tmp 13) 38 rfl w.heap.size 3 i0 (.int .i64 0) 1 8 und_ints hi hz0 hz1 hz2 rfl (by decide) (.slice none 0 0) 0 [] rfl hown0 ⟨c, 0, none⟩ L cap2 news rfl HNL.out HNW.out h1c (by unfold maxLen; omega) (by omega) HSZ.out ?_; intro v4 w4 hown4 hg4 hnil4 hat4)
  go_ret
  refine ⟨v4, rfl, ?_, HF3.out.then (Fr.of_grown hg4) (fun _ _ e => by simp [Value.ownBlock] at e)⟩
  rw [← HL.out, ← HN.out]
  simpa using hown4
end Go.Proofs.Ytldgeclcbikmbaa
