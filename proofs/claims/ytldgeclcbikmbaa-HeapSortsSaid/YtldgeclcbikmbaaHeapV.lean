/- Order of any heap. -/
import Derived.Test.YtldgeclcbikmbaaHeapU
set_option linter.unusedVariables false
set_option linter.unusedSimpArgs false
namespace Go.Proofs.Ytldgeclcbikmbaa
open Go.RowKit Go.Sort Go.Proofs.Ytldgeclcbikmbaa.Flt

set_option maxHeartbeats 1000000 in
theorem order_none {w : World} {H V bs bp : Nat} {lv : Value} {s : HS} (h : HeapAt w H V bs bp lv s) (hL : s.l = []) :
    Calls Try.prog 13 #[.pointer (some ⟨H, 0, none⟩)] w (OrderPost w s) := by
  obtain ⟨i0, hi, hz0, hz1, hz2⟩ := info_parts info_int
  have hl0 : s.l.length = 0 := by rw [hL]; rfl
  have k0 := Fr.alloc w (.cells #[.pointer (some ⟨H, 0, none⟩)] 23)
  have hform : lv = .slice none 0 0 ∨ ∃ g cap, lv = .slice (some ⟨g, 0, none⟩) 0 cap := by
    rcases owns_blk h.hl with ⟨rfl, _, _⟩ | ⟨g, cap, more, rfl, _⟩
    · exact .inl rfl
    · exact .inr ⟨g, cap, by rw [hl0]⟩
  have h1 := h.keep k0 (fun e => e) (fun e => e) (fun e => e) (fun e => e) (fun _ _ e => e)
  have c0 : (w.alloc (.cells #[.pointer (some ⟨H, 0, none⟩)] 23)).cell? ⟨H, 0, none⟩ = some lv := h1.hH.cell rfl
  have hord : nvl (inOrder s.fs s.l) = [] := by rw [hL]; simp [inOrder, nvl]
  have hsn := fun p cap fv W => Try.slices_SortFunc_none (α := Nat) p cap fv W
  have hpost : ∀ (w' : World) (v : Value), w'.ownsRow w.heap.size 3 1 v 0 [] → Fr (fun _ => False) w w' → OrderPost w s (.returned v) w' := fun w' v ho hf => ⟨v, rfl, by rw [hord, hl0]; exact ho, hf⟩
  have HP := Lib.hid hpost
  have HK := Lib.hid k0
  rcases hform with rfl | ⟨g, cap, rfl⟩
  · have hcl := fun W => Try.slices_Clone_nil 0 0 W
    clear h h1 hL hl0 hord hpost k0
    have hown0 : ∀ W : World, W.ownsRow w.heap.size 3 1 (.slice none 0 0) 0 [] := fun W => ⟨rfl, .inl ⟨rfl, rfl⟩⟩
    go_enter Try.func13, Try.ntmps13
    go_wp2_with (first
      | (go_at_call 25; refine (hcl _).mono ?_; rintro e w2 ⟨rfl, rfl⟩)
      | (go_at_call 26; refine (hsn _ _ _ _).mono ?_; rintro e w2 ⟨rfl, rfl⟩)
      | (at_builtin; refine wpList_append_own_none rfl (.const (.slice none 0 0)) (.tmp 13) 38 rfl w.heap.size 3 i0 1 und_ints hi (.slice none 0 0) 0 [] rfl (hown0 _) rfl ?_))
    go_ret
    exact HP.out _ _ (hown0 _) HK.out
  · have hcl := fun W => Try.slices_Clone i0 _ 1 8 hi hz0 hz1 hz2 rfl (by decide) z_int g 0 0 cap [] W rfl (by decide) (by decide) (fun j u hj => by simp at hj) (fun u hu => by cases hu)
    clear h h1 hL hl0 hord hpost k0
    have hown0 : ∀ W : World, W.ownsRow w.heap.size 3 1 (.slice none 0 0) 0 [] := fun W => ⟨rfl, .inl ⟨rfl, rfl⟩⟩
    go_enter Try.func13, Try.ntmps13
    go_wp2_with (go_at_call 25; refine (hcl _).mono ?_; rintro e w2 ⟨v2, rfl, q1, q2, q3⟩)
    rcases owns_blk q1 with ⟨e2, _, _⟩ | ⟨c, cap2, more2, e2, hcb, hc2, hcl2, hcl3, hcl4⟩
    · exact absurd e2 q2
    have k2 : Fr (fun _ => False) w w2 := HK.out.then (Fr.of_below q3) (fun _ _ e => e)
    have hsz := k2.size
    rw [e2]
    have HK2 := Lib.hid k2
    clear k2 q1 q2 q3 hc2 hcb hcl2 hcl3 hcl4
    go_wp2_with (first
      | (go_at_call 26; refine (hsn _ _ _ _).mono ?_; rintro e w3 ⟨rfl, rfl⟩)
      | (at_builtin; refine wpList_append_own_at _ rfl (.const (.slice none 0 0)) (.tmp 13) 38 rfl w.heap.size 3 i0 (.int .i64 0) 1 8 und_ints hi hz0 hz1 hz2 rfl (by decide) (.slice none 0 0) 0 [] rfl (hown0 _) ⟨c, 0, none⟩ 0 cap2 [] rfl rfl (fun j u hj => by simp at hj) (fun u hu => by cases hu) (by decide) (by decide) hsz ?_; intro v4 w4 hown4 hg4 hnil4 hat4))
    go_ret
    exact HP.out _ _ hown4 (HK2.out.then (Fr.of_grown hg4) (fun _ _ e => by simp [Value.ownBlock] at e))

theorem order_any {w : World} {H V bs bp : Nat} {lv : Value} {s : HS} (h : HeapAt w H V bs bp lv s) (hO : STO (ahs s.fs)) :
    Calls Try.prog 13 #[.pointer (some ⟨H, 0, none⟩)] w (OrderPost w s) := by
  rcases Nat.eq_zero_or_pos s.l.length with h0 | h0
  · exact order_none h (List.length_eq_zero_iff.1 h0)
  · exact order_heap h hO h0
end Go.Proofs.Ytldgeclcbikmbaa
