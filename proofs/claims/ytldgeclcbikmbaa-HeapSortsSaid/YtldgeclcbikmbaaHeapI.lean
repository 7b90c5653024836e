/- lessen: all scores made small. -/
import Derived.Test.YtldgeclcbikmbaaHeapH
set_option linter.unusedVariables false
set_option linter.unusedSimpArgs false
namespace Go.Proofs.Ytldgeclcbikmbaa
open Go.RowKit
attribute [local go_sem] run_store_float

/-- The scores, the first k of them made small. -/
def lessK (fs : List Nat) (k : Nat) : List Nat := (fs.take k).map (fmul · small) ++ fs.drop k
theorem lessK_len (fs : List Nat) (k : Nat) : (lessK fs k).length = fs.length := by unfold lessK; simp; omega
theorem lessK_zero (fs : List Nat) : lessK fs 0 = fs := by simp [lessK]
theorem lessK_get (fs : List Nat) (k : Nat) (h : k < fs.length) : (lessK fs k).getD k 0 = fs.getD k 0 := by
  unfold lessK
  have h1 : ((fs.take k).map (fmul · small)).length = k := by simp; omega
  rw [getD_lt _ _ (by simp; omega), getD_lt _ _ h, List.getElem_append_right (by omega)]
  simp only [h1, Nat.sub_self, List.getElem_drop, Nat.add_zero]
theorem lessK_succ (fs : List Nat) (k : Nat) (h : k < fs.length) : lessK fs (k + 1) = (lessK fs k).set k (fmul (fs.getD k 0) small) := by
  unfold lessK
  have h1 : ((fs.take k).map (fmul · small)).length = k := by simp; omega
  have h2 : fs.drop k = fs[k] :: fs.drop (k + 1) := List.drop_eq_getElem_cons h
  rw [h2, List.set_append_right _ _ (by omega), h1, Nat.sub_self, List.set_cons_zero, List.take_succ_eq_append_getElem h, getD_lt _ _ h, List.map_append, List.append_assoc]
  rfl

section
variable {w : World} {H V bs bp : Nat} {lv : Value} {s : HS}

set_option maxHeartbeats 1600000 in
theorem lessen_heap (h : HeapAt w H V bs bp lv s) (hmul : ∀ x ∈ s.fs, FloatKind.f64.format.mul x small = some (fmul x small)) (hms : FloatKind.f64.format.mul s.step small = some (fmul s.step small)) :
    Calls Try.prog 33 #[.pointer (some ⟨H, 0, none⟩)] w fun e w' => e = .returned (.tuple #[]) ∧
      ∃ lv', HeapAt w' H V bs bp lv' (lessS s) ∧ Fr (fun b => b = bs ∨ b = bp ∨ b = H) w w' ∧ (∀ b, lv'.ownBlock = some b → w.heap.size ≤ b) := by
  have hm := h.hm
  have hLs := h.hL
  have HROW : Hid (0 < s.l.length → ∃ g cap, lv = .slice (some ⟨g, 0, none⟩) s.l.length cap ∧ g < w.heap.size ∧ g ≠ bp ∧ g ≠ H ∧ g ≠ bs ∧ ∀ i, i < s.l.length → w.cell? ⟨g, i, none⟩ = some (.int .i64 (s.l.getD i 0 : Nat))) := by
    intro h0
    obtain ⟨g, cap, more, e, hb, hc, g1, g2, g3, g4, -⟩ := h.row h0
    exact ⟨g, cap, e, hb.lt, g1, g2, g4, fun i hi => hb.cell (nvl_get _ _ hi)⟩
  have HEL : Hid (∀ i, i < s.l.length → s.l.getD i 0 < s.fs.length) := fun i hi => h.elem hi
  have c3 : w.cell? ⟨H, 3, none⟩ = some (.slice (some ⟨bs, 0, none⟩) s.fs.length s.fs.length) := h.hH.cell rfl
  obtain ⟨st', est⟩ : ∃ x, x = fmul s.step small := ⟨_, rfl⟩
  rw [← est] at hms
  have hms' : ∀ (W : World), (binOp .mul 29 (.float .f64 s.step) (.float .f64 3110860544497550640)).run Try.prog W = .ok (.float .f64 st') W := fun W => run_float_arith W .mul 29 .f64 _ _ _ hms
  have EST := Lib.hid est
  have HH := Lib.hid h
  have HM := Lib.hid hmul
  have HMS := Lib.hid hms'
  obtain ⟨n, en⟩ : ∃ n, n = s.fs.length := ⟨_, rfl⟩
  rw [← en] at c3 hm
  have HN := Lib.hid en
  clear h hmul hms hms' en est
  go_enter Try.func33, Try.ntmps33
  go_wp2
  go_loopw [2, 11] (fun v_ k_ wr => ∃ (k : Nat), k_ = .int .i64 k ∧ k ≤ n ∧ Hid (HeapAt wr H V bs bp lv { s with fs := lessK s.fs k }) ∧ Hid (Fr (fun b => b = bs) w wr))
    (fun _ k_ _ => n - (intOf k_).toNat)
  case atStart => exact ⟨0, rfl, Nat.zero_le _, (by rw [lessK_zero]; exact HH.out), Fr.refl _ _⟩
  case round =>
    obtain ⟨k, rfl, hk, H1, H2⟩ := hrel
    have h := H1.out
    have hl := lessK_len s.fs k
    have d3 : wr.cell? ⟨H, 3, none⟩ = some (.slice (some ⟨bs, 0, none⟩) n n) := by have := h.hH.cell (i := 3) rfl; simp only [hl] at this; rw [HN.out]; exact this
    clear hl
    by_cases hlt : k < n
    · have hk' : k < s.fs.length := by rw [← HN.out]; exact hlt
      have b1 : (k : Int) < (n : Int) := by omega
      have b2 : (0 : Int) ≤ (k : Int) := by omega
      obtain ⟨x, ex⟩ : ∃ x, x = s.fs.getD k 0 := ⟨_, rfl⟩
      have cx : wr.cell? ⟨bs, k, none⟩ = some (.float .f64 x) := by
        rw [ex, ← lessK_get s.fs k hk']
        exact h.hs.cell (fvl_get _ (by rw [lessK_len]; exact hk'))
      have cf := h.hs.free k
      have hxm : FloatKind.f64.format.mul x small = some (fmul x small) := HM.out x (by rw [ex, getD_lt _ _ hk']; exact List.getElem_mem hk')
      have hx' : ∀ (W : World), (binOp .mul 29 (.float .f64 x) (.float .f64 3110860544497550640)).run Try.prog W = .ok (.float .f64 (fmul x small)) W := fun W => run_float_arith W .mul 29 .f64 _ _ _ hxm
      have hsc := h.score k (fmul x small)
      have es : lessK s.fs (k + 1) = (lessK s.fs k).set k (fmul x small) := by rw [lessK_succ _ _ hk', ← ex]
      have ES := Lib.hid es
      have HSC := Lib.hid hsc
      clear h ex hxm es hsc
      go_wp2
      go_roundw
      case rel =>
        refine ⟨k + 1, (by go_num), by omega, ?_, ?_⟩
        · show HeapAt _ _ _ _ _ _ { s with fs := lessK s.fs (k + 1) }
          rw [ES.out]; exact HSC.out
        · exact H2.out.then (Fr.set _ _ _) (fun _ _ e => e)
      case measure => simp [intOf]; omega
    · have hkn : k = n := by omega
      have hK : lessK s.fs k = s.fs.map (fmul · small) := by rw [hkn, HN.out]; simp [lessK]
      rw [hK] at h
      have b1 : ¬ (k : Int) < (n : Int) := by omega
      have c5 : wr.cell? ⟨H, 5, none⟩ = some (.float .f64 s.step) := h.hH.cell rfl
      have f5 := h.hH.free 5
      have hst := h.stepped st'
      have hm5 := HMS.out
      obtain ⟨ao, cap, ef⟩ := h.form
      have e0 : (wr.setCell ⟨H, 5, none⟩ (.float .f64 st')).cell? ⟨H, 0, none⟩ = some (.slice ao s.l.length cap) := by rw [← ef]; exact hst.hH.cell rfl
      have f0 := hst.hH.free 0
      have hem := hst.emptied
      have HEM := Lib.hid hem
      have HST := Lib.hid hst
      have HF := Lib.hid ef
      clear h hkn hK hst hem ef H1 d3
      go_wp2
      obtain ⟨W0, eW0⟩ : ∃ W0, W0 = (wr.setCell ⟨H, 5, none⟩ (.float .f64 st')).setCell ⟨H, 0, none⟩ (.slice none 0 0) := ⟨_, rfl⟩
      have hF0 : Fr (fun b => b = bs ∨ b = bp ∨ b = H) w W0 := by
        rw [eW0]
        exact (H2.out.mono (fun _ _ e => .inl e)).then ((Fr.set wr ⟨H, 5, none⟩ (.float .f64 st')).trans (Fr.set _ _ _) (fun _ _ e => e) (fun _ _ e => e)) (fun _ _ e => .inr (.inr e))
      have hE0 := HEM.out
      rw [← eW0] at hE0 ⊢
      have HF0 := Lib.hid hF0
      have HE0 := Lib.hid hE0
      clear hF0 hE0 eW0 HEM HST c5 f5 e0 f0 hm5 H2 b1
      obtain ⟨s0, es0⟩ : ∃ s0 : HS, s0 = { fs := List.map (fun x => fmul x small) s.fs, ps := s.ps, l := [], step := st' } := ⟨_, rfl⟩
      rw [← es0] at HE0
      have hs0l : s0.l = [] := by rw [es0]
      have hs0f : s0.fs.length = s.fs.length := by rw [es0]; simp
      have HS0 := Lib.hid es0
      have HS0L := Lib.hid hs0l
      have HS0F := Lib.hid hs0f
      clear es0 hs0l hs0f
      obtain ⟨L, eL⟩ : ∃ L, L = s.l.length := ⟨_, rfl⟩
      rw [← eL] at hLs HROW HEL HF ⊢
      have HLL := Lib.hid eL
      clear eL
      go_loopw [5, 42] (fun v_ k_ w2 => ∃ (j : Nat) (lv2 : Value), k_ = .int .i64 j ∧ j ≤ L ∧ Hid (HeapAt w2 H V bs bp lv2 ((s.l.take j).foldl pushS s0)) ∧ Hid (Fr (fun b => b = bs ∨ b = bp ∨ b = H) w w2) ∧ Hid (∀ b, lv2.ownBlock = some b → w.heap.size ≤ b))
        (fun _ k_ _ => L - (intOf k_).toNat)
      case atStart => exact ⟨0, .slice none 0 0, rfl, Nat.zero_le _, HE0.out, HF0.out, fun b e => by simp [Value.ownBlock] at e⟩
      case round =>
        obtain ⟨j, lv2, rfl, hj, G1, G2, G3⟩ := hrel
        by_cases hjl : j < L
        · obtain ⟨g, cap', e', g0, g1, g2, g3, hcells⟩ := HROW.out (by omega)
          rw [HF.out] at e'
          simp only [Value.slice.injEq] at e'
          obtain ⟨hao, -, -⟩ := e'
          rw [hao]
          have b1 : (j : Int) < (L : Int) := by omega
          have b2 : (0 : Int) ≤ (j : Int) := by omega
          have cj : wr.cell? ⟨g, j, none⟩ = some (.int .i64 (s.l.getD j 0 : Nat)) := G2.out.cell (p := ⟨g, j, none⟩) (by simp; exact ⟨g3, g1, g2⟩) (hcells j hjl)
          have hx := HEL.out j hjl
          have hq := qpush_heap G1.out (x := s.l.getD j 0) (by rw [(foldl_push_fs _ _).1, HS0F.out]; exact hx) (by rw [foldl_push_len, HS0L.out, List.length_take]; simp; omega)
          obtain ⟨x, ex⟩ : ∃ x, x = s.l.getD j 0 := ⟨_, rfl⟩
          rw [← ex] at cj hx hq
          have HX := Lib.hid ex
          have HQC := Lib.hid hcells
          clear ex hcells
          go_wp2_with (go_at_call 31; ((with_reducible refine hq.mono ?_); rintro e w' ⟨rfl, lv3, q1, q2, q3⟩))
          go_roundw
          case rel =>
            refine ⟨j + 1, lv3, (by go_num), by omega, ?_, ?_, ?_⟩
            · show HeapAt w' H V bs bp lv3 _
              rw [List.take_succ_eq_append_getElem (by rw [← HLL.out]; exact hjl), List.foldl_append]
              have : s.l[j]'(by rw [← HLL.out]; exact hjl) = x := by rw [HX.out, getD_lt _ _ (by rw [← HLL.out]; exact hjl)]
              rw [this]
              exact q1
            · refine G2.out.then q2 (fun b hb e => ?_)
              rcases e with e | e | e
              · have := G3.out b e; omega
              · exact .inr (.inl e)
              · exact .inr (.inr e)
            · intro b e
              rcases q3 b e with e | e
              · exact G3.out b e
              · have := G2.out.size; omega
          case measure => simp [intOf]; omega
        · have b1 : ¬ (j : Int) < (L : Int) := by omega
          have ej : j = L := by omega
          go_wp2
          go_end0
          refine ⟨rfl, lv2, ?_, G2.out, G3.out⟩
          have h := G1.out
          rw [ej, HLL.out, List.take_length] at h
          unfold lessS
          rw [← EST.out, ← HS0.out]
          exact h
end
end Go.Proofs.Ytldgeclcbikmbaa
