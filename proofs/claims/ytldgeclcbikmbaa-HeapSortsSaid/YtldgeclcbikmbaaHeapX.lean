/- One contract for each exported function, over a heap of the call own. -/
import Derived.Test.YtldgeclcbikmbaaHeapW
set_option linter.unusedVariables false
set_option linter.unusedSimpArgs false
namespace Go.Proofs.Ytldgeclcbikmbaa
open Go.RowKit Go.Sort Go.Proofs.Ytldgeclcbikmbaa.Flt

/-- A heap of the call's own: in blocks from B on, in a right state. -/
def HeapOk (B : Nat) (w : World) (H : Nat) (s : HS) : Prop :=
  ∃ V bs bp lv, HeapAt w H V bs bp lv s ∧ Inv s ∧ B ≤ H ∧ B ≤ V ∧ B ≤ bs ∧ B ≤ bp ∧ ∀ b, lv.ownBlock = some b → B ≤ b

theorem HeapOk.size {B : Nat} {w : World} {H : Nat} {s : HS} (h : HeapOk B w H s) : B ≤ w.heap.size := by
  obtain ⟨V, bs, bp, lv, h1, h2, h3, _⟩ := h
  have := h1.hH.lt; omega
theorem HeapOk.inv {B : Nat} {w : World} {H : Nat} {s : HS} (h : HeapOk B w H s) : Inv s := h.elim fun _ h => h.elim fun _ h => h.elim fun _ h => h.elim fun _ h => h.2.1
theorem HeapOk.stay {B : Nat} {w w' : World} {H : Nat} {s : HS} {S : Nat → Prop} (h : HeapOk B w H s) (k : Fr S w w') (hS : ∀ b, b < w.heap.size → ¬ S b) : HeapOk B w' H s := by
  obtain ⟨V, bs, bp, lv, h1, h2, h3⟩ := h
  exact ⟨V, bs, bp, lv, h1.keep k (hS _ h1.hH.lt) (hS _ h1.hV.lt) (hS _ h1.hs.lt) (hS _ h1.hp.lt) (fun b hb => hS b (by
    rcases owns_blk h1.hl with ⟨rfl, _, _⟩ | ⟨g, cap, more, rfl, _, hgb, _⟩
    · simp [Value.ownBlock] at hb
    · simp only [Value.ownBlock, Option.some.injEq] at hb
      subst hb; exact hgb.lt)), h2, h3⟩
theorem HeapOk.hm {B : Nat} {w : World} {H : Nat} {s : HS} (h : HeapOk B w H s) : s.fs.length ≤ 1048576 := h.elim fun _ h => h.elim fun _ h => h.elim fun _ h => h.elim fun _ h => h.1.hm
theorem HeapOk.here {B : Nat} {w : World} {H : Nat} {s : HS} (h : HeapOk B w H s) : H < w.heap.size := h.elim fun _ h => h.elim fun _ h => h.elim fun _ h => h.elim fun _ h => h.1.hH.lt

def NewPost (n : Nat) (w : World) (e : Ending) (w' : World) : Prop := ∃ H, e = .returned (.tuple #[.pointer (some ⟨H, 0, none⟩), .int .i64 0]) ∧ HeapOk w.heap.size w' H (newS n) ∧ Fr (fun _ => False) w w'
theorem new_ok (n : Nat) (w : World) (hn : n ≤ 1048576) : Calls Try.prog 8 #[.int .i64 n] w (NewPost n w) :=
  (new_yes n w hn).mono fun e w' ⟨H, V, bs, bp, h1, h2, h3, h4, h5, h6, h7⟩ => ⟨H, h1, ⟨V, bs, bp, _, h2, inv_new n, h4, h5, h6, h7, fun b hb => by simp [Value.ownBlock] at hb⟩, h3⟩

theorem len_max {s : HS} (h : Inv s) (hm : s.fs.length ≤ 1048576) {v : Int} (hv : isIn s v) (hp : s.ps.getD v.toNat 0 < 0) : s.l.length < 1048576 := by
  have hv' : v.toNat < s.fs.length := by unfold isIn at hv; omega
  have hn : v.toNat ∉ s.l := fun e => by have := (mem_place h hv').2 e; omega
  have := h.co.len_lt hv' hn
  omega

section
variable {B H : Nat} {w : World} {s : HS}
theorem push_ok (h : HeapOk B w H s) (v : Int) : Calls Try.prog 20 #[.pointer (some ⟨H, 0, none⟩), .int .i64 v] w fun e w' => e = .returned (.int .i64 (pushE s v)) ∧ HeapOk B w' H (pushX s v) ∧ Below B w w' := by
  have hB := h.size
  obtain ⟨V, bs, bp, lv, h1, h2, b1, b2, b3, b4, b5⟩ := h
  refine (push_heap h1 v (fun hv hp => len_max h2 h1.hm hv hp)).mono ?_
  rintro e w' ⟨he, lv', q1, q2, q3⟩
  refine ⟨he, ⟨V, bs, bp, lv', q1, inv_push h2 v, b1, b2, b3, b4, fun b hb => ?_⟩, q2.below hB (fun x hx => ?_)⟩
  · rcases q3 b hb with e | e
    · exact b5 b e
    · omega
  · rcases hx with e | e | e
    · exact b5 x e
    · omega
    · omega

theorem bump_ok (h : HeapOk B w H s) (v : Int) : Calls Try.prog 21 #[.pointer (some ⟨H, 0, none⟩), .int .i64 v] w fun e w' => e = .returned (.int .i64 (if isIn s v then 0 else 61)) ∧ HeapOk B w' H (bumpX s v) ∧ Below B w w' := by
  have hB := h.size
  by_cases hv : isIn s v
  · have hx : bumpX s v = bumpS s v.toNat := by unfold bumpX; rw [if_pos hv]
    rw [if_pos hv, hx]
    obtain ⟨V, bs, bp, lv, h1, h2, b1, b2, b3, b4, b5⟩ := h
    have ha : v.toNat < s.fs.length := by unfold isIn at hv; omega
    have hva : v = (v.toNat : Int) := by unfold isIn at hv; omega
    obtain ⟨f1, f2, f3, f4⟩ := fadd_ok (h2.fl.getG ha) h2.fl.st
    have hry : (raiseS s v.toNat).fs.getD v.toNat 0 = fadd (s.fs.getD v.toNat 0) s.step := by
      show (s.fs.set v.toNat _).getD v.toNat 0 = _
      rw [gset _ _ _ _ _ ha, if_pos rfl]
    have hb := bump_yes h1 ha (fun h0 => (place_at h2 ha h0).1) f1 (fun _ x hx => (fmul_ok (by
      rcases List.mem_or_eq_of_mem_set hx with e | e
      · exact Nat.le_trans (h2.fl.sc x e) (by decide)
      · rw [e]; exact f2)).1) (fun _ => (fmul_ok (Nat.le_trans h2.fl.st (by decide))).1)
    rw [← hva] at hb
    refine hb.mono ?_
    rintro e w' ⟨he, lv', q1, q2, q3⟩
    refine ⟨he, ⟨V, bs, bp, lv', q1, (inv_bump h2 ha).1, b1, b2, b3, b4, fun b hb => ?_⟩, q2.below hB (fun x hx => ?_)⟩
    · rcases q3 b hb with e | e
      · exact b5 b e
      · omega
    · rcases hx with e | e | e | e
      · exact b5 x e
      · omega
      · omega
      · omega
  · have hx : bumpX s v = s := by unfold bumpX; rw [if_neg hv]
    rw [if_neg hv, hx]
    obtain ⟨V, bs, bp, lv, h1, hr⟩ := h
    refine (bump_no h1 hv).mono ?_
    rintro e w' ⟨he, rfl⟩
    exact ⟨he, ⟨V, bs, bp, lv, h1, hr⟩, Below.refl _ _⟩

theorem decay_ok (h : HeapOk B w H s) : Calls Try.prog 24 #[.pointer (some ⟨H, 0, none⟩)] w fun e w' => e = .returned (.tuple #[]) ∧ HeapOk B w' H (decayS s) ∧ Below B w w' := by
  have hB := h.size
  obtain ⟨V, bs, bp, lv, h1, h2, b1, b2, b3, b4, b5⟩ := h
  have h0 : 0 < s.step := by have := h2.fl.lo; unfold LOW at this; omega
  obtain ⟨d1, d2, d3⟩ := fdiv_ok h2.fl.st h0
  refine (decay_heap h1 d1 (fun _ x hx => (fmul_ok (Nat.le_trans (h2.fl.sc x hx) (by decide))).1) (fun _ => (fmul_ok d2).1)).mono ?_
  rintro e w' ⟨he, lv', q1, q2, q3⟩
  refine ⟨he, ⟨V, bs, bp, lv', q1, (inv_decay h2).1, b1, b2, b3, b4, fun b hb => ?_⟩, q2.below hB (fun x hx => ?_)⟩
  · rcases q3 b hb with e | e
    · exact b5 b e
    · omega
  · rcases hx with e | e | e
    · omega
    · omega
    · omega

theorem pop_ok (h : HeapOk B w H s) (h0 : 0 < s.l.length) : Calls Try.prog 18 #[.pointer (some ⟨H, 0, none⟩)] w fun e w' => e = .returned (.tuple #[.int .i64 (s.l.getD 0 0 : Nat), .int .i64 0]) ∧ HeapOk B w' H (popS s) ∧ Below B w w' := by
  have hB := h.size
  obtain ⟨V, bs, bp, lv, h1, h2, b1, b2, b3, b4, b5⟩ := h
  refine (pop_heap h1 h0).mono ?_
  rintro e w' ⟨he, lv', q1, q2, q3⟩
  refine ⟨he, ⟨V, bs, bp, lv', q1, (inv_pop h2 h0).1, b1, b2, b3, b4, fun b hb => b5 b (by rw [← q3]; exact hb)⟩, q2.below hB (fun x hx => ?_)⟩
  rcases hx with e | e | e
  · exact b5 x e
  · omega
  · omega
theorem pop_no (h : HeapOk B w H s) (h0 : s.l.length = 0) : Calls Try.prog 18 #[.pointer (some ⟨H, 0, none⟩)] w fun e w' => e = .returned (.tuple #[.int .i64 0, .int .i64 190]) ∧ w = w' := by
  obtain ⟨V, bs, bp, lv, h1, h2⟩ := h
  exact pop_none h1 h0
theorem len_ok (h : HeapOk B w H s) : Calls Try.prog 11 #[.pointer (some ⟨H, 0, none⟩)] w fun e w' => e = .returned (.int .i64 (s.l.length : Int)) ∧ w = w' := by
  obtain ⟨V, bs, bp, lv, h1, h2⟩ := h
  exact len_heap h1
theorem size_ok (h : HeapOk B w H s) : Calls Try.prog 10 #[.pointer (some ⟨H, 0, none⟩)] w fun e w' => e = .returned (.int .i64 (s.fs.length : Int)) ∧ w = w' := by
  obtain ⟨V, bs, bp, lv, h1, h2⟩ := h
  exact size_heap h1
theorem step_ok (h : HeapOk B w H s) : Calls Try.prog 16 #[.pointer (some ⟨H, 0, none⟩)] w fun e w' => e = .returned (.float .f64 s.step) ∧ w = w' := by
  obtain ⟨V, bs, bp, lv, h1, h2⟩ := h
  exact step_heap h1
theorem score_ok (h : HeapOk B w H s) {a : Nat} (ha : a < s.fs.length) : Calls Try.prog 15 #[.pointer (some ⟨H, 0, none⟩), .int .i64 a] w fun e w' => e = .returned (.tuple #[.float .f64 (s.fs.getD a 0), .int .i64 0]) ∧ w = w' := by
  obtain ⟨V, bs, bp, lv, h1, h2⟩ := h
  exact score_heap h1 ha
theorem top_ok (h : HeapOk B w H s) (h0 : 0 < s.l.length) : Calls Try.prog 17 #[.pointer (some ⟨H, 0, none⟩)] w fun e w' => e = .returned (.tuple #[.int .i64 (s.l.getD 0 0 : Nat), .int .i64 0]) ∧ w = w' := by
  obtain ⟨V, bs, bp, lv, h1, h2⟩ := h
  exact top_heap h1 h0
theorem hasnt_ok (h : HeapOk B w H s) {a : Nat} (ha : a < s.fs.length) (hn : a ∉ s.l) : Calls Try.prog 19 #[.pointer (some ⟨H, 0, none⟩), .int .i64 a] w fun e w' => e = .returned (.bool false) ∧ w = w' := by
  obtain ⟨V, bs, bp, lv, h1, h2, _⟩ := h
  exact has_not h1 ha (h2.ab a ha hn)
theorem order_ok (h : HeapOk B w H s) : Calls Try.prog 13 #[.pointer (some ⟨H, 0, none⟩)] w (OrderPost w s) := by
  obtain ⟨V, bs, bp, lv, h1, h2, _⟩ := h
  exact order_any h1 (ahs_sto h2.fl.fin)
end

/-- A slice of numbers reads as a list. -/
def RdI (w : World) (v : Value) (xs : List Int) : Prop := ∃ ao cap, v = .slice ao xs.length cap ∧ ∀ j, j < xs.length → ∃ g, ao = some ⟨g, 0, none⟩ ∧ w.cell? ⟨g, j, none⟩ = some (.int .i64 (xs.getD j 0))
theorem rdI_own {w : World} {base n : Nat} {v : Value} {xs : List Nat} (h : w.ownsRow base 3 1 v n (nvl xs)) : RdI w v (xs.map fun (x : Nat) => (x : Int)) := by
  have hn : n = xs.length := by have := h.1; simp [nvl] at this; omega
  subst hn
  rcases owns_blk h with ⟨rfl, h0, _⟩ | ⟨g, cap, more, rfl, _, hb, _⟩
  · exact ⟨none, 0, by simp [h0], fun j hj => by simp at hj; omega⟩
  · refine ⟨some ⟨g, 0, none⟩, cap, by simp, fun j hj => ⟨g, rfl, ?_⟩⟩
    have hj' : j < xs.length := by simpa using hj
    rw [hb.cell (nvl_get xs more hj'), getD_lt _ _ hj, getD_lt _ _ hj']
    simp
theorem RdI.keep {S : Nat → Prop} {w w' : World} {v : Value} {xs : List Int} (h : RdI w v xs) (k : Fr S w w') (hS : ∀ b, v.ownBlock = some b → ¬ S b) : RdI w' v xs := by
  obtain ⟨ao, cap, rfl, hc⟩ := h
  refine ⟨ao, cap, rfl, fun j hj => ?_⟩
  obtain ⟨g, rfl, hg⟩ := hc j hj
  exact ⟨g, rfl, k.cell (p := ⟨g, j, none⟩) (hS g rfl) hg⟩

set_option maxHeartbeats 800000 in
theorem ints_same {w : World} {a b : Value} {xs : List Int} (ha : RdI w a xs) (hb : RdI w b xs) (hn : xs.length ≤ 1048576) :
    Calls Try.prog 14 #[a, b] w fun e w' => e = .returned (.bool true) ∧ Fr (fun _ => False) w w' := by
  obtain ⟨ao, ca, rfl, hca⟩ := ha
  obtain ⟨bo, cb, rfl, hcb⟩ := hb
  obtain ⟨n, en⟩ : ∃ n, n = xs.length := ⟨_, rfl⟩
  rw [← en] at hca hcb hn ⊢
  have HA := Lib.hid hca
  have HB := Lib.hid hcb
  have g0 : ((n : Int) != (n : Int)) = false := by simp
  clear hca hcb en
  go_enter Try.func14, Try.ntmps14
  go_wp2
  go_loopw [5] (fun i_ wr => ∃ k : Nat, i_ = .int .i64 k ∧ k ≤ n ∧ Hid (∃ q, wr = w.drewN q)) (fun i_ _ => n - (intOf i_).toNat)
  case atStart => exact ⟨0, rfl, Nat.zero_le _, ⟨0, rfl⟩⟩
  case round =>
    obtain ⟨k, rfl, hk, HQ⟩ := hrel
    by_cases hlt : k < n
    · obtain ⟨g, rfl, hg⟩ := HA.out k hlt
      obtain ⟨g', rfl, hg'⟩ := HB.out k hlt
      obtain ⟨x, ex⟩ : ∃ x, x = xs.getD k 0 := ⟨_, rfl⟩
      rw [← ex] at hg hg'
      obtain ⟨q, hq⟩ := HQ.out
      have d1 : wr.cell? ⟨g, k, none⟩ = some (.int .i64 x) := by rw [hq]; exact hg
      have d2 : wr.cell? ⟨g', k, none⟩ = some (.int .i64 x) := by rw [hq]; exact hg'
      have HQ2 := Lib.hid hq
      clear hg hg' ex hq
      have b1 : (k : Int) < (n : Int) := by omega
      have b2 : (0 : Int) ≤ (k : Int) := by omega
      have b3 : (x != x) = false := by simp
      go_wp2
      go_quiet (fail)
      go_wp2
      go_roundw
      case rel => exact ⟨k + 1, (by go_num), by omega, ⟨q + nq, by rw [HQ2.out, World.drewN_drewN]⟩⟩
      case measure => simp [intOf]; omega
    · have b1 : ¬ (k : Int) < (n : Int) := by omega
      go_wp2
      go_ret
      obtain ⟨q, hq⟩ := HQ.out
      exact ⟨rfl, by rw [hq]; exact Fr.drewN w q⟩
end Go.Proofs.Ytldgeclcbikmbaa
