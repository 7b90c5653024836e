/- made: a new heap. -/
import Derived.Test.YtgdnehejeoiicaaHeapG
import Derived.Laws.FloatArith
import Derived.Laws.EntriesVeiled
import Derived.Deep.CutRange
import Derived.Deep.DeepCutAuto
import Derived.Deep.CutBlock
set_option linter.unusedVariables false
set_option linter.unusedSimpArgs false
namespace Go.Proofs.Ytgdnehejeoiicaa
open Go.RowKit
theorem run_store_float {P : Program} {w : World} {a : Addr} {m : Mode} (k : FloatKind) (b : Nat) : (store a (.float k b) m).run P w = stored P w a (.float k b) m := run_store P w a _ m rfl
attribute [local go_sem] run_store_float

/-- A variable is told that it stands nowhere. -/
theorem HeapAt.place {w : World} {H V bs bp : Nat} {lv : Value} {s : HS} (h : HeapAt w H V bs bp lv s) {v : Nat} (i : Int) : HeapAt (w.setCell ⟨bp, v, none⟩ (.int .i64 i)) H V bs bp lv { s with ps := s.ps.set v i } := by
  have k1 := Fr.set w ⟨bp, v, none⟩ (.int .i64 i)
  constructor
  · exact h.hH.keep k1 (by simpa using h.hH.ne h.hp (by decide))
  · exact h.hV.keep k1 (by simpa using h.hV.ne h.hp (by decide))
  · exact h.hs.keep k1 (by simpa using h.hs.ne h.hp (by decide))
  · have := h.hp.set v (.int .i64 i)
    rw [ivl_set] at this
    exact this
  · exact k1.owns h.hl (fun g hg e => h.hlp (by rw [hg]; exact congrArg some e))
  · exact h.hlp
  · simpa using h.hn
  · exact h.hm
  · exact h.hv
  · exact h.hL

theorem HeapAt.place_get {w : World} {H V bs bp : Nat} {lv : Value} {s : HS} (h : HeapAt w H V bs bp lv s) {v : Nat} (hv : v < s.fs.length) : w.cell? ⟨bp, v, none⟩ = some (.int .i64 (s.ps.getD v 0)) :=
  h.hp.cell (by have := h.hn; rw [ivl, List.getElem?_map, List.getElem?_eq_getElem (by omega), getD_lt _ _ (by omega)]; rfl)

theorem info_f64 : (Try.prog.info? 106).map (fun i => (i.zero, i.size, i.bytes)) = some (some (.float .f64 0), 1, 8) := by kernel_rfl
theorem und_f64s : Try.prog.underlying 105 = some (.slice 106) := by kernel_rfl

theorem madeCells_one (z : Value) (n : Nat) : madeCells #[z] n = Array.replicate n z := by
  unfold madeCells
  apply Array.ext
  · simp
  · intro i h1 h2
    simp [Nat.mod_one]
theorem mk_ints (n : Nat) (hn : n ≤ 1048576) (w : World) : Sem.run Try.prog (Instr.makeSlice 22 (Value.int .i64 n) (Value.int .i64 n)) w = .ok (.slice (some ⟨w.heap.size, 0, none⟩) n n) (w.alloc (.cells (Array.replicate n (.int .i64 0)) 3)) := by
  obtain ⟨i0, hi, hz0, hz1, hz2⟩ := info_parts info_int
  have h := run_make (P := Try.prog) w 22 3 i0 (.int .i64 0) und_ints hi hz0 .i64 .i64 n n (by omega) (by omega) (by rw [hz2]; omega) (by omega)
  rw [h, hz1]
  simp only [Value.cells, madeCells_one, Int.toNat_natCast, Nat.mul_one]
theorem mk_f64s (n : Nat) (hn : n ≤ 1048576) (w : World) : Sem.run Try.prog (Instr.makeSlice 105 (Value.int .i64 n) (Value.int .i64 n)) w = .ok (.slice (some ⟨w.heap.size, 0, none⟩) n n) (w.alloc (.cells (Array.replicate n (.float .f64 0)) 106)) := by
  obtain ⟨i0, hi, hz0, hz1, hz2⟩ := info_parts info_f64
  have h := run_make (P := Try.prog) w 105 106 i0 (.float .f64 0) und_f64s hi hz0 .i64 .i64 n n (by omega) (by omega) (by rw [hz2]; omega) (by omega)
  rw [h, hz1]
  simp only [Value.cells, madeCells_one, Int.toNat_natCast, Nat.mul_one]

/-- Behind the making of the struct: whatever order its parts were made in. -/
structure MadeCut (n : Nat) (w : World) (p : Value) (wx : World) (H V bs bp : Nat) : Prop where
  hp : p = .pointer (some ⟨V, 0, none⟩)
  bH : wx.heap[H]? = some (.cells #[.slice none 0 0, .nilFunc, .nilFunc, .slice (some ⟨bs, 0, none⟩) n n, .slice (some ⟨bp, 0, none⟩) n n, .float .f64 4607182418800017408] 108 (0, 0))
  bV : wx.heap[V]? = some (.cells #[.pointer (some ⟨H, 0, none⟩)] 59 (0, 0))
  bS : wx.heap[bs]? = some (.cells (Array.replicate n (.float .f64 0)) 106 (0, 0))
  bP : wx.heap[bp]? = some (.cells (Array.replicate n (.int .i64 0)) 3 (0, 0))
  fr : Fr (fun _ => False) w wx
  new : w.heap.size ≤ H ∧ w.heap.size ≤ V ∧ w.heap.size ≤ bs ∧ w.heap.size ≤ bp
def MadeMeet (n : Nat) (w : World) (p : Value) (wx : World) : Prop := ∃ H V bs bp, MadeCut n w p wx H V bs bp

theorem fr4 (w : World) (a b c d : Obj) : Fr (fun _ => False) w ((((w.alloc a).alloc b).alloc c).alloc d).drew :=
  ((((Fr.alloc w a).then (Fr.alloc _ b) (fun _ _ e => e)).then (Fr.alloc _ c) (fun _ _ e => e)).then (Fr.alloc _ d) (fun _ _ e => e)).then (Fr.drew _) (fun _ _ e => e)
theorem heap4 (w : World) (a b c d : Obj) : (((((w.alloc a).alloc b).alloc c).alloc d).drew).heap[w.heap.size]? = some a ∧ (((((w.alloc a).alloc b).alloc c).alloc d).drew).heap[w.heap.size + 1]? = some b ∧
    (((((w.alloc a).alloc b).alloc c).alloc d).drew).heap[w.heap.size + 1 + 1]? = some c ∧ (((((w.alloc a).alloc b).alloc c).alloc d).drew).heap[w.heap.size + 1 + 1 + 1]? = some d := by
  have e : (((((w.alloc a).alloc b).alloc c).alloc d).drew).heap = (((w.heap.push a).push b).push c).push d := rfl
  rw [e]
  simp only [Array.getElem?_push, Array.size_push]
  refine ⟨?_, ?_, ?_, ?_⟩
  · rw [if_neg (by omega), if_neg (by omega), if_neg (by omega), if_pos trivial]
  · rw [if_neg (by omega), if_neg (by omega), if_pos trivial]
  · rw [if_neg (by omega), if_pos trivial]
  · rw [if_pos trivial]

/-- The places, the first k of them told. -/
def plK (n k : Nat) : List Int := List.replicate k (-1) ++ List.replicate (n - k) 0
theorem plK_len (n k : Nat) (h : k ≤ n) : (plK n k).length = n := by unfold plK; simp; omega
theorem plK_succ (n k : Nat) (h : k < n) : (plK n k).set k (-1) = plK n (k + 1) := by
  unfold plK
  have e : n - k = (n - (k + 1)) + 1 := by omega
  rw [e, List.replicate_succ, List.set_append_right _ _ (by simp), List.length_replicate, Nat.sub_self, List.set_cons_zero, List.replicate_succ', List.append_assoc]
  rfl
def newS (n : Nat) : HS := { fs := List.replicate n 0, ps := List.replicate n (-1), l := [], step := 4607182418800017408 }

def MadePost (n : Nat) (w : World) (e : Ending) (w' : World) : Prop := ∃ H V bs bp, e = .returned (.pointer (some ⟨H, 0, none⟩)) ∧ HeapAt w' H V bs bp (.slice none 0 0) (newS n) ∧ Fr (fun _ => False) w w' ∧ (w.heap.size ≤ H ∧ w.heap.size ≤ V ∧ w.heap.size ≤ bs ∧ w.heap.size ≤ bp)

set_option maxHeartbeats 1600000 in
theorem made_heap (n : Nat) (w : World) (hn : n ≤ 1048576) :
    Calls Try.prog 57 #[.int .i64 n] w (MadePost n w) := by
  have mk1 := mk_ints n hn
  have mk2 := mk_f64s n hn
  go_enter Try.func57, Try.ntmps57
  go_upto_region 1 with (fail)
  go_cut [3] from 5 to 10 (fun p wx => MadeMeet n w p wx)
  case first =>
    go_region
    all_goals go_wp2
    all_goals go_meet
    all_goals
      apply Exists.intro; apply Exists.intro; apply Exists.intro; apply Exists.intro; apply MadeCut.mk
      case hp => rfl
      case bV => first | exact (heap4 _ _ _ _ _).1 | exact (heap4 _ _ _ _ _).2.1 | exact (heap4 _ _ _ _ _).2.2.1 | exact (heap4 _ _ _ _ _).2.2.2
      case bH => first | exact (heap4 _ _ _ _ _).1 | exact (heap4 _ _ _ _ _).2.1 | exact (heap4 _ _ _ _ _).2.2.1 | exact (heap4 _ _ _ _ _).2.2.2
      case bS => first | exact (heap4 _ _ _ _ _).1 | exact (heap4 _ _ _ _ _).2.1 | exact (heap4 _ _ _ _ _).2.2.1 | exact (heap4 _ _ _ _ _).2.2.2
      case bP => first | exact (heap4 _ _ _ _ _).1 | exact (heap4 _ _ _ _ _).2.1 | exact (heap4 _ _ _ _ _).2.2.1 | exact (heap4 _ _ _ _ _).2.2.2
      case fr => exact fr4 _ _ _ _ _
      case new => refine ⟨?_, ?_, ?_, ?_⟩ <;> omega
  case rest =>
    obtain ⟨H, V, bs, bp, hM⟩ := hcut
    have bH : Blk wc H [.slice none 0 0, .nilFunc, .nilFunc, .slice (some ⟨bs, 0, none⟩) n n, .slice (some ⟨bp, 0, none⟩) n n, .float .f64 4607182418800017408] 108 := hM.bH
    have bV : Blk wc V [.pointer (some ⟨H, 0, none⟩)] 59 := hM.bV
    have bS : Blk wc bs (List.replicate n (.float .f64 0)) 106 := by have := hM.bS; unfold Blk; rw [this]; simp
    have bP : Blk wc bp (List.replicate n (.int .i64 0)) 3 := by have := hM.bP; unfold Blk; rw [this]; simp
    have nHV : H ≠ V := bH.ne bV (by decide)
    have cV : wc.cell? ⟨V, 0, none⟩ = some (.pointer (some ⟨H, 0, none⟩)) := bV.cell rfl
    have cH1 : wc.cell? ⟨H, 1, none⟩ = some .nilFunc := bH.cell rfl
    have cH2 : wc.cell? ⟨H, 2, none⟩ = some .nilFunc := bH.cell rfl
    have cH4 : wc.cell? ⟨H, 4, none⟩ = some (.slice (some ⟨bp, 0, none⟩) n n) := bH.cell rfl
    have fH1 := bH.free 1
    have fH2 := bH.free 2
    have HBH := Lib.hid bH
    have HBV := Lib.hid bV
    have HBS := Lib.hid bS
    have HBP := Lib.hid bP
    have HF := Lib.hid hM.fr
    have HNEW := Lib.hid hM.new
    rw [hM.hp]
    have hmf : ∀ (fn : Fn) (first cap : Array Value) (w : World), (Instr.makeFunc fn first cap).run Try.prog w = .ok (.func fn first cap) w := fun _ _ _ _ => rfl
    clear bH bV bS bP hM
    go_wp2
    obtain ⟨W1, eW1⟩ : ∃ W1, W1 = (wc.setCell ⟨H, 1, none⟩ (Value.func (Fn.func 64) #[Value.pointer (some ⟨H, 0, none⟩)] #[])).setCell ⟨H, 2, none⟩ (Value.func (Fn.func 65) #[] #[Value.pointer (some ⟨V, 0, none⟩)]) := ⟨_, rfl⟩
    have hW1 : HeapAt W1 H V bs bp (.slice none 0 0) { newS n with ps := plK n 0 } := by
      have k1 := Fr.set wc ⟨H, 1, none⟩ (Value.func (Fn.func 64) #[Value.pointer (some ⟨H, 0, none⟩)] #[])
      have k2 := Fr.set (wc.setCell ⟨H, 1, none⟩ (Value.func (Fn.func 64) #[Value.pointer (some ⟨H, 0, none⟩)] #[])) ⟨H, 2, none⟩ (Value.func (Fn.func 65) #[] #[Value.pointer (some ⟨V, 0, none⟩)])
      rw [eW1]
      constructor
      · have := (HBH.out.set 1 (Value.func (Fn.func 64) #[Value.pointer (some ⟨H, 0, none⟩)] #[])).set 2 (Value.func (Fn.func 65) #[] #[Value.pointer (some ⟨V, 0, none⟩)])
        simpa [hcells, newS] using this
      · exact (HBV.out.keep k1 (fun e => nHV e.symm)).keep k2 (fun e => nHV e.symm)
      · have := (HBS.out.keep k1 (HBS.out.ne HBH.out (by decide))).keep k2 (HBS.out.ne HBH.out (by decide))
        simpa [fvl, newS] using this
      · have := (HBP.out.keep k1 (HBP.out.ne HBH.out (by decide))).keep k2 (HBP.out.ne HBH.out (by decide))
        simpa [ivl, plK] using this
      · exact ⟨rfl, .inl ⟨rfl, rfl⟩⟩
      · simp [Value.ownBlock]
      · simp [newS, plK]
      · simpa [newS] using hn
      · intro v hv; cases hv
      · simp [newS]
    have hF1 : Fr (fun b => w.heap.size ≤ b) w W1 := by
      rw [eW1]
      exact ((HF.out.mono (fun _ _ e => e.elim)).then (Fr.set _ _ _) (fun x hx e => by simp at e; have := HNEW.out.1; omega)).then (Fr.set _ _ _) (fun x hx e => by simp at e; have := HNEW.out.1; omega)
    rw [← eW1]
    have HW1 := Lib.hid hW1
    have HF1 := Lib.hid hF1
    clear eW1 hW1 hF1 HBH HBV HBS HBP HF cV cH1 cH2 cH4 fH1 fH2 hmf mk1 mk2 nHV
    go_loopw [4, 27] (fun v_ k_ wr => ∃ (k : Nat), k_ = .int .i64 k ∧ k ≤ n ∧ Hid (HeapAt wr H V bs bp (.slice none 0 0) { newS n with ps := plK n k }) ∧ Hid (Fr (fun b => w.heap.size ≤ b) w wr))
      (fun _ k_ _ => n - (intOf k_).toNat)
    case atStart => exact ⟨0, rfl, Nat.zero_le _, HW1.out, HF1.out⟩
    case round =>
      obtain ⟨k, rfl, hk, H1, H2⟩ := hrel
      have h := H1.out
      have hfl : (newS n).fs.length = n := by simp [newS]
      have cV : wr.cell? ⟨V, 0, none⟩ = some (.pointer (some ⟨H, 0, none⟩)) := h.hV.cell rfl
      have c4 : wr.cell? ⟨H, 4, none⟩ = some (.slice (some ⟨bp, 0, none⟩) n n) := by have := h.hH.cell (i := 4) rfl; simp only [hfl] at this; exact this
      clear hfl
      by_cases hlt : k < n
      · have b1 : (k : Int) < (n : Int) := by omega
        have b2 : (0 : Int) ≤ (k : Int) := by omega
        have cp := h.place_get (v := k) (by simpa [newS] using hlt)
        have fp := h.hp.free k
        have hpl := h.place (v := k) (-1)
        simp only [plK_succ n k hlt] at hpl
        have HPL := Lib.hid hpl
        obtain ⟨u, eu⟩ : ∃ u, u = (plK n k).getD k 0 := ⟨_, rfl⟩
        simp only [← eu] at cp
        clear h hpl eu
        go_wp2
        go_roundw
        case rel =>
          refine ⟨k + 1, (by go_num), by omega, HPL.out, ?_⟩
          exact H2.out.then (Fr.set _ _ _) (fun x hx e => by simp at e; have := HNEW.out.2.2.2; omega)
        case measure => simp [intOf]; omega
      · have b1 : ¬ (k : Int) < (n : Int) := by omega
        have ekn : k = n := by omega
        have hfin : ({ newS n with ps := plK n k } : HS) = newS n := by rw [ekn]; simp [newS, plK]
        rw [hfin] at h
        have HH := Lib.hid h
        clear h hfin ekn
        go_wp2
        go_ret
        exact ⟨H, V, bs, bp, rfl, HH.out, H2.out.mono (fun x hx e => by omega), HNEW.out⟩
end Go.Proofs.Ytgdnehejeoiicaa
