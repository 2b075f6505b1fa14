/- Part 1 of the proof of FnLeastAsks: contracts of the functions that it reaches, and plain lemmas. -/
import Derived.Test.YtgcdlkpjjnglbaaProg
import Derived.WalkKit
import Derived.KernelRfl
import Derived.Below
import Derived.Shelf.Abstract
import Derived.Laws.BitsAllLaws
import Derived.Laws.BitsLemmas
import Derived.Deep.LoopGhost
import Derived.Deep.QuietTactic
import Derived.BigQuiet
import Derived.Lib.Hide
import Derived.Outline
import Derived.Test.YtgcdlkpjjnglbaaWMore
import Derived.Test.YtgcdlkpjjnglbaaWWords
import Derived.Test.YtgcdlkpjjnglbaaWLast
import Derived.Test.YtgcdlkpjjnglbaaBFnLeastAsks0

namespace Go.Proofs.Ytgcdlkpjjnglbaa.PA
open Go.RowKit Go.Proofs.YtgcdlkpjjnglbaaW.PrintWords Go.Proofs.YtgcdlkpjjnglbaaW.PrintLast Go.Proofs.YtgcdlkpjjnglbaaW.PrintMore
attribute [local go_sem] max2_int min2_int max_two min_two max_three min_three max_four min_four   -- for this text's walks alone
set_option linter.unusedVariables false
set_option linter.unusedSimpArgs false

/-! ### spec_l13Least: function 30 -/
mutual
def spec_l13Least.j0 : Nat → Int → Int → Int → Bool → Option (Int)
  | 0, _, _, _, _ => none
  | k + 1, x0, x1, x2, x21 => if x21 = true then (some 0) else (if x2 = 0 then (some (-1)) else (spec_l13Least.l0 k x0 x1 x2 (-1) 0))
def spec_l13Least.l0 : Nat → Int → Int → Int → Int → Int → Option (Int)
  | 0, _, _, _, _, _ => none
  | k + 1, x0, x1, x2, x7, x8 => if x8 < x0 then (spec_l13Least.l1 k x0 x1 x2 x7 x8 (wrap64 (x8 + 1))) else (some x7)
def spec_l13Least.l1 : Nat → Int → Int → Int → Int → Int → Int → Option (Int)
  | 0, _, _, _, _, _, _ => none
  | k + 1, x0, x1, x2, x7, x8, x9 => if x9 < x0 then ((spec_l13Asked.f k x0 x1 x8 x9 true).bind fun t139 => ((spec_l13Asked.f k x0 x1 x8 x9 false).bind fun t140 => (if t139 = x1 then (spec_l13Least.j3 k x0 x1 x2 x7 x8 x9 t139 t140 true) else (spec_l13Least.j3 k x0 x1 x2 x7 x8 x9 t139 t140 (t140 == x1))))) else (spec_l13Least.l0 k x0 x1 x2 x7 (wrap64 (x8 + 1)))
def spec_l13Least.j3 : Nat → Int → Int → Int → Int → Int → Int → Int → Int → Bool → Option (Int)
  | 0, _, _, _, _, _, _, _, _, _ => none
  | k + 1, x0, x1, x2, x7, x8, x9, x10, x11, x53 => if x53 = true then (spec_l13Least.l1 k x0 x1 x2 x7 x8 (wrap64 (x9 + 1))) else ((spec_l13Least.f k x0 x10 (wrap64 (x2 - 1))).bind fun t141 => ((spec_l13Least.f k x0 x11 (wrap64 (x2 - 1))).bind fun t142 => (if t141 < 0 then (spec_l13Least.j4 k x0 x1 x2 x7 x8 x9 t141 t142 true) else (spec_l13Least.j4 k x0 x1 x2 x7 x8 x9 t141 t142 (decide (t142 < 0))))))
def spec_l13Least.j4 : Nat → Int → Int → Int → Int → Int → Int → Int → Int → Bool → Option (Int)
  | 0, _, _, _, _, _, _, _, _, _ => none
  | k + 1, x0, x1, x2, x7, x8, x9, x12, x13, x69 => if x69 = true then (spec_l13Least.l1 k x0 x1 x2 x7 x8 (wrap64 (x9 + 1))) else (if x7 < 0 then (spec_l13Least.l1 k x0 x1 x2 (wrap64 ((mx x12 x13) + 1)) x8 (wrap64 (x9 + 1))) else (if (wrap64 ((mx x12 x13) + 1)) < x7 then (spec_l13Least.l1 k x0 x1 x2 (wrap64 ((mx x12 x13) + 1)) x8 (wrap64 (x9 + 1))) else (spec_l13Least.l1 k x0 x1 x2 x7 x8 (wrap64 (x9 + 1)))))
def spec_l13Least.f : Nat → Int → Int → Int → Option (Int)
  | 0, _, _, _ => none
  | k + 1, a0, a1, a2 => if a1 = 0 then (spec_l13Least.j0 k a0 a1 a2 true) else ((spec_l13Teller.f k a0 a1).bind fun t138 => (spec_l13Least.j0 k a0 a1 a2 (decide (t138 ≥ 0))))
end
theorem spec_l13Least.mono_l : ∀ k, (∀ y0 y1 y2, LeO (spec_l13Least.f k y0 y1 y2) (spec_l13Least.f (k + 1) y0 y1 y2)) ∧ (∀ y0 y1 y2 y3, LeO (spec_l13Least.j0 k y0 y1 y2 y3) (spec_l13Least.j0 (k + 1) y0 y1 y2 y3)) ∧ (∀ y0 y1 y2 y3 y4, LeO (spec_l13Least.l0 k y0 y1 y2 y3 y4) (spec_l13Least.l0 (k + 1) y0 y1 y2 y3 y4)) ∧ (∀ y0 y1 y2 y3 y4 y5, LeO (spec_l13Least.l1 k y0 y1 y2 y3 y4 y5) (spec_l13Least.l1 (k + 1) y0 y1 y2 y3 y4 y5)) ∧ (∀ y0 y1 y2 y3 y4 y5 y6 y7 y8, LeO (spec_l13Least.j3 k y0 y1 y2 y3 y4 y5 y6 y7 y8) (spec_l13Least.j3 (k + 1) y0 y1 y2 y3 y4 y5 y6 y7 y8)) ∧ (∀ y0 y1 y2 y3 y4 y5 y6 y7 y8, LeO (spec_l13Least.j4 k y0 y1 y2 y3 y4 y5 y6 y7 y8) (spec_l13Least.j4 (k + 1) y0 y1 y2 y3 y4 y5 y6 y7 y8))
  | 0 => ⟨fun _ _ _ r h => by simp [spec_l13Least.f] at h, fun _ _ _ _ r h => by simp [spec_l13Least.j0] at h, fun _ _ _ _ _ r h => by simp [spec_l13Least.l0] at h, fun _ _ _ _ _ _ r h => by simp [spec_l13Least.l1] at h, fun _ _ _ _ _ _ _ _ _ r h => by simp [spec_l13Least.j3] at h, fun _ _ _ _ _ _ _ _ _ r h => by simp [spec_l13Least.j4] at h⟩
  | k + 1 => by
    obtain ⟨ih0, ih1, ih2, ih3, ih4, ih5⟩ := spec_l13Least.mono_l k
    refine ⟨?_, ?_, ?_, ?_, ?_, ?_⟩
    · intro y0 y1 y2
      unfold spec_l13Least.f
      repeat' first
      | (with_reducible exact ih0 _ _ _)
      | (with_reducible exact ih1 _ _ _ _)
      | (with_reducible exact ih2 _ _ _ _ _)
      | (with_reducible exact ih3 _ _ _ _ _ _)
      | (with_reducible exact ih4 _ _ _ _ _ _ _ _ _)
      | (with_reducible exact ih5 _ _ _ _ _ _ _ _ _)
      | (with_reducible exact spec_l13Asked.mono _ _ _ _ _ _)
      | (with_reducible exact spec_l13Teller.mono _ _ _)
      | (with_reducible exact LeO.refl _)
      | (with_reducible exact LeO.none _)
      | (with_reducible refine LeO.ite ?_ ?_)
      | (with_reducible refine LeO.bind ?_ (fun _ => ?_))
      | exact ih0 _ _ _
      | exact ih1 _ _ _ _
      | exact ih2 _ _ _ _ _
      | exact ih3 _ _ _ _ _ _
      | exact ih4 _ _ _ _ _ _ _ _ _
      | exact ih5 _ _ _ _ _ _ _ _ _
      | exact spec_l13Asked.mono _ _ _ _ _ _
      | exact spec_l13Teller.mono _ _ _
      | exact LeO.none _
      | refine LeO.ite ?_ ?_
      | refine LeO.bind ?_ (fun _ => ?_)
    · intro y0 y1 y2 y3
      unfold spec_l13Least.j0
      repeat' first
      | (with_reducible exact ih0 _ _ _)
      | (with_reducible exact ih1 _ _ _ _)
      | (with_reducible exact ih2 _ _ _ _ _)
      | (with_reducible exact ih3 _ _ _ _ _ _)
      | (with_reducible exact ih4 _ _ _ _ _ _ _ _ _)
      | (with_reducible exact ih5 _ _ _ _ _ _ _ _ _)
      | (with_reducible exact spec_l13Asked.mono _ _ _ _ _ _)
      | (with_reducible exact spec_l13Teller.mono _ _ _)
      | (with_reducible exact LeO.refl _)
      | (with_reducible exact LeO.none _)
      | (with_reducible refine LeO.ite ?_ ?_)
      | (with_reducible refine LeO.bind ?_ (fun _ => ?_))
      | exact ih0 _ _ _
      | exact ih1 _ _ _ _
      | exact ih2 _ _ _ _ _
      | exact ih3 _ _ _ _ _ _
      | exact ih4 _ _ _ _ _ _ _ _ _
      | exact ih5 _ _ _ _ _ _ _ _ _
      | exact spec_l13Asked.mono _ _ _ _ _ _
      | exact spec_l13Teller.mono _ _ _
      | exact LeO.none _
      | refine LeO.ite ?_ ?_
      | refine LeO.bind ?_ (fun _ => ?_)
    · intro y0 y1 y2 y3 y4
      unfold spec_l13Least.l0
      repeat' first
      | (with_reducible exact ih0 _ _ _)
      | (with_reducible exact ih1 _ _ _ _)
      | (with_reducible exact ih2 _ _ _ _ _)
      | (with_reducible exact ih3 _ _ _ _ _ _)
      | (with_reducible exact ih4 _ _ _ _ _ _ _ _ _)
      | (with_reducible exact ih5 _ _ _ _ _ _ _ _ _)
      | (with_reducible exact spec_l13Asked.mono _ _ _ _ _ _)
      | (with_reducible exact spec_l13Teller.mono _ _ _)
      | (with_reducible exact LeO.refl _)
      | (with_reducible exact LeO.none _)
      | (with_reducible refine LeO.ite ?_ ?_)
      | (with_reducible refine LeO.bind ?_ (fun _ => ?_))
      | exact ih0 _ _ _
      | exact ih1 _ _ _ _
      | exact ih2 _ _ _ _ _
      | exact ih3 _ _ _ _ _ _
      | exact ih4 _ _ _ _ _ _ _ _ _
      | exact ih5 _ _ _ _ _ _ _ _ _
      | exact spec_l13Asked.mono _ _ _ _ _ _
      | exact spec_l13Teller.mono _ _ _
      | exact LeO.none _
      | refine LeO.ite ?_ ?_
      | refine LeO.bind ?_ (fun _ => ?_)
    · intro y0 y1 y2 y3 y4 y5
      unfold spec_l13Least.l1
      repeat' first
      | (with_reducible exact ih0 _ _ _)
      | (with_reducible exact ih1 _ _ _ _)
      | (with_reducible exact ih2 _ _ _ _ _)
      | (with_reducible exact ih3 _ _ _ _ _ _)
      | (with_reducible exact ih4 _ _ _ _ _ _ _ _ _)
      | (with_reducible exact ih5 _ _ _ _ _ _ _ _ _)
      | (with_reducible exact spec_l13Asked.mono _ _ _ _ _ _)
      | (with_reducible exact spec_l13Teller.mono _ _ _)
      | (with_reducible exact LeO.refl _)
      | (with_reducible exact LeO.none _)
      | (with_reducible refine LeO.ite ?_ ?_)
      | (with_reducible refine LeO.bind ?_ (fun _ => ?_))
      | exact ih0 _ _ _
      | exact ih1 _ _ _ _
      | exact ih2 _ _ _ _ _
      | exact ih3 _ _ _ _ _ _
      | exact ih4 _ _ _ _ _ _ _ _ _
      | exact ih5 _ _ _ _ _ _ _ _ _
      | exact spec_l13Asked.mono _ _ _ _ _ _
      | exact spec_l13Teller.mono _ _ _
      | exact LeO.none _
      | refine LeO.ite ?_ ?_
      | refine LeO.bind ?_ (fun _ => ?_)
    · intro y0 y1 y2 y3 y4 y5 y6 y7 y8
      unfold spec_l13Least.j3
      repeat' first
      | (with_reducible exact ih0 _ _ _)
      | (with_reducible exact ih1 _ _ _ _)
      | (with_reducible exact ih2 _ _ _ _ _)
      | (with_reducible exact ih3 _ _ _ _ _ _)
      | (with_reducible exact ih4 _ _ _ _ _ _ _ _ _)
      | (with_reducible exact ih5 _ _ _ _ _ _ _ _ _)
      | (with_reducible exact spec_l13Asked.mono _ _ _ _ _ _)
      | (with_reducible exact spec_l13Teller.mono _ _ _)
      | (with_reducible exact LeO.refl _)
      | (with_reducible exact LeO.none _)
      | (with_reducible refine LeO.ite ?_ ?_)
      | (with_reducible refine LeO.bind ?_ (fun _ => ?_))
      | exact ih0 _ _ _
      | exact ih1 _ _ _ _
      | exact ih2 _ _ _ _ _
      | exact ih3 _ _ _ _ _ _
      | exact ih4 _ _ _ _ _ _ _ _ _
      | exact ih5 _ _ _ _ _ _ _ _ _
      | exact spec_l13Asked.mono _ _ _ _ _ _
      | exact spec_l13Teller.mono _ _ _
      | exact LeO.none _
      | refine LeO.ite ?_ ?_
      | refine LeO.bind ?_ (fun _ => ?_)
    · intro y0 y1 y2 y3 y4 y5 y6 y7 y8
      unfold spec_l13Least.j4
      repeat' first
      | (with_reducible exact ih0 _ _ _)
      | (with_reducible exact ih1 _ _ _ _)
      | (with_reducible exact ih2 _ _ _ _ _)
      | (with_reducible exact ih3 _ _ _ _ _ _)
      | (with_reducible exact ih4 _ _ _ _ _ _ _ _ _)
      | (with_reducible exact ih5 _ _ _ _ _ _ _ _ _)
      | (with_reducible exact spec_l13Asked.mono _ _ _ _ _ _)
      | (with_reducible exact spec_l13Teller.mono _ _ _)
      | (with_reducible exact LeO.refl _)
      | (with_reducible exact LeO.none _)
      | (with_reducible refine LeO.ite ?_ ?_)
      | (with_reducible refine LeO.bind ?_ (fun _ => ?_))
      | exact ih0 _ _ _
      | exact ih1 _ _ _ _
      | exact ih2 _ _ _ _ _
      | exact ih3 _ _ _ _ _ _
      | exact ih4 _ _ _ _ _ _ _ _ _
      | exact ih5 _ _ _ _ _ _ _ _ _
      | exact spec_l13Asked.mono _ _ _ _ _ _
      | exact spec_l13Teller.mono _ _ _
      | exact LeO.none _
      | refine LeO.ite ?_ ?_
      | refine LeO.bind ?_ (fun _ => ?_)
theorem spec_l13Least.mono : ∀ a0 a1 a2 k, LeO (spec_l13Least.f k a0 a1 a2) (spec_l13Least.f (k + 1) a0 a1 a2) := by
  intro a0 a1 a2 k
  obtain ⟨ih0, ih1, ih2, ih3, ih4, ih5⟩ := spec_l13Least.mono_l k
  exact ih0 a0 a1 a2
set_option maxHeartbeats 8000000 in
set_option maxRecDepth 100000 in
theorem spec_l13Least.calls (k : Nat) : ∀ (a0 : Int) (a1 : Int) (a2 : Int) (r : Int) (w : World) (h : spec_l13Least.f k a0 a1 a2 = some r),
    Calls Try.prog 30 #[.int .i64 a0, .int .i64 a1, .int .i64 a2] w fun e w' => e = .returned (.int .i64 r) ∧ Below w.heap.size w w' := by
  induction k using Nat.strongRecOn with
  | _ k ih =>
  intro a0 a1 a2 r w h
  cases k with
  | zero => exact absurd h (by simp [spec_l13Least.f])
  | succ k =>
  simp only [spec_l13Least.f] at h
  have HB := Aside0.mk (Below.refl w.heap.size w)
  have H : (if a1 = 0 then (spec_l13Least.j0 k a0 a1 a2 true) else ((spec_l13Teller.f k a0 a1).bind fun t138 => (spec_l13Least.j0 k a0 a1 a2 (decide (t138 ≥ 0))))) = some r := h
  clear h
  have HC4 := Aside0.mk H
  clear H
  go_enter Try.func30, Try.ntmps30
  go_upto_region 1 with (fail)
  go_cut [21] (fun v21 wc => ∃ (kq : Nat) (x21_3 : Bool), v21 = .bool x21_3 ∧ Aside0 (spec_l13Least.j0 kq a0 a1 a2 x21_3 = some r) ∧ Aside0 (kq ≤ k) ∧ Aside0 (Below w.heap.size w wc))
  case first =>
    have H := HC4.out
    clear HC4
    by_cases c5 : a1 = 0
    · rw [if_pos c5] at H
      have c5b0 : (a1 == 0) = true := beq_iff_eq.mpr c5
      have c5b1 : (a1 != 0) = false := bne_eq_false_iff_eq.mpr c5
      clear c5
      (first | rw [c5b0] | (simp only [i64_w, i32_w]; rw [c5b0]) | skip)
      have H' := Aside0.mk H
      clear H
      go_wp2
      go_meet
      case rel => exact ⟨_, (true), (by first | rfl | (simp; done) | (simp [*]; done)), H', ⟨by first | omega | exact Nat.le_refl _⟩, ⟨by repeat (first | (with_reducible first | exact HB.out | apply below_alloc | apply pw_below_drewN | apply below_drew1) | exact HB.out)⟩⟩
    · rw [if_neg c5] at H
      have c5b0 : (a1 == 0) = false := beq_eq_false_iff_ne.mpr c5
      have c5b1 : (a1 != 0) = true := bne_iff_ne.mpr c5
      (first | rw [c5b0] | (simp only [i64_w, i32_w]; rw [c5b0]) | skip)
      replace H := Option.bind_eq_some_iff.mp H
      obtain ⟨t138, A60, H⟩ := H
      replace H : (spec_l13Least.j0 k a0 a1 a2 (decide (t138 ≥ 0))) = some r := H
      have A6 := Aside0.mk A60
      clear A60
      have H' := Aside0.mk H
      clear H
      go_wp2_with (first | (go_at_call 57; (with_reducible refine (spec_l13Teller.calls k a0 a1 t138 _ A6.out).mono ?_); rintro e w' ⟨rfl, ⟨nd, rfl⟩⟩))
      go_meet
      case rel => exact ⟨_, (decide (t138 ≥ 0)), (by first | rfl | (simp; done) | (simp [*]; done)), H', ⟨by first | omega | exact Nat.le_refl _⟩, ⟨by repeat (first | (with_reducible first | exact HB.out | apply below_alloc | apply pw_below_drewN | apply below_drew1) | exact HB.out)⟩⟩
  case rest =>
    clear HC4
    try clear p2
    try clear c3
    try clear c5
    try clear c5b0
    try clear c5b1
    obtain ⟨kq, x21_3, rfl, HA, HJ3, HB⟩ := hcut
    cases kq with
    | zero => exact absurd HA.out (by simp [spec_l13Least.j0])
    | succ kj3 =>
      have H := HA.out
      clear HA
      simp only [spec_l13Least.j0] at H
      by_cases c7 : x21_3 = true
      · subst c7
        have H1 : (some 0) = some r := by rw [if_pos rfl] at H; exact H
        clear H
        have H := H1
        clear H1
        obtain rfl := Option.some.inj H
        go_wp2
        go_ret
        exact ⟨by first | rfl | (simp [errW_none, errW_some] <;> rfl) | (simp [*, errW_none, errW_some] <;> rfl), by repeat (first | (with_reducible first | exact HB.out | apply below_alloc | apply pw_below_drewN | apply below_drew1) | exact HB.out)⟩
      · replace c7 := Bool.eq_false_iff.mpr c7
        subst c7
        have H1 : (if a2 = 0 then (some (-1)) else (spec_l13Least.l0 kj3 a0 a1 a2 (-1) 0)) = some r := by rw [if_neg (show ¬ (false = true) by decide)] at H; exact H
        clear H
        have H := H1
        clear H1
        by_cases c8 : a2 = 0
        · rw [if_pos c8] at H
          have c8b0 : (a2 == 0) = true := beq_iff_eq.mpr c8
          have c8b1 : (a2 != 0) = false := bne_eq_false_iff_eq.mpr c8
          clear c8
          obtain rfl := Option.some.inj H
          go_wp2
          go_ret
          exact ⟨by first | rfl | (simp [errW_none, errW_some] <;> rfl) | (simp [*, errW_none, errW_some] <;> rfl), by repeat (first | (with_reducible first | exact HB.out | apply below_alloc | apply pw_below_drewN | apply below_drew1) | exact HB.out)⟩
        · rw [if_neg c8] at H
          have c8b0 : (a2 == 0) = false := beq_eq_false_iff_ne.mpr c8
          have c8b1 : (a2 != 0) = true := bne_iff_ne.mpr c8
          have H' := Aside0.mk H
          clear H
          go_wp2
          go_loopg [7, 8] kj3 (fun kq v7 v8 w' => ∃ (x7_2 : Int) (x8_2 : Int), v7 = .int .i64 x7_2 ∧ v8 = .int .i64 x8_2 ∧ Aside0 (spec_l13Least.l0 kq a0 a1 a2 x7_2 x8_2 = some r) ∧ Aside0 (kq ≤ kj3) ∧ Aside0 (Below w.heap.size w w'))
          case atStart => exact ⟨((-1)), (0), (by first | rfl | (simp; done) | (simp [*]; done)), (by first | rfl | (simp; done) | (simp [*]; done)), H', ⟨Nat.le_refl _⟩, ⟨by repeat (first | (with_reducible first | exact HB.out | apply below_alloc | apply pw_below_drewN | apply below_drew1) | exact HB.out)⟩⟩
          case round =>
            clear H'
            try clear p2
            try clear c3
            try clear c5
            try clear c5b0
            try clear c5b1
            try clear c7
            try clear c8
            try clear c8b0
            try clear c8b1
            try clear p2
            obtain ⟨x7_2, x8_2, rfl, rfl, HA, HK2, HB⟩ := hrel
            cases gk with
            | zero => exact absurd HA.out (by simp [spec_l13Least.l0])
            | succ k2 =>
              have H := HA.out
              clear HA
              simp only [spec_l13Least.l0] at H
              by_cases c9 : x8_2 < a0
              · rw [if_pos c9] at H
                have c9b0 : decide (x8_2 < a0) = true := decide_eq_true c9
                clear c9
                have H' := Aside0.mk H
                clear H
                go_wp2
                go_loopg [7, 9] k2 (fun kq v7 v9 w' => ∃ (x7_3 : Int) (x9_3 : Int), v7 = .int .i64 x7_3 ∧ v9 = .int .i64 x9_3 ∧ Aside0 (spec_l13Least.l1 kq a0 a1 a2 x7_3 x8_2 x9_3 = some r) ∧ Aside0 (kq ≤ k2) ∧ Aside0 (Below w.heap.size w w'))
                case atStart => exact ⟨(x7_2), (wrap64 (x8_2 + 1)), (by first | rfl | (simp; done) | (simp [*]; done)), (by first | rfl | (simp; done) | (simp [*]; done)), H', ⟨Nat.le_refl _⟩, ⟨by repeat (first | (with_reducible first | exact HB.out | apply below_alloc | apply pw_below_drewN | apply below_drew1) | exact HB.out)⟩⟩
                case round =>
                  clear H'
                  try clear p2
                  try clear c3
                  try clear c5
                  try clear c5b0
                  try clear c5b1
                  try clear p6
                  try clear c7
                  try clear c8
                  try clear c8b0
                  try clear c8b1
                  try clear c9
                  try clear c9b0
                  try clear p2
                  obtain ⟨x7_3, x9_3, rfl, rfl, HA, HK3, HB⟩ := hrel
                  cases gk with
                  | zero => exact absurd HA.out (by simp [spec_l13Least.l1])
                  | succ k3 =>
                    have H := HA.out
                    clear HA
                    simp only [spec_l13Least.l1] at H
                    by_cases c10 : x9_3 < a0
                    · rw [if_pos c10] at H
                      have c10b0 : decide (x9_3 < a0) = true := decide_eq_true c10
                      clear c10
                      replace H := Option.bind_eq_some_iff.mp H
                      obtain ⟨t139, A110, H⟩ := H
                      replace H : ((spec_l13Asked.f k3 a0 a1 x8_2 x9_3 false).bind fun t140 => (if t139 = a1 then (spec_l13Least.j3 k3 a0 a1 a2 x7_3 x8_2 x9_3 t139 t140 true) else (spec_l13Least.j3 k3 a0 a1 a2 x7_3 x8_2 x9_3 t139 t140 (t140 == a1)))) = some r := H
                      have A11 := Aside0.mk A110
                      clear A110
                      replace H := Option.bind_eq_some_iff.mp H
                      obtain ⟨t140, A120, H⟩ := H
                      replace H : (if t139 = a1 then (spec_l13Least.j3 k3 a0 a1 a2 x7_3 x8_2 x9_3 t139 t140 true) else (spec_l13Least.j3 k3 a0 a1 a2 x7_3 x8_2 x9_3 t139 t140 (t140 == a1))) = some r := H
                      have A12 := Aside0.mk A120
                      clear A120
                      have HC13 := Aside0.mk H
                      clear H
                      go_upto_region 14 with (first | ((with_reducible refine gate_callee (f := 58) rfl ?_); refine goesL_ (some 40) rfl rfl Try.func58 (by kernel_rfl) rfl #[.int .i64 a0, .int .i64 a1, .int .i64 x8_2, .int .i64 x9_3, .bool true] rfl (by (try simp only [List.map_toArray, List.map_cons, List.map_nil]); first | done | rfl | (simp only [List.length_drop, List.length_take]; rfl)) ?_; (with_reducible refine (spec_l13Asked.calls k3 a0 a1 x8_2 x9_3 true t139 _ A11.out).mono ?_); rintro e w' ⟨rfl, ⟨nd, rfl⟩⟩; refine ⟨_, rfl, ?_⟩) | ((with_reducible refine gate_callee (f := 58) rfl ?_); refine goesL_ (some 45) rfl rfl Try.func58 (by kernel_rfl) rfl #[.int .i64 a0, .int .i64 a1, .int .i64 x8_2, .int .i64 x9_3, .bool false] rfl (by (try simp only [List.map_toArray, List.map_cons, List.map_nil]); first | done | rfl | (simp only [List.length_drop, List.length_take]; rfl)) ?_; (with_reducible refine (spec_l13Asked.calls k3 a0 a1 x8_2 x9_3 false t140 _ A12.out).mono ?_); rintro e w' ⟨rfl, ⟨nd, rfl⟩⟩; refine ⟨_, rfl, ?_⟩))
                      (try simp only [Act.put, List.setIfInBounds_toArray, List.set_cons_zero, List.set_cons_succ])
                      go_cut [53] (fun v53 wc => ∃ (kq : Nat) (x53_12 : Bool), v53 = .bool x53_12 ∧ Aside0 (spec_l13Least.j3 kq a0 a1 a2 x7_3 x8_2 x9_3 t139 t140 x53_12 = some r) ∧ Aside0 (kq ≤ k3) ∧ Aside0 (Below w.heap.size w wc))
                      case first =>
                        have H := HC13.out
                        clear HC13
                        by_cases c14 : t139 = a1
                        · rw [if_pos c14] at H
                          have c14b0 : (t139 == a1) = true := beq_iff_eq.mpr c14
                          have c14b1 : (t139 != a1) = false := bne_eq_false_iff_eq.mpr c14
                          clear c14
                          (first | rw [c14b0] | (simp only [i64_w, i32_w]; rw [c14b0]) | skip)
                          have H' := Aside0.mk H
                          clear H
                          go_wp2
                          go_meet
                          case rel => exact ⟨_, (true), (by first | rfl | (simp; done) | (simp [*]; done)), H', ⟨by have := HJ3.out; have := HK2.out; have := HK3.out; first | omega | exact Nat.le_refl _⟩, ⟨by repeat (first | (with_reducible first | exact HB.out | apply below_alloc | apply pw_below_drewN | apply below_drew1) | exact HB.out)⟩⟩
                        · rw [if_neg c14] at H
                          have c14b0 : (t139 == a1) = false := beq_eq_false_iff_ne.mpr c14
                          have c14b1 : (t139 != a1) = true := bne_iff_ne.mpr c14
                          (first | rw [c14b0] | (simp only [i64_w, i32_w]; rw [c14b0]) | skip)
                          have H' := Aside0.mk H
                          clear H
                          go_wp2
                          go_meet
                          case rel => exact ⟨_, ((t140 == a1)), (by first | rfl | (simp; done) | (simp [*]; done)), H', ⟨by have := HJ3.out; have := HK2.out; have := HK3.out; first | omega | exact Nat.le_refl _⟩, ⟨by repeat (first | (with_reducible first | exact HB.out | apply below_alloc | apply pw_below_drewN | apply below_drew1) | exact HB.out)⟩⟩
                      case rest =>
                        clear HC13
                        try clear c1
                        try clear p2
                        try clear c3
                        try clear c5
                        try clear c5b0
                        try clear c5b1
                        try clear p6
                        try clear c7
                        try clear c8
                        try clear c8b0
                        try clear c8b1
                        try clear c9
                        try clear c9b0
                        try clear c10
                        try clear c10b0
                        try clear c14
                        try clear c14b0
                        try clear c14b1
                        try clear p2
                        try clear p6
                        obtain ⟨kq, x53_12, rfl, HA, HJ12, HB⟩ := hcut
                        cases kq with
                        | zero => exact absurd HA.out (by simp [spec_l13Least.j3])
                        | succ kj12 =>
                          have H := HA.out
                          clear HA
                          simp only [spec_l13Least.j3] at H
                          by_cases c15 : x53_12 = true
                          · subst c15
                            have H1 : (spec_l13Least.l1 kj12 a0 a1 a2 x7_3 x8_2 (wrap64 (x9_3 + 1))) = some r := by rw [if_pos rfl] at H; exact H
                            clear H
                            have H := H1
                            clear H1
                            have H' := Aside0.mk H
                            clear H
                            go_wp2
                            go_roundg kj12
                            case measure => have := HJ3.out; have := HK2.out; have := HK3.out; have := HJ12.out; omega
                            case rel => exact ⟨(x7_3), (wrap64 (x9_3 + 1)), (by first | rfl | (simp; done) | (simp [*]; done)), (by first | rfl | (simp; done) | (simp [*]; done)), H', ⟨by have := HJ3.out; have := HK2.out; have := HK3.out; have := HJ12.out; omega⟩, ⟨by repeat (first | (with_reducible first | exact HB.out | apply below_alloc | apply pw_below_drewN | apply below_drew1) | exact HB.out)⟩⟩
                          · replace c15 := Bool.eq_false_iff.mpr c15
                            subst c15
                            have H1 : ((spec_l13Least.f kj12 a0 t139 (wrap64 (a2 - 1))).bind fun t141 => ((spec_l13Least.f kj12 a0 t140 (wrap64 (a2 - 1))).bind fun t142 => (if t141 < 0 then (spec_l13Least.j4 kj12 a0 a1 a2 x7_3 x8_2 x9_3 t141 t142 true) else (spec_l13Least.j4 kj12 a0 a1 a2 x7_3 x8_2 x9_3 t141 t142 (decide (t142 < 0)))))) = some r := by rw [if_neg (show ¬ (false = true) by decide)] at H; exact H
                            clear H
                            have H := H1
                            clear H1
                            replace H := Option.bind_eq_some_iff.mp H
                            obtain ⟨t141, A160, H⟩ := H
                            replace H : ((spec_l13Least.f kj12 a0 t140 (wrap64 (a2 - 1))).bind fun t142 => (if t141 < 0 then (spec_l13Least.j4 kj12 a0 a1 a2 x7_3 x8_2 x9_3 t141 t142 true) else (spec_l13Least.j4 kj12 a0 a1 a2 x7_3 x8_2 x9_3 t141 t142 (decide (t142 < 0))))) = some r := H
                            have A16 := Aside0.mk A160
                            clear A160
                            replace H := Option.bind_eq_some_iff.mp H
                            obtain ⟨t142, A170, H⟩ := H
                            replace H : (if t141 < 0 then (spec_l13Least.j4 kj12 a0 a1 a2 x7_3 x8_2 x9_3 t141 t142 true) else (spec_l13Least.j4 kj12 a0 a1 a2 x7_3 x8_2 x9_3 t141 t142 (decide (t142 < 0)))) = some r := H
                            have A17 := Aside0.mk A170
                            clear A170
                            have HC18 := Aside0.mk H
                            clear H
                            go_upto_region 17 with (first | ((with_reducible refine gate_callee (f := 30) rfl ?_); refine goesL_ (some 58) rfl rfl Try.func30 (by kernel_rfl) rfl #[.int .i64 a0, .int .i64 t139, .int .i64 (wrap64 (a2 - 1))] rfl (by (try simp only [List.map_toArray, List.map_cons, List.map_nil]); first | done | rfl | (simp only [List.length_drop, List.length_take]; rfl)) ?_; (with_reducible refine (ih kj12 (by have := HJ3.out; have := HK2.out; have := HK3.out; have := HJ12.out; omega) a0 t139 (wrap64 (a2 - 1)) t141 _ A16.out).mono ?_); rintro e w19 ⟨rfl, hb⟩; refine ⟨_, rfl, ?_⟩; have n0_ := Aside0.mk (below_step (by repeat (first | (with_reducible first | exact HB.out | apply below_alloc | apply pw_below_drewN | apply below_drew1) | exact HB.out)) hb); clear HB; have HB := n0_; clear n0_; (try clear hb); (try clear hb2); (try clear hk); (try clear hi)) | ((with_reducible refine gate_callee (f := 30) rfl ?_); refine goesL_ (some 63) rfl rfl Try.func30 (by kernel_rfl) rfl #[.int .i64 a0, .int .i64 t140, .int .i64 (wrap64 (a2 - 1))] rfl (by (try simp only [List.map_toArray, List.map_cons, List.map_nil]); first | done | rfl | (simp only [List.length_drop, List.length_take]; rfl)) ?_; (with_reducible refine (ih kj12 (by have := HJ3.out; have := HK2.out; have := HK3.out; have := HJ12.out; omega) a0 t140 (wrap64 (a2 - 1)) t142 _ A17.out).mono ?_); rintro e w20 ⟨rfl, hb⟩; refine ⟨_, rfl, ?_⟩; have n0_ := Aside0.mk (below_step (by repeat (first | (with_reducible first | exact HB.out | apply below_alloc | apply pw_below_drewN | apply below_drew1) | exact HB.out)) hb); clear HB; have HB := n0_; clear n0_; (try clear hb); (try clear hb2); (try clear hk); (try clear hi)))
                            (try simp only [Act.put, List.setIfInBounds_toArray, List.set_cons_zero, List.set_cons_succ])
                            go_cut [69] (fun v69 wc => ∃ (kq : Nat) (x69_17 : Bool), v69 = .bool x69_17 ∧ Aside0 (spec_l13Least.j4 kq a0 a1 a2 x7_3 x8_2 x9_3 t141 t142 x69_17 = some r) ∧ Aside0 (kq ≤ kj12) ∧ Aside0 (Below w.heap.size w wc))
                            case first =>
                              have H := HC18.out
                              clear HC18
                              by_cases c21 : t141 < 0
                              · rw [if_pos c21] at H
                                have c21b0 : decide (t141 < 0) = true := decide_eq_true c21
                                clear c21
                                (first | rw [c21b0] | (simp only [i64_w, i32_w]; rw [c21b0]) | skip)
                                have H' := Aside0.mk H
                                clear H
                                go_wp2
                                go_meet
                                case rel => exact ⟨_, (true), (by first | rfl | (simp; done) | (simp [*]; done)), H', ⟨by have := HJ3.out; have := HK2.out; have := HK3.out; have := HJ12.out; first | omega | exact Nat.le_refl _⟩, ⟨by repeat (first | (with_reducible first | exact HB.out | apply below_alloc | apply pw_below_drewN | apply below_drew1) | exact HB.out)⟩⟩
                              · rw [if_neg c21] at H
                                have c21b0 : decide (t141 < 0) = false := decide_eq_false c21
                                clear c21
                                (first | rw [c21b0] | (simp only [i64_w, i32_w]; rw [c21b0]) | skip)
                                have H' := Aside0.mk H
                                clear H
                                go_wp2
                                go_meet
                                case rel => exact ⟨_, (decide (t142 < 0)), (by first | rfl | (simp; done) | (simp [*]; done)), H', ⟨by have := HJ3.out; have := HK2.out; have := HK3.out; have := HJ12.out; first | omega | exact Nat.le_refl _⟩, ⟨by repeat (first | (with_reducible first | exact HB.out | apply below_alloc | apply pw_below_drewN | apply below_drew1) | exact HB.out)⟩⟩
                            case rest =>
                              clear HC18
                              try clear c1
                              try clear c2
                              try clear p2
                              try clear c3
                              try clear c5
                              try clear c5b0
                              try clear c5b1
                              try clear p6
                              try clear c7
                              try clear c8
                              try clear c8b0
                              try clear c8b1
                              try clear c9
                              try clear c9b0
                              try clear c10
                              try clear c10b0
                              try clear c14
                              try clear c14b0
                              try clear c14b1
                              try clear c15
                              try clear c21
                              try clear c21b0
                              try clear p2
                              try clear p6
                              obtain ⟨kq, x69_17, rfl, HA, HJ17, HB⟩ := hcut
                              cases kq with
                              | zero => exact absurd HA.out (by simp [spec_l13Least.j4])
                              | succ kj17 =>
                                have H := HA.out
                                clear HA
                                simp only [spec_l13Least.j4] at H
                                by_cases c22 : x69_17 = true
                                · subst c22
                                  have H1 : (spec_l13Least.l1 kj17 a0 a1 a2 x7_3 x8_2 (wrap64 (x9_3 + 1))) = some r := by rw [if_pos rfl] at H; exact H
                                  clear H
                                  have H := H1
                                  clear H1
                                  have H' := Aside0.mk H
                                  clear H
                                  go_wp2
                                  go_roundg kj17
                                  case measure => have := HJ3.out; have := HK2.out; have := HK3.out; have := HJ12.out; have := HJ17.out; omega
                                  case rel => exact ⟨(x7_3), (wrap64 (x9_3 + 1)), (by first | rfl | (simp; done) | (simp [*]; done)), (by first | rfl | (simp; done) | (simp [*]; done)), H', ⟨by have := HJ3.out; have := HK2.out; have := HK3.out; have := HJ12.out; have := HJ17.out; omega⟩, ⟨by repeat (first | (with_reducible first | exact HB.out | apply below_alloc | apply pw_below_drewN | apply below_drew1) | exact HB.out)⟩⟩
                                · replace c22 := Bool.eq_false_iff.mpr c22
                                  subst c22
                                  have H1 : (if x7_3 < 0 then (spec_l13Least.l1 kj17 a0 a1 a2 (wrap64 ((mx t141 t142) + 1)) x8_2 (wrap64 (x9_3 + 1))) else (if (wrap64 ((mx t141 t142) + 1)) < x7_3 then (spec_l13Least.l1 kj17 a0 a1 a2 (wrap64 ((mx t141 t142) + 1)) x8_2 (wrap64 (x9_3 + 1))) else (spec_l13Least.l1 kj17 a0 a1 a2 x7_3 x8_2 (wrap64 (x9_3 + 1))))) = some r := by rw [if_neg (show ¬ (false = true) by decide)] at H; exact H
                                  clear H
                                  have H := H1
                                  clear H1
                                  by_cases c23 : x7_3 < 0
                                  · rw [if_pos c23] at H
                                    have c23b0 : decide (x7_3 < 0) = true := decide_eq_true c23
                                    clear c23
                                    obtain ⟨ji24, hji24⟩ : ∃ j_ : Int, (mx t141 t142) = j_ := ⟨_, rfl⟩
                                    replace H : (spec_l13Least.l1 kj17 a0 a1 a2 (wrap64 ((ji24) + 1)) x8_2 (wrap64 (x9_3 + 1))) = some r := by first | (rw [hji24] at H; exact H) | (simp only [hji24] at H ⊢; exact H)
                                    have hji24_ : (if t141 < t142 then t142 else t141) = ji24 := hji24
                                    have H' := Aside0.mk H
                                    clear H
                                    go_wp2
                                    go_roundg kj17
                                    case measure => have := HJ3.out; have := HK2.out; have := HK3.out; have := HJ12.out; have := HJ17.out; omega
                                    case rel => exact ⟨(wrap64 ((ji24) + 1)), (wrap64 (x9_3 + 1)), (by first | rfl | (simp; done) | (simp only [← hji24] <;> (first | rfl | simp)) | (simp [*]; done)), (by first | rfl | (simp; done) | (simp [*]; done)), H', ⟨by have := HJ3.out; have := HK2.out; have := HK3.out; have := HJ12.out; have := HJ17.out; omega⟩, ⟨by repeat (first | (with_reducible first | exact HB.out | apply below_alloc | apply pw_below_drewN | apply below_drew1) | exact HB.out)⟩⟩
                                  · rw [if_neg c23] at H
                                    have c23b0 : decide (x7_3 < 0) = false := decide_eq_false c23
                                    clear c23
                                    obtain ⟨ji25, hji25⟩ : ∃ j_ : Int, (mx t141 t142) = j_ := ⟨_, rfl⟩
                                    replace H : (if (wrap64 ((ji25) + 1)) < x7_3 then (spec_l13Least.l1 kj17 a0 a1 a2 (wrap64 ((ji25) + 1)) x8_2 (wrap64 (x9_3 + 1))) else (spec_l13Least.l1 kj17 a0 a1 a2 x7_3 x8_2 (wrap64 (x9_3 + 1)))) = some r := by first | (rw [hji25] at H; exact H) | (simp only [hji25] at H ⊢; exact H)
                                    have hji25_ : (if t141 < t142 then t142 else t141) = ji25 := hji25
                                    by_cases c26 : (wrap64 ((ji25) + 1)) < x7_3
                                    · rw [if_pos c26] at H
                                      have c26b0 : decide ((wrap64 ((ji25) + 1)) < x7_3) = true := decide_eq_true c26
                                      clear c26
                                      have H' := Aside0.mk H
                                      clear H
                                      go_wp2
                                      go_roundg kj17
                                      case measure => have := HJ3.out; have := HK2.out; have := HK3.out; have := HJ12.out; have := HJ17.out; omega
                                      case rel => exact ⟨(wrap64 ((ji25) + 1)), (wrap64 (x9_3 + 1)), (by first | rfl | (simp; done) | (simp only [← hji25] <;> (first | rfl | simp)) | (simp [*]; done)), (by first | rfl | (simp; done) | (simp [*]; done)), H', ⟨by have := HJ3.out; have := HK2.out; have := HK3.out; have := HJ12.out; have := HJ17.out; omega⟩, ⟨by repeat (first | (with_reducible first | exact HB.out | apply below_alloc | apply pw_below_drewN | apply below_drew1) | exact HB.out)⟩⟩
                                    · rw [if_neg c26] at H
                                      have c26b0 : decide ((wrap64 ((ji25) + 1)) < x7_3) = false := decide_eq_false c26
                                      clear c26
                                      have H' := Aside0.mk H
                                      clear H
                                      go_wp2
                                      go_roundg kj17
                                      case measure => have := HJ3.out; have := HK2.out; have := HK3.out; have := HJ12.out; have := HJ17.out; omega
                                      case rel => exact ⟨(x7_3), (wrap64 (x9_3 + 1)), (by first | rfl | (simp; done) | (simp [*]; done)), (by first | rfl | (simp; done) | (simp [*]; done)), H', ⟨by have := HJ3.out; have := HK2.out; have := HK3.out; have := HJ12.out; have := HJ17.out; omega⟩, ⟨by repeat (first | (with_reducible first | exact HB.out | apply below_alloc | apply pw_below_drewN | apply below_drew1) | exact HB.out)⟩⟩
                    · rw [if_neg c10] at H
                      have c10b0 : decide (x9_3 < a0) = false := decide_eq_false c10
                      clear c10
                      have H' := Aside0.mk H
                      clear H
                      go_wp2
                      go_roundg k3
                      case measure => have := HJ3.out; have := HK2.out; have := HK3.out; omega
                      case rel => exact ⟨(x7_3), (wrap64 (x8_2 + 1)), (by first | rfl | (simp; done) | (simp [*]; done)), (by first | rfl | (simp; done) | (simp [*]; done)), H', ⟨by have := HJ3.out; have := HK2.out; have := HK3.out; omega⟩, ⟨by repeat (first | (with_reducible first | exact HB.out | apply below_alloc | apply pw_below_drewN | apply below_drew1) | exact HB.out)⟩⟩
              · rw [if_neg c9] at H
                have c9b0 : decide (x8_2 < a0) = false := decide_eq_false c9
                clear c9
                obtain rfl := Option.some.inj H
                go_wp2
                go_ret
                exact ⟨by first | rfl | (simp [errW_none, errW_some] <;> rfl) | (simp [*, errW_none, errW_some] <;> rfl), by repeat (first | (with_reducible first | exact HB.out | apply below_alloc | apply pw_below_drewN | apply below_drew1) | exact HB.out)⟩

end Go.Proofs.Ytgcdlkpjjnglbaa.PA

namespace Go.Proofs.Ytgcdlkpjjnglbaa.PA
open Go.RowKit Go.Proofs.YtgcdlkpjjnglbaaW.PrintWords Go.Proofs.YtgcdlkpjjnglbaaW.PrintLast Go.Proofs.YtgcdlkpjjnglbaaW.PrintMore
attribute [local go_sem] max2_int min2_int max_two min_two max_three min_three max_four min_four   -- for this text's walks alone
set_option linter.unusedVariables false
set_option linter.unusedSimpArgs false

/-! ### spec_LeastAsks: function 8 -/
def spec_LeastAsks.f (k : Nat) (a0 : Int) (a1 : Int) : Option (Int) := (spec_TableOk.f a0 a1).bind fun t143 => (if t143 = true then ((spec_l13Least.f k a0 a1 a0).bind fun t144 => (some t144)) else (some (-1)))
theorem spec_LeastAsks.mono : ∀ a0 a1 k, LeO (spec_LeastAsks.f k a0 a1) (spec_LeastAsks.f (k + 1) a0 a1) := by
  intro a0 a1 k
  unfold spec_LeastAsks.f
  repeat' first
      | (with_reducible exact spec_l13Least.mono _ _ _ _)
      | (with_reducible exact LeO.refl _)
      | (with_reducible exact LeO.none _)
      | (with_reducible refine LeO.ite ?_ ?_)
      | (with_reducible refine LeO.bind ?_ (fun _ => ?_))
      | exact spec_l13Least.mono _ _ _ _
      | exact LeO.none _
      | refine LeO.ite ?_ ?_
      | refine LeO.bind ?_ (fun _ => ?_)
set_option maxHeartbeats 8000000 in
set_option maxRecDepth 100000 in
theorem spec_LeastAsks.calls (k : Nat) (a0 : Int) (a1 : Int) (r : Int) (w : World) (h : spec_LeastAsks.f k a0 a1 = some r) :
    Calls Try.prog 8 #[.int .i64 a0, .int .i64 a1] w fun e w' => e = .returned (.int .i64 r) ∧ Below w.heap.size w w' := by
  have HB := Aside0.mk (Below.refl w.heap.size w)
  have H : ((spec_TableOk.f a0 a1).bind fun t143 => (if t143 = true then ((spec_l13Least.f k a0 a1 a0).bind fun t144 => (some t144)) else (some (-1)))) = some r := h
  clear h
  replace H := Option.bind_eq_some_iff.mp H
  obtain ⟨t143, A30, H⟩ := H
  replace H : (if t143 = true then ((spec_l13Least.f k a0 a1 a0).bind fun t144 => (some t144)) else (some (-1))) = some r := H
  have A3 := Aside0.mk A30
  clear A30
  by_cases c4 : t143 = true
  · subst c4
    have H1 : ((spec_l13Least.f k a0 a1 a0).bind fun t144 => (some t144)) = some r := by rw [if_pos rfl] at H; exact H
    clear H
    have H := H1
    clear H1
    replace H := Option.bind_eq_some_iff.mp H
    obtain ⟨t144, A50, H⟩ := H
    replace H : (some t144) = some r := H
    have A5 := Aside0.mk A50
    clear A50
    obtain rfl := Option.some.inj H
    go_enter Try.func8, Try.ntmps8
    go_wp2_with (first | ((with_reducible refine gate_callee (f := 9) rfl ?_); refine goesL_ (some 7) rfl rfl Try.func9 (by kernel_rfl) rfl #[.int .i64 a0, .int .i64 a1] rfl (by (try simp only [List.map_toArray, List.map_cons, List.map_nil]); first | done | rfl | (simp only [List.length_drop, List.length_take]; rfl)) ?_; (with_reducible refine (spec_TableOk.calls a0 a1 true _ A3.out).mono ?_); rintro e w' ⟨rfl, ⟨nd, rfl⟩⟩; refine ⟨_, rfl, ?_⟩) | ((with_reducible refine gate_callee (f := 30) rfl ?_); refine goesL_ (some 12) rfl rfl Try.func30 (by kernel_rfl) rfl #[.int .i64 a0, .int .i64 a1, .int .i64 a0] rfl (by (try simp only [List.map_toArray, List.map_cons, List.map_nil]); first | done | rfl | (simp only [List.length_drop, List.length_take]; rfl)) ?_; (with_reducible refine (spec_l13Least.calls k a0 a1 a0 t144 _ A5.out).mono ?_); rintro e w6 ⟨rfl, hb⟩; refine ⟨_, rfl, ?_⟩; have n0_ := Aside0.mk (below_step (by repeat (first | (with_reducible first | exact HB.out | apply below_alloc | apply pw_below_drewN | apply below_drew1) | exact HB.out)) hb); clear HB; have HB := n0_; clear n0_; (try clear hb); (try clear hb2); (try clear hk); (try clear hi)))
    go_ret
    exact ⟨by first | rfl | (simp [errW_none, errW_some] <;> rfl) | (simp [*, errW_none, errW_some] <;> rfl), by repeat (first | (with_reducible first | exact HB.out | apply below_alloc | apply pw_below_drewN | apply below_drew1) | exact HB.out)⟩
  · replace c4 := Bool.eq_false_iff.mpr c4
    subst c4
    have H1 : (some (-1)) = some r := by rw [if_neg (show ¬ (false = true) by decide)] at H; exact H
    clear H
    have H := H1
    clear H1
    obtain rfl := Option.some.inj H
    go_enter Try.func8, Try.ntmps8
    go_wp2_with (first | ((with_reducible refine gate_callee (f := 9) rfl ?_); refine goesL_ (some 7) rfl rfl Try.func9 (by kernel_rfl) rfl #[.int .i64 a0, .int .i64 a1] rfl (by (try simp only [List.map_toArray, List.map_cons, List.map_nil]); first | done | rfl | (simp only [List.length_drop, List.length_take]; rfl)) ?_; (with_reducible refine (spec_TableOk.calls a0 a1 false _ A3.out).mono ?_); rintro e w' ⟨rfl, ⟨nd, rfl⟩⟩; refine ⟨_, rfl, ?_⟩))
    go_ret
    exact ⟨by first | rfl | (simp [errW_none, errW_some] <;> rfl) | (simp [*, errW_none, errW_some] <;> rfl), by repeat (first | (with_reducible first | exact HB.out | apply below_alloc | apply pw_below_drewN | apply below_drew1) | exact HB.out)⟩

end Go.Proofs.Ytgcdlkpjjnglbaa.PA

namespace Go.Proofs.Ytgcdlkpjjnglbaa.PA
open Go.RowKit Go.Proofs.YtgcdlkpjjnglbaaW.PrintWords Go.Proofs.YtgcdlkpjjnglbaaW.PrintLast Go.Proofs.YtgcdlkpjjnglbaaW.PrintMore
attribute [local go_sem] max2_int min2_int max_two min_two max_three min_three max_four min_four   -- for this text's walks alone
set_option linter.unusedVariables false
set_option linter.unusedSimpArgs false

/-! ### impl_peopleOk: function 34 -/
def impl_peopleOk.f (a0 : Int) : Option (Bool) := if a0 ≥ 1 then (some (decide (a0 ≤ 4))) else (some false)
set_option maxHeartbeats 8000000 in
set_option maxRecDepth 100000 in
theorem impl_peopleOk.calls (a0 : Int) (r : Bool) (w : World) (h : impl_peopleOk.f a0 = some r) :
    Calls Try.prog 34 #[.int .i64 a0] w fun e w' => e = .returned (.bool r) ∧ Drawn0 w w' := by
  have H : (if a0 ≥ 1 then (some (decide (a0 ≤ 4))) else (some false)) = some r := h
  clear h
  by_cases c2 : a0 ≥ 1
  · rw [if_pos c2] at H
    have c2b0 : decide (1 ≤ a0) = true := decide_eq_true c2
    clear c2
    obtain rfl := Option.some.inj H
    go_enter Try.func34, Try.ntmps34
    go_wp2
    go_ret
    exact ⟨by first | rfl | (simp; done) | (simp [*]; done), by repeat (first | exact Drawn0.refl _ | apply Drawn0.step)⟩
  · rw [if_neg c2] at H
    have c2b0 : decide (1 ≤ a0) = false := decide_eq_false c2
    clear c2
    obtain rfl := Option.some.inj H
    go_enter Try.func34, Try.ntmps34
    go_wp2
    go_ret
    exact ⟨by first | rfl | (simp; done) | (simp [*]; done), by repeat (first | exact Drawn0.refl _ | apply Drawn0.step)⟩

end Go.Proofs.Ytgcdlkpjjnglbaa.PA

namespace Go.Proofs.Ytgcdlkpjjnglbaa.PA
open Go.RowKit Go.Proofs.YtgcdlkpjjnglbaaW.PrintWords Go.Proofs.YtgcdlkpjjnglbaaW.PrintLast Go.Proofs.YtgcdlkpjjnglbaaW.PrintMore
attribute [local go_sem] max2_int min2_int max_two min_two max_three min_three max_four min_four   -- for this text's walks alone
set_option linter.unusedVariables false
set_option linter.unusedSimpArgs false

/-! ### impl_WorldOk: function 32 -/
def impl_WorldOk.f (a0 : Int) (a1 : Int) : Option (Bool) := (impl_peopleOk.f a0).bind fun t145 => (if t145 = true then (if a1 ≥ 0 then (if 0 ≤ a0 then (some (decide (a1 < (shl .i64 1 a0)))) else (none)) else (some false)) else (some false))
set_option maxHeartbeats 8000000 in
set_option maxRecDepth 100000 in
theorem impl_WorldOk.calls (a0 : Int) (a1 : Int) (r : Bool) (w : World) (h : impl_WorldOk.f a0 a1 = some r) :
    Calls Try.prog 32 #[.int .i64 a0, .int .i64 a1] w fun e w' => e = .returned (.bool r) ∧ Drawn0 w w' := by
  have H : ((impl_peopleOk.f a0).bind fun t145 => (if t145 = true then (if a1 ≥ 0 then (if 0 ≤ a0 then (some (decide (a1 < (shl .i64 1 a0)))) else (none)) else (some false)) else (some false))) = some r := h
  clear h
  replace H := Option.bind_eq_some_iff.mp H
  obtain ⟨t145, A30, H⟩ := H
  replace H : (if t145 = true then (if a1 ≥ 0 then (if 0 ≤ a0 then (some (decide (a1 < (shl .i64 1 a0)))) else (none)) else (some false)) else (some false)) = some r := H
  have A3 := Aside0.mk A30
  clear A30
  by_cases c4 : t145 = true
  · subst c4
    have H1 : (if a1 ≥ 0 then (if 0 ≤ a0 then (some (decide (a1 < (shl .i64 1 a0)))) else (none)) else (some false)) = some r := by rw [if_pos rfl] at H; exact H
    clear H
    have H := H1
    clear H1
    by_cases c5 : a1 ≥ 0
    · rw [if_pos c5] at H
      have c5b0 : decide (0 ≤ a1) = true := decide_eq_true c5
      clear c5
      by_cases c6 : 0 ≤ a0
      · rw [if_pos c6] at H
        have c6b0 := eq_true c6
        have c6b1 : decide (0 ≤ a0) = true := decide_eq_true c6
        clear c6
        obtain ⟨ji7, hji7⟩ : ∃ j_ : Int, (shl .i64 1 a0) = j_ := ⟨_, rfl⟩
        replace H : (some (decide (a1 < (ji7)))) = some r := by first | (rw [hji7] at H; exact H) | (simp only [hji7] at H ⊢; exact H)
        (try rw [hji7] at A3)
        have hji7_ : (IntKind.i64.wrap (1 * 2 ^ min a0.toNat 64)) = ji7 := hji7
        have hji7z : a0 ≤ 64 → (IntKind.i64.wrap (1 * 2 ^ a0.toNat)) = ji7 := shl_small hji7
        have hji7u : (IntKind.i64.wrap (2 ^ min a0.toNat 64)) = ji7 := by have h_ := hji7_; rw [Int.one_mul] at h_; exact h_
        have hji7v : a0 ≤ 64 → (IntKind.i64.wrap (2 ^ a0.toNat)) = ji7 := fun hle_ => by have h_ := hji7z hle_; rw [Int.one_mul] at h_; exact h_
        have hji7y : (wrap64 (1 * 2 ^ min a0.toNat 64)) = ji7 := (i64_w _).symm.trans hji7_
        have hji7x : a0 ≤ 64 → (wrap64 (1 * 2 ^ a0.toNat)) = ji7 := fun h_ => (i64_w _).symm.trans (hji7z h_)
        obtain rfl := Option.some.inj H
        go_enter Try.func32, Try.ntmps32
        go_wp2_with (first | ((with_reducible refine gate_callee (f := 34) rfl ?_); refine goesL_ (some 6) rfl rfl Try.func34 (by kernel_rfl) rfl #[.int .i64 a0] rfl (by (try simp only [List.map_toArray, List.map_cons, List.map_nil]); first | done | rfl | (simp only [List.length_drop, List.length_take]; rfl)) ?_; (with_reducible refine (impl_peopleOk.calls a0 true _ A3.out).mono ?_); rintro e w' ⟨rfl, ⟨nd, rfl⟩⟩; refine ⟨_, rfl, ?_⟩))
        go_ret
        exact ⟨by first | rfl | (simp; done) | (simp only [← hji7] <;> (first | rfl | simp)) | (simp [*]; done), by repeat (first | exact Drawn0.refl _ | apply Drawn0.step)⟩
      · rw [if_neg c6] at H
        exact absurd H (by simp)
    · rw [if_neg c5] at H
      have c5b0 : decide (0 ≤ a1) = false := decide_eq_false c5
      clear c5
      obtain rfl := Option.some.inj H
      go_enter Try.func32, Try.ntmps32
      go_wp2_with (first | ((with_reducible refine gate_callee (f := 34) rfl ?_); refine goesL_ (some 6) rfl rfl Try.func34 (by kernel_rfl) rfl #[.int .i64 a0] rfl (by (try simp only [List.map_toArray, List.map_cons, List.map_nil]); first | done | rfl | (simp only [List.length_drop, List.length_take]; rfl)) ?_; (with_reducible refine (impl_peopleOk.calls a0 true _ A3.out).mono ?_); rintro e w' ⟨rfl, ⟨nd, rfl⟩⟩; refine ⟨_, rfl, ?_⟩))
      go_ret
      exact ⟨by first | rfl | (simp; done) | (simp [*]; done), by repeat (first | exact Drawn0.refl _ | apply Drawn0.step)⟩
  · replace c4 := Bool.eq_false_iff.mpr c4
    subst c4
    have H1 : (some false) = some r := by rw [if_neg (show ¬ (false = true) by decide)] at H; exact H
    clear H
    have H := H1
    clear H1
    obtain rfl := Option.some.inj H
    go_enter Try.func32, Try.ntmps32
    go_wp2_with (first | ((with_reducible refine gate_callee (f := 34) rfl ?_); refine goesL_ (some 6) rfl rfl Try.func34 (by kernel_rfl) rfl #[.int .i64 a0] rfl (by (try simp only [List.map_toArray, List.map_cons, List.map_nil]); first | done | rfl | (simp only [List.length_drop, List.length_take]; rfl)) ?_; (with_reducible refine (impl_peopleOk.calls a0 false _ A3.out).mono ?_); rintro e w' ⟨rfl, ⟨nd, rfl⟩⟩; refine ⟨_, rfl, ?_⟩))
    go_ret
    exact ⟨by first | rfl | (simp; done) | (simp [*]; done), by repeat (first | exact Drawn0.refl _ | apply Drawn0.step)⟩

end Go.Proofs.Ytgcdlkpjjnglbaa.PA

namespace Go.Proofs.Ytgcdlkpjjnglbaa.PA
open Go.RowKit Go.Proofs.YtgcdlkpjjnglbaaW.PrintWords Go.Proofs.YtgcdlkpjjnglbaaW.PrintLast Go.Proofs.YtgcdlkpjjnglbaaW.PrintMore
attribute [local go_sem] max2_int min2_int max_two min_two max_three min_three max_four min_four   -- for this text's walks alone
set_option linter.unusedVariables false
set_option linter.unusedSimpArgs false

/-! ### laws_alive: function 10 -/
def laws_alive.f  : Option (Bool) := (impl_WorldOk.f 1 1).bind fun t146 => (if t146 = true then ((impl_WorldOk.f 1 2).bind fun t147 => (some (!t147))) else (some false))
set_option maxHeartbeats 8000000 in
set_option maxRecDepth 100000 in
theorem laws_alive.calls  (r : Bool) (w : World) (h : laws_alive.f  = some r) :
    Calls Try.prog 10 #[] w fun e w' => e = .returned (.bool r) ∧ Drawn0 w w' := by
  have H : ((impl_WorldOk.f 1 1).bind fun t146 => (if t146 = true then ((impl_WorldOk.f 1 2).bind fun t147 => (some (!t147))) else (some false))) = some r := h
  clear h
  replace H := Option.bind_eq_some_iff.mp H
  obtain ⟨t146, A10, H⟩ := H
  replace H : (if t146 = true then ((impl_WorldOk.f 1 2).bind fun t147 => (some (!t147))) else (some false)) = some r := H
  have A1 := Aside0.mk A10
  clear A10
  by_cases c2 : t146 = true
  · subst c2
    have H1 : ((impl_WorldOk.f 1 2).bind fun t147 => (some (!t147))) = some r := by rw [if_pos rfl] at H; exact H
    clear H
    have H := H1
    clear H1
    replace H := Option.bind_eq_some_iff.mp H
    obtain ⟨t147, A30, H⟩ := H
    replace H : (some (!t147)) = some r := H
    have A3 := Aside0.mk A30
    clear A30
    obtain rfl := Option.some.inj H
    go_enter Try.func10, Try.ntmps10
    go_wp2_with (first | ((with_reducible refine gate_callee (f := 32) rfl ?_); refine goesL_ (some 1) rfl rfl Try.func32 (by kernel_rfl) rfl #[.int .i64 1, .int .i64 1] rfl (by (try simp only [List.map_toArray, List.map_cons, List.map_nil]); first | done | rfl | (simp only [List.length_drop, List.length_take]; rfl)) ?_; (with_reducible refine (impl_WorldOk.calls 1 1 true _ A1.out).mono ?_); rintro e w' ⟨rfl, ⟨nd, rfl⟩⟩; refine ⟨_, rfl, ?_⟩) | (go_at_call 32; (with_reducible refine (impl_WorldOk.calls 1 2 t147 _ A3.out).mono ?_); rintro e w' ⟨rfl, ⟨nd, rfl⟩⟩))
    go_ret
    exact ⟨by first | rfl | (simp; done) | (simp [*]; done), by repeat (first | exact Drawn0.refl _ | apply Drawn0.step)⟩
  · replace c2 := Bool.eq_false_iff.mpr c2
    subst c2
    have H1 : (some false) = some r := by rw [if_neg (show ¬ (false = true) by decide)] at H; exact H
    clear H
    have H := H1
    clear H1
    obtain rfl := Option.some.inj H
    go_enter Try.func10, Try.ntmps10
    go_wp2_with (first | ((with_reducible refine gate_callee (f := 32) rfl ?_); refine goesL_ (some 1) rfl rfl Try.func32 (by kernel_rfl) rfl #[.int .i64 1, .int .i64 1] rfl (by (try simp only [List.map_toArray, List.map_cons, List.map_nil]); first | done | rfl | (simp only [List.length_drop, List.length_take]; rfl)) ?_; (with_reducible refine (impl_WorldOk.calls 1 1 false _ A1.out).mono ?_); rintro e w' ⟨rfl, ⟨nd, rfl⟩⟩; refine ⟨_, rfl, ?_⟩))
    go_ret
    exact ⟨by first | rfl | (simp; done) | (simp [*]; done), by repeat (first | exact Drawn0.refl _ | apply Drawn0.step)⟩

end Go.Proofs.Ytgcdlkpjjnglbaa.PA

namespace Go.Proofs.Ytgcdlkpjjnglbaa.PA
open Go.RowKit Go.Proofs.YtgcdlkpjjnglbaaW.PrintWords Go.Proofs.YtgcdlkpjjnglbaaW.PrintLast Go.Proofs.YtgcdlkpjjnglbaaW.PrintMore
attribute [local go_sem] max2_int min2_int max_two min_two max_three min_three max_four min_four   -- for this text's walks alone
set_option linter.unusedVariables false
set_option linter.unusedSimpArgs false

/-! ### impl_TableOk: function 28 -/
def impl_TableOk.f (a0 : Int) (a1 : Int) : Option (Bool) := (impl_peopleOk.f a0).bind fun t148 => (if t148 = true then (if a1 ≥ 0 then (if 0 ≤ a0 then (some (decide (a1 < (shl .i64 1 (shl .u64 1 a0))))) else (none)) else (some false)) else (some false))
set_option maxHeartbeats 8000000 in
set_option maxRecDepth 100000 in
theorem impl_TableOk.calls (a0 : Int) (a1 : Int) (r : Bool) (w : World) (h : impl_TableOk.f a0 a1 = some r) :
    Calls Try.prog 28 #[.int .i64 a0, .int .i64 a1] w fun e w' => e = .returned (.bool r) ∧ Drawn0 w w' := by
  have H : ((impl_peopleOk.f a0).bind fun t148 => (if t148 = true then (if a1 ≥ 0 then (if 0 ≤ a0 then (some (decide (a1 < (shl .i64 1 (shl .u64 1 a0))))) else (none)) else (some false)) else (some false))) = some r := h
  clear h
  replace H := Option.bind_eq_some_iff.mp H
  obtain ⟨t148, A30, H⟩ := H
  replace H : (if t148 = true then (if a1 ≥ 0 then (if 0 ≤ a0 then (some (decide (a1 < (shl .i64 1 (shl .u64 1 a0))))) else (none)) else (some false)) else (some false)) = some r := H
  have A3 := Aside0.mk A30
  clear A30
  by_cases c4 : t148 = true
  · subst c4
    have H1 : (if a1 ≥ 0 then (if 0 ≤ a0 then (some (decide (a1 < (shl .i64 1 (shl .u64 1 a0))))) else (none)) else (some false)) = some r := by rw [if_pos rfl] at H; exact H
    clear H
    have H := H1
    clear H1
    by_cases c5 : a1 ≥ 0
    · rw [if_pos c5] at H
      have c5b0 : decide (0 ≤ a1) = true := decide_eq_true c5
      clear c5
      by_cases c6 : 0 ≤ a0
      · rw [if_pos c6] at H
        have c6b0 := eq_true c6
        have c6b1 : decide (0 ≤ a0) = true := decide_eq_true c6
        clear c6
        obtain ⟨ji7, hji7⟩ : ∃ j_ : Int, (shl .u64 1 a0) = j_ := ⟨_, rfl⟩
        have hji7p : (0 : Int) ≤ ji7 := by rw [← hji7]; unfold shl; rw [IntKind.wrap_u64]; exact Int.emod_nonneg _ (by decide)
        have hji7q : decide ((0 : Int) ≤ ji7) = true := decide_eq_true hji7p
        replace H : (some (decide (a1 < (shl .i64 1 (ji7))))) = some r := by first | (rw [hji7] at H; exact H) | (simp only [hji7] at H ⊢; exact H)
        (try rw [hji7] at A3)
        have hji7_ : (IntKind.u64.wrap (1 * 2 ^ min a0.toNat 64)) = ji7 := hji7
        have hji7z : a0 ≤ 64 → (IntKind.u64.wrap (1 * 2 ^ a0.toNat)) = ji7 := shl_small hji7
        have hji7u : (IntKind.u64.wrap (2 ^ min a0.toNat 64)) = ji7 := by have h_ := hji7_; rw [Int.one_mul] at h_; exact h_
        have hji7v : a0 ≤ 64 → (IntKind.u64.wrap (2 ^ a0.toNat)) = ji7 := fun hle_ => by have h_ := hji7z hle_; rw [Int.one_mul] at h_; exact h_
        obtain ⟨ji8, hji8⟩ : ∃ j_ : Int, (shl .i64 1 (ji7)) = j_ := ⟨_, rfl⟩
        replace H : (some (decide (a1 < (ji8)))) = some r := by first | (rw [hji8] at H; exact H) | (simp only [hji8] at H ⊢; exact H)
        (try rw [hji8] at A3)
        have hji8_ : (IntKind.i64.wrap (1 * 2 ^ min (ji7).toNat 64)) = ji8 := hji8
        have hji8z : (ji7) ≤ 64 → (IntKind.i64.wrap (1 * 2 ^ (ji7).toNat)) = ji8 := shl_small hji8
        have hji8u : (IntKind.i64.wrap (2 ^ min (ji7).toNat 64)) = ji8 := by have h_ := hji8_; rw [Int.one_mul] at h_; exact h_
        have hji8v : (ji7) ≤ 64 → (IntKind.i64.wrap (2 ^ (ji7).toNat)) = ji8 := fun hle_ => by have h_ := hji8z hle_; rw [Int.one_mul] at h_; exact h_
        have hji8y : (wrap64 (1 * 2 ^ min (ji7).toNat 64)) = ji8 := (i64_w _).symm.trans hji8_
        have hji8x : (ji7) ≤ 64 → (wrap64 (1 * 2 ^ (ji7).toNat)) = ji8 := fun h_ => (i64_w _).symm.trans (hji8z h_)
        obtain rfl := Option.some.inj H
        go_enter Try.func28, Try.ntmps28
        go_wp2_with (first | ((with_reducible refine gate_callee (f := 34) rfl ?_); refine goesL_ (some 6) rfl rfl Try.func34 (by kernel_rfl) rfl #[.int .i64 a0] rfl (by (try simp only [List.map_toArray, List.map_cons, List.map_nil]); first | done | rfl | (simp only [List.length_drop, List.length_take]; rfl)) ?_; (with_reducible refine (impl_peopleOk.calls a0 true _ A3.out).mono ?_); rintro e w' ⟨rfl, ⟨nd, rfl⟩⟩; refine ⟨_, rfl, ?_⟩))
        go_ret
        exact ⟨by first | rfl | (simp; done) | (simp only [← hji7, ← hji8] <;> (first | rfl | simp)) | (simp [*]; done), by repeat (first | exact Drawn0.refl _ | apply Drawn0.step)⟩
      · rw [if_neg c6] at H
        exact absurd H (by simp)
    · rw [if_neg c5] at H
      have c5b0 : decide (0 ≤ a1) = false := decide_eq_false c5
      clear c5
      obtain rfl := Option.some.inj H
      go_enter Try.func28, Try.ntmps28
      go_wp2_with (first | ((with_reducible refine gate_callee (f := 34) rfl ?_); refine goesL_ (some 6) rfl rfl Try.func34 (by kernel_rfl) rfl #[.int .i64 a0] rfl (by (try simp only [List.map_toArray, List.map_cons, List.map_nil]); first | done | rfl | (simp only [List.length_drop, List.length_take]; rfl)) ?_; (with_reducible refine (impl_peopleOk.calls a0 true _ A3.out).mono ?_); rintro e w' ⟨rfl, ⟨nd, rfl⟩⟩; refine ⟨_, rfl, ?_⟩))
      go_ret
      exact ⟨by first | rfl | (simp; done) | (simp [*]; done), by repeat (first | exact Drawn0.refl _ | apply Drawn0.step)⟩
  · replace c4 := Bool.eq_false_iff.mpr c4
    subst c4
    have H1 : (some false) = some r := by rw [if_neg (show ¬ (false = true) by decide)] at H; exact H
    clear H
    have H := H1
    clear H1
    obtain rfl := Option.some.inj H
    go_enter Try.func28, Try.ntmps28
    go_wp2_with (first | ((with_reducible refine gate_callee (f := 34) rfl ?_); refine goesL_ (some 6) rfl rfl Try.func34 (by kernel_rfl) rfl #[.int .i64 a0] rfl (by (try simp only [List.map_toArray, List.map_cons, List.map_nil]); first | done | rfl | (simp only [List.length_drop, List.length_take]; rfl)) ?_; (with_reducible refine (impl_peopleOk.calls a0 false _ A3.out).mono ?_); rintro e w' ⟨rfl, ⟨nd, rfl⟩⟩; refine ⟨_, rfl, ?_⟩))
    go_ret
    exact ⟨by first | rfl | (simp; done) | (simp [*]; done), by repeat (first | exact Drawn0.refl _ | apply Drawn0.step)⟩

end Go.Proofs.Ytgcdlkpjjnglbaa.PA

namespace Go.Proofs.Ytgcdlkpjjnglbaa.PA
open Go.RowKit Go.Proofs.YtgcdlkpjjnglbaaW.PrintWords Go.Proofs.YtgcdlkpjjnglbaaW.PrintLast Go.Proofs.YtgcdlkpjjnglbaaW.PrintMore
attribute [local go_sem] max2_int min2_int max_two min_two max_three min_three max_four min_four   -- for this text's walks alone
set_option linter.unusedVariables false
set_option linter.unusedSimpArgs false

/-! ### impl_WorldsIn: function 33 -/
def impl_WorldsIn.l0 : Nat → Int → List Int → Int → Int → Option (List Int)
  | 0, _, _, _, _ => none
  | k + 1, x1, x5, x13, x14 => if x14 < x13 then (if 0 ≤ x14 then (if (Go.bits .and .i64 (shr .i64 x1 x14) 1) = 1 then (if x5.length < 17592186044416 then (impl_WorldsIn.l0 k x1 (x5 ++ [x14]) x13 (wrap64 (x14 + 1))) else (none)) else (impl_WorldsIn.l0 k x1 x5 x13 (wrap64 (x14 + 1)))) else (none)) else (some x5)
def impl_WorldsIn.f (k : Nat) (a0 : Int) (a1 : Int) : Option (List Int) := (impl_TableOk.f a0 a1).bind fun t149 => (if t149 = true then (if 0 ≤ a0 then (impl_WorldsIn.l0 k a1 (([] : List Int)) (shl .i64 1 a0) 0) else (none)) else (some ([] : List Int)))
theorem impl_WorldsIn.mono_l : ∀ k, (∀ y0 y1 y2 y3, LeO (impl_WorldsIn.l0 k y0 y1 y2 y3) (impl_WorldsIn.l0 (k + 1) y0 y1 y2 y3))
  | 0 => fun _ _ _ _ r h => by simp [impl_WorldsIn.l0] at h
  | k + 1 => by
    have ih0 := impl_WorldsIn.mono_l k
    · intro y0 y1 y2 y3
      unfold impl_WorldsIn.l0
      repeat' first
      | (with_reducible exact ih0 _ _ _ _)
      | (with_reducible exact LeO.refl _)
      | (with_reducible exact LeO.none _)
      | (with_reducible refine LeO.ite ?_ ?_)
      | (with_reducible refine LeO.bind ?_ (fun _ => ?_))
      | exact ih0 _ _ _ _
      | exact LeO.none _
      | refine LeO.ite ?_ ?_
      | refine LeO.bind ?_ (fun _ => ?_)
theorem impl_WorldsIn.mono : ∀ a0 a1 k, LeO (impl_WorldsIn.f k a0 a1) (impl_WorldsIn.f (k + 1) a0 a1) := by
  intro a0 a1 k
  have ih0 := impl_WorldsIn.mono_l k
  unfold impl_WorldsIn.f
  repeat' first
      | (with_reducible exact ih0 _ _ _ _)
      | (with_reducible exact LeO.refl _)
      | (with_reducible exact LeO.none _)
      | (with_reducible refine LeO.ite ?_ ?_)
      | (with_reducible refine LeO.bind ?_ (fun _ => ?_))
      | exact ih0 _ _ _ _
      | exact LeO.none _
      | refine LeO.ite ?_ ?_
      | refine LeO.bind ?_ (fun _ => ?_)
set_option maxHeartbeats 8000000 in
set_option maxRecDepth 100000 in
theorem impl_WorldsIn.calls (k : Nat) (a0 : Int) (a1 : Int) (r : List Int) (w : World) (h : impl_WorldsIn.f k a0 a1 = some r) :
    Calls Try.prog 33 #[.int .i64 a0, .int .i64 a1] w fun e w' => ∃ v0_ : Value, e = .returned (v0_) ∧ Kd.R (Kd.int .i64) 3 w' w.heap.size (fun _ => True) v0_ r ∧ Below w.heap.size w w' := by
  have HB := Aside0.mk (Below.refl w.heap.size w)
  have H : ((impl_TableOk.f a0 a1).bind fun t149 => (if t149 = true then (if 0 ≤ a0 then (impl_WorldsIn.l0 k a1 (([] : List Int)) (shl .i64 1 a0) 0) else (none)) else (some ([] : List Int)))) = some r := h
  clear h
  replace H := Option.bind_eq_some_iff.mp H
  obtain ⟨t149, A30, H⟩ := H
  replace H : (if t149 = true then (if 0 ≤ a0 then (impl_WorldsIn.l0 k a1 (([] : List Int)) (shl .i64 1 a0) 0) else (none)) else (some ([] : List Int))) = some r := H
  have A3 := Aside0.mk A30
  clear A30
  by_cases c4 : t149 = true
  · subst c4
    have H1 : (if 0 ≤ a0 then (impl_WorldsIn.l0 k a1 (([] : List Int)) (shl .i64 1 a0) 0) else (none)) = some r := by rw [if_pos rfl] at H; exact H
    clear H
    have H := H1
    clear H1
    obtain ⟨y150, hy150⟩ : ∃ y_ : List Int, y_ = (([] : List Int)) := ⟨_, rfl⟩
    replace H : (if 0 ≤ a0 then (impl_WorldsIn.l0 k a1 y150 (shl .i64 1 a0) 0) else (none)) = some r := by first | (rw [hy150]; with_reducible exact H) | (have H2_ := (Option.bind_some _ _).symm.trans H; rw [hy150]; with_reducible exact H2_) | (have H2_ := (Option.bind_some _ _).symm.trans H; with_reducible exact H2_) | with_reducible exact H | (rw [hy150]; exact H) | exact H
    have Ny150 := Aside0.mk hy150
    clear hy150
    by_cases c5 : 0 ≤ a0
    · rw [if_pos c5] at H
      have c5b0 := eq_true c5
      have c5b1 : decide (0 ≤ a0) = true := decide_eq_true c5
      clear c5
      obtain ⟨ji6, hji6⟩ : ∃ j_ : Int, (shl .i64 1 a0) = j_ := ⟨_, rfl⟩
      replace H : (impl_WorldsIn.l0 k a1 y150 ji6 0) = some r := by first | (rw [hji6] at H; exact H) | (simp only [hji6] at H ⊢; exact H)
      (try rw [hji6] at A3)
      have hji6_ : (IntKind.i64.wrap (1 * 2 ^ min a0.toNat 64)) = ji6 := hji6
      have hji6z : a0 ≤ 64 → (IntKind.i64.wrap (1 * 2 ^ a0.toNat)) = ji6 := shl_small hji6
      have hji6u : (IntKind.i64.wrap (2 ^ min a0.toNat 64)) = ji6 := by have h_ := hji6_; rw [Int.one_mul] at h_; exact h_
      have hji6v : a0 ≤ 64 → (IntKind.i64.wrap (2 ^ a0.toNat)) = ji6 := fun hle_ => by have h_ := hji6z hle_; rw [Int.one_mul] at h_; exact h_
      have hji6y : (wrap64 (1 * 2 ^ min a0.toNat 64)) = ji6 := (i64_w _).symm.trans hji6_
      have hji6x : a0 ≤ 64 → (wrap64 (1 * 2 ^ a0.toNat)) = ji6 := fun h_ => (i64_w _).symm.trans (hji6z h_)
      have H' := Aside0.mk H
      clear H
      go_enter Try.func33, Try.ntmps33
      go_wp2_with (first | ((with_reducible refine gate_callee (f := 28) rfl ?_); refine goesL_ (some 9) rfl rfl Try.func28 (by kernel_rfl) rfl #[.int .i64 a0, .int .i64 a1] rfl (by (try simp only [List.map_toArray, List.map_cons, List.map_nil]); first | done | rfl | (simp only [List.length_drop, List.length_take]; rfl)) ?_; (with_reducible refine (impl_TableOk.calls a0 a1 true _ A3.out).mono ?_); rintro e w' ⟨rfl, ⟨nd, rfl⟩⟩; refine ⟨_, rfl, ?_⟩) | ((with_reducible refine gate_dst (N := 11) rfl ?_); refine Kd.R_lit (Kd.int .i64) _ 3 ?hg (N := 11) ?hd (xs := ([] : List Int)) (inner := []) (ok := fun _ => True) (okp := fun _ => True) ?hr ?hp (fun _ hk => hk) trivial (Below.refl _ _) (Nat.le_refl _) (by simp) ?_; (case hd => rfl); (case hg => rfl); (case hr => first | (go_simp; done) | (go_simp; rfl)); (case hp => exact (Reps.none _ _)); intro v151 w7 ho8 hb hg_ hnew_; clear hg_ hnew_; (first | rw [← Ny150.out] at ho8 | (simp only [Int.reduceToNat] at ho8; rw [← Ny150.out] at ho8)); have n0_ := Aside0.mk (Kd.R_lower ho8 (below_size (by repeat (first | (with_reducible first | exact HB.out | apply below_alloc | apply pw_below_drewN | apply below_drew1) | exact HB.out)))); have n1_ := Aside0.mk (below_step (by repeat (first | (with_reducible first | exact HB.out | apply below_alloc | apply pw_below_drewN | apply below_drew1) | exact HB.out)) hb); clear HB; have HO152 := n0_; have HB := n1_; clear n0_ n1_; clear hb ho8))
      go_loopg [5, 14] k (fun kq v5 v14 w' => ∃ (x5_1 : List Int) (x14_1 : Int), v14 = .int .i64 x14_1 ∧ Aside0 (impl_WorldsIn.l0 kq a1 x5_1 ji6 x14_1 = some r) ∧ Aside0 (kq ≤ k) ∧ Aside0 (Kd.R (Kd.int .i64) 3 w' w.heap.size (fun _ => True) v5 x5_1) ∧ Aside0 (Below w.heap.size w w'))
      case atStart => exact ⟨(y150), (0), (by first | rfl | (simp; done) | (simp [*]; done)), H', ⟨Nat.le_refl _⟩, ⟨by (with_reducible repeat (first | apply Kd.R_alloc | apply Kd.R_drewN | apply Kd.R_drew)); exact HO152.out⟩, ⟨by repeat (first | (with_reducible first | exact HB.out | apply below_alloc | apply pw_below_drewN | apply below_drew1) | exact HB.out)⟩⟩
      case round =>
        clear H'
        try clear c2
        try clear p2
        try clear c3
        try clear c4
        try clear c5
        try clear c5b0
        try clear c5b1
        try clear p6
        obtain ⟨x5_1, x14_1, rfl, HA, HK1, HO_5, HB⟩ := hrel
        cases gk with
        | zero => exact absurd HA.out (by simp [impl_WorldsIn.l0])
        | succ k1 =>
          have H := HA.out
          clear HA
          simp only [impl_WorldsIn.l0] at H
          by_cases c9 : x14_1 < ji6
          · rw [if_pos c9] at H
            have c9b0 : decide (x14_1 < ji6) = true := decide_eq_true c9
            clear c9
            by_cases c10 : 0 ≤ x14_1
            · rw [if_pos c10] at H
              have c10b0 := eq_true c10
              have c10b1 : decide (0 ≤ x14_1) = true := decide_eq_true c10
              clear c10
              obtain ⟨ji11, hji11⟩ : ∃ j_ : Int, (shr .i64 a1 x14_1) = j_ := ⟨_, rfl⟩
              replace H : (if (Go.bits .and .i64 (ji11) 1) = 1 then (if x5_1.length < 17592186044416 then (impl_WorldsIn.l0 k1 a1 (x5_1 ++ [x14_1]) ji6 (wrap64 (x14_1 + 1))) else (none)) else (impl_WorldsIn.l0 k1 a1 x5_1 ji6 (wrap64 (x14_1 + 1)))) = some r := by first | (rw [hji11] at H; exact H) | (simp only [hji11] at H ⊢; exact H)
              have hji11_ : (a1 / 2 ^ min x14_1.toNat 64) = ji11 := hji11
              have hji11z : x14_1 ≤ 64 → (a1 / 2 ^ x14_1.toNat) = ji11 := shr_small hji11
              by_cases c12 : (Go.bits .and .i64 (ji11) 1) = 1
              · rw [if_pos c12] at H
                have c12b0 : ((Go.bits .and .i64 (ji11) 1) == 1) = true := beq_iff_eq.mpr c12
                have c12b1 : ((Go.bits .and .i64 (ji11) 1) != 1) = false := bne_eq_false_iff_eq.mpr c12
                clear c12
                by_cases c13 : x5_1.length < 17592186044416
                · rw [if_pos c13] at H
                  have LMc13 := Aside0.mk c13
                  clear c13
                  obtain ⟨y153, hy153⟩ : ∃ y_ : List Int, y_ = (x5_1 ++ [x14_1]) := ⟨_, rfl⟩
                  replace H : (impl_WorldsIn.l0 k1 a1 y153 ji6 (wrap64 (x14_1 + 1))) = some r := by first | (rw [hy153]; with_reducible exact H) | (have H2_ := (Option.bind_some _ _).symm.trans H; rw [hy153]; with_reducible exact H2_) | (have H2_ := (Option.bind_some _ _).symm.trans H; with_reducible exact H2_) | with_reducible exact H | (rw [hy153]; exact H) | exact H
                  have Ny153 := Aside0.mk hy153
                  clear hy153
                  have H' := Aside0.mk H
                  clear H
                  go_wp2_with (first | ((with_reducible refine gate_builtin (b := .append) (xs := #[.tmp 22, .tmp 24]) rfl ?_); at_builtin; refine Kd.R_append (Kd.int .i64) (w0 := w) w.heap.size rfl (.tmp 22) (.tmp 24) 58 3 (.int .i64 0) 8 rfl Try.underlying58 info3 rfl (by decide) (by omega) u5 x5_1 x14_1 [.int .i64 x14_1] (fun _ => True) (fun _ => False) rfl rfl ?aP (fun _ hk => hk.elim) ?aF ?aO ?aB ?aS ?aL ?_; (case aP => exact rfl); (case aB => exact (by repeat (first | (with_reducible first | exact HB.out | apply below_alloc | apply pw_below_drewN | apply below_drew1) | exact HB.out))); (case aF => exact (fun _ _ => trivial)); (case aO => exact (by (with_reducible repeat (first | apply Kd.R_alloc | apply Kd.R_drewN | apply Kd.R_drew)); exact HO_5.out)); (case aS => exact (below_size (by repeat (first | (with_reducible first | exact HB.out | apply below_alloc | apply pw_below_drewN | apply below_drew1) | exact HB.out)))); (case aL => have := LMc13.out; omega); intro v154 w14 ho hb hg hat; rw [← Ny153.out] at ho; have n0_ := Aside0.mk (hb); have n1_ := Aside0.mk (ho); clear HB; clear HO_5; have HB := n0_; have HO155 := n1_; clear n0_ n1_; clear ho hb hg hat))
                  go_roundg k1
                  case measure => have := HK1.out; omega
                  case rel => exact ⟨(y153), (wrap64 (x14_1 + 1)), (by first | rfl | (simp; done) | (simp [*]; done)), H', ⟨by have := HK1.out; omega⟩, ⟨by (with_reducible repeat (first | apply Kd.R_alloc | apply Kd.R_drewN | apply Kd.R_drew)); exact HO155.out⟩, ⟨by repeat (first | (with_reducible first | exact HB.out | apply below_alloc | apply pw_below_drewN | apply below_drew1) | exact HB.out)⟩⟩
                · rw [if_neg c13] at H
                  exact absurd H (by simp)
              · rw [if_neg c12] at H
                have c12b0 : ((Go.bits .and .i64 (ji11) 1) == 1) = false := beq_eq_false_iff_ne.mpr c12
                have c12b1 : ((Go.bits .and .i64 (ji11) 1) != 1) = true := bne_iff_ne.mpr c12
                have H' := Aside0.mk H
                clear H
                go_wp2
                go_roundg k1
                case measure => have := HK1.out; omega
                case rel => exact ⟨(x5_1), (wrap64 (x14_1 + 1)), (by first | rfl | (simp; done) | (simp [*]; done)), H', ⟨by have := HK1.out; omega⟩, ⟨by (with_reducible repeat (first | apply Kd.R_alloc | apply Kd.R_drewN | apply Kd.R_drew)); exact HO_5.out⟩, ⟨by repeat (first | (with_reducible first | exact HB.out | apply below_alloc | apply pw_below_drewN | apply below_drew1) | exact HB.out)⟩⟩
            · rw [if_neg c10] at H
              exact absurd H (by simp)
          · rw [if_neg c9] at H
            have c9b0 : decide (x14_1 < ji6) = false := decide_eq_false c9
            clear c9
            obtain rfl := Option.some.inj H
            go_wp2
            go_ret
            exact ⟨_, by first | rfl | (simp [errW_none, errW_some] <;> rfl) | (simp only [← hji6]; first | rfl | (simp [errW_none, errW_some] <;> rfl)) | (simp [*, errW_none, errW_some] <;> rfl), by (with_reducible repeat (first | apply Kd.R_alloc | apply Kd.R_drewN | apply Kd.R_drew)); exact HO_5.out, by repeat (first | (with_reducible first | exact HB.out | apply below_alloc | apply pw_below_drewN | apply below_drew1) | exact HB.out)⟩
    · rw [if_neg c5] at H
      exact absurd H (by simp)
  · replace c4 := Bool.eq_false_iff.mpr c4
    subst c4
    have H1 : (some ([] : List Int)) = some r := by rw [if_neg (show ¬ (false = true) by decide)] at H; exact H
    clear H
    have H := H1
    clear H1
    obtain rfl := Option.some.inj H
    go_enter Try.func33, Try.ntmps33
    go_wp2_with (first | ((with_reducible refine gate_callee (f := 28) rfl ?_); refine goesL_ (some 9) rfl rfl Try.func28 (by kernel_rfl) rfl #[.int .i64 a0, .int .i64 a1] rfl (by (try simp only [List.map_toArray, List.map_cons, List.map_nil]); first | done | rfl | (simp only [List.length_drop, List.length_take]; rfl)) ?_; (with_reducible refine (impl_TableOk.calls a0 a1 false _ A3.out).mono ?_); rintro e w' ⟨rfl, ⟨nd, rfl⟩⟩; refine ⟨_, rfl, ?_⟩))
    go_ret
    exact ⟨_, by first | rfl | (simp [errW_none, errW_some] <;> rfl) | (simp [*, errW_none, errW_some] <;> rfl), by first | exact Kd.R_nil _ _ _ _ _ | exact Kd.N_nil _ _ _ _ _ | exact Kd.V_nil _ _ _ _ _ | exact Kd.Q_nil _ _ _ _ _ | exact Kd.S_nil _ _ _ _ _, by repeat (first | (with_reducible first | exact HB.out | apply below_alloc | apply pw_below_drewN | apply below_drew1) | exact HB.out)⟩

end Go.Proofs.Ytgcdlkpjjnglbaa.PA

namespace Go.Proofs.Ytgcdlkpjjnglbaa.PA
open Go.RowKit Go.Proofs.YtgcdlkpjjnglbaaW.PrintWords Go.Proofs.YtgcdlkpjjnglbaaW.PrintLast Go.Proofs.YtgcdlkpjjnglbaaW.PrintMore
attribute [local go_sem] max2_int min2_int max_two min_two max_three min_three max_four min_four   -- for this text's walks alone
set_option linter.unusedVariables false
set_option linter.unusedSimpArgs false

/-! ### impl_KnownTeller: function 11 -/
mutual
def impl_KnownTeller.l0 : Nat → Int → Int → List Int → Int → Int → Option (Int)
  | 0, _, _, _, _, _ => none
  | k + 1, x0, x6, x19, x20, x21 => if x21 < x20 then (if 0 ≤ x21 then (if x21 < (x19.length : Int) then (impl_KnownTeller.l0 k x0 (Go.bits .and .i64 x6 (rd x19 x21)) x19 x20 (wrap64 (x21 + 1))) else (none)) else (none)) else (impl_KnownTeller.l1 k x6 x0 0)
def impl_KnownTeller.l1 : Nat → Int → Int → Int → Option (Int)
  | 0, _, _, _ => none
  | k + 1, x6, x29, x30 => if x30 < x29 then (if 0 ≤ x30 then (if (Go.bits .and .i64 (shr .i64 x6 x30) 1) = 1 then (some x30) else (impl_KnownTeller.l1 k x6 x29 (wrap64 (x30 + 1)))) else (none)) else (some (-1))
end
def impl_KnownTeller.f (k : Nat) (a0 : Int) (a1 : Int) : Option (Int) := (impl_WorldsIn.f k a0 a1).bind fun t156 => (if (t156.length : Int) = 0 then (some (-1)) else (if 0 ≤ a0 then (impl_KnownTeller.l0 k a0 (wrap64 ((shl .i64 1 a0) - 1)) t156 (t156.length : Int) 0) else (none)))
theorem impl_KnownTeller.mono_l : ∀ k, (∀ y0 y1 y2 y3 y4, LeO (impl_KnownTeller.l0 k y0 y1 y2 y3 y4) (impl_KnownTeller.l0 (k + 1) y0 y1 y2 y3 y4)) ∧ (∀ y0 y1 y2, LeO (impl_KnownTeller.l1 k y0 y1 y2) (impl_KnownTeller.l1 (k + 1) y0 y1 y2))
  | 0 => ⟨fun _ _ _ _ _ r h => by simp [impl_KnownTeller.l0] at h, fun _ _ _ r h => by simp [impl_KnownTeller.l1] at h⟩
  | k + 1 => by
    obtain ⟨ih0, ih1⟩ := impl_KnownTeller.mono_l k
    refine ⟨?_, ?_⟩
    · intro y0 y1 y2 y3 y4
      unfold impl_KnownTeller.l0
      repeat' first
      | (with_reducible exact ih0 _ _ _ _ _)
      | (with_reducible exact ih1 _ _ _)
      | (with_reducible exact impl_WorldsIn.mono _ _ _)
      | (with_reducible exact LeO.refl _)
      | (with_reducible exact LeO.none _)
      | (with_reducible refine LeO.ite ?_ ?_)
      | (with_reducible refine LeO.bind ?_ (fun _ => ?_))
      | exact ih0 _ _ _ _ _
      | exact ih1 _ _ _
      | exact impl_WorldsIn.mono _ _ _
      | exact LeO.none _
      | refine LeO.ite ?_ ?_
      | refine LeO.bind ?_ (fun _ => ?_)
    · intro y0 y1 y2
      unfold impl_KnownTeller.l1
      repeat' first
      | (with_reducible exact ih0 _ _ _ _ _)
      | (with_reducible exact ih1 _ _ _)
      | (with_reducible exact impl_WorldsIn.mono _ _ _)
      | (with_reducible exact LeO.refl _)
      | (with_reducible exact LeO.none _)
      | (with_reducible refine LeO.ite ?_ ?_)
      | (with_reducible refine LeO.bind ?_ (fun _ => ?_))
      | exact ih0 _ _ _ _ _
      | exact ih1 _ _ _
      | exact impl_WorldsIn.mono _ _ _
      | exact LeO.none _
      | refine LeO.ite ?_ ?_
      | refine LeO.bind ?_ (fun _ => ?_)
theorem impl_KnownTeller.mono : ∀ a0 a1 k, LeO (impl_KnownTeller.f k a0 a1) (impl_KnownTeller.f (k + 1) a0 a1) := by
  intro a0 a1 k
  obtain ⟨ih0, ih1⟩ := impl_KnownTeller.mono_l k
  unfold impl_KnownTeller.f
  repeat' first
      | (with_reducible exact ih0 _ _ _ _ _)
      | (with_reducible exact ih1 _ _ _)
      | (with_reducible exact impl_WorldsIn.mono _ _ _)
      | (with_reducible exact LeO.refl _)
      | (with_reducible exact LeO.none _)
      | (with_reducible refine LeO.ite ?_ ?_)
      | (with_reducible refine LeO.bind ?_ (fun _ => ?_))
      | exact ih0 _ _ _ _ _
      | exact ih1 _ _ _
      | exact impl_WorldsIn.mono _ _ _
      | exact LeO.none _
      | refine LeO.ite ?_ ?_
      | refine LeO.bind ?_ (fun _ => ?_)
set_option maxHeartbeats 8000000 in
set_option maxRecDepth 100000 in
theorem impl_KnownTeller.calls (k : Nat) (a0 : Int) (a1 : Int) (r : Int) (w : World) (h : impl_KnownTeller.f k a0 a1 = some r) :
    Calls Try.prog 11 #[.int .i64 a0, .int .i64 a1] w fun e w' => e = .returned (.int .i64 r) ∧ Below w.heap.size w w' := by
  have HB := Aside0.mk (Below.refl w.heap.size w)
  have H : ((impl_WorldsIn.f k a0 a1).bind fun t156 => (if (t156.length : Int) = 0 then (some (-1)) else (if 0 ≤ a0 then (impl_KnownTeller.l0 k a0 (wrap64 ((shl .i64 1 a0) - 1)) t156 (t156.length : Int) 0) else (none)))) = some r := h
  clear h
  replace H := Option.bind_eq_some_iff.mp H
  obtain ⟨t156, A30, H⟩ := H
  replace H : (if (t156.length : Int) = 0 then (some (-1)) else (if 0 ≤ a0 then (impl_KnownTeller.l0 k a0 (wrap64 ((shl .i64 1 a0) - 1)) t156 (t156.length : Int) 0) else (none))) = some r := H
  have A3 := Aside0.mk A30
  clear A30
  by_cases c4 : (t156.length : Int) = 0
  · rw [if_pos c4] at H
    have c4b0 : ((t156.length : Int) == 0) = true := beq_iff_eq.mpr c4
    have c4b1 : ((t156.length : Int) != 0) = false := bne_eq_false_iff_eq.mpr c4
    clear c4
    obtain rfl := Option.some.inj H
    go_enter Try.func11, Try.ntmps11
    go_wp2_with (first | ((with_reducible refine gate_callee (f := 33) rfl ?_); refine goesL_ (some 12) rfl rfl Try.func33 (by kernel_rfl) rfl #[.int .i64 a0, .int .i64 a1] rfl (by (try simp only [List.map_toArray, List.map_cons, List.map_nil]); first | done | rfl | (simp only [List.length_drop, List.length_take]; rfl)) ?_; (with_reducible refine (impl_WorldsIn.calls k a0 a1 t156 _ A3.out).mono ?_); rintro e w5 ⟨v157, rfl, ho0, hb⟩; refine ⟨_, rfl, ?_⟩; have n0_ := Aside0.mk (Kd.R_lower ho0 (below_size (by repeat (first | (with_reducible first | exact HB.out | apply below_alloc | apply pw_below_drewN | apply below_drew1) | exact HB.out)))); have n1_ := Aside0.mk (below_step (by repeat (first | (with_reducible first | exact HB.out | apply below_alloc | apply pw_below_drewN | apply below_drew1) | exact HB.out)) hb); clear HB; have HO158 := n0_; have HB := n1_; clear n0_ n1_; (try clear hb); (try clear hb2); (try clear hk); (try clear hi); (try clear ho0); obtain ⟨Ao6, co6, eo6⟩ := Kd.R_slice HO158.out; subst eo6))
    go_ret
    exact ⟨by first | rfl | (simp [errW_none, errW_some] <;> rfl) | (simp [*, errW_none, errW_some] <;> rfl), by repeat (first | (with_reducible first | exact HB.out | apply below_alloc | apply pw_below_drewN | apply below_drew1) | exact HB.out)⟩
  · rw [if_neg c4] at H
    have c4b0 : ((t156.length : Int) == 0) = false := beq_eq_false_iff_ne.mpr c4
    have c4b1 : ((t156.length : Int) != 0) = true := bne_iff_ne.mpr c4
    have c4b2 : ¬ (t156 = []) := fun h_ => c4 (by rw [h_]; rfl)
    by_cases c7 : 0 ≤ a0
    · rw [if_pos c7] at H
      have c7b0 := eq_true c7
      have c7b1 : decide (0 ≤ a0) = true := decide_eq_true c7
      clear c7
      obtain ⟨ji8, hji8⟩ : ∃ j_ : Int, (shl .i64 1 a0) = j_ := ⟨_, rfl⟩
      replace H : (impl_KnownTeller.l0 k a0 (wrap64 ((ji8) - 1)) t156 (t156.length : Int) 0) = some r := by first | (rw [hji8] at H; exact H) | (simp only [hji8] at H ⊢; exact H)
      (try rw [hji8] at A3)
      have hji8_ : (IntKind.i64.wrap (1 * 2 ^ min a0.toNat 64)) = ji8 := hji8
      have hji8z : a0 ≤ 64 → (IntKind.i64.wrap (1 * 2 ^ a0.toNat)) = ji8 := shl_small hji8
      have hji8u : (IntKind.i64.wrap (2 ^ min a0.toNat 64)) = ji8 := by have h_ := hji8_; rw [Int.one_mul] at h_; exact h_
      have hji8v : a0 ≤ 64 → (IntKind.i64.wrap (2 ^ a0.toNat)) = ji8 := fun hle_ => by have h_ := hji8z hle_; rw [Int.one_mul] at h_; exact h_
      have hji8y : (wrap64 (1 * 2 ^ min a0.toNat 64)) = ji8 := (i64_w _).symm.trans hji8_
      have hji8x : a0 ≤ 64 → (wrap64 (1 * 2 ^ a0.toNat)) = ji8 := fun h_ => (i64_w _).symm.trans (hji8z h_)
      have H' := Aside0.mk H
      clear H
      go_enter Try.func11, Try.ntmps11
      go_wp2_with (first | ((with_reducible refine gate_callee (f := 33) rfl ?_); refine goesL_ (some 12) rfl rfl Try.func33 (by kernel_rfl) rfl #[.int .i64 a0, .int .i64 a1] rfl (by (try simp only [List.map_toArray, List.map_cons, List.map_nil]); first | done | rfl | (simp only [List.length_drop, List.length_take]; rfl)) ?_; (with_reducible refine (impl_WorldsIn.calls k a0 a1 t156 _ A3.out).mono ?_); rintro e w9 ⟨v157, rfl, ho0, hb⟩; refine ⟨_, rfl, ?_⟩; have n0_ := Aside0.mk (Kd.R_lower ho0 (below_size (by repeat (first | (with_reducible first | exact HB.out | apply below_alloc | apply pw_below_drewN | apply below_drew1) | exact HB.out)))); have n1_ := Aside0.mk (below_step (by repeat (first | (with_reducible first | exact HB.out | apply below_alloc | apply pw_below_drewN | apply below_drew1) | exact HB.out)) hb); clear HB; have HO158 := n0_; have HB := n1_; clear n0_ n1_; (try clear hb); (try clear hb2); (try clear hk); (try clear hi); (try clear ho0); obtain ⟨Ao10, co10, eo10⟩ := Kd.R_slice HO158.out; subst eo10))
      go_loopg [6, 21] k (fun kq v6 v21 w' => ∃ (x6_1 : Int) (x21_1 : Int), v6 = .int .i64 x6_1 ∧ v21 = .int .i64 x21_1 ∧ Aside0 (impl_KnownTeller.l0 kq a0 x6_1 t156 (t156.length : Int) x21_1 = some r) ∧ Aside0 (kq ≤ k) ∧ Aside0 (Kd.R (Kd.int .i64) 3 w' w.heap.size (fun _ => True) (.slice Ao10 t156.length co10) t156) ∧ Aside0 (Below w.heap.size w w'))
      case atStart => exact ⟨(wrap64 ((ji8) - 1)), (0), (by first | rfl | (simp; done) | (simp only [← hji8] <;> (first | rfl | simp)) | (simp [*]; done)), (by first | rfl | (simp; done) | (simp [*]; done)), H', ⟨Nat.le_refl _⟩, ⟨by (with_reducible repeat (first | apply Kd.R_alloc | apply Kd.R_drewN | apply Kd.R_drew)); exact HO158.out⟩, ⟨by repeat (first | (with_reducible first | exact HB.out | apply below_alloc | apply pw_below_drewN | apply below_drew1) | exact HB.out)⟩⟩
      case round =>
        clear H'
        try clear c1
        try clear p2
        try clear c3
        try clear c4
        try clear c4b0
        try clear c4b1
        try clear c4b2
        try clear p6
        try clear c7
        try clear c7b0
        try clear c7b1
        obtain ⟨x6_1, x21_1, rfl, rfl, HA, HK1, HO_19, HB⟩ := hrel
        cases gk with
        | zero => exact absurd HA.out (by simp [impl_KnownTeller.l0])
        | succ k1 =>
          have H := HA.out
          clear HA
          simp only [impl_KnownTeller.l0] at H
          by_cases c11 : x21_1 < (t156.length : Int)
          · rw [if_pos c11] at H
            have c11b0 : decide (x21_1 < (t156.length : Int)) = true := decide_eq_true c11
            clear c11
            by_cases c12 : 0 ≤ x21_1
            · rw [if_pos c12] at H
              have c12b0 : decide (0 ≤ x21_1) = true := decide_eq_true c12
              clear c12
              by_cases c13 : x21_1 < (t156.length : Int)
              · rw [if_pos c13] at H
                have c13b0 : decide (x21_1 < (t156.length : Int)) = true := decide_eq_true c13
                clear c13
                have H' := Aside0.mk H
                clear H
                have p159 : 0 ≤ (x21_1 : Int) := of_decide_eq_true (by first | (with_reducible assumption) | assumption)
                have q159 : x21_1 < (t156.length : Int) := of_decide_eq_true (by first | (with_reducible assumption) | assumption)
                obtain ⟨ad159, e159, hx159_0⟩ := Kd.at_int (Kd.R_reads' HO_19.out).2.2 x21_1 p159 q159
                cases e159
                replace p159 := eq_true p159
                replace q159 := eq_true q159
                go_wp2
                go_roundg k1
                case measure => have := HK1.out; omega
                case rel => exact ⟨(Go.bits .and .i64 x6_1 (rd t156 x21_1)), (wrap64 (x21_1 + 1)), (by first | rfl | (simp; done) | (simp [*]; done)), (by first | rfl | (simp; done) | (simp [*]; done)), H', ⟨by have := HK1.out; omega⟩, ⟨by (with_reducible repeat (first | apply Kd.R_alloc | apply Kd.R_drewN | apply Kd.R_drew)); exact HO_19.out⟩, ⟨by repeat (first | (with_reducible first | exact HB.out | apply below_alloc | apply pw_below_drewN | apply below_drew1) | exact HB.out)⟩⟩
              · rw [if_neg c13] at H
                exact absurd H (by simp)
            · rw [if_neg c12] at H
              exact absurd H (by simp)
          · rw [if_neg c11] at H
            have c11b0 : decide (x21_1 < (t156.length : Int)) = false := decide_eq_false c11
            clear c11
            have H' := Aside0.mk H
            clear H
            go_wp2
            go_loopg [30] k1 (fun kq v30 w' => ∃ (x30_2 : Int), v30 = .int .i64 x30_2 ∧ Aside0 (impl_KnownTeller.l1 kq x6_1 a0 x30_2 = some r) ∧ Aside0 (kq ≤ k1) ∧ Aside0 (Below w.heap.size w w'))
            case atStart => exact ⟨(0), (by first | rfl | (simp; done) | (simp [*]; done)), H', ⟨Nat.le_refl _⟩, ⟨by repeat (first | (with_reducible first | exact HB.out | apply below_alloc | apply pw_below_drewN | apply below_drew1) | exact HB.out)⟩⟩
            case round =>
              clear H'
              try clear c1
              try clear p1
              try clear q1
              try clear hx1
              try clear p2
              try clear c3
              try clear c4
              try clear c4b0
              try clear c4b1
              try clear c4b2
              try clear p6
              try clear c7
              try clear c7b0
              try clear c7b1
              try clear c11
              try clear c11b0
              try clear c12
              try clear c12b0
              try clear c13
              try clear c13b0
              try clear hx159_0
              try clear p159
              try clear p2
              try clear p6
              try clear q159
              obtain ⟨x30_2, rfl, HA, HK2, HB⟩ := hrel
              cases gk with
              | zero => exact absurd HA.out (by simp [impl_KnownTeller.l1])
              | succ k2 =>
                have H := HA.out
                clear HA
                simp only [impl_KnownTeller.l1] at H
                by_cases c14 : x30_2 < a0
                · rw [if_pos c14] at H
                  have c14b0 : decide (x30_2 < a0) = true := decide_eq_true c14
                  clear c14
                  by_cases c15 : 0 ≤ x30_2
                  · rw [if_pos c15] at H
                    have c15b0 := eq_true c15
                    have c15b1 : decide (0 ≤ x30_2) = true := decide_eq_true c15
                    clear c15
                    obtain ⟨ji16, hji16⟩ : ∃ j_ : Int, (shr .i64 x6_1 x30_2) = j_ := ⟨_, rfl⟩
                    replace H : (if (Go.bits .and .i64 (ji16) 1) = 1 then (some x30_2) else (impl_KnownTeller.l1 k2 x6_1 a0 (wrap64 (x30_2 + 1)))) = some r := by first | (rw [hji16] at H; exact H) | (simp only [hji16] at H ⊢; exact H)
                    have hji16_ : (x6_1 / 2 ^ min x30_2.toNat 64) = ji16 := hji16
                    have hji16z : x30_2 ≤ 64 → (x6_1 / 2 ^ x30_2.toNat) = ji16 := shr_small hji16
                    by_cases c17 : (Go.bits .and .i64 (ji16) 1) = 1
                    · rw [if_pos c17] at H
                      have c17b0 : ((Go.bits .and .i64 (ji16) 1) == 1) = true := beq_iff_eq.mpr c17
                      have c17b1 : ((Go.bits .and .i64 (ji16) 1) != 1) = false := bne_eq_false_iff_eq.mpr c17
                      clear c17
                      obtain rfl := Option.some.inj H
                      go_wp2
                      go_ret
                      exact ⟨by first | rfl | (simp [errW_none, errW_some] <;> rfl) | (simp only [← hji8, ← hji16]; first | rfl | (simp [errW_none, errW_some] <;> rfl)) | (simp [*, errW_none, errW_some] <;> rfl), by repeat (first | (with_reducible first | exact HB.out | apply below_alloc | apply pw_below_drewN | apply below_drew1) | exact HB.out)⟩
                    · rw [if_neg c17] at H
                      have c17b0 : ((Go.bits .and .i64 (ji16) 1) == 1) = false := beq_eq_false_iff_ne.mpr c17
                      have c17b1 : ((Go.bits .and .i64 (ji16) 1) != 1) = true := bne_iff_ne.mpr c17
                      have H' := Aside0.mk H
                      clear H
                      go_wp2
                      go_roundg k2
                      case measure => have := HK1.out; have := HK2.out; omega
                      case rel => exact ⟨(wrap64 (x30_2 + 1)), (by first | rfl | (simp; done) | (simp [*]; done)), H', ⟨by have := HK1.out; have := HK2.out; omega⟩, ⟨by repeat (first | (with_reducible first | exact HB.out | apply below_alloc | apply pw_below_drewN | apply below_drew1) | exact HB.out)⟩⟩
                  · rw [if_neg c15] at H
                    exact absurd H (by simp)
                · rw [if_neg c14] at H
                  have c14b0 : decide (x30_2 < a0) = false := decide_eq_false c14
                  clear c14
                  obtain rfl := Option.some.inj H
                  go_wp2
                  go_ret
                  exact ⟨by first | rfl | (simp [errW_none, errW_some] <;> rfl) | (simp only [← hji8]; first | rfl | (simp [errW_none, errW_some] <;> rfl)) | (simp [*, errW_none, errW_some] <;> rfl), by repeat (first | (with_reducible first | exact HB.out | apply below_alloc | apply pw_below_drewN | apply below_drew1) | exact HB.out)⟩
    · rw [if_neg c7] at H
      exact absurd H (by simp)

end Go.Proofs.Ytgcdlkpjjnglbaa.PA

/- Whole numbers' bits at int64 where both sides are natural numbers below 2^63; tables as numbers; function values that tell a world apart. -/
namespace Go.Proofs.Ytgcdlkpjjnglbaa.PA
open Go.RowKit
set_option linter.unusedVariables false
set_option linter.unusedSimpArgs false
theorem ofInt_i64 (a : Nat) (ha : a < 9223372036854775808) : (BitVec.ofInt 64 (a : Int)).toNat = a := by
  rw [BitVec.ofInt_natCast, BitVec.toNat_ofNat]; exact Nat.mod_eq_of_lt (by omega)
theorem i64_and_nat (a b : Nat) (ha : a < 9223372036854775808) (hb : b < 9223372036854775808) : bits .and .i64 (a : Int) (b : Int) = ((a &&& b : Nat) : Int) := by
  have hx : a &&& b < 2 ^ 63 := Nat.and_lt_two_pow _ (by omega)
  show IntKind.i64.wrap ((BitVec.ofInt 64 (a : Int) &&& BitVec.ofInt 64 (b : Int)).toNat : Int) = _
  rw [BitVec.toNat_and, ofInt_i64 a ha, ofInt_i64 b hb, IntKind.wrap_i64]
  omega
theorem i64_or_nat (a b : Nat) (ha : a < 9223372036854775808) (hb : b < 9223372036854775808) : bits .or .i64 (a : Int) (b : Int) = ((a ||| b : Nat) : Int) := by
  have hx : a ||| b < 2 ^ 63 := Nat.or_lt_two_pow (by omega) (by omega)
  show IntKind.i64.wrap ((BitVec.ofInt 64 (a : Int) ||| BitVec.ofInt 64 (b : Int)).toNat : Int) = _
  rw [BitVec.toNat_or, ofInt_i64 a ha, ofInt_i64 b hb, IntKind.wrap_i64]
  omega
theorem i64_xor_nat (a b : Nat) (ha : a < 9223372036854775808) (hb : b < 9223372036854775808) : bits .xor .i64 (a : Int) (b : Int) = ((a ^^^ b : Nat) : Int) := by
  have hx : a ^^^ b < 2 ^ 63 := Nat.xor_lt_two_pow (by omega) (by omega)
  show IntKind.i64.wrap ((BitVec.ofInt 64 (a : Int) ^^^ BitVec.ofInt 64 (b : Int)).toNat : Int) = _
  rw [BitVec.toNat_xor, ofInt_i64 a ha, ofInt_i64 b hb, IntKind.wrap_i64]
  omega
theorem i64_andNot_nat (a b : Nat) (ha : a < 9223372036854775808) (hb : b < 9223372036854775808) : bits .andNot .i64 (a : Int) (b : Int) = ((a &&& (a ^^^ b) : Nat) : Int) := by
  have hx : a &&& (a ^^^ b) < 2 ^ 63 := Nat.and_lt_two_pow _ (Nat.xor_lt_two_pow (by omega) (by omega))
  have e : (BitVec.ofInt 64 (a : Int) &&& ~~~ BitVec.ofInt 64 (b : Int)).toNat = a &&& (a ^^^ b) := by
    rw [BitVec.toNat_and, BitVec.toNat_not, ofInt_i64 a ha, ofInt_i64 b hb]
    apply Nat.eq_of_testBit_eq
    intro i
    rw [Nat.testBit_and, Nat.testBit_and, Nat.testBit_xor, Nat.sub_sub, Nat.add_comm 1 b, Nat.testBit_two_pow_sub_succ (by omega)]
    by_cases hi : i < 64
    · simp only [hi, decide_true, Bool.true_and]
      cases a.testBit i <;> cases b.testBit i <;> rfl
    · rw [Nat.testBit_lt_two_pow (x := a) (i := i)]
      · simp
      · exact Nat.lt_of_lt_of_le (show a < 2 ^ 64 by omega) (Nat.pow_le_pow_right (by omega) (by omega))
  show IntKind.i64.wrap ((BitVec.ofInt 64 (a : Int) &&& ~~~ BitVec.ofInt 64 (b : Int)).toNat : Int) = _
  rw [e, IntKind.wrap_i64]
  omega
theorem div_pow_nat (x i : Nat) : ((x : Int) / 2 ^ i) = ((x / 2 ^ i : Nat) : Int) := by
  have e : ((2 : Int) ^ i) = ((2 ^ i : Nat) : Int) := by simp
  rw [e]; rfl
/-- One bit, as Go asks it ('x>>i&1'). -/
theorem bit_at (x i : Nat) (hx : x < 9223372036854775808) : bits .and .i64 ((x : Int) / 2 ^ i) 1 = if x.testBit i then 1 else 0 := by
  have hd : x / 2 ^ i ≤ x := Nat.div_le_self _ _
  rw [div_pow_nat, show (1 : Int) = ((1 : Nat) : Int) from rfl, i64_and_nat _ _ (by omega) (by omega), Nat.and_one_is_mod, Nat.testBit_eq_decide_div_mod_eq]
  by_cases h : x / 2 ^ i % 2 = 1
  · simp [h]
  · have : x / 2 ^ i % 2 = 0 := by omega
    simp [this]
/-- A function value that tells of each world below n whether f holds; it turns nothing that lay. -/
def PredN (P : Program) (g : Nat) (lb : Array Value) (f : Nat → Bool) (n : Nat) (w : World) : Prop :=
  ∀ (W : World) (x : Nat), x < n → Below w.heap.size w W → Calls P g (#[.int .i64 (x : Int)] ++ lb) W fun e w' => e = .returned (.bool (f x)) ∧ Below w.heap.size w w'
end Go.Proofs.Ytgcdlkpjjnglbaa.PA

/- Plain theory: tables as numbers. -/
namespace Go.Proofs.Ytgcdlkpjjnglbaa.Tb
/-! tables as numbers -/
/-- the number whose bits below n are those for which f holds -/
def num (n : Nat) (f : Nat → Bool) : Nat := match n with
  | 0 => 0
  | n + 1 => num n f + if f n then 2 ^ n else 0
theorem num_lt (n f) : num n f < 2 ^ n := by
  induction n with
  | zero => simp [num]
  | succ n ih => simp only [num, Nat.pow_succ]; split <;> omega
theorem num_succ (n f) : num (n + 1) f = num n f + if f n then 2 ^ n else 0 := rfl
theorem testBit_num (n f i) : (num n f).testBit i = (decide (i < n) && f i) := by
  induction n with
  | zero => simp [num]
  | succ n ih =>
    have hlt := num_lt n f
    rw [num_succ]
    by_cases hf : f n = true
    · rw [if_pos hf, Nat.add_comm]
      by_cases h : i = n
      · subst h
        rw [Nat.testBit_two_pow_add_eq, Nat.testBit_lt_two_pow hlt]
        simp [hf]
      · rcases Nat.lt_or_gt_of_ne h with h | h
        · rw [Nat.testBit_two_pow_add_gt h, ih]
          simp [h, Nat.lt_succ_of_lt h]
        · rw [Nat.testBit_lt_two_pow]
          · have : ¬ i < n + 1 := by omega
            simp [this]
          · have : 2 ^ (n + 1) ≤ 2 ^ i := Nat.pow_le_pow_right (by omega) (by omega)
            rw [Nat.pow_succ] at this
            omega
    · rw [if_neg hf, Nat.add_zero, ih]
      by_cases h : i = n
      · subst h; simp [hf]
      · have : decide (i < n + 1) = decide (i < n) := by simp; omega
        rw [this]
theorem num_congr {n f g} (h : ∀ i, i < n → f i = g i) : num n f = num n g := by
  induction n with
  | zero => rfl
  | succ n ih => rw [num_succ, num_succ, ih (fun i hi => h i (by omega)), h n (by omega)]
theorem eq_num {n a : Nat} (h : a < 2 ^ n) : a = num n a.testBit := by
  apply Nat.eq_of_testBit_eq
  intro i
  rw [testBit_num]
  by_cases hi : i < n
  · simp [hi]
  · rw [Nat.testBit_lt_two_pow (Nat.lt_of_lt_of_le h (Nat.pow_le_pow_right (by omega) (by omega)))]; simp [hi]
theorem num_eq_iff {n : Nat} {f g : Nat → Bool} : num n f = num n g ↔ ∀ i, i < n → f i = g i := by
  constructor
  · intro h i hi
    have := congrArg (fun a => a.testBit i) h
    simpa [testBit_num, hi] using this
  · exact num_congr
theorem num_zero_iff {n : Nat} {f : Nat → Bool} : num n f = 0 ↔ ∀ i, i < n → f i = false := by
  constructor
  · intro h i hi
    have := congrArg (fun a => a.testBit i) h
    simpa [testBit_num, hi] using this
  · intro h
    apply Nat.eq_of_testBit_eq
    intro i
    rw [testBit_num]
    by_cases hi : i < n
    · simp [hi, h i hi]
    · simp [hi]
theorem or_step (n : Nat) (f : Nat → Bool) (h : f n = true) : num n f ||| 2 ^ n = num (n + 1) f := by
  apply Nat.eq_of_testBit_eq
  intro i
  rw [Nat.testBit_or, testBit_num, testBit_num, Nat.testBit_two_pow]
  by_cases h1 : i = n
  · subst h1; simp [h]
  · have : decide (i < n + 1) = decide (i < n) := by simp; omega
    have h2 : decide (n = i) = false := by simp; omega
    rw [this, h2]; simp
theorem skip_step (n : Nat) (f : Nat → Bool) (h : f n = false) : num n f = num (n + 1) f := by simp [num_succ, h]
theorem and_num (n f g) : num n f &&& num n g = num n (fun i => f i && g i) := by
  apply Nat.eq_of_testBit_eq; intro i
  rw [Nat.testBit_and, testBit_num, testBit_num, testBit_num]
  cases decide (i < n) <;> cases f i <;> cases g i <;> rfl
theorem full_num (n) : 2 ^ n - 1 = num n (fun _ => true) := by
  apply Nat.eq_of_testBit_eq; intro i
  rw [Nat.testBit_two_pow_sub_one, testBit_num]; simp
theorem all_and {n a : Nat} (h : a < 2 ^ n) : (2 ^ n - 1) &&& a = a := by
  apply Nat.eq_of_testBit_eq; intro i
  rw [Nat.testBit_and, Nat.testBit_two_pow_sub_one]
  by_cases hi : i < n
  · simp [hi]
  · rw [Nat.testBit_lt_two_pow (Nat.lt_of_lt_of_le h (Nat.pow_le_pow_right (by omega) (by omega)))]; simp
end Go.Proofs.Ytgcdlkpjjnglbaa.Tb

namespace Go.Proofs.Ytgcdlkpjjnglbaa.PA
open Go.RowKit Go.Proofs.YtgcdlkpjjnglbaaW.PrintWords Go.Proofs.YtgcdlkpjjnglbaaW.PrintLast Go.Proofs.YtgcdlkpjjnglbaaW.PrintMore
attribute [local go_sem] max2_int min2_int max_two min_two max_three min_three max_four min_four   -- for this text's walks alone
set_option linter.unusedVariables false
set_option linter.unusedSimpArgs false

/-! ### bits_OnesCount64: function 75 -/
def bits_OnesCount64.f (a0 : Int) : Option (Int) := some (Go.bits .and .i64 (wrap64 (IntKind.u64.wrap ((IntKind.u64.wrap ((IntKind.u64.wrap ((Go.bits .and .u64 (IntKind.u64.wrap (((IntKind.u64.wrap ((Go.bits .and .u64 ((IntKind.u64.wrap ((Go.bits .and .u64 (a0 / 2) 6148914691236517205) + (Go.bits .and .u64 a0 6148914691236517205))) / 4) 3689348814741910323) + (Go.bits .and .u64 (IntKind.u64.wrap ((Go.bits .and .u64 (a0 / 2) 6148914691236517205) + (Go.bits .and .u64 a0 6148914691236517205))) 3689348814741910323))) / 16) + (IntKind.u64.wrap ((Go.bits .and .u64 ((IntKind.u64.wrap ((Go.bits .and .u64 (a0 / 2) 6148914691236517205) + (Go.bits .and .u64 a0 6148914691236517205))) / 4) 3689348814741910323) + (Go.bits .and .u64 (IntKind.u64.wrap ((Go.bits .and .u64 (a0 / 2) 6148914691236517205) + (Go.bits .and .u64 a0 6148914691236517205))) 3689348814741910323))))) 1085102592571150095) + ((Go.bits .and .u64 (IntKind.u64.wrap (((IntKind.u64.wrap ((Go.bits .and .u64 ((IntKind.u64.wrap ((Go.bits .and .u64 (a0 / 2) 6148914691236517205) + (Go.bits .and .u64 a0 6148914691236517205))) / 4) 3689348814741910323) + (Go.bits .and .u64 (IntKind.u64.wrap ((Go.bits .and .u64 (a0 / 2) 6148914691236517205) + (Go.bits .and .u64 a0 6148914691236517205))) 3689348814741910323))) / 16) + (IntKind.u64.wrap ((Go.bits .and .u64 ((IntKind.u64.wrap ((Go.bits .and .u64 (a0 / 2) 6148914691236517205) + (Go.bits .and .u64 a0 6148914691236517205))) / 4) 3689348814741910323) + (Go.bits .and .u64 (IntKind.u64.wrap ((Go.bits .and .u64 (a0 / 2) 6148914691236517205) + (Go.bits .and .u64 a0 6148914691236517205))) 3689348814741910323))))) 1085102592571150095) / 256))) + ((IntKind.u64.wrap ((Go.bits .and .u64 (IntKind.u64.wrap (((IntKind.u64.wrap ((Go.bits .and .u64 ((IntKind.u64.wrap ((Go.bits .and .u64 (a0 / 2) 6148914691236517205) + (Go.bits .and .u64 a0 6148914691236517205))) / 4) 3689348814741910323) + (Go.bits .and .u64 (IntKind.u64.wrap ((Go.bits .and .u64 (a0 / 2) 6148914691236517205) + (Go.bits .and .u64 a0 6148914691236517205))) 3689348814741910323))) / 16) + (IntKind.u64.wrap ((Go.bits .and .u64 ((IntKind.u64.wrap ((Go.bits .and .u64 (a0 / 2) 6148914691236517205) + (Go.bits .and .u64 a0 6148914691236517205))) / 4) 3689348814741910323) + (Go.bits .and .u64 (IntKind.u64.wrap ((Go.bits .and .u64 (a0 / 2) 6148914691236517205) + (Go.bits .and .u64 a0 6148914691236517205))) 3689348814741910323))))) 1085102592571150095) + ((Go.bits .and .u64 (IntKind.u64.wrap (((IntKind.u64.wrap ((Go.bits .and .u64 ((IntKind.u64.wrap ((Go.bits .and .u64 (a0 / 2) 6148914691236517205) + (Go.bits .and .u64 a0 6148914691236517205))) / 4) 3689348814741910323) + (Go.bits .and .u64 (IntKind.u64.wrap ((Go.bits .and .u64 (a0 / 2) 6148914691236517205) + (Go.bits .and .u64 a0 6148914691236517205))) 3689348814741910323))) / 16) + (IntKind.u64.wrap ((Go.bits .and .u64 ((IntKind.u64.wrap ((Go.bits .and .u64 (a0 / 2) 6148914691236517205) + (Go.bits .and .u64 a0 6148914691236517205))) / 4) 3689348814741910323) + (Go.bits .and .u64 (IntKind.u64.wrap ((Go.bits .and .u64 (a0 / 2) 6148914691236517205) + (Go.bits .and .u64 a0 6148914691236517205))) 3689348814741910323))))) 1085102592571150095) / 256))) / 65536))) + ((IntKind.u64.wrap ((IntKind.u64.wrap ((Go.bits .and .u64 (IntKind.u64.wrap (((IntKind.u64.wrap ((Go.bits .and .u64 ((IntKind.u64.wrap ((Go.bits .and .u64 (a0 / 2) 6148914691236517205) + (Go.bits .and .u64 a0 6148914691236517205))) / 4) 3689348814741910323) + (Go.bits .and .u64 (IntKind.u64.wrap ((Go.bits .and .u64 (a0 / 2) 6148914691236517205) + (Go.bits .and .u64 a0 6148914691236517205))) 3689348814741910323))) / 16) + (IntKind.u64.wrap ((Go.bits .and .u64 ((IntKind.u64.wrap ((Go.bits .and .u64 (a0 / 2) 6148914691236517205) + (Go.bits .and .u64 a0 6148914691236517205))) / 4) 3689348814741910323) + (Go.bits .and .u64 (IntKind.u64.wrap ((Go.bits .and .u64 (a0 / 2) 6148914691236517205) + (Go.bits .and .u64 a0 6148914691236517205))) 3689348814741910323))))) 1085102592571150095) + ((Go.bits .and .u64 (IntKind.u64.wrap (((IntKind.u64.wrap ((Go.bits .and .u64 ((IntKind.u64.wrap ((Go.bits .and .u64 (a0 / 2) 6148914691236517205) + (Go.bits .and .u64 a0 6148914691236517205))) / 4) 3689348814741910323) + (Go.bits .and .u64 (IntKind.u64.wrap ((Go.bits .and .u64 (a0 / 2) 6148914691236517205) + (Go.bits .and .u64 a0 6148914691236517205))) 3689348814741910323))) / 16) + (IntKind.u64.wrap ((Go.bits .and .u64 ((IntKind.u64.wrap ((Go.bits .and .u64 (a0 / 2) 6148914691236517205) + (Go.bits .and .u64 a0 6148914691236517205))) / 4) 3689348814741910323) + (Go.bits .and .u64 (IntKind.u64.wrap ((Go.bits .and .u64 (a0 / 2) 6148914691236517205) + (Go.bits .and .u64 a0 6148914691236517205))) 3689348814741910323))))) 1085102592571150095) / 256))) + ((IntKind.u64.wrap ((Go.bits .and .u64 (IntKind.u64.wrap (((IntKind.u64.wrap ((Go.bits .and .u64 ((IntKind.u64.wrap ((Go.bits .and .u64 (a0 / 2) 6148914691236517205) + (Go.bits .and .u64 a0 6148914691236517205))) / 4) 3689348814741910323) + (Go.bits .and .u64 (IntKind.u64.wrap ((Go.bits .and .u64 (a0 / 2) 6148914691236517205) + (Go.bits .and .u64 a0 6148914691236517205))) 3689348814741910323))) / 16) + (IntKind.u64.wrap ((Go.bits .and .u64 ((IntKind.u64.wrap ((Go.bits .and .u64 (a0 / 2) 6148914691236517205) + (Go.bits .and .u64 a0 6148914691236517205))) / 4) 3689348814741910323) + (Go.bits .and .u64 (IntKind.u64.wrap ((Go.bits .and .u64 (a0 / 2) 6148914691236517205) + (Go.bits .and .u64 a0 6148914691236517205))) 3689348814741910323))))) 1085102592571150095) + ((Go.bits .and .u64 (IntKind.u64.wrap (((IntKind.u64.wrap ((Go.bits .and .u64 ((IntKind.u64.wrap ((Go.bits .and .u64 (a0 / 2) 6148914691236517205) + (Go.bits .and .u64 a0 6148914691236517205))) / 4) 3689348814741910323) + (Go.bits .and .u64 (IntKind.u64.wrap ((Go.bits .and .u64 (a0 / 2) 6148914691236517205) + (Go.bits .and .u64 a0 6148914691236517205))) 3689348814741910323))) / 16) + (IntKind.u64.wrap ((Go.bits .and .u64 ((IntKind.u64.wrap ((Go.bits .and .u64 (a0 / 2) 6148914691236517205) + (Go.bits .and .u64 a0 6148914691236517205))) / 4) 3689348814741910323) + (Go.bits .and .u64 (IntKind.u64.wrap ((Go.bits .and .u64 (a0 / 2) 6148914691236517205) + (Go.bits .and .u64 a0 6148914691236517205))) 3689348814741910323))))) 1085102592571150095) / 256))) / 65536))) / 4294967296)))) 127)
set_option maxHeartbeats 8000000 in
set_option maxRecDepth 100000 in
theorem bits_OnesCount64.calls (a0 : Int) (r : Int) (w : World) (h : bits_OnesCount64.f a0 = some r) :
    Calls Try.prog 75 #[.int .u64 a0] w fun e w' => e = .returned (.int .i64 r) ∧ Drawn0 w w' := by
  have H : (some (Go.bits .and .i64 (wrap64 (IntKind.u64.wrap ((IntKind.u64.wrap ((IntKind.u64.wrap ((Go.bits .and .u64 (IntKind.u64.wrap (((IntKind.u64.wrap ((Go.bits .and .u64 ((IntKind.u64.wrap ((Go.bits .and .u64 (a0 / 2) 6148914691236517205) + (Go.bits .and .u64 a0 6148914691236517205))) / 4) 3689348814741910323) + (Go.bits .and .u64 (IntKind.u64.wrap ((Go.bits .and .u64 (a0 / 2) 6148914691236517205) + (Go.bits .and .u64 a0 6148914691236517205))) 3689348814741910323))) / 16) + (IntKind.u64.wrap ((Go.bits .and .u64 ((IntKind.u64.wrap ((Go.bits .and .u64 (a0 / 2) 6148914691236517205) + (Go.bits .and .u64 a0 6148914691236517205))) / 4) 3689348814741910323) + (Go.bits .and .u64 (IntKind.u64.wrap ((Go.bits .and .u64 (a0 / 2) 6148914691236517205) + (Go.bits .and .u64 a0 6148914691236517205))) 3689348814741910323))))) 1085102592571150095) + ((Go.bits .and .u64 (IntKind.u64.wrap (((IntKind.u64.wrap ((Go.bits .and .u64 ((IntKind.u64.wrap ((Go.bits .and .u64 (a0 / 2) 6148914691236517205) + (Go.bits .and .u64 a0 6148914691236517205))) / 4) 3689348814741910323) + (Go.bits .and .u64 (IntKind.u64.wrap ((Go.bits .and .u64 (a0 / 2) 6148914691236517205) + (Go.bits .and .u64 a0 6148914691236517205))) 3689348814741910323))) / 16) + (IntKind.u64.wrap ((Go.bits .and .u64 ((IntKind.u64.wrap ((Go.bits .and .u64 (a0 / 2) 6148914691236517205) + (Go.bits .and .u64 a0 6148914691236517205))) / 4) 3689348814741910323) + (Go.bits .and .u64 (IntKind.u64.wrap ((Go.bits .and .u64 (a0 / 2) 6148914691236517205) + (Go.bits .and .u64 a0 6148914691236517205))) 3689348814741910323))))) 1085102592571150095) / 256))) + ((IntKind.u64.wrap ((Go.bits .and .u64 (IntKind.u64.wrap (((IntKind.u64.wrap ((Go.bits .and .u64 ((IntKind.u64.wrap ((Go.bits .and .u64 (a0 / 2) 6148914691236517205) + (Go.bits .and .u64 a0 6148914691236517205))) / 4) 3689348814741910323) + (Go.bits .and .u64 (IntKind.u64.wrap ((Go.bits .and .u64 (a0 / 2) 6148914691236517205) + (Go.bits .and .u64 a0 6148914691236517205))) 3689348814741910323))) / 16) + (IntKind.u64.wrap ((Go.bits .and .u64 ((IntKind.u64.wrap ((Go.bits .and .u64 (a0 / 2) 6148914691236517205) + (Go.bits .and .u64 a0 6148914691236517205))) / 4) 3689348814741910323) + (Go.bits .and .u64 (IntKind.u64.wrap ((Go.bits .and .u64 (a0 / 2) 6148914691236517205) + (Go.bits .and .u64 a0 6148914691236517205))) 3689348814741910323))))) 1085102592571150095) + ((Go.bits .and .u64 (IntKind.u64.wrap (((IntKind.u64.wrap ((Go.bits .and .u64 ((IntKind.u64.wrap ((Go.bits .and .u64 (a0 / 2) 6148914691236517205) + (Go.bits .and .u64 a0 6148914691236517205))) / 4) 3689348814741910323) + (Go.bits .and .u64 (IntKind.u64.wrap ((Go.bits .and .u64 (a0 / 2) 6148914691236517205) + (Go.bits .and .u64 a0 6148914691236517205))) 3689348814741910323))) / 16) + (IntKind.u64.wrap ((Go.bits .and .u64 ((IntKind.u64.wrap ((Go.bits .and .u64 (a0 / 2) 6148914691236517205) + (Go.bits .and .u64 a0 6148914691236517205))) / 4) 3689348814741910323) + (Go.bits .and .u64 (IntKind.u64.wrap ((Go.bits .and .u64 (a0 / 2) 6148914691236517205) + (Go.bits .and .u64 a0 6148914691236517205))) 3689348814741910323))))) 1085102592571150095) / 256))) / 65536))) + ((IntKind.u64.wrap ((IntKind.u64.wrap ((Go.bits .and .u64 (IntKind.u64.wrap (((IntKind.u64.wrap ((Go.bits .and .u64 ((IntKind.u64.wrap ((Go.bits .and .u64 (a0 / 2) 6148914691236517205) + (Go.bits .and .u64 a0 6148914691236517205))) / 4) 3689348814741910323) + (Go.bits .and .u64 (IntKind.u64.wrap ((Go.bits .and .u64 (a0 / 2) 6148914691236517205) + (Go.bits .and .u64 a0 6148914691236517205))) 3689348814741910323))) / 16) + (IntKind.u64.wrap ((Go.bits .and .u64 ((IntKind.u64.wrap ((Go.bits .and .u64 (a0 / 2) 6148914691236517205) + (Go.bits .and .u64 a0 6148914691236517205))) / 4) 3689348814741910323) + (Go.bits .and .u64 (IntKind.u64.wrap ((Go.bits .and .u64 (a0 / 2) 6148914691236517205) + (Go.bits .and .u64 a0 6148914691236517205))) 3689348814741910323))))) 1085102592571150095) + ((Go.bits .and .u64 (IntKind.u64.wrap (((IntKind.u64.wrap ((Go.bits .and .u64 ((IntKind.u64.wrap ((Go.bits .and .u64 (a0 / 2) 6148914691236517205) + (Go.bits .and .u64 a0 6148914691236517205))) / 4) 3689348814741910323) + (Go.bits .and .u64 (IntKind.u64.wrap ((Go.bits .and .u64 (a0 / 2) 6148914691236517205) + (Go.bits .and .u64 a0 6148914691236517205))) 3689348814741910323))) / 16) + (IntKind.u64.wrap ((Go.bits .and .u64 ((IntKind.u64.wrap ((Go.bits .and .u64 (a0 / 2) 6148914691236517205) + (Go.bits .and .u64 a0 6148914691236517205))) / 4) 3689348814741910323) + (Go.bits .and .u64 (IntKind.u64.wrap ((Go.bits .and .u64 (a0 / 2) 6148914691236517205) + (Go.bits .and .u64 a0 6148914691236517205))) 3689348814741910323))))) 1085102592571150095) / 256))) + ((IntKind.u64.wrap ((Go.bits .and .u64 (IntKind.u64.wrap (((IntKind.u64.wrap ((Go.bits .and .u64 ((IntKind.u64.wrap ((Go.bits .and .u64 (a0 / 2) 6148914691236517205) + (Go.bits .and .u64 a0 6148914691236517205))) / 4) 3689348814741910323) + (Go.bits .and .u64 (IntKind.u64.wrap ((Go.bits .and .u64 (a0 / 2) 6148914691236517205) + (Go.bits .and .u64 a0 6148914691236517205))) 3689348814741910323))) / 16) + (IntKind.u64.wrap ((Go.bits .and .u64 ((IntKind.u64.wrap ((Go.bits .and .u64 (a0 / 2) 6148914691236517205) + (Go.bits .and .u64 a0 6148914691236517205))) / 4) 3689348814741910323) + (Go.bits .and .u64 (IntKind.u64.wrap ((Go.bits .and .u64 (a0 / 2) 6148914691236517205) + (Go.bits .and .u64 a0 6148914691236517205))) 3689348814741910323))))) 1085102592571150095) + ((Go.bits .and .u64 (IntKind.u64.wrap (((IntKind.u64.wrap ((Go.bits .and .u64 ((IntKind.u64.wrap ((Go.bits .and .u64 (a0 / 2) 6148914691236517205) + (Go.bits .and .u64 a0 6148914691236517205))) / 4) 3689348814741910323) + (Go.bits .and .u64 (IntKind.u64.wrap ((Go.bits .and .u64 (a0 / 2) 6148914691236517205) + (Go.bits .and .u64 a0 6148914691236517205))) 3689348814741910323))) / 16) + (IntKind.u64.wrap ((Go.bits .and .u64 ((IntKind.u64.wrap ((Go.bits .and .u64 (a0 / 2) 6148914691236517205) + (Go.bits .and .u64 a0 6148914691236517205))) / 4) 3689348814741910323) + (Go.bits .and .u64 (IntKind.u64.wrap ((Go.bits .and .u64 (a0 / 2) 6148914691236517205) + (Go.bits .and .u64 a0 6148914691236517205))) 3689348814741910323))))) 1085102592571150095) / 256))) / 65536))) / 4294967296)))) 127)) = some r := h
  clear h
  obtain rfl := Option.some.inj H
  go_enter Try.func75, Try.ntmps75
  go_wp2
  go_ret
  exact ⟨by first | rfl | (simp; done) | (simp [*]; done), by repeat (first | exact Drawn0.refl _ | apply Drawn0.step)⟩

end Go.Proofs.Ytgcdlkpjjnglbaa.PA

namespace Go.Proofs.Ytgcdlkpjjnglbaa.PA
open Go.RowKit Go.Proofs.YtgcdlkpjjnglbaaW.PrintWords Go.Proofs.YtgcdlkpjjnglbaaW.PrintLast Go.Proofs.YtgcdlkpjjnglbaaW.PrintMore
attribute [local go_sem] max2_int min2_int max_two min_two max_three min_three max_four min_four   -- for this text's walks alone
set_option linter.unusedVariables false
set_option linter.unusedSimpArgs false

/-! ### bits_OnesCount: function 59 -/
def bits_OnesCount.f (a0 : Int) : Option (Int) := (bits_OnesCount64.f a0).bind fun t649 => (some t649)
set_option maxHeartbeats 8000000 in
set_option maxRecDepth 100000 in
theorem bits_OnesCount.calls (a0 : Int) (r : Int) (w : World) (h : bits_OnesCount.f a0 = some r) :
    Calls Try.prog 59 #[.int .u64 a0] w fun e w' => e = .returned (.int .i64 r) ∧ Drawn0 w w' := by
  have H : ((bits_OnesCount64.f a0).bind fun t649 => (some t649)) = some r := h
  clear h
  replace H := Option.bind_eq_some_iff.mp H
  obtain ⟨t649, A20, H⟩ := H
  replace H : (some t649) = some r := H
  have A2 := Aside0.mk A20
  clear A20
  obtain rfl := Option.some.inj H
  go_enter Try.func59, Try.ntmps59
  go_wp2_with (first | ((with_reducible refine gate_callee (f := 75) rfl ?_); refine goesL_ (some 7) rfl rfl Try.func75 (by kernel_rfl) rfl #[.int .u64 a0] rfl (by (try simp only [List.map_toArray, List.map_cons, List.map_nil]); first | done | rfl | (simp only [List.length_drop, List.length_take]; rfl)) ?_; (with_reducible refine (bits_OnesCount64.calls a0 t649 _ A2.out).mono ?_); rintro e w' ⟨rfl, ⟨nd, rfl⟩⟩; refine ⟨_, rfl, ?_⟩))
  go_ret
  exact ⟨by first | rfl | (simp; done) | (simp [*]; done), by repeat (first | exact Drawn0.refl _ | apply Drawn0.step)⟩

end Go.Proofs.Ytgcdlkpjjnglbaa.PA

namespace Go.Proofs.Ytgcdlkpjjnglbaa.PA
open Go.RowKit Go.Proofs.YtgcdlkpjjnglbaaW.PrintWords Go.Proofs.YtgcdlkpjjnglbaaW.PrintLast Go.Proofs.YtgcdlkpjjnglbaaW.PrintMore
attribute [local go_sem] max2_int min2_int max_two min_two max_three min_three max_four min_four   -- for this text's walks alone
set_option linter.unusedVariables false
set_option linter.unusedSimpArgs false

/-! ### impl_TellersIn: function 37 -/
def impl_TellersIn.f (a0 : Int) (a1 : Int) : Option (Int) := (impl_WorldOk.f a0 a1).bind fun t650 => (if t650 = true then ((bits_OnesCount.f (IntKind.u64.wrap (a1))).bind fun t651 => (some t651)) else (some (-1)))
set_option maxHeartbeats 8000000 in
set_option maxRecDepth 100000 in
theorem impl_TellersIn.calls (a0 : Int) (a1 : Int) (r : Int) (w : World) (h : impl_TellersIn.f a0 a1 = some r) :
    Calls Try.prog 37 #[.int .i64 a0, .int .i64 a1] w fun e w' => e = .returned (.int .i64 r) ∧ Drawn0 w w' := by
  have H : ((impl_WorldOk.f a0 a1).bind fun t650 => (if t650 = true then ((bits_OnesCount.f (IntKind.u64.wrap (a1))).bind fun t651 => (some t651)) else (some (-1)))) = some r := h
  clear h
  replace H := Option.bind_eq_some_iff.mp H
  obtain ⟨t650, A30, H⟩ := H
  replace H : (if t650 = true then ((bits_OnesCount.f (IntKind.u64.wrap (a1))).bind fun t651 => (some t651)) else (some (-1))) = some r := H
  have A3 := Aside0.mk A30
  clear A30
  by_cases c4 : t650 = true
  · subst c4
    have H1 : ((bits_OnesCount.f (IntKind.u64.wrap (a1))).bind fun t651 => (some t651)) = some r := by rw [if_pos rfl] at H; exact H
    clear H
    have H := H1
    clear H1
    replace H := Option.bind_eq_some_iff.mp H
    obtain ⟨t651, A50, H⟩ := H
    replace H : (some t651) = some r := H
    have A5 := Aside0.mk A50
    clear A50
    obtain rfl := Option.some.inj H
    go_enter Try.func37, Try.ntmps37
    go_wp2_with (first | ((with_reducible refine gate_callee (f := 32) rfl ?_); refine goesL_ (some 7) rfl rfl Try.func32 (by kernel_rfl) rfl #[.int .i64 a0, .int .i64 a1] rfl (by (try simp only [List.map_toArray, List.map_cons, List.map_nil]); first | done | rfl | (simp only [List.length_drop, List.length_take]; rfl)) ?_; (with_reducible refine (impl_WorldOk.calls a0 a1 true _ A3.out).mono ?_); rintro e w' ⟨rfl, ⟨nd, rfl⟩⟩; refine ⟨_, rfl, ?_⟩) | ((with_reducible refine gate_callee (f := 59) rfl ?_); refine goesL_ (some 11) rfl rfl Try.func59 (by kernel_rfl) rfl #[.int .u64 (IntKind.u64.wrap (a1))] rfl (by (try simp only [List.map_toArray, List.map_cons, List.map_nil]); first | done | rfl | (simp only [List.length_drop, List.length_take]; rfl)) ?_; (with_reducible refine (bits_OnesCount.calls (IntKind.u64.wrap (a1)) t651 _ A5.out).mono ?_); rintro e w' ⟨rfl, ⟨nd, rfl⟩⟩; refine ⟨_, rfl, ?_⟩))
    go_ret
    exact ⟨by first | rfl | (simp; done) | (simp [*]; done), by repeat (first | exact Drawn0.refl _ | apply Drawn0.step)⟩
  · replace c4 := Bool.eq_false_iff.mpr c4
    subst c4
    have H1 : (some (-1)) = some r := by rw [if_neg (show ¬ (false = true) by decide)] at H; exact H
    clear H
    have H := H1
    clear H1
    obtain rfl := Option.some.inj H
    go_enter Try.func37, Try.ntmps37
    go_wp2_with (first | ((with_reducible refine gate_callee (f := 32) rfl ?_); refine goesL_ (some 7) rfl rfl Try.func32 (by kernel_rfl) rfl #[.int .i64 a0, .int .i64 a1] rfl (by (try simp only [List.map_toArray, List.map_cons, List.map_nil]); first | done | rfl | (simp only [List.length_drop, List.length_take]; rfl)) ?_; (with_reducible refine (impl_WorldOk.calls a0 a1 false _ A3.out).mono ?_); rintro e w' ⟨rfl, ⟨nd, rfl⟩⟩; refine ⟨_, rfl, ?_⟩))
    go_ret
    exact ⟨by first | rfl | (simp; done) | (simp [*]; done), by repeat (first | exact Drawn0.refl _ | apply Drawn0.step)⟩

end Go.Proofs.Ytgcdlkpjjnglbaa.PA

/- impl.tableBy at whatever function value, and the three functions over it: AskedTable, MajorityTable, OppositeTable. -/
namespace Go.Proofs.Ytgcdlkpjjnglbaa.PA
open Go.RowKit
set_option linter.unusedVariables false
set_option linter.unusedSimpArgs false
theorem below_drewNS {B : Nat} {a w : World} (q : Nat) (h : Below B a w) : Below B a (w.drewN q) := ⟨h.os, h.tape, h.output, h.size, h.block⟩
theorem tableBy_at (g : Nat) (lb : Array Value) (eg : ∀ args w, (callFunc g args).run Try.prog w = .ok (.enter g args) w) (p : Nat) (h1 : 1 ≤ p) (h4 : p ≤ 4) (f : Nat → Bool) (w : World)
    (hp : PredN Try.prog g lb f (2 ^ p) w) :
    Calls Try.prog 35 #[.int .i64 (p : Int), .func (.func g) #[] lb] w fun e w' => e = .returned (.int .i64 (Tb.num (2 ^ p) f : Nat)) ∧ Below w.heap.size w w' := by
  obtain ⟨n, hn⟩ : ∃ n, n = 2 ^ p := ⟨_, rfl⟩
  have hn16 : n ≤ 16 := by
    rcases (show p = 1 ∨ p = 2 ∨ p = 3 ∨ p = 4 by omega) with rfl | rfl | rfl | rfl <;> omega
  rw [← hn] at hp ⊢
  have hsh : wrap64 (2 ^ p) = (n : Int) := by
    rw [hn]
    rcases (show p = 1 ∨ p = 2 ∨ p = 3 ∨ p = 4 by omega) with rfl | rfl | rfl | rfl <;> simp [wrap64]
  have HN := Lib.hid hn
  clear hn
  have h0 : (0 : Int) ≤ p := by omega
  have h64 : (p : Int) ≤ 64 := by omega
  go_enter Try.func35, Try.ntmps35
  go_wp2
  rw [hsh]
  clear hsh
  go_loopw [5, 9] (fun t i wr => ∃ k : Nat, k ≤ n ∧ i = .int .i64 (k : Int) ∧ t = .int .i64 (Tb.num k f : Nat) ∧ Below w.heap.size w wr) (fun _ i _ => n - (intOf i).toNat)
  case atStart => exact ⟨0, Nat.zero_le _, rfl, rfl, Below.refl _ _⟩
  case round =>
    obtain ⟨k, hk, rfl, rfl, hb⟩ := hrel
    by_cases hlt : k < n
    · have cS := hp wr k hlt hb
      clear hp
      cases hf : f k
      · rw [hf] at cS
        have hs := Tb.skip_step k f hf
        have HS := Lib.hid hs
        clear hs hf
        go_wp2_with (go_at_fn g; refine cS.mono ?_; rintro e w' ⟨rfl, hb'⟩)
        go_roundw
        case rel => exact ⟨k + 1, hlt, by go_num, by rw [← HS.out], hb'⟩
        case measure => simp [intOf]; omega
      · rw [hf] at cS
        have hs := Tb.or_step k f hf
        have hlt2 := Tb.num_lt k f
        have h16 : 2 ^ k ≤ 2 ^ 16 := Nat.pow_le_pow_right (by omega) (by omega)
        have hor : bits .or .i64 (Tb.num k f : Nat) (wrap64 (2 ^ k)) = (Tb.num (k + 1) f : Nat) := by
          rw [← hs, ← i64_or_nat _ _ (by omega) (by omega)]
          congr 1
          have e : ((2 : Int) ^ k) = ((2 ^ k : Nat) : Int) := by simp
          rw [e]
          unfold wrap64
          omega
        have HS := Lib.hid hor
        clear hs hf hor hlt2 h16
        go_wp2_with (go_at_fn g; refine cS.mono ?_; rintro e w' ⟨rfl, hb'⟩)
        go_roundw
        case rel => exact ⟨k + 1, hlt, by go_num, by rw [HS.out], hb'⟩
        case measure => simp [intOf]; omega
    · obtain rfl : k = n := by omega
      go_wp2
      go_ret
      exact ⟨rfl, hb⟩

theorem asked1_at (W : World) (x i j : Nat) (b : Bool) (B : Nat) (hx : x < 16) (hi : i < 4) (hj : j < 4)
    (hc0 : W.cell? ⟨B, 0, none⟩ = some (.int .i64 (i : Int))) (hc1 : W.cell? ⟨B + 1, 0, none⟩ = some (.int .i64 (j : Int))) (hc2 : W.cell? ⟨B + 2, 0, none⟩ = some (.bool b)) :
    Calls Try.prog 73 #[.int .i64 (x : Int), .pointer (some ⟨B, 0, none⟩), .pointer (some ⟨B + 1, 0, none⟩), .pointer (some ⟨B + 2, 0, none⟩)] W
      fun e w' => e = .returned (.bool ((x.testBit i == x.testBit j) == b)) ∧ Below W.heap.size W w' := by
  have h0 : (0 : Int) ≤ i := by omega
  have h1 : (0 : Int) ≤ j := by omega
  have h2 : (i : Int) ≤ 64 := by omega
  have h3 : (j : Int) ≤ 64 := by omega
  have h4 : (0 : Int) ≤ x := by omega
  go_enter Try.func73, Try.ntmps73
  go_wp2_with fail
  go_quiet (fail)
  go_wp2
  go_ret
  refine ⟨?_, ?_⟩
  · show Ending.returned (.bool _) = _
    rw [bit_at x i (by omega), bit_at x j (by omega)]
    cases x.testBit i <;> cases x.testBit j <;> cases b <;> rfl
  · exact below_drewNS nq (Below.refl _ _)
theorem asked_at (p t i j : Nat) (b : Bool) (w : World) (h1 : 1 ≤ p) (h4 : p ≤ 4) (ht : t < 2 ^ 2 ^ p) (hi : i < p) (hj : j < p) (hok : impl_TableOk.f (p : Int) (t : Int) = some true) :
    Calls Try.prog 56 #[.int .i64 (p : Int), .int .i64 (t : Int), .int .i64 (i : Int), .int .i64 (j : Int), .bool b] w
      fun e w' => e = .returned (.int .i64 ((t &&& Tb.num (2 ^ p) fun x => (x.testBit i == x.testBit j) == b : Nat) : Int)) ∧ Below w.heap.size w w' := by
  have hn16 : 2 ^ p ≤ 16 := by
    rcases (show p = 1 ∨ p = 2 ∨ p = 3 ∨ p = 4 by omega) with rfl | rfl | rfl | rfl <;> omega
  have hC := fun (W : World) => tableBy_at 73 #[.pointer (some ⟨w.heap.size, 0, none⟩), .pointer (some ⟨w.heap.size + 1, 0, none⟩), .pointer (some ⟨w.heap.size + 2, 0, none⟩)]
    (enters_of Try.func73 (by kernel_rfl) rfl) p h1 h4 (fun x => (x.testBit i == x.testBit j) == b) W
  have hP : ∀ W0 : World, w.heap.size + 2 < W0.heap.size → W0.cell? ⟨w.heap.size, 0, none⟩ = some (.int .i64 (i : Int)) → W0.cell? ⟨w.heap.size + 1, 0, none⟩ = some (.int .i64 (j : Int)) → W0.cell? ⟨w.heap.size + 2, 0, none⟩ = some (.bool b) →
      PredN Try.prog 73 #[.pointer (some ⟨w.heap.size, 0, none⟩), .pointer (some ⟨w.heap.size + 1, 0, none⟩), .pointer (some ⟨w.heap.size + 2, 0, none⟩)] (fun x => (x.testBit i == x.testBit j) == b) (2 ^ p) W0 :=
    fun W0 hs c0 c1 c2 W x hx hb => (asked1_at W x i j b w.heap.size (by omega) (by omega) (by omega) ((hb.cell (p := ⟨w.heap.size, 0, none⟩) (by simp only; omega)).trans c0) ((hb.cell (p := ⟨w.heap.size + 1, 0, none⟩) (by simp only; omega)).trans c1) ((hb.cell (p := ⟨w.heap.size + 2, 0, none⟩) (by simp only; omega)).trans c2)).mono
      fun e w' ⟨he, hb'⟩ => ⟨he, hb.trans (hb'.mono hb.size)⟩
  have hC2 := fun W a b c d => hC W (hP W a b c d)
  clear hC hP
  have hand : ∀ m : Nat, m < 2 ^ 2 ^ p → bits .and .i64 (t : Int) (m : Int) = ((t &&& m : Nat) : Int) := by
    have : 2 ^ 2 ^ p ≤ 2 ^ 16 := Nat.pow_le_pow_right (by omega) hn16
    intro m hm
    exact i64_and_nat _ _ (by omega) (by omega)
  have HA := Lib.hid hand
  clear hand
  have hT := fun W => impl_TableOk.calls (p : Int) (t : Int) true W hok
  have g0 : (0 : Int) ≤ i := by omega
  have g1 : (0 : Int) ≤ j := by omega
  have g2 : ¬ (p : Int) ≤ i := by omega
  have g3 : ¬ (p : Int) ≤ j := by omega
  go_enter Try.func56, Try.ntmps56
  go_wp2_with (first | (go_at_call 28; refine (hT _).mono ?_; rintro e w' ⟨rfl, ⟨nd, rfl⟩⟩) | (go_at_call 35; refine (hC2 _ (by go_simp) (by go_simp) (by go_simp) (by go_simp)).mono ?_; rintro e w' ⟨rfl, hb⟩))
  go_ret
  refine ⟨?_, ?_⟩
  · show Ending.returned (.int .i64 _) = _
    rw [HA.out _ (Tb.num_lt _ _)]
  · exact (below_drewNS nd ((((Below.refl _ _).alloc (Nat.le_refl _) _).alloc (by simp) _).alloc (by simp; omega) _)).trans (hb.mono (by simp; omega))

/-- how many of eight bits are set -/
def ones8 : Nat → Nat → Nat
  | 0, _ => 0
  | n + 1, x => ones8 n x + (x.testBit n).toNat
theorem tellers_ev (p x : Nat) (h1 : 1 ≤ p) (h4 : p ≤ 4) (hx : x < 2 ^ p) : impl_TellersIn.f (p : Int) (x : Int) = some (ones8 8 x : Nat) := by
  have h : ∀ p, p < 5 → 1 ≤ p → ∀ x, x < 16 → x < 2 ^ p → impl_TellersIn.f ((p : Nat) : Int) ((x : Nat) : Int) = some ((ones8 8 x : Nat) : Int) := by
    decide +kernel
  have : 2 ^ p ≤ 2 ^ 4 := Nat.pow_le_pow_right (by omega) h4
  exact h p (by omega) h1 x (by omega) hx
theorem major1_at (W : World) (p x : Nat) (B : Nat) (h1 : 1 ≤ p) (h4 : p ≤ 4) (hx : x < 2 ^ p) (hc0 : W.cell? ⟨B, 0, none⟩ = some (.int .i64 (p : Int))) :
    Calls Try.prog 36 #[.int .i64 (x : Int), .pointer (some ⟨B, 0, none⟩)] W
      fun e w' => e = .returned (.bool (decide (p < 2 * ones8 8 x))) ∧ Below W.heap.size W w' := by
  have hT := fun W => impl_TellersIn.calls (p : Int) (x : Int) _ W (tellers_ev p x h1 h4 hx)
  have hq : ∀ W : World, Calls Try.prog 37 #[.int .i64 (p : Int), .int .i64 (x : Int)] W fun e w' => e = .returned (.int .i64 (ones8 8 x : Nat)) ∧ ∃ m, w' = W.drewN m :=
    fun W => (hT W).mono fun _ _ ⟨he, ⟨m, hm⟩⟩ => ⟨he, m, hm⟩
  clear hT
  have hb : ones8 8 x ≤ 8 := by
    simp only [ones8]
    have hh : ∀ b : Bool, b.toNat ≤ 1 := by decide
    have := hh (x.testBit 0); have := hh (x.testBit 1); have := hh (x.testBit 2); have := hh (x.testBit 3)
    have := hh (x.testBit 4); have := hh (x.testBit 5); have := hh (x.testBit 6); have := hh (x.testBit 7)
    omega
  obtain ⟨m, hm⟩ : ∃ m, m = ones8 8 x := ⟨_, rfl⟩
  rw [← hm] at hq hb ⊢
  clear hm
  go_enter Try.func36, Try.ntmps36
  go_wp2_with fail
  go_quiet ((go_at_call 37; exact Calls.quiet_of (hq _)))
  go_wp2
  go_ret
  refine ⟨?_, ?_⟩
  · show Ending.returned (.bool (decide ((p : Int) < 2 * (m : Int)))) = _
    congr 2
    exact decide_eq_decide.2 (by omega)
  · exact below_drewNS nq (Below.refl _ _)
def impl_MajorityTable.f (a0 : Int) : Option Int :=
  if 1 ≤ a0 ∧ a0 ≤ 4 then some (Tb.num (2 ^ a0.toNat) fun x => decide (a0.toNat < 2 * ones8 8 x) : Nat) else none
theorem impl_MajorityTable.calls (a0 : Int) (r : Int) (w : World) (h : impl_MajorityTable.f a0 = some r) :
    Calls Try.prog 12 #[.int .i64 a0] w fun e w' => e = .returned (.int .i64 r) ∧ Below w.heap.size w w' := by
  unfold impl_MajorityTable.f at h
  split at h
  · rename_i hp
    obtain ⟨h1, h4⟩ := hp
    obtain ⟨p, rfl⟩ := Int.eq_ofNat_of_zero_le (show 0 ≤ a0 by omega)
    rw [Int.toNat_natCast] at h
    obtain rfl := Option.some.inj h
    clear h
    have h1 : 1 ≤ p := by omega
    have h4 : p ≤ 4 := by omega
    have hok : impl_peopleOk.f (p : Int) = some true := by
      unfold impl_peopleOk.f
      rw [if_pos (by omega)]
      simp; omega
    have hC := fun (W : World) => tableBy_at 36 #[.pointer (some ⟨w.heap.size, 0, none⟩)]
      (enters_of Try.func36 (by kernel_rfl) rfl) p h1 h4 (fun x => decide (p < 2 * ones8 8 x)) W
    have hP : ∀ W0 : World, w.heap.size < W0.heap.size → W0.cell? ⟨w.heap.size, 0, none⟩ = some (.int .i64 (p : Int)) →
        PredN Try.prog 36 #[.pointer (some ⟨w.heap.size, 0, none⟩)] (fun x => decide (p < 2 * ones8 8 x)) (2 ^ p) W0 :=
      fun W0 hs c0 W x hx hb => (major1_at W p x w.heap.size h1 h4 hx ((hb.cell (p := ⟨w.heap.size, 0, none⟩) (by simp only; omega)).trans c0)).mono
        fun e w' ⟨he, hb'⟩ => ⟨he, hb.trans (hb'.mono hb.size)⟩
    have hC2 := fun W a b => hC W (hP W a b)
    clear hC hP
    have hT := fun W => impl_peopleOk.calls (p : Int) true W hok
    go_enter Try.func12, Try.ntmps12
    go_wp2_with (first | (go_at_call 34; refine (hT _).mono ?_; rintro e w' ⟨rfl, ⟨nd, rfl⟩⟩) | (go_at_call 35; refine (hC2 _ (by go_simp) (by go_simp)).mono ?_; rintro e w' ⟨rfl, hb⟩))
    go_ret
    exact ⟨rfl, (below_drewNS nd ((Below.refl _ _).alloc (Nat.le_refl _) _)).trans (hb.mono (by simp))⟩
  · cases h

theorem opp1_at (W : World) (p t n x : Nat) (B : Nat) (h1 : 1 ≤ p) (h4 : p ≤ 4) (hn : n = 2 ^ p) (hx : x < n) (ht : t < 2 ^ 16)
    (hc0 : W.cell? ⟨B, 0, none⟩ = some (.int .i64 (p : Int))) (hc1 : W.cell? ⟨B + 1, 0, none⟩ = some (.int .i64 (t : Int))) :
    Calls Try.prog 38 #[.int .i64 (x : Int), .pointer (some ⟨B + 1, 0, none⟩), .pointer (some ⟨B, 0, none⟩)] W
      fun e w' => e = .returned (.bool (t.testBit (n - 1 - x))) ∧ Below W.heap.size W w' := by
  have hn16 : n ≤ 16 := by
    rw [hn]
    rcases (show p = 1 ∨ p = 2 ∨ p = 3 ∨ p = 4 by omega) with rfl | rfl | rfl | rfl <;> omega
  have hsh : wrap64 (2 ^ p) = (n : Int) := by
    rw [hn]
    rcases (show p = 1 ∨ p = 2 ∨ p = 3 ∨ p = 4 by omega) with rfl | rfl | rfl | rfl <;> simp [wrap64]
  clear hn
  have g0 : (0 : Int) ≤ p := by omega
  have g1 : (p : Int) ≤ 64 := by omega
  have g2 : (0 : Int) ≤ (n : Int) - 1 - x := by omega
  have g3 : (n : Int) - 1 - x ≤ 64 := by omega
  have gx : (x : Int) < n := by omega
  have gn : (n : Int) ≤ 16 := by omega
  go_enter Try.func38, Try.ntmps38
  go_wp2_with fail
  go_quiet (fail)
  go_wp2
  go_ret
  refine ⟨?_, ?_⟩
  · show Ending.returned (.bool (bits .and .i64 ((t : Int) / 2 ^ (n - 1 - x)) 1 == 1)) = _
    rw [bit_at t _ (by omega)]
    cases t.testBit (n - 1 - x) <;> rfl
  · exact below_drewNS nq (Below.refl _ _)
def impl_OppositeTable.f (a0 a1 : Int) : Option Int :=
  if 1 ≤ a0 ∧ a0 ≤ 4 ∧ 0 ≤ a1 ∧ a1 < 2 ^ 2 ^ a0.toNat ∧ impl_TableOk.f a0 a1 = some true then some (Tb.num (2 ^ a0.toNat) fun x => a1.toNat.testBit (2 ^ a0.toNat - 1 - x) : Nat) else none
theorem impl_OppositeTable.calls (a0 a1 : Int) (r : Int) (w : World) (h : impl_OppositeTable.f a0 a1 = some r) :
    Calls Try.prog 13 #[.int .i64 a0, .int .i64 a1] w fun e w' => e = .returned (.int .i64 r) ∧ Below w.heap.size w w' := by
  unfold impl_OppositeTable.f at h
  split at h
  · rename_i hp
    obtain ⟨h1, h4, h5, h6, hok⟩ := hp
    obtain ⟨p, rfl⟩ := Int.eq_ofNat_of_zero_le (show 0 ≤ a0 by omega)
    obtain ⟨t, rfl⟩ := Int.eq_ofNat_of_zero_le h5
    rw [Int.toNat_natCast, Int.toNat_natCast] at h
    rw [Int.toNat_natCast] at h6
    obtain rfl := Option.some.inj h
    clear h
    have h1 : 1 ≤ p := by omega
    have h4 : p ≤ 4 := by omega
    have hn16 : 2 ^ p ≤ 16 := by
      rcases (show p = 1 ∨ p = 2 ∨ p = 3 ∨ p = 4 by omega) with rfl | rfl | rfl | rfl <;> omega
    have ht : t < 2 ^ 16 := by
      have hh : (2 : Int) ^ 2 ^ p = ((2 ^ 2 ^ p : Nat) : Int) := by simp
      rw [hh] at h6
      have : 2 ^ 2 ^ p ≤ 2 ^ 16 := Nat.pow_le_pow_right (by omega) hn16
      omega
    clear h5 h6
    have hC := fun (W : World) => tableBy_at 38 #[.pointer (some ⟨w.heap.size + 1, 0, none⟩), .pointer (some ⟨w.heap.size, 0, none⟩)]
      (enters_of Try.func38 (by kernel_rfl) rfl) p h1 h4 (fun x => t.testBit (2 ^ p - 1 - x)) W
    have hP : ∀ W0 : World, w.heap.size + 1 < W0.heap.size → W0.cell? ⟨w.heap.size, 0, none⟩ = some (.int .i64 (p : Int)) → W0.cell? ⟨w.heap.size + 1, 0, none⟩ = some (.int .i64 (t : Int)) →
        PredN Try.prog 38 #[.pointer (some ⟨w.heap.size + 1, 0, none⟩), .pointer (some ⟨w.heap.size, 0, none⟩)] (fun x => t.testBit (2 ^ p - 1 - x)) (2 ^ p) W0 :=
      fun W0 hs c0 c1 W x hx hb => (opp1_at W p t (2 ^ p) x w.heap.size h1 h4 rfl hx ht ((hb.cell (p := ⟨w.heap.size, 0, none⟩) (by simp only; omega)).trans c0) ((hb.cell (p := ⟨w.heap.size + 1, 0, none⟩) (by simp only; omega)).trans c1)).mono
        fun e w' ⟨he, hb'⟩ => ⟨he, hb.trans (hb'.mono hb.size)⟩
    have hC2 := fun W a b c => hC W (hP W a b c)
    clear hC hP
    have hT := fun W => impl_TableOk.calls (p : Int) (t : Int) true W hok
    go_enter Try.func13, Try.ntmps13
    go_wp2_with (first | (go_at_call 28; refine (hT _).mono ?_; rintro e w' ⟨rfl, ⟨nd, rfl⟩⟩) | (go_at_call 35; refine (hC2 _ (by go_simp) (by go_simp) (by go_simp)).mono ?_; rintro e w' ⟨rfl, hb⟩))
    go_ret
    exact ⟨rfl, (below_drewNS nd (((Below.refl _ _).alloc (Nat.le_refl _) _).alloc (by simp) _)).trans (hb.mono (by simp; omega))⟩
  · cases h
end Go.Proofs.Ytgcdlkpjjnglbaa.PA

/- Plain theory: asking for a teller. -/
namespace Go.Proofs.Ytgcdlkpjjnglbaa.La
/-- a table is a set of worlds -/
abbrev Tb := Nat → Bool
/-- i and j are of the same kind in w -/
def same (i j w : Nat) : Bool := w.testBit i == w.testBit j
def empty (p : Nat) (t : Tb) : Prop := ∀ w, w < 2 ^ p → t w = false
def knows (p : Nat) (t : Tb) : Prop := ∃ i, i < p ∧ ∀ w, w < 2 ^ p → t w = true → w.testBit i = true
def easy (p : Nat) (t : Tb) : Prop := empty p t ∨ knows p t
def ask (t : Tb) (i j : Nat) (b : Bool) : Tb := fun w => t w && (same i j w == b)
/-- a question that parts the worlds -/
def parts (p : Nat) (t : Tb) (i j : Nat) : Prop := ¬ empty p (ask t i j true) ∧ ¬ empty p (ask t i j false)
/-- with m questions, n of them are enough at worst -/
inductive Enough (p : Nat) : Nat → Tb → Prop
  | easy {n t} : easy p t → Enough p n t
  | ask {n t} (i j : Nat) : i < j → j < p → parts p t i j → Enough p n (ask t i j true) → Enough p n (ask t i j false) → Enough p (n + 1) t
theorem Enough.more {p n t} (h : Enough p n t) : ∀ m, n ≤ m → Enough p m t := by
  induction h with
  | easy h => exact fun m _ => .easy h
  | ask i j hi hj hp _ _ ih1 ih2 =>
    intro m hm
    obtain ⟨m, rfl⟩ : ∃ k, m = k + 1 := ⟨m - 1, by omega⟩
    exact .ask i j hi hj hp (ih1 m (by omega)) (ih2 m (by omega))
/-- the relation of two people is the same in all worlds of t -/
def tied (p : Nat) (t : Tb) (i j : Nat) : Prop := ∃ b, ∀ w, w < 2 ^ p → t w = true → same i j w = b
theorem tied_refl (p t i) : tied p t i i := ⟨true, fun w _ _ => by simp [same]⟩
theorem tied_symm {p t i j} (h : tied p t i j) : tied p t j i := by
  obtain ⟨b, h⟩ := h
  exact ⟨b, fun w hw ht => by rw [← h w hw ht]; simp only [same]; cases w.testBit i <;> cases w.testBit j <;> rfl⟩
theorem tied_trans {p t i j k} (h : tied p t i j) (h' : tied p t j k) : tied p t i k := by
  obtain ⟨b, h⟩ := h
  obtain ⟨c, h'⟩ := h'
  refine ⟨b == c, fun w hw ht => ?_⟩
  rw [← h w hw ht, ← h' w hw ht]
  simp only [same]
  cases w.testBit i <;> cases w.testBit j <;> cases w.testBit k <;> rfl
theorem tied_ask {p t i j} (a c : Nat) (b : Bool) (h : tied p t i j) : tied p (ask t a c b) i j := by
  obtain ⟨d, h⟩ := h
  exact ⟨d, fun w hw ht => h w hw (by simp only [ask, Bool.and_eq_true] at ht; exact ht.1)⟩
theorem tied_asked {p : Nat} {t : Tb} (i j : Nat) (b : Bool) : tied p (ask t i j b) i j :=
  ⟨b, fun w _ ht => by simp only [ask, Bool.and_eq_true, beq_iff_eq] at ht; exact ht.2⟩
theorem parts_not_tied {p t i j} (h : parts p t i j) : ¬ tied p t i j := by
  rintro ⟨b, hb⟩
  cases b with
  | true =>
    refine h.2 fun w hw => ?_
    cases ht : t w with
    | false => simp [ask, ht]
    | true => simp [ask, hb w hw ht]
  | false =>
    refine h.1 fun w hw => ?_
    cases ht : t w with
    | false => simp [ask, ht]
    | true => simp [ask, hb w hw ht]
theorem not_tied_parts {p t i j} (h : ¬ tied p t i j) : parts p t i j := by
  constructor
  · intro he
    refine h ⟨false, fun w hw ht => ?_⟩
    have := he w hw
    simpa [ask, ht] using this
  · intro he
    refine h ⟨true, fun w hw ht => ?_⟩
    have := he w hw
    simpa [ask, ht] using this
/-- the least ones of the groups -/
def leader (p : Nat) (t : Tb) (i : Nat) : Prop := ∀ j, j < i → ¬ tied p t j i
noncomputable def lead (p : Nat) (t : Tb) (i : Nat) : Bool := @decide (0 < i ∧ leader p t i) (Classical.propDecidable _)
theorem lead_true {p t i} : lead p t i = true ↔ 0 < i ∧ leader p t i := by unfold lead; exact @decide_eq_true_iff _ (Classical.propDecidable _)
theorem lead_false {p t i} : lead p t i = false ↔ ¬ (0 < i ∧ leader p t i) := by unfold lead; exact @decide_eq_false_iff_not _ (Classical.propDecidable _)
noncomputable def rank (p : Nat) (t : Tb) : Nat := (List.range p).countP (lead p t)
theorem rank_le (p t) (hp : 1 ≤ p) : rank p t ≤ p - 1 := by
  obtain ⟨q, rfl⟩ : ∃ q, p = q + 1 := ⟨p - 1, by omega⟩
  unfold rank
  rw [List.range_succ_eq_map, List.countP_cons]
  have h0 : lead (q + 1) t 0 = false := lead_false.2 (fun h => by omega)
  have := List.countP_le_length (p := lead (q + 1) t) (l := List.map Nat.succ (List.range q))
  simp only [List.length_map, List.length_range] at this
  simp only [h0, Bool.false_eq_true, if_false]
  omega
theorem exists_leader (p t) (i : Nat) : ∃ a, a ≤ i ∧ leader p t a ∧ tied p t a i := by
  induction i using Nat.strongRecOn with
  | _ i ih =>
    by_cases h : leader p t i
    · exact ⟨i, Nat.le_refl _, h, tied_refl _ _ _⟩
    · simp only [leader, Classical.not_forall, Classical.not_not] at h
      obtain ⟨j, hj, ht⟩ := h
      obtain ⟨a, ha, hl, hta⟩ := ih j hj
      exact ⟨a, by omega, hl, tied_trans hta ht⟩
theorem countP_lt {α : Type} (l : List α) (f g : α → Bool) (h : ∀ x, f x = true → g x = true) (a : α) (ha : a ∈ l) (hf : f a = false) (hg : g a = true) : l.countP f < l.countP g := by
  induction l with
  | nil => cases ha
  | cons x l ih =>
    simp only [List.countP_cons]
    rcases List.mem_cons.1 ha with rfl | ha
    · have := List.countP_mono_left (l := l) (p := f) (q := g) (fun y _ => h y)
      rw [hf, hg]; simp; omega
    · have := ih ha
      cases hx : f x with
      | false => cases g x <;> simp <;> omega
      | true => rw [h x hx]; simp; omega
theorem rank_ask {p t i j} (hi : i < p) (hj : j < p) (h : ¬ tied p t i j) (b : Bool) : rank p (ask t i j b) < rank p t := by
  obtain ⟨a, ha, hla, hta⟩ := exists_leader p t i
  obtain ⟨c, hc, hlc, htc⟩ := exists_leader p t j
  have hac : a ≠ c := by
    rintro rfl
    exact h (tied_trans (tied_symm hta) htc)
  have hT : tied p (ask t i j b) a c := tied_trans (tied_ask _ _ b hta) (tied_trans (tied_asked i j b) (tied_symm (tied_ask _ _ b htc)))
  have mono : ∀ x, lead p (ask t i j b) x = true → lead p t x = true := by
    intro x hx
    rw [lead_true] at hx ⊢
    exact ⟨hx.1, fun y hy ht => hx.2 y hy (tied_ask _ _ b ht)⟩
  unfold rank
  rcases Nat.lt_or_gt_of_ne hac with hlt | hgt
  · refine countP_lt _ _ _ mono c (by simp; omega) ?_ ?_
    · exact lead_false.2 fun hl => hl.2 a hlt hT
    · exact lead_true.2 ⟨by omega, hlc⟩
  · refine countP_lt _ _ _ mono a (by simp; omega) ?_ ?_
    · exact lead_false.2 fun hl => hl.2 c hgt (tied_symm hT)
    · exact lead_true.2 ⟨by omega, hla⟩
/-- what can be done at all can be done with as many questions as the rank -/
theorem Enough.rank {p n t} (h : Enough p n t) : Enough p (rank p t) t := by
  induction h with
  | easy h => exact .easy h
  | @ask n t i j hi hj hp _ _ ih1 ih2 =>
    have hn := parts_not_tied hp
    have h1 := rank_ask (b := true) (by omega) hj hn
    have h2 := rank_ask (b := false) (by omega) hj hn
    obtain ⟨r, hr⟩ : ∃ r, La.rank p t = r + 1 := ⟨La.rank p t - 1, by omega⟩
    rw [hr]
    exact .ask i j hi hj hp (ih1.more _ (by omega)) (ih2.more _ (by omega))
/-- no table that is its own opposite is ever told -/
theorem opposite_never {p n t} (h : Enough p n t) (ho : ∀ w, w < 2 ^ p → t (2 ^ p - 1 - w) = t w) (hb : ∀ w i, w < 2 ^ p → i < p → (2 ^ p - 1 - w).testBit i = !w.testBit i) : empty p t := by
  induction h with
  | @easy n t h =>
    rcases h with h | ⟨i, hi, h⟩
    · exact h
    · intro w hw
      cases ht : t w with
      | false => rfl
      | true =>
        have h1 := h w hw ht
        have h2 := h (2 ^ p - 1 - w) (by have := Nat.two_pow_pos p; omega) (by rw [ho w hw, ht])
        rw [hb w i hw hi, h1] at h2
        cases h2
  | @ask n t i j hi hj hp _ _ ih1 _ =>
    have key : ∀ w, w < 2 ^ p → La.ask t i j true (2 ^ p - 1 - w) = La.ask t i j true w := by
      intro w hw
      simp only [La.ask, ho w hw, same, hb w i hw (by omega), hb w j hw hj]
      cases t w <;> cases w.testBit i <;> cases w.testBit j <;> rfl
    exact absurd (ih1 key) hp.1
/-- if no world's opposite is in it, and each world has a teller, somebody becomes known -/
theorem told {p t} (hm : ∀ w w', w < 2 ^ p → w' < 2 ^ p → t w = true → t w' = true → (∀ i, i < p → w.testBit i = !w'.testBit i) → False) (h1 : ∀ w, w < 2 ^ p → t w = true → ∃ i, i < p ∧ w.testBit i = true) : Enough p (rank p t) t := by
  have main : ∀ r (t : Tb), rank p t = r → (∀ w w', w < 2 ^ p → w' < 2 ^ p → t w = true → t w' = true → (∀ i, i < p → w.testBit i = !w'.testBit i) → False) → (∀ w, w < 2 ^ p → t w = true → ∃ i, i < p ∧ w.testBit i = true) → Enough p r t := by
    intro r
    induction r using Nat.strongRecOn with
    | _ r ih =>
      intro t hr hm h1
      by_cases he : easy p t
      · exact .easy he
      · by_cases hall : ∀ i j, i < j → j < p → tied p t i j
        · exfalso
          refine he ?_
          by_cases hempty : empty p t
          · exact .inl hempty
          · simp only [empty, Classical.not_forall] at hempty
            obtain ⟨w, hw, hwt⟩ := hempty
            have hwt : t w = true := by simpa using hwt
            obtain ⟨i, hi, hwi⟩ := h1 w hw hwt
            refine .inr ⟨i, hi, fun w' hw' hwt' => ?_⟩
            cases hb : w'.testBit i with
            | true => rfl
            | false =>
              exfalso
              refine hm w w' hw hw' hwt hwt' fun j hj => ?_
              have htied : tied p t i j := by
                rcases Nat.lt_trichotomy i j with h | h | h
                · exact hall i j h hj
                · subst h; exact tied_refl _ _ _
                · exact tied_symm (hall j i h hi)
              obtain ⟨b, hb'⟩ := htied
              have e1 := hb' w hw hwt
              have e2 := hb' w' hw' hwt'
              simp only [same, hwi, hb] at e1 e2
              cases h3 : w.testBit j <;> cases h4 : w'.testBit j <;> simp_all
        · simp only [Classical.not_forall] at hall
          obtain ⟨i, j, hij, hj, hn⟩ := hall
          have hpt := not_tied_parts hn
          have r1 := rank_ask (b := true) (by omega) hj hn
          have r2 := rank_ask (b := false) (by omega) hj hn
          obtain ⟨q, rfl⟩ : ∃ q, r = q + 1 := ⟨r - 1, by omega⟩
          have sub : ∀ b w, ask t i j b w = true → t w = true := fun b w h => by simp only [ask, Bool.and_eq_true] at h; exact h.1
          refine .ask i j hij hj hpt ((ih _ (by omega) _ rfl ?_ ?_).more _ (by omega)) ((ih _ (by omega) _ rfl ?_ ?_).more _ (by omega))
          · exact fun w w' a b c d e => hm w w' a b (sub _ _ c) (sub _ _ d) e
          · exact fun w a b => h1 w a (sub _ _ b)
          · exact fun w w' a b c d e => hm w w' a b (sub _ _ c) (sub _ _ d) e
          · exact fun w a b => h1 w a (sub _ _ b)
  exact main _ t rfl hm h1
/-- the least number of questions, or -1 -/
def IsL (p : Nat) (t : Tb) (v : Int) : Prop := (v = -1 ∧ ∀ n, ¬ Enough p n t) ∨ (0 ≤ v ∧ Enough p v.toNat t ∧ ∀ m, Enough p m t → v.toNat ≤ m)
theorem exists_least (P : Nat → Prop) (n : Nat) (h : P n) : ∃ m, P m ∧ ∀ k, P k → m ≤ k := by
  induction n using Nat.strongRecOn with
  | _ n ih =>
    by_cases h2 : ∃ k, k < n ∧ P k
    · obtain ⟨k, hk, hp⟩ := h2
      exact ih k hk hp
    · refine ⟨n, h, fun k hk => ?_⟩
      rcases Nat.lt_or_ge k n with h3 | h3
      · exact absurd ⟨k, h3, hk⟩ h2
      · exact h3
theorem exists_isL (p t) : ∃ v, IsL p t v := by
  by_cases h : ∃ n, Enough p n t
  · obtain ⟨n, h⟩ := h
    obtain ⟨m, h1, h2⟩ := exists_least (fun n => Enough p n t) n h
    exact ⟨m, .inr ⟨by omega, by simpa using h1, by simpa using h2⟩⟩
  · exact ⟨-1, .inl ⟨rfl, fun n hn => h ⟨n, hn⟩⟩⟩
noncomputable def L (p : Nat) (t : Tb) : Int := Classical.choose (exists_isL p t)
theorem L_is (p t) : IsL p t (L p t) := Classical.choose_spec (exists_isL p t)
theorem IsL.unique {p t v v'} (h : IsL p t v) (h' : IsL p t v') : v = v' := by
  rcases h with ⟨rfl, h⟩ | ⟨h0, h1, h2⟩ <;> rcases h' with ⟨rfl, h'⟩ | ⟨h0', h1', h2'⟩
  · rfl
  · exact absurd h1' (h _)
  · exact absurd h1 (h' _)
  · have := h2 _ h1'; have := h2' _ h1; omega
theorem L_eq {p t v} (h : IsL p t v) : L p t = v := (L_is p t).unique h
theorem L_lo (p t) : -1 ≤ L p t := by rcases L_is p t with ⟨h, _⟩ | ⟨h, _⟩ <;> omega
theorem L_easy {p t} (h : easy p t) : L p t = 0 := L_eq (.inr ⟨by omega, .easy h, fun m _ => by simp⟩)
theorem L_enough {p t} (h : 0 ≤ L p t) : Enough p (L p t).toNat t := by
  rcases L_is p t with ⟨h1, _⟩ | ⟨_, h1, _⟩
  · omega
  · exact h1
theorem L_of {p n t} (h : Enough p n t) : 0 ≤ L p t ∧ (L p t).toNat ≤ n := by
  rcases L_is p t with ⟨_, h1⟩ | ⟨h0, _, h2⟩
  · exact absurd h (h1 n)
  · exact ⟨h0, h2 n h⟩
theorem L_rank (p t) : L p t ≤ rank p t := by
  rcases L_is p t with ⟨h, _⟩ | ⟨h0, h1, h2⟩
  · omega
  · have := h2 _ h1.rank; omega
theorem L_zero {p t} (h : L p t = 0) : easy p t := by
  have := L_enough (p := p) (t := t) (by omega)
  rw [h] at this
  cases this with
  | easy h => exact h
/-- what asking i of j comes to -/
noncomputable def cost (p : Nat) (t : Tb) (i j : Nat) : Int :=
  1 + (if L p (ask t i j true) < L p (ask t i j false) then L p (ask t i j false) else L p (ask t i j true))
def can (p : Nat) (t : Tb) (i j : Nat) : Prop := parts p t i j ∧ 0 ≤ L p (ask t i j true) ∧ 0 ≤ L p (ask t i j false)
/-- the best of some questions -/
def Bst (p : Nat) (t : Tb) (S : Nat → Nat → Prop) (v : Int) : Prop :=
  (v = -1 ∧ ∀ i j, S i j → ¬ can p t i j) ∨ (1 ≤ v ∧ (∃ i j, S i j ∧ can p t i j ∧ v = cost p t i j) ∧ ∀ i j, S i j → can p t i j → v ≤ cost p t i j)
theorem Bst.none (p t) : Bst p t (fun _ _ => False) (-1) := .inl ⟨rfl, fun _ _ h => h.elim⟩
theorem Bst.same {p t S v} {S' : Nat → Nat → Prop} (h : Bst p t S v) (hS : ∀ a b, S a b ↔ S' a b) : Bst p t S' v := by
  rcases h with ⟨rfl, h⟩ | ⟨h1, ⟨a, b, hs, hc, e⟩, h3⟩
  · exact .inl ⟨rfl, fun a b hs => h a b ((hS a b).2 hs)⟩
  · exact .inr ⟨h1, ⟨a, b, (hS a b).1 hs, hc, e⟩, fun a b hs hc => h3 a b ((hS a b).2 hs) hc⟩
theorem cost_pos {p t i j} (h : can p t i j) : 1 ≤ cost p t i j := by
  unfold cost
  have := h.2.1; have := h.2.2
  split <;> omega
theorem Bst.skip {p t S v i j} {S' : Nat → Nat → Prop} (h : Bst p t S v) (hn : ¬ can p t i j) (hS : ∀ a b, S' a b ↔ S a b ∨ (a = i ∧ b = j)) : Bst p t S' v := by
  rcases h with ⟨rfl, h⟩ | ⟨h1, ⟨a, b, hs, hc, e⟩, h3⟩
  · refine .inl ⟨rfl, fun a b hs => ?_⟩
    rcases (hS a b).1 hs with hs | ⟨rfl, rfl⟩
    · exact h a b hs
    · exact hn
  · refine .inr ⟨h1, ⟨a, b, (hS a b).2 (.inl hs), hc, e⟩, fun a b hs hc => ?_⟩
    rcases (hS a b).1 hs with hs | ⟨rfl, rfl⟩
    · exact h3 a b hs hc
    · exact absurd hc hn
theorem Bst.keep {p t S v i j} {S' : Nat → Nat → Prop} (h : Bst p t S v) (hv : 0 ≤ v) (hle : v ≤ cost p t i j) (hS : ∀ a b, S' a b ↔ S a b ∨ (a = i ∧ b = j)) : Bst p t S' v := by
  rcases h with ⟨rfl, h⟩ | ⟨h1, ⟨a, b, hs, hc, e⟩, h3⟩
  · omega
  · refine .inr ⟨h1, ⟨a, b, (hS a b).2 (.inl hs), hc, e⟩, fun a b hs hc => ?_⟩
    rcases (hS a b).1 hs with hs | ⟨rfl, rfl⟩
    · exact h3 a b hs hc
    · exact hle
theorem Bst.take {p t S v i j} {S' : Nat → Nat → Prop} (h : Bst p t S v) (hc : can p t i j) (hlt : v < 0 ∨ cost p t i j < v) (hS : ∀ a b, S' a b ↔ S a b ∨ (a = i ∧ b = j)) : Bst p t S' (cost p t i j) := by
  refine .inr ⟨cost_pos hc, ⟨i, j, (hS i j).2 (.inr ⟨rfl, rfl⟩), hc, rfl⟩, fun a b hs hc' => ?_⟩
  rcases (hS a b).1 hs with hs | ⟨rfl, rfl⟩
  · rcases h with ⟨rfl, h⟩ | ⟨h1, _, h3⟩
    · exact absurd hc' (h a b hs)
    · have := h3 a b hs hc'
      omega
  · exact Int.le_refl _
theorem cost_enough {p t i j} (hij : i < j) (hj : j < p) (h : can p t i j) : Enough p (cost p t i j).toNat t := by
  have h1 := L_enough h.2.1
  have h2 := L_enough h.2.2
  obtain ⟨m, hm⟩ : ∃ m, (cost p t i j).toNat = m + 1 := ⟨(cost p t i j).toNat - 1, by have := cost_pos h; omega⟩
  rw [hm]
  have hc : cost p t i j = m + 1 := by have := cost_pos h; omega
  unfold cost at hc
  refine .ask i j hij hj h.1 (h1.more _ ?_) (h2.more _ ?_) <;> split at hc <;> omega
/-- the best of all questions is the least number -/
theorem Bst.all {p t v} (h : Bst p t (fun i j => i < j ∧ j < p) v) (hn : ¬ easy p t) : L p t = v := by
  refine L_eq ?_
  rcases h with ⟨rfl, h⟩ | ⟨h1, ⟨i, j, ⟨hij, hj⟩, hc, rfl⟩, h3⟩
  · refine .inl ⟨rfl, fun n he => ?_⟩
    cases he with
    | easy he => exact hn he
    | ask i j hij hj hp ha hb => exact h i j ⟨hij, hj⟩ ⟨hp, (L_of ha).1, (L_of hb).1⟩
  · refine .inr ⟨by omega, cost_enough hij hj hc, fun m he => ?_⟩
    cases he with
    | easy he => exact absurd he hn
    | ask i' j' hij' hj' hp ha hb =>
      have h4 := L_of ha
      have h5 := L_of hb
      have := h3 i' j' ⟨hij', hj'⟩ ⟨hp, h4.1, h5.1⟩
      unfold cost at this ⊢
      split at this <;> split at this <;> split <;> omega
end Go.Proofs.Ytgcdlkpjjnglbaa.La

/- Plain: which worlds a table has (impl.WorldsIn), and who is known to tell the truth (impl.KnownTeller), over the printed functions. -/
namespace Go.Proofs.Ytgcdlkpjjnglbaa.PA
open Go.RowKit Go.Proofs.YtgcdlkpjjnglbaaW.PrintWords Go.Proofs.YtgcdlkpjjnglbaaW.PrintLast Go.Proofs.YtgcdlkpjjnglbaaW.PrintMore
set_option linter.unusedVariables false
set_option linter.unusedSimpArgs false
theorem shr_nat (x i : Nat) (hi : i ≤ 64) : shr .i64 (x : Int) (i : Int) = ((x / 2 ^ i : Nat) : Int) := by
  unfold shr
  rw [Int.toNat_natCast, Nat.min_eq_left (by simpa [IntKind.bits] using hi)]
  exact div_pow_nat x i
theorem bit_shr (x i : Nat) (hx : x < 9223372036854775808) (hi : i ≤ 64) : Go.bits .and .i64 (shr .i64 (x : Int) (i : Int)) 1 = if x.testBit i then 1 else 0 := by
  rw [shr_nat x i hi, ← div_pow_nat]; exact bit_at x i hx
theorem mod_shr (x i : Nat) (hi : i ≤ 64) : Int.tmod (shr .i64 (x : Int) (i : Int)) 2 = if x.testBit i then 1 else 0 := by
  rw [shr_nat x i hi, Nat.testBit_eq_decide_div_mod_eq]
  generalize x / 2 ^ i = y
  rw [Int.tmod_eq_emod_of_nonneg (by omega)]
  by_cases h : y % 2 = 1
  · simp [h]; omega
  · have : y % 2 = 0 := by omega
    simp [this]; omega
theorem shl_one_i64 (p : Nat) (h : p ≤ 62) : shl .i64 1 (p : Int) = ((2 ^ p : Nat) : Int) := by
  unfold shl
  rw [Int.toNat_natCast, Nat.min_eq_left (by simp [IntKind.bits]; omega), IntKind.wrap_i64]
  have : 2 ^ p ≤ 2 ^ 62 := Nat.pow_le_pow_right (by omega) h
  have e : ((2 : Int) ^ p) = ((2 ^ p : Nat) : Int) := by simp
  rw [Int.one_mul, e]
  generalize 2 ^ p = q at *
  omega
theorem shl_one_u64 (p : Nat) (h : p ≤ 62) : shl .u64 1 (p : Int) = ((2 ^ p : Nat) : Int) := by
  unfold shl
  rw [Int.toNat_natCast, Nat.min_eq_left (by simp [IntKind.bits]; omega), IntKind.wrap_u64]
  have : 2 ^ p ≤ 2 ^ 62 := Nat.pow_le_pow_right (by omega) h
  have e : ((2 : Int) ^ p) = ((2 ^ p : Nat) : Int) := by simp
  rw [Int.one_mul, e]
  generalize 2 ^ p = q at *
  omega
theorem wrap_id {x : Int} (h0 : -9223372036854775808 ≤ x) (h1 : x ≤ 9223372036854775807) : wrap64 x = x := by unfold wrap64; omega
theorem pow_le16 {p : Nat} (h4 : p ≤ 4) : 2 ^ p ≤ 16 := Nat.le_trans (Nat.pow_le_pow_right (by omega) h4) (by decide)
theorem pow_pow_le {p : Nat} (h4 : p ≤ 4) : 2 ^ 2 ^ p ≤ 65536 := Nat.le_trans (Nat.pow_le_pow_right (by omega) (pow_le16 h4)) (by decide)
theorem peopleOk_ev (a0 : Int) : impl_peopleOk.f a0 = some (decide (1 ≤ a0 ∧ a0 ≤ 4)) := by
  unfold impl_peopleOk.f
  by_cases h : a0 ≥ 1
  · rw [if_pos h]; simp; omega
  · rw [if_neg h]; simp; omega
theorem tableOk_ev (a0 a1 : Int) : impl_TableOk.f a0 a1 = some (decide (1 ≤ a0 ∧ a0 ≤ 4 ∧ 0 ≤ a1 ∧ a1 < ((2 ^ 2 ^ a0.toNat : Nat) : Int))) := by
  unfold impl_TableOk.f
  rw [peopleOk_ev]
  simp only [Option.bind_some]
  by_cases h : 1 ≤ a0 ∧ a0 ≤ 4
  · obtain ⟨p, rfl⟩ := Int.eq_ofNat_of_zero_le (show 0 ≤ a0 by omega)
    have h4 : p ≤ 4 := by omega
    rw [decide_eq_true h, if_pos rfl]
    by_cases h2 : a1 ≥ 0
    · have := pow_le16 h4
      rw [if_pos h2, if_pos (by omega), shl_one_u64 p (by omega), shl_one_i64 _ (by omega), Int.toNat_natCast]
      congr 1
      exact decide_eq_decide.2 (by omega)
    · rw [if_neg h2]
      congr 1
      symm; exact decide_eq_false (by omega)
  · rw [decide_eq_false h, if_neg (by decide)]
    congr 1
    symm; exact decide_eq_false (by omega)
/-- the worlds of a table from w on -/
def worldsFrom (t w : Nat) : Nat → List Int
  | 0 => []
  | d + 1 => if t.testBit w then (w : Int) :: worldsFrom t (w + 1) d else worldsFrom t (w + 1) d
theorem worldsFrom_len (t w d : Nat) : (worldsFrom t w d).length ≤ d := by
  induction d generalizing w with
  | zero => simp [worldsFrom]
  | succ d ih => simp only [worldsFrom]; split <;> (have := ih (w + 1); simp; omega)
theorem worldsIn_l0 (t : Nat) (ht : t < 9223372036854775808) (d : Nat) : ∀ (k w n : Nat) (acc : List Int), w + d = n → n ≤ 16 → d < k → acc.length + d ≤ 16 →
    impl_WorldsIn.l0 k (t : Int) acc (n : Int) (w : Int) = some (acc ++ worldsFrom t w d) := by
  induction d with
  | zero =>
    intro k w n acc hw hn hk hl
    obtain ⟨k, rfl⟩ : ∃ m, k = m + 1 := ⟨k - 1, by omega⟩
    simp only [impl_WorldsIn.l0]
    rw [if_neg (by omega)]
    simp [worldsFrom]
  | succ d ih =>
    intro k w n acc hw hn hk hl
    obtain ⟨k, rfl⟩ : ∃ m, k = m + 1 := ⟨k - 1, by omega⟩
    simp only [impl_WorldsIn.l0]
    rw [if_pos (by omega), if_pos (by omega), bit_shr t w ht (by omega), wrap_id (by omega) (by omega), show (w : Int) + 1 = ((w + 1 : Nat) : Int) by omega]
    by_cases hb : t.testBit w = true
    · rw [if_pos hb, if_pos rfl, if_pos (by omega), ih k (w + 1) n (acc ++ [(w : Int)]) (by omega) hn (by omega) (by simp; omega)]
      simp [worldsFrom, hb]
    · rw [if_neg hb, if_neg (by decide), ih k (w + 1) n acc (by omega) hn (by omega) (by omega)]
      simp [worldsFrom, hb]
theorem worldsIn_ev (p t : Nat) (h1 : 1 ≤ p) (h4 : p ≤ 4) (ht : t < 2 ^ 2 ^ p) (k : Nat) (hk : 17 ≤ k) : impl_WorldsIn.f k (p : Int) (t : Int) = some (worldsFrom t 0 (2 ^ p)) := by
  have h16 := pow_le16 h4
  have hpp := pow_pow_le h4
  unfold impl_WorldsIn.f
  rw [tableOk_ev]
  simp only [Option.bind_some]
  rw [decide_eq_true ⟨by omega, by omega, by omega, by rw [Int.toNat_natCast]; omega⟩, if_pos rfl, if_pos (by omega), shl_one_i64 p (by omega)]
  have := worldsIn_l0 t (by omega) (2 ^ p) k 0 (2 ^ p) [] (by omega) h16 (by omega) (by simpa using h16)
  simpa using this
theorem mem_worldsFrom (t : Nat) (d : Nat) : ∀ (w : Nat) (x : Int), x ∈ worldsFrom t w d ↔ ∃ y : Nat, x = (y : Int) ∧ w ≤ y ∧ y < w + d ∧ t.testBit y = true := by
  induction d with
  | zero => intro w x; simp [worldsFrom]; intro y _ h1 h2; omega
  | succ d ih =>
    intro w x
    simp only [worldsFrom]
    by_cases hb : t.testBit w = true
    · rw [if_pos hb, List.mem_cons, ih]
      constructor
      · rintro (rfl | ⟨y, rfl, h1, h2, h3⟩)
        · exact ⟨w, rfl, by omega, by omega, hb⟩
        · exact ⟨y, rfl, by omega, by omega, h3⟩
      · rintro ⟨y, rfl, h1, h2, h3⟩
        by_cases e : y = w
        · subst e; exact .inl rfl
        · exact .inr ⟨y, rfl, by omega, by omega, h3⟩
    · rw [if_neg hb, ih]
      constructor
      · rintro ⟨y, rfl, h1, h2, h3⟩
        exact ⟨y, rfl, by omega, by omega, h3⟩
      · rintro ⟨y, rfl, h1, h2, h3⟩
        by_cases e : y = w
        · subst e; exact absurd h3 hb
        · exact ⟨y, rfl, by omega, by omega, h3⟩
theorem known_l0 (p : Nat) (L : List Int) (hL : ∀ x ∈ L, ∃ y : Nat, x = (y : Int) ∧ y < 16) (hlen : L.length ≤ 16) (d : Nat) : ∀ (k i a : Nat), i + d = L.length → a < 16 → d < k →
    ∃ a' : Nat, a' < 16 ∧ (∀ j, a'.testBit j = true ↔ a.testBit j = true ∧ ∀ m (h : m < L.length), i ≤ m → (L[m]'h).toNat.testBit j = true) ∧
      impl_KnownTeller.l0 k (p : Int) (a : Int) L (L.length : Int) (i : Int) = impl_KnownTeller.l1 (k - d - 1) (a' : Int) (p : Int) 0 := by
  induction d with
  | zero =>
    intro k i a hi ha hk
    obtain ⟨k, rfl⟩ : ∃ m, k = m + 1 := ⟨k - 1, by omega⟩
    refine ⟨a, ha, fun j => ⟨fun h => ⟨h, fun m hm hh => by omega⟩, fun h => h.1⟩, ?_⟩
    simp only [impl_KnownTeller.l0]
    rw [if_neg (by omega)]
    rfl
  | succ d ih =>
    intro k i a hi ha hk
    obtain ⟨k, rfl⟩ : ∃ m, k = m + 1 := ⟨k - 1, by omega⟩
    have hil : i < L.length := by omega
    obtain ⟨y, hy, hy16⟩ := hL _ (List.getElem_mem hil)
    have hrd : rd L (i : Int) = (y : Int) := by
      unfold rd
      rw [Int.toNat_natCast, List.getD_eq_getElem?_getD, List.getElem?_eq_getElem hil]
      exact hy
    obtain ⟨a', ha', hbit, heq⟩ := ih k (i + 1) (a &&& y) (by omega) (Nat.lt_of_le_of_lt Nat.and_le_left ha) (by omega)
    refine ⟨a', ha', fun j => ?_, ?_⟩
    · rw [hbit, Nat.testBit_and, Bool.and_eq_true]
      constructor
      · rintro ⟨⟨h1, h2⟩, h3⟩
        refine ⟨h1, fun m hm hh => ?_⟩
        by_cases e : m = i
        · subst e; rw [hy]; exact h2
        · exact h3 m hm (by omega)
      · rintro ⟨h1, h2⟩
        refine ⟨⟨h1, ?_⟩, fun m hm hh => h2 m hm (by omega)⟩
        have := h2 i hil (Nat.le_refl _)
        rw [hy] at this
        exact this
    · simp only [impl_KnownTeller.l0]
      rw [if_pos (by omega), if_pos (by omega), if_pos (by omega), hrd, i64_and_nat _ _ (by omega) (by omega), wrap_id (by omega) (by omega), show (i : Int) + 1 = ((i + 1 : Nat) : Int) by omega, heq]
      congr 1
      omega
theorem known_l1 (p : Nat) (h4 : p ≤ 4) (a : Nat) (ha : a < 16) (d : Nat) : ∀ (k i : Nat), i + d = p → d < k →
    ∃ v : Int, -1 ≤ v ∧ impl_KnownTeller.l1 k (a : Int) (p : Int) (i : Int) = some v ∧ (0 ≤ v ↔ ∃ j, i ≤ j ∧ j < p ∧ a.testBit j = true) := by
  induction d with
  | zero =>
    intro k i hi hk
    obtain ⟨k, rfl⟩ : ∃ m, k = m + 1 := ⟨k - 1, by omega⟩
    refine ⟨-1, by omega, by simp only [impl_KnownTeller.l1]; rw [if_neg (by omega)], ?_⟩
    constructor
    · omega
    · rintro ⟨j, h1, h2, _⟩; omega
  | succ d ih =>
    intro k i hi hk
    obtain ⟨k, rfl⟩ : ∃ m, k = m + 1 := ⟨k - 1, by omega⟩
    simp only [impl_KnownTeller.l1]
    rw [if_pos (by omega), if_pos (by omega), bit_shr a i (by omega) (by omega)]
    by_cases hb : a.testBit i = true
    · rw [if_pos hb, if_pos rfl]
      exact ⟨i, by omega, rfl, ⟨fun _ => ⟨i, by omega, by omega, hb⟩, fun _ => by omega⟩⟩
    · rw [if_neg hb, if_neg (by decide), wrap_id (by omega) (by omega), show (i : Int) + 1 = ((i + 1 : Nat) : Int) by omega]
      obtain ⟨v, h1, h2, h3⟩ := ih k (i + 1) (by omega) (by omega)
      refine ⟨v, h1, h2, h3.trans ⟨fun ⟨j, a1, a2, a3⟩ => ⟨j, by omega, a2, a3⟩, fun ⟨j, a1, a2, a3⟩ => ⟨j, ?_, a2, a3⟩⟩⟩
      by_cases e : j = i
      · subst e; exact absurd a3 hb
      · omega
/-- KnownTeller tells somebody just if the table has worlds and somebody is known. -/
theorem known_ev (p t : Nat) (h1 : 1 ≤ p) (h4 : p ≤ 4) (ht : t < 2 ^ 2 ^ p) : ∃ v : Int, -1 ≤ v ∧ (∀ k, 40 ≤ k → impl_KnownTeller.f k (p : Int) (t : Int) = some v) ∧ (0 ≤ v ↔ ¬ La.empty p t.testBit ∧ La.knows p t.testBit) := by
  have h16 := pow_le16 h4
  have hL : ∀ x ∈ worldsFrom t 0 (2 ^ p), ∃ y : Nat, x = (y : Int) ∧ y < 16 := by
    intro x hx
    obtain ⟨y, rfl, _, h2, _⟩ := (mem_worldsFrom t _ 0 x).1 hx
    exact ⟨y, rfl, by omega⟩
  have hlen := worldsFrom_len t 0 (2 ^ p)
  by_cases he : worldsFrom t 0 (2 ^ p) = []
  · refine ⟨-1, by omega, fun k hk => ?_, ?_⟩
    · unfold impl_KnownTeller.f
      rw [worldsIn_ev p t h1 h4 ht k (by omega), he]
      rfl
    · constructor
      · omega
      · rintro ⟨hn, _⟩
        refine absurd (fun w hw => ?_) hn
        cases hb : t.testBit w with
        | false => rfl
        | true =>
          have := (mem_worldsFrom t (2 ^ p) 0 (w : Int)).2 ⟨w, rfl, by omega, by omega, hb⟩
          rw [he] at this
          cases this
  · obtain ⟨a', ha', hbit, _⟩ := known_l0 p (worldsFrom t 0 (2 ^ p)) hL (by omega) (worldsFrom t 0 (2 ^ p)).length 40 0 (2 ^ p - 1) (by omega) (by omega) (by omega)
    obtain ⟨v, hv1, hv2, hv3⟩ := known_l1 p h4 a' ha' p (p + 1) 0 (by omega) (by omega)
    have hl1 : ∀ k, p + 1 ≤ k → impl_KnownTeller.l1 k (a' : Int) (p : Int) 0 = some v := fun k hk => by
      obtain ⟨v', _, h2, h3⟩ := known_l1 p h4 a' ha' p k 0 (by omega) (by omega)
      have : ∀ m n : Nat, m ≤ n → ∀ r, impl_KnownTeller.l1 m (a' : Int) (p : Int) 0 = some r → impl_KnownTeller.l1 n (a' : Int) (p : Int) 0 = some r := by
        intro m n hmn
        induction n with
        | zero => intro r h; have : m = 0 := by omega
                  subst this; exact h
        | succ n ih =>
          intro r h
          by_cases e : m ≤ n
          · exact (impl_KnownTeller.mono_l n).2 _ _ _ r (ih e r h)
          · have : m = n + 1 := by omega
            subst this; exact h
      exact this _ _ hk v hv2
    refine ⟨v, hv1, fun k hk => ?_, ?_⟩
    · obtain ⟨a'', ha'', hbit', heq⟩ := known_l0 p (worldsFrom t 0 (2 ^ p)) hL (by omega) (worldsFrom t 0 (2 ^ p)).length k 0 (2 ^ p - 1) (by omega) (by omega) (by omega)
      have : a'' = a' := by
        apply Nat.eq_of_testBit_eq
        intro j
        have := (hbit' j).trans (hbit j).symm
        exact Bool.eq_iff_iff.2 this
      subst this
      unfold impl_KnownTeller.f
      rw [worldsIn_ev p t h1 h4 ht k (by omega)]
      simp only [Option.bind_some]
      have hne : ¬ ((worldsFrom t 0 (2 ^ p)).length : Int) = 0 := by
        intro e
        exact he (List.eq_nil_of_length_eq_zero (by omega))
      rw [if_neg hne, if_pos (by omega), shl_one_i64 p (by omega), wrap_id (by omega) (by omega)]
      have e1 : ((2 ^ p : Nat) : Int) - 1 = ((2 ^ p - 1 : Nat) : Int) := by
        have := Nat.two_pow_pos p
        omega
      rw [e1]
      refine Eq.trans heq (hl1 _ (by omega))
    · rw [hv3]
      constructor
      · rintro ⟨j, _, hj, hb⟩
        obtain ⟨_, hall⟩ := (hbit j).1 hb
        refine ⟨fun hem => ?_, j, hj, fun w hw hwt => ?_⟩
        · obtain ⟨x, hx⟩ := List.exists_mem_of_ne_nil _ he
          obtain ⟨y, rfl, _, h2, h3⟩ := (mem_worldsFrom t _ 0 x).1 hx
          rw [hem y (by omega)] at h3
          cases h3
        · obtain ⟨m, hm, hmx⟩ := List.getElem_of_mem ((mem_worldsFrom t (2 ^ p) 0 (w : Int)).2 ⟨w, rfl, by omega, by omega, hwt⟩)
          have := hall m hm (by omega)
          rw [hmx] at this
          exact this
      · rintro ⟨_, j, hj, hall⟩
        refine ⟨j, by omega, hj, (hbit j).2 ⟨by rw [Nat.testBit_two_pow_sub_one]; simp [hj], fun m hm _ => ?_⟩⟩
        obtain ⟨y, hy, _, h2, h3⟩ := (mem_worldsFrom t _ 0 _).1 (List.getElem_mem hm)
        rw [hy]
        simpa using hall y (by omega) h3
end Go.Proofs.Ytgcdlkpjjnglbaa.PA
