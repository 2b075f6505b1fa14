/- Part 6 of the proof of FnExactDeskNew: contracts of the functions that it reaches, and plain lemmas. -/
import Derived.Test.YtgcdlkpjjnglbaaBFnExactDeskNew5

/- Plain, and joined: laws.FnExactDeskNew tells true of every place. -/
namespace Go.Proofs.Ytgcdlkpjjnglbaa.PA
open Go.RowKit Go.Proofs.YtgcdlkpjjnglbaaW.PrintWords Go.Proofs.YtgcdlkpjjnglbaaW.PrintLast Go.Proofs.YtgcdlkpjjnglbaaW.PrintMore Tm
set_option linter.unusedVariables false
set_option linter.unusedSimpArgs false
theorem adv_cv (l : List LCl) : adv (cvC l) = l.length + 2 * wC l := by
  induction l with
  | nil => rfl
  | cons c r ih =>
    have : adv (cvC (c :: r)) = 1 + 2 * (cvM c.f1).length + adv (cvC r) := rfl
    rw [this, ih, cvM_length]
    simp [wC]
    omega
theorem mem_wC {l : List LCl} {c : LCl} (h : c ∈ l) : c.f1.length ≤ wC l := by
  induction l with
  | nil => cases h
  | cons d r ih =>
    have hd : wC (d :: r) = d.f1.length + wC r := by simp [wC]
    rcases List.mem_cons.1 h with rfl | h
    · omega
    · have := ih h; omega
theorem cv_fits {l : List LCl} (h : ∀ c ∈ l, ∀ m ∈ c.f1, fits m.f0 ∧ fits m.f1) : ∀ c ∈ cvC l, fitsM c.f1 := by
  intro c hc
  obtain ⟨d, hd, rfl⟩ := List.mem_map.1 hc
  intro m hm
  obtain ⟨n, hn, rfl⟩ := List.mem_map.1 hm
  exact h d hd n hn
theorem deskNew_told (p : Int) (l : List LCl) (hs : l.length + wC l ≤ 1048576) (hw : ∀ c ∈ l, ∀ m ∈ c.f1, fits m.f0 ∧ fits m.f1) (k : Nat) (hk : 10000000 ≤ k) : DeskNewTold k p l := by
  have hB : ∀ c ∈ l, c.f1.length ≤ 1048576 := fun c hc => by have := mem_wC hc; omega
  have hB' : ∀ c ∈ cvC l, c.f1.length ≤ 1048576 := by
    intro c hc
    obtain ⟨d, hd, rfl⟩ := List.mem_map.1 hc
    simp only [cvM_length]
    exact hB d hd
  have hl' : (cvC l).length = l.length := cvC_length l
  have hadv := adv_cv l
  have hm0 : ∀ (s : List TCl), (∀ c ∈ s, c.f1.length ≤ 1048576) → s.length ≤ 1048576 → adv s ≤ 3145728 → laws_markClaimS.f k s 1 = some (1 + (adv s : Int), mkC s 1) := fun s h1 h2 h3 => markClaimS_told s (by omega) 1048576 (by omega) h1 1 (by omega) (by omega) k (by omega)
  have hh0 : ∀ (s : List TCl), (∀ c ∈ s, c.f1.length ≤ 1048576) → s.length ≤ 1048576 → adv s ≤ 3145728 → laws_heldClaimS.f k (mkC s 1) 1 = some (1 + (adv s : Int)) := fun s h1 h2 h3 => heldClaimS_told s (by omega) 1048576 (by omega) h1 1 (by omega) (by omega) k (by omega)
  have hsz := szPlace_told p l 1048576 (by omega) (by omega) (by omega) (fun c hc => by have := hB c hc; omega) k (by omega)
  rw [if_neg (by omega)] at hsz
  have ht := toPlace_told p l (by omega) 1048576 (by omega) hB k (by omega)
  have hsd := specDeskNew_told p (cvC l) (by omega) 1048576 (by omega) hB' (cv_fits hw) k (by omega)
  have hid := implDeskNew_told p (cvC l) (by omega) 1048576 (by omega) hB' k (by omega)
  have hep : laws_eqPlace.f k p (cvC l) p (cvC l) = some true := eqPlace_told p (cvC l) (by omega) 1048576 (by omega) hB' k (by omega)
  have hes : laws_eqPlaceS.f k [] [] = some true := by
    obtain ⟨k0, rfl⟩ : ∃ k0, k = k0 + 1 := ⟨k - 1, by omega⟩
    unfold laws_eqPlaceS.f; rw [if_pos rfl, laws_eqPlaceS.l0]; rfl
  have hmp : laws_markPlaceS.f k [] = fun a => some (a, []) := by
    obtain ⟨k0, rfl⟩ : ∃ k0, k = k0 + 1 := ⟨k - 1, by omega⟩
    funext a
    unfold laws_markPlaceS.f; rw [laws_markPlaceS.l0]; rfl
  have hhp : laws_heldPlaceS.f k [] = fun a => some a := by
    obtain ⟨k0, rfl⟩ : ∃ k0, k = k0 + 1 := ⟨k - 1, by omega⟩
    funext a
    unfold laws_heldPlaceS.f; rw [laws_heldPlaceS.l0]; rfl
  have desk : ∀ (q : Int) (s : List TCl), (∀ c ∈ s, c.f1.length ≤ 1048576) → s.length ≤ 1048576 → adv s ≤ 3145728 →
      laws_eqDesk.f k q s [] q s [] = some true ∧ laws_markDesk.f k q s [] 1 = some (1 + (adv s : Int), mkC s 1, []) ∧ laws_heldDesk.f k q (mkC s 1) [] 1 = some (1 + (adv s : Int)) := by
    intro q s h1 h2 h3
    refine ⟨?_, ?_, ?_⟩
    · unfold laws_eqDesk.f
      rw [eqPlace_told q s (by omega) 1048576 (by omega) h1 k (by omega), Option.bind_some, if_pos rfl, hes, Option.bind_some, if_pos rfl]
    · unfold laws_markDesk.f laws_markPlace.f
      rw [hm0 s h1 h2 h3, Option.bind_some, hmp]; rfl
    · unfold laws_heldDesk.f laws_heldPlace.f
      rw [hh0 s h1 h2 h3, Option.bind_some, if_neg (by omega), Option.bind_some, if_neg (by omega), hhp, Option.bind_some, if_neg (by omega)]
  have hmk : laws_markPlace.f k p (cvC l) 1 = some (1 + (adv (cvC l) : Int), mkC (cvC l) 1) := hm0 (cvC l) hB' (by omega) (by omega)
  cases ho : storyOk p (cvC l) with
  | true =>
    rw [ho, if_pos rfl] at hsd hid
    obtain ⟨g1, g2, g3⟩ := desk p (cvC l) hB' (by omega) (by omega)
    exact ⟨_, p, cvC l, p, cvC l, true, _, _, _, _, hsz, by omega, ht, hsd, hid, g1, hep, hmk, by omega, g2, g3, by omega⟩
  | false =>
    rw [ho, if_neg (by decide)] at hsd hid
    obtain ⟨g1, g2, g3⟩ := desk 0 [] (by simp) (by simp) (by simp [adv])
    exact ⟨_, p, cvC l, 0, [], false, _, _, _, _, hsz, by omega, ht, hsd, hid, g1, hep, hmk, by omega, g2, g3, by omega⟩
set_option maxRecDepth 100000 in
theorem FnExactDeskNew_big (k : Nat) (p : Int) (A : Option Addr) (c : Nat) (l : List S79) (w : World) (hr : Kd.C k79 w A l.length l) (hc : l.length ≤ c) (left : Int) (hsz : laws_szPlace.f k p l 1048576 = some left) (hleft : left < 0) :
    Calls Try.prog 4 #[.agg #[.int .i64 p, .slice A l.length c]] w fun e w' => e = .returned (.bool true) ∧ Below w.heap.size w w' := by
  have HR := Aside0.mk hr
  have HC := Aside0.mk hc
  have FSZ := Aside0.mk hsz
  clear hr hc hsz
  have c1 : decide (left < 0) = true := decide_eq_true hleft
  clear hleft
  have hu32 := Try.underlying32
  go_enter Try.func4, Try.ntmps4
  go_wp2_with (first | ((with_reducible refine gate_dst (N := 1) rfl ?_); refine box_event ?hg (N := 1) ?hd (cs := #[.int .i64 p, .slice A l.length c]) (t := 32) ?hr ?_; (case hd => rfl); (case hg => rfl); (case hr => first | (go_simp; done) | (go_simp; rfl)); intro b1 e1 w1 x1 hb1; have X1 := Aside0.mk x1; have HB1 := Aside0.mk hb1; have x10 : w1.cell? ⟨b1, 0, none⟩ = some (.int .i64 p) := (blk_cell x1 0).trans rfl; have x11 : w1.cell? ⟨b1, 1, none⟩ = some (.slice A l.length c) := (blk_cell x1 1).trans rfl; clear x1 hb1 e1) | (go_at_call 14; go_loud (refine (laws_szPlace.calls k p A c l 1048576 left w1 (Kd.C_below HR.out HB1.out) HC.out FSZ.out).mono ?_; rintro e w2 ⟨rfl, hb2⟩; have HB2 := Aside0.mk (below_step HB1.out hb2); clear hb2 x10 x11)))
  go_ret
  exact ⟨rfl, HB2.out⟩
theorem FnExactDeskNew_any (p : Int) (A : Option Addr) (c : Nat) (l : List S79) (w : World) (hr : Kd.C k79 w A l.length l) (hc : l.length ≤ c) (hl : l.length ≤ 9223372036854775807) (hcl : ∀ c ∈ l, c.f1.length ≤ 9223372036854775807) (hw : ∀ c ∈ l, ∀ m ∈ c.f1, fits m.f0 ∧ fits m.f1) :
    Calls Try.prog 4 #[.agg #[.int .i64 p, .slice A l.length c]] w fun e w' => e = .returned (.bool true) ∧ Below w.heap.size w w' := by
  by_cases hs : l.length + wC l ≤ 1048576
  · exact FnExactDeskNew_told 10000000 p A c l w hr hc (deskNew_told p l hs hw _ (Nat.le_refl _))
  · have hsz := szPlace_told p l 1048576 (by omega) (by omega) hl hcl 10000000 (by omega)
    rw [if_pos (by omega)] at hsz
    exact FnExactDeskNew_big 10000000 p A c l w hr hc _ hsz (by omega)
end Go.Proofs.Ytgcdlkpjjnglbaa.PA
