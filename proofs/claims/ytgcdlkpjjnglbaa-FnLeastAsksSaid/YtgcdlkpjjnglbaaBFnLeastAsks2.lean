/- Part 2 of the proof of FnLeastAsks: contracts of the functions that it reaches, and plain lemmas. -/
import Derived.Maps.Own
import Derived.Maps.OwnOps
import Derived.Maps.OwnSet
import Derived.Maps.Views
import Derived.Test.YtgcdlkpjjnglbaaBFnLeastAsks0
import Derived.Test.YtgcdlkpjjnglbaaBFnLeastAsks1

/- impl.leastAsks and impl.LeastAsks: the least number of questions, with a map of what is known. -/
namespace Go.Proofs.Ytgcdlkpjjnglbaa.PA
open Go.RowKit Go.Maps Go.Proofs.YtgcdlkpjjnglbaaW.PrintWords Go.Proofs.YtgcdlkpjjnglbaaW.PrintLast Go.Proofs.YtgcdlkpjjnglbaaW.PrintMore
attribute [local go_sem] max2_int min2_int max_two min_two
set_option linter.unusedVariables false
set_option linter.unusedSimpArgs false
theorem asksKey : Keyed Try.prog 3 := int_keyed Try.underlying3
theorem asksZero (w : World) : (zeroValue 3).run Try.prog w = .ok (.int .i64 0) w := by kernel_rfl
/-- what the map tells is so -/
def Known (p : Nat) (D : DataW Unit) : Prop := ∀ t : Nat, t < 65536 → Maps.has D (.int .i64 (t : Int)) = true → D.atKey (.int .i64 (t : Int)) (.lit (.int .i64 0)) = .lit (.int .i64 (La.L p t.testBit))
theorem Known.empty (p : Nat) : Known p (.map []) := fun t _ h => by simp [Maps.has] at h
theorem wf64 {n : Int} (h0 : -9223372036854775808 ≤ n) (h1 : n ≤ 9223372036854775807) : (Lit.int .i64 n).wf = true := WalkArith.wf_i64 (by omega)
theorem Known.put {p : Nat} {D : DataW Unit} (h : Known p D) (hD : IsMap D) (t : Nat) (ht : t < 65536) : Known p (D.put (.int .i64 (t : Int)) (.lit (.int .i64 (La.L p t.testBit)))) := by
  intro s hs hh
  by_cases e : s = t
  · subst e
    exact Maps.atKey_put_same hD (k := .int .i64 (s : Int)) (show WideAt.IsKeyLit (.int .i64 (s : Int)) from trivial) _ _
  · have hne : (Lit.int .i64 (s : Int)) ≠ .int .i64 (t : Int) := by
      intro he
      injection he with _ he
      omega
    rw [Maps.has_put_other hne] at hh
    rw [Maps.atKey_put_other hne]
    exact h s hs hh
theorem empty_zero {p t : Nat} (ht : t < 2 ^ 2 ^ p) : La.empty p t.testBit ↔ t = 0 := by
  constructor
  · intro h
    rw [Tb.eq_num ht]
    exact Tb.num_zero_iff.2 h
  · rintro rfl w _; simp
theorem easy_iff {p t : Nat} (ht : t < 2 ^ 2 ^ p) {v : Int} (hv : 0 ≤ v ↔ ¬ La.empty p t.testBit ∧ La.knows p t.testBit) : La.easy p t.testBit ↔ t = 0 ∨ 0 ≤ v := by
  unfold La.easy
  rw [hv, ← empty_zero ht]
  by_cases h : La.empty p t.testBit
  · simp [h]
  · simp [h]
theorem asks_easy (p t : Nat) (h1 : 1 ≤ p) (h4 : p ≤ 4) (ht : t < 2 ^ 2 ^ p) (B : Nat) (w : World) (he : La.easy p t.testBit) :
    Calls Try.prog 29 #[.int .i64 (p : Int), .int .i64 (t : Int), .map (some B)] w fun e w' => e = .returned (.int .i64 0) ∧ Below w.heap.size w w' := by
  obtain ⟨v, _, hv, hiff⟩ := known_ev p t h1 h4 ht
  have hk := fun W => impl_KnownTeller.calls 40 (p : Int) (t : Int) v W (hv 40 (Nat.le_refl _))
  rw [easy_iff ht hiff] at he
  by_cases h0 : t = 0
  · subst h0
    clear hk hv hiff he
    go_enter Try.func29, Try.ntmps29
    go_wp2_with fail
    go_ret
    exact ⟨rfl, Below.refl _ _⟩
  · have hv0 : 0 ≤ v := he.resolve_left h0
    have hb : ((t : Int) == 0) = false := by simpa using h0
    have hd : decide (0 ≤ v) = true := decide_eq_true hv0
    clear hiff hv he ht
    go_enter Try.func29, Try.ntmps29
    go_wp2_with (go_at_call 11; refine (hk _).mono ?_; rintro e w' ⟨rfl, hbel⟩)
    go_ret
    exact ⟨rfl, hbel⟩

/-- what a call leaves -/
def AskPost (p r B n : Nat) (v : Int) (w : World) (e : Ending) (w' : World) : Prop :=
  e = .returned (.int .i64 v) ∧ ∃ n' D', w'.ownsMap Try.prog 3 (plainElem Try.prog 3) B n' D' ∧ Known p D' ∧ n' ≤ n + 40 ^ (r + 1) ∧ w.grownBy w' (some B)
theorem grown_of_below' {w w1 : World} (h : Below w.heap.size w w1) (row : Option Nat) : w.grownBy w1 row := ⟨h.os, h.tape, h.output, h.size, fun i hi _ => h.block i hi⟩
theorem asks_there (p t : Nat) (h1 : 1 ≤ p) (h4 : p ≤ 4) (ht : t < 2 ^ 2 ^ p) (r B n : Nat) (D : DataW Unit) (w : World) (hB : B < w.heap.size) (hown : w.ownsMap Try.prog 3 (plainElem Try.prog 3) B n D) (hkn : Known p D)
    (he : ¬ La.easy p t.testBit) (hhas : Maps.has D (.int .i64 (t : Int)) = true) :
    Calls Try.prog 29 #[.int .i64 (p : Int), .int .i64 (t : Int), .map (some B)] w (AskPost p r B n (La.L p t.testBit) w) := by
  obtain ⟨v, _, hv, hiff⟩ := known_ev p t h1 h4 ht
  have hk := fun W => impl_KnownTeller.calls 40 (p : Int) (t : Int) v W (hv 40 (Nat.le_refl _))
  rw [easy_iff ht hiff] at he
  have hpp := pow_pow_le h4
  have hb : ((t : Int) == 0) = false := by
    have : ¬ t = 0 := fun h => he (.inl h)
    simpa using this
  have hd : decide (0 ≤ v) = false := decide_eq_false (fun h => he (.inr h))
  have hat := hkn t (by omega) hhas
  have hkey := keyOf_int_mk (P := Try.prog) (q := .i64) Try.underlying3 (wf64 (n := (t : Int)) (by omega) (by omega))
  have HAT := Lib.hid hat
  have HHAS := Lib.hid hhas
  have HKN := Lib.hid hkn
  clear hiff hv he ht hpp hat hhas hkn
  go_enter Try.func29, Try.ntmps29
  go_wp2_with (first | (go_at_call 11; refine (hk _).mono ?_; rintro e w' ⟨rfl, hbel⟩) | (at_lookup; refine wpList_lookup_own_ok_int _ rfl _ _ 54 rfl 3 3 .i64 asksKey Try.underlying54 Try.underlying3 (asksZero _) B n D rfl (hown.kept (grown_of_below' hbel none) (by simp)) _ _ rfl hkey ?_; intro c hc hwc; rw [HHAS.out]; rw [HAT.out] at hc; injection hc with hc; injection hc with _ hc; subst hc))
  go_ret
  exact ⟨rfl, n, D, hown.kept (grown_of_below' hbel none) (by simp), HKN.out, Nat.le_add_right _ _, grown_of_below' hbel _⟩

theorem ask_bits (p t i j : Nat) (ht : t < 2 ^ 2 ^ p) :
    (t &&& Tb.num (2 ^ p) fun x => (x.testBit j == x.testBit i) == true).testBit = La.ask t.testBit i j true := by
  funext w
  rw [Nat.testBit_and, Tb.testBit_num]
  simp only [La.ask, La.same]
  by_cases hw : w < 2 ^ p
  · simp only [hw, decide_true, Bool.true_and]
    cases t.testBit w <;> cases w.testBit i <;> cases w.testBit j <;> rfl
  · rw [Nat.testBit_lt_two_pow (Nat.lt_of_lt_of_le ht (Nat.pow_le_pow_right (by omega) (by omega)))]
    rfl
theorem ask_bits_no (p t i j y : Nat) (hy : y.testBit = La.ask t.testBit i j true) : (t &&& (t ^^^ y)).testBit = La.ask t.testBit i j false := by
  funext w
  rw [Nat.testBit_and, Nat.testBit_xor, hy]
  simp only [La.ask]
  cases t.testBit w <;> cases La.same i j w <;> rfl
theorem L_hi (p t : Nat) (h1 : 1 ≤ p) (h4 : p ≤ 4) : La.L p t.testBit ≤ 3 := by
  have := La.L_rank p t.testBit
  have := La.rank_le p t.testBit h1
  omega
/-- the contract at tables of at most this rank -/
def AskAt (p r : Nat) : Prop := ∀ (t : Nat), t < 2 ^ 2 ^ p → La.rank p t.testBit ≤ r → ∀ (B n : Nat) (D : DataW Unit) (w : World), B < w.heap.size → w.ownsMap Try.prog 3 (plainElem Try.prog 3) B n D → Known p D → n + 40 ^ (r + 1) ≤ 100000000 →
    Calls Try.prog 29 #[.int .i64 (p : Int), .int .i64 (t : Int), .map (some B)] w (AskPost p r B n (La.L p t.testBit) w)
/-- where the loops stand -/
def AskRel (p t B n m : Nat) (S : Nat → Nat → Prop) (v : Int) (w wr : World) : Prop :=
  La.Bst p t.testBit S v ∧ ∃ n' D', wr.ownsMap Try.prog 3 (plainElem Try.prog 3) B n' D' ∧ Known p D' ∧ n' ≤ n + m ∧ w.grownBy wr (some B)
theorem bst_hi {p t : Nat} {S : Nat → Nat → Prop} {v : Int} (h1 : 1 ≤ p) (h4 : p ≤ 4) (h : La.Bst p t.testBit S v) : -1 ≤ v ∧ v ≤ 10 := by
  rcases h with ⟨rfl, _⟩ | ⟨h, ⟨i, j, _, _, rfl⟩, _⟩
  · omega
  · refine ⟨by omega, ?_⟩
    have := La.L_rank p (La.ask t.testBit i j true)
    have := La.L_rank p (La.ask t.testBit i j false)
    have := La.rank_le p (La.ask t.testBit i j true) h1
    have := La.rank_le p (La.ask t.testBit i j false) h1
    unfold La.cost
    split <;> omega
set_option maxHeartbeats 1000000 in
set_option maxRecDepth 100000 in
theorem asks_loop (p r t : Nat) (h1 : 1 ≤ p) (h4 : p ≤ 4) (ht : t < 2 ^ 2 ^ p) (hr : La.rank p t.testBit ≤ r) (ih : ∀ r', r' < r → AskAt p r') (B n : Nat) (D : DataW Unit) (w : World) (hB : B < w.heap.size)
    (hown : w.ownsMap Try.prog 3 (plainElem Try.prog 3) B n D) (hkn : Known p D) (hn : n + 40 ^ (r + 1) ≤ 100000000)
    (he : ¬ La.easy p t.testBit) (hhas : Maps.has D (.int .i64 (t : Int)) = false) :
    Calls Try.prog 29 #[.int .i64 (p : Int), .int .i64 (t : Int), .map (some B)] w (AskPost p r B n (La.L p t.testBit) w) := by
  have HN := Lib.hid hn
  clear hn
  obtain ⟨v, _, hv, hiff⟩ := known_ev p t h1 h4 ht
  have hk := fun W => impl_KnownTeller.calls 40 (p : Int) (t : Int) v W (hv 40 (Nat.le_refl _))
  have he' := he
  rw [easy_iff ht hiff] at he'
  have hpp := pow_pow_le h4
  have hb : ((t : Int) == 0) = false := by
    have : ¬ t = 0 := fun h => he' (.inl h)
    simpa using this
  have hd : decide (0 ≤ v) = false := decide_eq_false (fun h => he' (.inr h))
  have hkey := keyOf_int_mk (P := Try.prog) (q := .i64) Try.underlying3 (wf64 (n := (t : Int)) (by omega) (by omega))
  have hok : impl_TableOk.f (p : Int) (t : Int) = some true := by
    rw [tableOk_ev, decide_eq_true ⟨by omega, by omega, by omega, by rw [Int.toNat_natCast]; omega⟩]
  have HOK := Lib.hid hok
  have HHAS := Lib.hid hhas
  have HKN := Lib.hid hkn
  have HE := Lib.hid he
  have HT := Lib.hid ht
  have HR := Lib.hid hr
  have HIH := Lib.hid ih
  clear hiff hv he he' ht hhas hkn hr ih hok
  go_enter Try.func29, Try.ntmps29
  go_wp2_with (first | (go_at_call 11; refine (hk _).mono ?_; rintro e w' ⟨rfl, hbel⟩) | (at_lookup; refine wpList_lookup_own_ok_int _ rfl _ _ 54 rfl 3 3 .i64 asksKey Try.underlying54 Try.underlying3 (asksZero _) B n D rfl (hown.kept (grown_of_below' hbel none) (by simp)) _ _ rfl hkey ?_; intro c hc hwc; rw [HHAS.out]))
  clear hk
  have hst : AskRel p t B n 0 (fun i j => i < j ∧ j < 0) (-1) w w' :=
    ⟨.inl ⟨rfl, fun i j h => by omega⟩, n, D, hown.kept (grown_of_below' hbel none) (by simp), HKN.out, Nat.le_refl _, grown_of_below' hbel _⟩
  clear hbel hwc hc hown
  go_loopw [9, 33] (fun b i wr => ∃ who : Nat, who ≤ p ∧ i = .int .i64 (who : Int) ∧ ∃ u : Int, b = .int .i64 u ∧ AskRel p t B n (8 * who * 40 ^ r) (fun i j => i < j ∧ j < who) u w wr) (fun _ i _ => p - (intOf i).toNat)
  case atStart => exact ⟨0, Nat.zero_le _, rfl, -1, rfl, by simpa using hst⟩
  case round =>
    clear hst
    obtain ⟨who, hwho, rfl, u, rfl, hrel1⟩ := hrel
    obtain ⟨wo, rfl⟩ : ∃ wo : World, wo = wr := ⟨_, rfl⟩
    by_cases hlt : who < p
    · go_wp2
      go_loopw [9, 37] (fun b i wr => ∃ whom : Nat, whom ≤ who ∧ i = .int .i64 (whom : Int) ∧ ∃ u : Int, b = .int .i64 u ∧ AskRel p t B n ((8 * who + 2 * whom) * 40 ^ r) (fun i j => i < j ∧ (j < who ∨ (j = who ∧ i < whom))) u w wr) (fun _ i _ => who - (intOf i).toNat)
      case atStart =>
        refine ⟨0, Nat.zero_le _, rfl, u, rfl, ?_⟩
        obtain ⟨hb1, h2⟩ := hrel1
        exact ⟨hb1.same (fun i j => by omega), by simpa using h2⟩
      case round =>
        obtain ⟨whom, hwm, rfl, u2, rfl, hrel2⟩ := hrel
        clear hrel1
        by_cases hlt2 : whom < who
        · obtain ⟨hbst, n2, D2, hown2, hkn2, hn2, hg2⟩ := hrel2
          obtain ⟨Y, hY⟩ : ∃ Y, Y = t &&& Tb.num (2 ^ p) (fun x => (x.testBit who == x.testBit whom) == true) := ⟨_, rfl⟩
          obtain ⟨N, hN⟩ : ∃ N, N = t &&& (t ^^^ Y) := ⟨_, rfl⟩
          have hYb : Y.testBit = La.ask t.testBit whom who true := by rw [hY]; exact ask_bits p t whom who HT.out
          have hNb : N.testBit = La.ask t.testBit whom who false := by rw [hN]; exact ask_bits_no p t whom who Y hYb
          have hYt : Y < 2 ^ 2 ^ p := by rw [hY]; exact Nat.lt_of_le_of_lt Nat.and_le_left HT.out
          have hNt : N < 2 ^ 2 ^ p := by rw [hN]; exact Nat.lt_of_le_of_lt Nat.and_le_left HT.out
          have hpp := pow_pow_le h4
          have htt := HT.out
          have hand : bits .andNot .i64 (t : Int) (Y : Int) = (N : Int) := by rw [hN]; exact i64_andNot_nat t Y (by omega) (by omega)
          have hask := fun W => asked_at p t who whom true W h1 h4 htt hlt (by omega) HOK.out
          rw [← hY] at hask
          have hmem : ∀ S' : Nat → Nat → Prop, S' = (fun i j => i < j ∧ (j < who ∨ (j = who ∧ i < whom + 1))) → ∀ a b, S' a b ↔ (a < b ∧ (b < who ∨ (b = who ∧ a < whom))) ∨ (a = whom ∧ b = who) := by
            rintro S' rfl a b
            constructor
            · intro h
              by_cases e : a = whom ∧ b = who
              · exact .inr e
              · exact .inl ⟨h.1, by omega⟩
            · rintro (h | ⟨rfl, rfl⟩)
              · exact ⟨h.1, by omega⟩
              · exact ⟨hlt2, by omega⟩
          have HMEM := Lib.hid (hmem _ rfl)
          have hub := bst_hi h1 h4 hbst
          clear hmem hY hN hpp htt
          by_cases hpt : La.parts p t.testBit whom who
          · have hnt := La.parts_not_tied hpt
            have ry := La.rank_ask (b := true) (show whom < p by omega) hlt hnt
            have rn := La.rank_ask (b := false) (show whom < p by omega) hlt hnt
            have hrr := HR.out
            obtain ⟨q, rfl⟩ : ∃ q, r = q + 1 := ⟨r - 1, by omega⟩
            have hq := HIH.out q (by omega)
            have hy0 : ((Y : Int) == 0) = false := by
              have : ¬ Y = 0 := fun h => hpt.1 (by rw [← hYb, empty_zero hYt]; exact h)
              simpa using this
            have hn0 : ((N : Int) == 0) = false := by
              have : ¬ N = 0 := fun h => hpt.2 (by rw [← hNb, empty_zero hNt]; exact h)
              simpa using this
            have h40 : 0 < 40 ^ (q + 1) := Nat.pow_pos (by omega)
            have hN' := HN.out
            have e2 : 40 ^ (q + 1 + 1) = 40 * 40 ^ (q + 1) := by rw [Nat.pow_succ, Nat.mul_comm]
            have hle : (8 * who + 2 * whom) * 40 ^ (q + 1) ≤ 32 * 40 ^ (q + 1) := Nat.mul_le_mul_right _ (by omega)
            have hm1 : (8 * who + 2 * (whom + 1)) * 40 ^ (q + 1) = (8 * who + 2 * whom) * 40 ^ (q + 1) + 2 * 40 ^ (q + 1) := by
              rw [show 8 * who + 2 * (whom + 1) = (8 * who + 2 * whom) + 2 by omega, Nat.add_mul]
            have cY := fun W a b c => hq Y hYt (by rw [hYb]; omega) B n2 D2 W a b c (by omega)
            have cN := fun n' D' W (h : n' ≤ n2 + 40 ^ (q + 1)) a b c => hq N hNt (by rw [hNb]; omega) B n' D' W a b c (by omega)
            have hfin : ∀ n' n'' : Nat, n' ≤ n2 + 40 ^ (q + 1) → n'' ≤ n' + 40 ^ (q + 1) → n'' ≤ n + (8 * who + 2 * (whom + 1)) * 40 ^ (q + 1) := by omega
            rw [hYb] at cY
            rw [hNb] at cN
            obtain ⟨a, ha⟩ : ∃ a, a = La.L p (La.ask t.testBit whom who true) := ⟨_, rfl⟩
            obtain ⟨b, hb'⟩ : ∃ b, b = La.L p (La.ask t.testBit whom who false) := ⟨_, rfl⟩
            have halo := La.L_lo p (La.ask t.testBit whom who true)
            have hahi := L_hi p Y h1 h4
            have hblo := La.L_lo p (La.ask t.testBit whom who false)
            have hbhi := L_hi p N h1 h4
            rw [hYb] at hahi
            rw [hNb] at hbhi
            rw [← ha] at cY halo hahi
            rw [← hb'] at cN hblo hbhi
            have hcan : La.can p t.testBit whom who ↔ 0 ≤ a ∧ 0 ≤ b := by
              unfold La.can
              rw [← ha, ← hb']
              exact ⟨fun h => h.2, fun h => ⟨hpt, h⟩⟩
            have hcost : La.cost p t.testBit whom who = 1 + (if a < b then b else a) := by unfold La.cost; rw [← ha, ← hb']
            have HCAN := Lib.hid hcan
            have HCOST := Lib.hid hcost
            have HBST := Lib.hid hbst
            have HFIN := Lib.hid hfin
            have HCN := Lib.hid cN
            clear hnt ry rn hrr hq h40 hN' e2 hle hm1 hfin ha hb' hYb hNb hYt hNt hpt hcan hcost hbst hn2 cN
            go_wp2_with (go_at_call 56; refine (hask _).mono ?_; rintro e w1 ⟨rfl, hb1⟩)
            refine (cY _ (Nat.lt_of_lt_of_le hown2.lt hb1.size) (hown2.kept (grown_of_below' hb1 none) (by simp)) hkn2).mono ?_
            rintro e w2 ⟨rfl, n3, D3, hown3, hkn3, hn3, hg3⟩
            have HN3 := Lib.hid hn3
            clear hn3 cY hask
            go_wp2_with fail
            refine (HCN.out n3 D3 _ HN3.out hown3.lt hown3 hkn3).mono ?_
            rintro e w3 ⟨rfl, n4, D4, hown4, hkn4, hn4, hg4⟩
            have HN4 := Lib.hid (HFIN.out n3 n4 HN3.out hn4)
            have hgg := ((hg2.trans (grown_of_below' hb1 _)).trans hg3).trans hg4
            clear hn4 hb1 hg2 hg3 hg4 hown2 hown3 hkn2 hkn3
            by_cases ha0 : 0 ≤ a
            · by_cases hb0 : 0 ≤ b
              · have hc := HCAN.out.2 ⟨ha0, hb0⟩
                by_cases hu0 : u2 < 0
                · have HB := Lib.hid (HBST.out.take hc (.inl hu0) HMEM.out)
                  clear hc
                  by_cases hab : a < b
                  · have HC := Lib.hid (HCOST.out.trans (by rw [if_pos hab]))
                    go_wp2
                    go_roundw
                    case rel => exact ⟨whom + 1, hlt2, by go_num, _, by rw [← HC.out], HB.out, n4, D4, hown4, hkn4, HN4.out, hgg⟩
                    case measure => simp [intOf]; omega
                  · have HC := Lib.hid (HCOST.out.trans (by rw [if_neg hab]))
                    go_wp2
                    go_roundw
                    case rel => exact ⟨whom + 1, hlt2, by go_num, _, by rw [← HC.out], HB.out, n4, D4, hown4, hkn4, HN4.out, hgg⟩
                    case measure => simp [intOf]; omega
                · by_cases hab : a < b
                  · have HC := Lib.hid (HCOST.out.trans (by rw [if_pos hab]))
                    by_cases hlt3 : 1 + b < u2
                    · have HB := Lib.hid (HBST.out.take hc (.inr (by rw [HC.out]; exact hlt3)) HMEM.out)
                      clear hc
                      go_wp2
                      go_roundw
                      case rel => exact ⟨whom + 1, hlt2, by go_num, _, by rw [← HC.out], HB.out, n4, D4, hown4, hkn4, HN4.out, hgg⟩
                      case measure => simp [intOf]; omega
                    · have HB := Lib.hid (HBST.out.keep (i := whom) (j := who) (by omega) (by rw [HC.out]; omega) HMEM.out)
                      clear hc
                      go_wp2
                      go_roundw
                      case rel => exact ⟨whom + 1, hlt2, by go_num, u2, rfl, HB.out, n4, D4, hown4, hkn4, HN4.out, hgg⟩
                      case measure => simp [intOf]; omega
                  · have HC := Lib.hid (HCOST.out.trans (by rw [if_neg hab]))
                    by_cases hlt3 : 1 + a < u2
                    · have HB := Lib.hid (HBST.out.take hc (.inr (by rw [HC.out]; exact hlt3)) HMEM.out)
                      clear hc
                      go_wp2
                      go_roundw
                      case rel => exact ⟨whom + 1, hlt2, by go_num, _, by rw [← HC.out], HB.out, n4, D4, hown4, hkn4, HN4.out, hgg⟩
                      case measure => simp [intOf]; omega
                    · have HB := Lib.hid (HBST.out.keep (i := whom) (j := who) (by omega) (by rw [HC.out]; omega) HMEM.out)
                      clear hc
                      go_wp2
                      go_roundw
                      case rel => exact ⟨whom + 1, hlt2, by go_num, u2, rfl, HB.out, n4, D4, hown4, hkn4, HN4.out, hgg⟩
                      case measure => simp [intOf]; omega
              · have HB := Lib.hid (HBST.out.skip (i := whom) (j := who) (fun h => hb0 (HCAN.out.1 h).2) HMEM.out)
                go_wp2
                go_roundw
                case rel => exact ⟨whom + 1, hlt2, by go_num, u2, rfl, HB.out, n4, D4, hown4, hkn4, HN4.out, hgg⟩
                case measure => simp [intOf]; omega
            · have HB := Lib.hid (HBST.out.skip (i := whom) (j := who) (fun h => ha0 (HCAN.out.1 h).1) HMEM.out)
              go_wp2
              go_roundw
              case rel => exact ⟨whom + 1, hlt2, by go_num, u2, rfl, HB.out, n4, D4, hown4, hkn4, HN4.out, hgg⟩
              case measure => simp [intOf]; omega
          · have hz : Y = 0 ∨ N = 0 := by
              by_cases hy0 : Y = 0
              · exact .inl hy0
              · refine .inr ?_
                rw [← empty_zero hNt, hNb]
                refine Classical.byContradiction fun hne => hpt ⟨?_, hne⟩
                rw [← hYb, empty_zero hYt]
                exact hy0
            have HB := Lib.hid (La.Bst.skip hbst (i := whom) (j := who) (fun h => hpt h.1) HMEM.out)
            clear hpt hYb hNb hYt hNt hbst
            have hle : (8 * who + 2 * whom) * 40 ^ r ≤ (8 * who + 2 * (whom + 1)) * 40 ^ r := Nat.mul_le_mul_right _ (by omega)
            have hn3 : n2 ≤ n + (8 * who + 2 * (whom + 1)) * 40 ^ r := by omega
            have HN3 := Lib.hid hn3
            clear hle hn3 hn2
            rcases hz with rfl | rfl
            · go_wp2_with (go_at_call 56; refine (hask _).mono ?_; rintro e w1 ⟨rfl, hb1⟩)
              go_roundw
              case rel => exact ⟨whom + 1, hlt2, by go_num, u2, rfl, HB.out, n2, D2, hown2.kept (grown_of_below' hb1 none) (by simp), hkn2, HN3.out, hg2.trans (grown_of_below' hb1 _)⟩
              case measure => simp [intOf]; omega
            · have hor : ((Y : Int) == 0) = true ∨ ((Y : Int) == 0) = false := by cases ((Y : Int) == 0) <;> simp
              rcases hor with hy | hy
              all_goals
                go_wp2_with (go_at_call 56; refine (hask _).mono ?_; rintro e w1 ⟨rfl, hb1⟩)
                go_roundw
                case rel => exact ⟨whom + 1, hlt2, by go_num, u2, rfl, HB.out, n2, D2, hown2.kept (grown_of_below' hb1 none) (by simp), hkn2, HN3.out, hg2.trans (grown_of_below' hb1 _)⟩
                case measure => simp [intOf]; omega
        · obtain rfl : whom = who := by omega
          obtain ⟨hbst, n2, D2, hown2, hkn2, hn2, hg2⟩ := hrel2
          have HB := Lib.hid (hbst.same (S' := fun i j => i < j ∧ j < whom + 1) (fun i j => by omega))
          have hle : (8 * whom + 2 * whom) * 40 ^ r ≤ 8 * (whom + 1) * 40 ^ r := Nat.mul_le_mul_right _ (by omega)
          have hn3 : n2 ≤ n + 8 * (whom + 1) * 40 ^ r := by omega
          have HN3 := Lib.hid hn3
          clear hle hn3 hn2 hbst
          go_wp2
          go_roundw
          case rel => exact ⟨whom + 1, hlt, by go_num, u2, rfl, HB.out, n2, D2, hown2, hkn2, HN3.out, hg2⟩
          case measure => simp [intOf]; omega
    · obtain rfl : who = p := by omega
      obtain ⟨hbst, n2, D2, hown2, hkn2, hn2, hg2⟩ := hrel1
      have hL := La.Bst.all hbst HE.out
      have hn3 : n2 < maxLen ∧ n2 + 1 ≤ n + 40 ^ (r + 1) := by
        have h40 : 0 < 40 ^ r := Nat.pow_pos (by omega)
        have h8 : 8 * who * 40 ^ r ≤ 32 * 40 ^ r := Nat.mul_le_mul_right _ (by omega)
        have := HN.out
        rw [Nat.pow_succ] at this ⊢
        unfold maxLen
        omega
      have hub := bst_hi h1 h4 hbst
      have HL := Lib.hid hL
      have htt := HT.out
      have hpp := pow_pow_le h4
      have HK := Lib.hid (hkn2.put hown2.isMap t (by omega))
      have HN3 := Lib.hid hn3
      have hwf : (Lit.int .i64 u).wf = true := wf64 (by omega) (by omega)
      clear hbst hL hn2 htt hpp hn3
      go_wp2_with (at_mapUpdate; refine wpList_mapUpdate_own _ rfl _ _ _ 54 rfl 3 3 asksKey Try.underlying54 _ B n2 D2 rfl hown2 HN3.out.1 _ _ _ rfl rfl hkey _ [] (plainElem_int Try.underlying3 hwf) ?_; intro w3 hown3 hg3)
      go_ret
      refine ⟨by rw [HL.out]; rfl, n2 + 1, _, hown3, ?_, HN3.out.2, hg2.trans hg3⟩
      rw [← HL.out]
      exact HK.out
theorem ask_at (p : Nat) (h1 : 1 ≤ p) (h4 : p ≤ 4) : ∀ r, AskAt p r := by
  intro r
  induction r using Nat.strongRecOn with
  | _ r ih =>
    intro t ht hr B n D w hB hown hkn hn
    by_cases he : La.easy p t.testBit
    · refine (asks_easy p t h1 h4 ht B w he).mono fun e w' ⟨h, hb⟩ => ?_
      refine ⟨by rw [La.L_easy he]; exact h, n, D, hown.kept (grown_of_below' hb none) (by simp), hkn, Nat.le_add_right _ _, grown_of_below' hb _⟩
    · cases hh : Maps.has D (.int .i64 (t : Int)) with
      | true => exact asks_there p t h1 h4 ht r B n D w hB hown hkn he hh
      | false => exact asks_loop p r t h1 h4 ht hr ih B n D w hB hown hkn hn he hh
noncomputable def impl_LeastAsks.f (a0 a1 : Int) : Option Int :=
  some (if 1 ≤ a0 ∧ a0 ≤ 4 ∧ 0 ≤ a1 ∧ a1 < ((2 ^ 2 ^ a0.toNat : Nat) : Int) then La.L a0.toNat a1.toNat.testBit else -1)
theorem impl_LeastAsks.calls (a0 a1 : Int) (r : Int) (w : World) (h : impl_LeastAsks.f a0 a1 = some r) :
    Calls Try.prog 7 #[.int .i64 a0, .int .i64 a1] w fun e w' => e = .returned (.int .i64 r) ∧ Below w.heap.size w w' := by
  unfold impl_LeastAsks.f at h
  have h := Option.some.inj h
  have hok := tableOk_ev a0 a1
  split at h
  · rename_i hp
    rw [decide_eq_true hp] at hok
    obtain ⟨p1, p4, t0, t1⟩ := hp
    obtain ⟨p, rfl⟩ := Int.eq_ofNat_of_zero_le (show 0 ≤ a0 by omega)
    obtain ⟨t, rfl⟩ := Int.eq_ofNat_of_zero_le t0
    rw [Int.toNat_natCast, Int.toNat_natCast] at h
    rw [Int.toNat_natCast] at t1
    have h1 : 1 ≤ p := by omega
    have h4 : p ≤ 4 := by omega
    have ht : t < 2 ^ 2 ^ p := by omega
    have hrk : La.rank p t.testBit ≤ 3 := by have := La.rank_le p t.testBit h1; omega
    have hT := fun W => impl_TableOk.calls _ _ true W hok
    have hA := fun W B hB hown => ask_at p h1 h4 3 t ht hrk B 0 (.map []) W hB hown (Known.empty p) (by omega)
    subst h
    clear ht hrk hok t1 t0 p1 p4
    have hmm := @run_makeMap Try.prog
    go_enter Try.func7, Try.ntmps7
    go_wp2_with (go_at_call 28; refine (hT _).mono ?_; rintro e w' ⟨rfl, ⟨nd, rfl⟩⟩)
    clear hT hmm
    refine (hA _ w.heap.size (by simp) (World.ownsMap_made (w.drewN nd) _ _ _)).mono ?_
    rintro e w2 ⟨rfl, n', D', _, _, _, hg⟩
    clear hA
    go_wp2_with fail
    go_ret
    refine ⟨rfl, ?_⟩
    exact ((below_drewNS nd (Below.refl _ _)).alloc (by simp) _).grown hg (by simp) (by simp)
  · rename_i hp
    rw [decide_eq_false hp] at hok
    have hT := fun W => impl_TableOk.calls _ _ false W hok
    subst h
    clear hok hp
    go_enter Try.func7, Try.ntmps7
    go_wp2_with (go_at_call 28; refine (hT _).mono ?_; rintro e w' ⟨rfl, ⟨nd, rfl⟩⟩)
    go_ret
    exact ⟨rfl, below_drewNS nd (Below.refl _ _)⟩
end Go.Proofs.Ytgcdlkpjjnglbaa.PA

namespace Go.Proofs.Ytgcdlkpjjnglbaa.PA
open Go.RowKit Go.Proofs.YtgcdlkpjjnglbaaW.PrintWords Go.Proofs.YtgcdlkpjjnglbaaW.PrintLast Go.Proofs.YtgcdlkpjjnglbaaW.PrintMore
attribute [local go_sem] max2_int min2_int max_two min_two max_three min_three max_four min_four   -- for this text's walks alone
set_option linter.unusedVariables false
set_option linter.unusedSimpArgs false

/-! ### laws_FnLeastAsks: function 3 -/
noncomputable def laws_FnLeastAsks.j0 : Nat → Int → Int → Int → Bool → Option (Bool)
  | 0, _, _, _, _ => none
  | k + 1, x3, x4, x5, x41 => if x41 = true then (some false) else ((impl_MajorityTable.f x3).bind fun t167 => (if (Go.bits .andNot .i64 x4 t167) = 0 then (if x5 < 0 then (some false) else (if x5 ≥ x3 then (some false) else (if x4 = 0 then (some (decide (x5 < x3))) else ((impl_OppositeTable.f x3 x4).bind fun t168 => (if t168 = x4 then (if x5 = (-1) then (some (decide (x5 < x3))) else (some false)) else (some (decide (x5 < x3)))))))) else (if x4 = 0 then (some (decide (x5 < x3))) else ((impl_OppositeTable.f x3 x4).bind fun t169 => (if t169 = x4 then (if x5 = (-1) then (some (decide (x5 < x3))) else (some false)) else (some (decide (x5 < x3))))))))
noncomputable def laws_FnLeastAsks.f (k : Nat) (l0 : List Int) : Option (Bool) := if (l0.length : Int) > 1048576 then (some true) else ((spec_DrawLeastAsks.f k l0).bind fun bt160 => ((impl_LeastAsks.f bt160.1 bt160.2).bind fun t162 => ((spec_LeastAsks.f k bt160.1 bt160.2).bind fun t163 => (if t162 = t163 then ((spec_TableOk.f bt160.1 bt160.2).bind fun t164 => (if t164 = true then (if bt160.2 = 0 then (laws_FnLeastAsks.j0 k bt160.1 bt160.2 t162 ((t162 == 0) != true)) else ((impl_KnownTeller.f k bt160.1 bt160.2).bind fun t166 => (laws_FnLeastAsks.j0 k bt160.1 bt160.2 t162 ((t162 == 0) != (decide (t166 ≥ 0)))))) else (if t162 = (-1) then ((laws_alive.f).bind fun t165 => (some t165)) else (some false)))) else (some false)))))
theorem laws_FnLeastAsks.mono_l : ∀ k, (∀ y0 y1 y2 y3, LeO (laws_FnLeastAsks.j0 k y0 y1 y2 y3) (laws_FnLeastAsks.j0 (k + 1) y0 y1 y2 y3))
  | 0 => fun _ _ _ _ r h => by simp [laws_FnLeastAsks.j0] at h
  | k + 1 => by
    have ih0 := laws_FnLeastAsks.mono_l k
    · intro y0 y1 y2 y3
      unfold laws_FnLeastAsks.j0
      repeat' first
      | (with_reducible exact ih0 _ _ _ _)
      | (with_reducible exact impl_KnownTeller.mono _ _ _)
      | (with_reducible exact spec_DrawLeastAsks.mono _ _)
      | (with_reducible exact spec_LeastAsks.mono _ _ _)
      | (with_reducible exact LeO.refl _)
      | (with_reducible exact LeO.none _)
      | (with_reducible refine LeO.ite ?_ ?_)
      | (with_reducible refine LeO.bind ?_ (fun _ => ?_))
      | exact ih0 _ _ _ _
      | exact impl_KnownTeller.mono _ _ _
      | exact spec_DrawLeastAsks.mono _ _
      | exact spec_LeastAsks.mono _ _ _
      | exact LeO.none _
      | refine LeO.ite ?_ ?_
      | refine LeO.bind ?_ (fun _ => ?_)
theorem laws_FnLeastAsks.mono : ∀ a0 k, LeO (laws_FnLeastAsks.f k a0) (laws_FnLeastAsks.f (k + 1) a0) := by
  intro a0 k
  have ih0 := laws_FnLeastAsks.mono_l k
  unfold laws_FnLeastAsks.f
  repeat' first
      | (with_reducible exact ih0 _ _ _ _)
      | (with_reducible exact impl_KnownTeller.mono _ _ _)
      | (with_reducible exact spec_DrawLeastAsks.mono _ _)
      | (with_reducible exact spec_LeastAsks.mono _ _ _)
      | (with_reducible exact LeO.refl _)
      | (with_reducible exact LeO.none _)
      | (with_reducible refine LeO.ite ?_ ?_)
      | (with_reducible refine LeO.bind ?_ (fun _ => ?_))
      | exact ih0 _ _ _ _
      | exact impl_KnownTeller.mono _ _ _
      | exact spec_DrawLeastAsks.mono _ _
      | exact spec_LeastAsks.mono _ _ _
      | exact LeO.none _
      | refine LeO.ite ?_ ?_
      | refine LeO.bind ?_ (fun _ => ?_)
set_option maxHeartbeats 8000000 in
set_option maxRecDepth 100000 in
theorem laws_FnLeastAsks.calls (k : Nat) (A0 : Option Addr) (c0 : Nat) (l0 : List Int) (r : Bool) (w : World) (hr0 : Kd.C (Kd.int .u8) w A0 l0.length l0) (hc0 : l0.length ≤ c0) (h : laws_FnLeastAsks.f k l0 = some r) :
    Calls Try.prog 3 #[.slice A0 l0.length c0] w fun e w' => e = .returned (.bool r) ∧ Below w.heap.size w w' := by
  have HR0 := Aside0.mk hr0
  have HC0 := Aside0.mk hc0
  clear hr0 hc0
  have HB := Aside0.mk (Below.refl w.heap.size w)
  have H : (if (l0.length : Int) > 1048576 then (some true) else ((spec_DrawLeastAsks.f k l0).bind fun bt160 => ((impl_LeastAsks.f bt160.1 bt160.2).bind fun t162 => ((spec_LeastAsks.f k bt160.1 bt160.2).bind fun t163 => (if t162 = t163 then ((spec_TableOk.f bt160.1 bt160.2).bind fun t164 => (if t164 = true then (if bt160.2 = 0 then (laws_FnLeastAsks.j0 k bt160.1 bt160.2 t162 ((t162 == 0) != true)) else ((impl_KnownTeller.f k bt160.1 bt160.2).bind fun t166 => (laws_FnLeastAsks.j0 k bt160.1 bt160.2 t162 ((t162 == 0) != (decide (t166 ≥ 0)))))) else (if t162 = (-1) then ((laws_alive.f).bind fun t165 => (some t165)) else (some false)))) else (some false)))))) = some r := h
  clear h
  by_cases c2 : (l0.length : Int) > 1048576
  · rw [if_pos c2] at H
    have c2b0 : decide (1048576 < (l0.length : Int)) = true := decide_eq_true c2
    have c2b1 : decide (1048576 < l0.length) = true := decide_eq_true (by omega)
    clear c2
    obtain rfl := Option.some.inj H
    go_enter Try.func3, Try.ntmps3
    go_wp2
    go_ret
    exact ⟨by first | rfl | (simp [errW_none, errW_some] <;> rfl) | (simp [*, errW_none, errW_some] <;> rfl), by repeat (first | (with_reducible first | exact HB.out | apply below_alloc | apply pw_below_drewN | apply below_drew1) | exact HB.out)⟩
  · rw [if_neg c2] at H
    have c2b0 : decide (1048576 < (l0.length : Int)) = false := decide_eq_false c2
    have c2b1 : decide (1048576 < l0.length) = false := decide_eq_false (by omega)
    clear c2
    replace H := Option.bind_eq_some_iff.mp H
    obtain ⟨⟨t160, t161⟩, A30, H⟩ := H
    replace H : ((impl_LeastAsks.f t160 t161).bind fun t162 => ((spec_LeastAsks.f k t160 t161).bind fun t163 => (if t162 = t163 then ((spec_TableOk.f t160 t161).bind fun t164 => (if t164 = true then (if t161 = 0 then (laws_FnLeastAsks.j0 k t160 t161 t162 ((t162 == 0) != true)) else ((impl_KnownTeller.f k t160 t161).bind fun t166 => (laws_FnLeastAsks.j0 k t160 t161 t162 ((t162 == 0) != (decide (t166 ≥ 0)))))) else (if t162 = (-1) then ((laws_alive.f).bind fun t165 => (some t165)) else (some false)))) else (some false)))) = some r := H
    have A3 := Aside0.mk A30
    clear A30
    replace H := Option.bind_eq_some_iff.mp H
    obtain ⟨t162, A40, H⟩ := H
    replace H : ((spec_LeastAsks.f k t160 t161).bind fun t163 => (if t162 = t163 then ((spec_TableOk.f t160 t161).bind fun t164 => (if t164 = true then (if t161 = 0 then (laws_FnLeastAsks.j0 k t160 t161 t162 ((t162 == 0) != true)) else ((impl_KnownTeller.f k t160 t161).bind fun t166 => (laws_FnLeastAsks.j0 k t160 t161 t162 ((t162 == 0) != (decide (t166 ≥ 0)))))) else (if t162 = (-1) then ((laws_alive.f).bind fun t165 => (some t165)) else (some false)))) else (some false))) = some r := H
    have A4 := Aside0.mk A40
    clear A40
    replace H := Option.bind_eq_some_iff.mp H
    obtain ⟨t163, A50, H⟩ := H
    replace H : (if t162 = t163 then ((spec_TableOk.f t160 t161).bind fun t164 => (if t164 = true then (if t161 = 0 then (laws_FnLeastAsks.j0 k t160 t161 t162 ((t162 == 0) != true)) else ((impl_KnownTeller.f k t160 t161).bind fun t166 => (laws_FnLeastAsks.j0 k t160 t161 t162 ((t162 == 0) != (decide (t166 ≥ 0)))))) else (if t162 = (-1) then ((laws_alive.f).bind fun t165 => (some t165)) else (some false)))) else (some false)) = some r := H
    have A5 := Aside0.mk A50
    clear A50
    by_cases c6 : t162 = t163
    · rw [if_pos c6] at H
      have c6b0 : (t162 == t163) = true := beq_iff_eq.mpr c6
      have c6b1 : (t162 != t163) = false := bne_eq_false_iff_eq.mpr c6
      clear c6
      replace H := Option.bind_eq_some_iff.mp H
      obtain ⟨t164, A70, H⟩ := H
      replace H : (if t164 = true then (if t161 = 0 then (laws_FnLeastAsks.j0 k t160 t161 t162 ((t162 == 0) != true)) else ((impl_KnownTeller.f k t160 t161).bind fun t166 => (laws_FnLeastAsks.j0 k t160 t161 t162 ((t162 == 0) != (decide (t166 ≥ 0)))))) else (if t162 = (-1) then ((laws_alive.f).bind fun t165 => (some t165)) else (some false))) = some r := H
      have A7 := Aside0.mk A70
      clear A70
      by_cases c8 : t164 = true
      · subst c8
        have H1 : (if t161 = 0 then (laws_FnLeastAsks.j0 k t160 t161 t162 ((t162 == 0) != true)) else ((impl_KnownTeller.f k t160 t161).bind fun t166 => (laws_FnLeastAsks.j0 k t160 t161 t162 ((t162 == 0) != (decide (t166 ≥ 0)))))) = some r := by rw [if_pos rfl] at H; exact H
        clear H
        have H := H1
        clear H1
        have HC9 := Aside0.mk H
        clear H
        go_enter Try.func3, Try.ntmps3
        go_upto_region 9 with (first | ((with_reducible refine gate_callee (f := 6) rfl ?_); refine goesL_ (some 11) rfl rfl Try.func6 (by kernel_rfl) rfl #[.slice A0 l0.length c0] rfl (by (try simp only [List.map_toArray, List.map_cons, List.map_nil]); first | done | rfl | (simp only [List.length_drop, List.length_take]; rfl)) ?_; (with_reducible refine (spec_DrawLeastAsks.calls k _ _ l0 t160 t161 _ ?side1 ?side2 A3.out).mono ?_); (case side1 => repeat (first | exact HR0.out | (with_reducible refine Kd.C_alloc ?_ _) | (with_reducible refine Kd.C_drewN ?_ _) | (with_reducible refine Kd.C_drew ?_))); (case side2 => exact HC0.out); rintro e w10 ⟨rfl, hb⟩; refine ⟨_, rfl, ?_⟩; have n0_ := Aside0.mk (below_step (by repeat (first | (with_reducible first | exact HB.out | apply below_alloc | apply pw_below_drewN | apply below_drew1) | exact HB.out)) hb); clear HB; have HB := n0_; clear n0_; (try clear hb); (try clear hb2); (try clear hk); (try clear hi)) | ((with_reducible refine gate_callee (f := 7) rfl ?_); refine goesL_ (some 16) rfl rfl Try.func7 (by kernel_rfl) rfl #[.int .i64 t160, .int .i64 t161] rfl (by (try simp only [List.map_toArray, List.map_cons, List.map_nil]); first | done | rfl | (simp only [List.length_drop, List.length_take]; rfl)) ?_; (with_reducible refine (impl_LeastAsks.calls t160 t161 t162 _ A4.out).mono ?_); rintro e w11 ⟨rfl, hb⟩; refine ⟨_, rfl, ?_⟩; have n0_ := Aside0.mk (below_step (by repeat (first | (with_reducible first | exact HB.out | apply below_alloc | apply pw_below_drewN | apply below_drew1) | exact HB.out)) hb); clear HB; have HB := n0_; clear n0_; (try clear hb); (try clear hb2); (try clear hk); (try clear hi)) | ((with_reducible refine gate_callee (f := 8) rfl ?_); refine goesL_ (some 20) rfl rfl Try.func8 (by kernel_rfl) rfl #[.int .i64 t160, .int .i64 t161] rfl (by (try simp only [List.map_toArray, List.map_cons, List.map_nil]); first | done | rfl | (simp only [List.length_drop, List.length_take]; rfl)) ?_; (with_reducible refine (spec_LeastAsks.calls k t160 t161 t163 _ A5.out).mono ?_); rintro e w12 ⟨rfl, hb⟩; refine ⟨_, rfl, ?_⟩; have n0_ := Aside0.mk (below_step (by repeat (first | (with_reducible first | exact HB.out | apply below_alloc | apply pw_below_drewN | apply below_drew1) | exact HB.out)) hb); clear HB; have HB := n0_; clear n0_; (try clear hb); (try clear hb2); (try clear hk); (try clear hi)) | ((with_reducible refine gate_callee (f := 9) rfl ?_); refine goesL_ (some 24) rfl rfl Try.func9 (by kernel_rfl) rfl #[.int .i64 t160, .int .i64 t161] rfl (by (try simp only [List.map_toArray, List.map_cons, List.map_nil]); first | done | rfl | (simp only [List.length_drop, List.length_take]; rfl)) ?_; (with_reducible refine (spec_TableOk.calls t160 t161 true _ A7.out).mono ?_); rintro e w' ⟨rfl, ⟨nd, rfl⟩⟩; refine ⟨_, rfl, ?_⟩))
        (try simp only [Act.put, List.setIfInBounds_toArray, List.set_cons_zero, List.set_cons_succ])
        go_cut [41] (fun v41 wc => ∃ (kq : Nat) (x41_8 : Bool), v41 = .bool x41_8 ∧ Aside0 (laws_FnLeastAsks.j0 kq t160 t161 t162 x41_8 = some r) ∧ Aside0 (kq ≤ k) ∧ Aside0 (Below w.heap.size w wc))
        case first =>
          have H := HC9.out
          clear HC9
          by_cases c13 : t161 = 0
          · rw [if_pos c13] at H
            have c13b0 : (t161 == 0) = true := beq_iff_eq.mpr c13
            have c13b1 : (t161 != 0) = false := bne_eq_false_iff_eq.mpr c13
            clear c13
            (first | rw [c13b0] | (simp only [i64_w, i32_w]; rw [c13b0]) | skip)
            have H' := Aside0.mk H
            clear H
            go_wp2
            go_meet
            case rel => exact ⟨_, (((t162 == 0) != true)), (by first | rfl | (simp; done) | (simp [*]; done)), H', ⟨by first | omega | exact Nat.le_refl _⟩, ⟨by repeat (first | (with_reducible first | exact HB.out | apply below_alloc | apply pw_below_drewN | apply below_drew1) | exact HB.out)⟩⟩
          · rw [if_neg c13] at H
            have c13b0 : (t161 == 0) = false := beq_eq_false_iff_ne.mpr c13
            have c13b1 : (t161 != 0) = true := bne_iff_ne.mpr c13
            (first | rw [c13b0] | (simp only [i64_w, i32_w]; rw [c13b0]) | skip)
            replace H := Option.bind_eq_some_iff.mp H
            obtain ⟨t166, A140, H⟩ := H
            replace H : (laws_FnLeastAsks.j0 k t160 t161 t162 ((t162 == 0) != (decide (t166 ≥ 0)))) = some r := H
            have A14 := Aside0.mk A140
            clear A140
            have H' := Aside0.mk H
            clear H
            go_wp2_with (first | (go_at_call 11; (with_reducible refine (impl_KnownTeller.calls k t160 t161 t166 _ A14.out).mono ?_); rintro e w15 ⟨rfl, hb⟩; have n0_ := Aside0.mk (below_step (by repeat (first | (with_reducible first | exact HB.out | apply below_alloc | apply pw_below_drewN | apply below_drew1) | exact HB.out)) hb); clear HB; have HB := n0_; clear n0_; (try clear hb); (try clear hb2); (try clear hk); (try clear hi)))
            go_meet
            case rel => exact ⟨_, (((t162 == 0) != (decide (t166 ≥ 0)))), (by first | rfl | (simp; done) | (simp [*]; done)), H', ⟨by first | omega | exact Nat.le_refl _⟩, ⟨by repeat (first | (with_reducible first | exact HB.out | apply below_alloc | apply pw_below_drewN | apply below_drew1) | exact HB.out)⟩⟩
        case rest =>
          clear HC9
          try clear c1
          try clear c2
          try clear c2b0
          try clear c2b1
          try clear p2
          try clear c3
          try clear c6
          try clear c6b0
          try clear c6b1
          try clear c7
          try clear c8
          try clear c9
          try clear c13
          try clear c13b0
          try clear c13b1
          obtain ⟨kq, x41_8, rfl, HA, HJ8, HB⟩ := hcut
          cases kq with
          | zero => exact absurd HA.out (by simp [laws_FnLeastAsks.j0])
          | succ kj8 =>
            have H := HA.out
            clear HA
            simp only [laws_FnLeastAsks.j0] at H
            by_cases c16 : x41_8 = true
            · subst c16
              have H1 : (some false) = some r := by rw [if_pos rfl] at H; exact H
              clear H
              have H := H1
              clear H1
              obtain rfl := Option.some.inj H
              go_wp2
              go_ret
              exact ⟨by first | rfl | (simp [errW_none, errW_some] <;> rfl) | (simp [*, errW_none, errW_some] <;> rfl), by repeat (first | (with_reducible first | exact HB.out | apply below_alloc | apply pw_below_drewN | apply below_drew1) | exact HB.out)⟩
            · replace c16 := Bool.eq_false_iff.mpr c16
              subst c16
              have H1 : ((impl_MajorityTable.f t160).bind fun t167 => (if (Go.bits .andNot .i64 t161 t167) = 0 then (if t162 < 0 then (some false) else (if t162 ≥ t160 then (some false) else (if t161 = 0 then (some (decide (t162 < t160))) else ((impl_OppositeTable.f t160 t161).bind fun t168 => (if t168 = t161 then (if t162 = (-1) then (some (decide (t162 < t160))) else (some false)) else (some (decide (t162 < t160)))))))) else (if t161 = 0 then (some (decide (t162 < t160))) else ((impl_OppositeTable.f t160 t161).bind fun t169 => (if t169 = t161 then (if t162 = (-1) then (some (decide (t162 < t160))) else (some false)) else (some (decide (t162 < t160)))))))) = some r := by rw [if_neg (show ¬ (false = true) by decide)] at H; exact H
              clear H
              have H := H1
              clear H1
              replace H := Option.bind_eq_some_iff.mp H
              obtain ⟨t167, A170, H⟩ := H
              replace H : (if (Go.bits .andNot .i64 t161 t167) = 0 then (if t162 < 0 then (some false) else (if t162 ≥ t160 then (some false) else (if t161 = 0 then (some (decide (t162 < t160))) else ((impl_OppositeTable.f t160 t161).bind fun t168 => (if t168 = t161 then (if t162 = (-1) then (some (decide (t162 < t160))) else (some false)) else (some (decide (t162 < t160)))))))) else (if t161 = 0 then (some (decide (t162 < t160))) else ((impl_OppositeTable.f t160 t161).bind fun t169 => (if t169 = t161 then (if t162 = (-1) then (some (decide (t162 < t160))) else (some false)) else (some (decide (t162 < t160))))))) = some r := H
              have A17 := Aside0.mk A170
              clear A170
              by_cases c18 : (Go.bits .andNot .i64 t161 t167) = 0
              · rw [if_pos c18] at H
                have c18b0 : ((Go.bits .andNot .i64 t161 t167) == 0) = true := beq_iff_eq.mpr c18
                have c18b1 : ((Go.bits .andNot .i64 t161 t167) != 0) = false := bne_eq_false_iff_eq.mpr c18
                clear c18
                by_cases c19 : t162 < 0
                · rw [if_pos c19] at H
                  have c19b0 : decide (t162 < 0) = true := decide_eq_true c19
                  clear c19
                  obtain rfl := Option.some.inj H
                  go_wp2_with (first | ((with_reducible refine gate_callee (f := 12) rfl ?_); refine goesL_ (some 44) rfl rfl Try.func12 (by kernel_rfl) rfl #[.int .i64 t160] rfl (by (try simp only [List.map_toArray, List.map_cons, List.map_nil]); first | done | rfl | (simp only [List.length_drop, List.length_take]; rfl)) ?_; (with_reducible refine (impl_MajorityTable.calls t160 t167 _ A17.out).mono ?_); rintro e w20 ⟨rfl, hb⟩; refine ⟨_, rfl, ?_⟩; have n0_ := Aside0.mk (below_step (by repeat (first | (with_reducible first | exact HB.out | apply below_alloc | apply pw_below_drewN | apply below_drew1) | exact HB.out)) hb); clear HB; have HB := n0_; clear n0_; (try clear hb); (try clear hb2); (try clear hk); (try clear hi)))
                  go_ret
                  exact ⟨by first | rfl | (simp [errW_none, errW_some] <;> rfl) | (simp [*, errW_none, errW_some] <;> rfl), by repeat (first | (with_reducible first | exact HB.out | apply below_alloc | apply pw_below_drewN | apply below_drew1) | exact HB.out)⟩
                · rw [if_neg c19] at H
                  have c19b0 : decide (t162 < 0) = false := decide_eq_false c19
                  clear c19
                  by_cases c21 : t162 ≥ t160
                  · rw [if_pos c21] at H
                    have c21b0 : decide (t160 ≤ t162) = true := decide_eq_true c21
                    clear c21
                    obtain rfl := Option.some.inj H
                    go_wp2_with (first | ((with_reducible refine gate_callee (f := 12) rfl ?_); refine goesL_ (some 44) rfl rfl Try.func12 (by kernel_rfl) rfl #[.int .i64 t160] rfl (by (try simp only [List.map_toArray, List.map_cons, List.map_nil]); first | done | rfl | (simp only [List.length_drop, List.length_take]; rfl)) ?_; (with_reducible refine (impl_MajorityTable.calls t160 t167 _ A17.out).mono ?_); rintro e w22 ⟨rfl, hb⟩; refine ⟨_, rfl, ?_⟩; have n0_ := Aside0.mk (below_step (by repeat (first | (with_reducible first | exact HB.out | apply below_alloc | apply pw_below_drewN | apply below_drew1) | exact HB.out)) hb); clear HB; have HB := n0_; clear n0_; (try clear hb); (try clear hb2); (try clear hk); (try clear hi)))
                    go_ret
                    exact ⟨by first | rfl | (simp [errW_none, errW_some] <;> rfl) | (simp [*, errW_none, errW_some] <;> rfl), by repeat (first | (with_reducible first | exact HB.out | apply below_alloc | apply pw_below_drewN | apply below_drew1) | exact HB.out)⟩
                  · rw [if_neg c21] at H
                    have c21b0 : decide (t160 ≤ t162) = false := decide_eq_false c21
                    clear c21
                    by_cases c23 : t161 = 0
                    · rw [if_pos c23] at H
                      have c23b0 : (t161 == 0) = true := beq_iff_eq.mpr c23
                      have c23b1 : (t161 != 0) = false := bne_eq_false_iff_eq.mpr c23
                      clear c23
                      obtain rfl := Option.some.inj H
                      go_wp2_with (first | ((with_reducible refine gate_callee (f := 12) rfl ?_); refine goesL_ (some 44) rfl rfl Try.func12 (by kernel_rfl) rfl #[.int .i64 t160] rfl (by (try simp only [List.map_toArray, List.map_cons, List.map_nil]); first | done | rfl | (simp only [List.length_drop, List.length_take]; rfl)) ?_; (with_reducible refine (impl_MajorityTable.calls t160 t167 _ A17.out).mono ?_); rintro e w24 ⟨rfl, hb⟩; refine ⟨_, rfl, ?_⟩; have n0_ := Aside0.mk (below_step (by repeat (first | (with_reducible first | exact HB.out | apply below_alloc | apply pw_below_drewN | apply below_drew1) | exact HB.out)) hb); clear HB; have HB := n0_; clear n0_; (try clear hb); (try clear hb2); (try clear hk); (try clear hi)))
                      go_ret
                      exact ⟨by first | rfl | (simp [errW_none, errW_some] <;> rfl) | (simp [*, errW_none, errW_some] <;> rfl), by repeat (first | (with_reducible first | exact HB.out | apply below_alloc | apply pw_below_drewN | apply below_drew1) | exact HB.out)⟩
                    · rw [if_neg c23] at H
                      have c23b0 : (t161 == 0) = false := beq_eq_false_iff_ne.mpr c23
                      have c23b1 : (t161 != 0) = true := bne_iff_ne.mpr c23
                      replace H := Option.bind_eq_some_iff.mp H
                      obtain ⟨t168, A250, H⟩ := H
                      replace H : (if t168 = t161 then (if t162 = (-1) then (some (decide (t162 < t160))) else (some false)) else (some (decide (t162 < t160)))) = some r := H
                      have A25 := Aside0.mk A250
                      clear A250
                      by_cases c26 : t168 = t161
                      · rw [if_pos c26] at H
                        have c26b0 : (t168 == t161) = true := beq_iff_eq.mpr c26
                        have c26b1 : (t168 != t161) = false := bne_eq_false_iff_eq.mpr c26
                        clear c26
                        by_cases c27 : t162 = (-1)
                        · rw [if_pos c27] at H
                          have c27b0 : (t162 == (-1)) = true := beq_iff_eq.mpr c27
                          have c27b1 : (t162 != (-1)) = false := bne_eq_false_iff_eq.mpr c27
                          clear c27
                          obtain rfl := Option.some.inj H
                          go_wp2_with (first | ((with_reducible refine gate_callee (f := 12) rfl ?_); refine goesL_ (some 44) rfl rfl Try.func12 (by kernel_rfl) rfl #[.int .i64 t160] rfl (by (try simp only [List.map_toArray, List.map_cons, List.map_nil]); first | done | rfl | (simp only [List.length_drop, List.length_take]; rfl)) ?_; (with_reducible refine (impl_MajorityTable.calls t160 t167 _ A17.out).mono ?_); rintro e w28 ⟨rfl, hb⟩; refine ⟨_, rfl, ?_⟩; have n0_ := Aside0.mk (below_step (by repeat (first | (with_reducible first | exact HB.out | apply below_alloc | apply pw_below_drewN | apply below_drew1) | exact HB.out)) hb); clear HB; have HB := n0_; clear n0_; (try clear hb); (try clear hb2); (try clear hk); (try clear hi)) | (go_at_call 13; (with_reducible refine (impl_OppositeTable.calls t160 t161 t168 _ A25.out).mono ?_); rintro e w29 ⟨rfl, hb⟩; have n0_ := Aside0.mk (below_step (by repeat (first | (with_reducible first | exact HB.out | apply below_alloc | apply pw_below_drewN | apply below_drew1) | exact HB.out)) hb); clear HB; have HB := n0_; clear n0_; (try clear hb); (try clear hb2); (try clear hk); (try clear hi)))
                          go_ret
                          exact ⟨by first | rfl | (simp [errW_none, errW_some] <;> rfl) | (simp [*, errW_none, errW_some] <;> rfl), by repeat (first | (with_reducible first | exact HB.out | apply below_alloc | apply pw_below_drewN | apply below_drew1) | exact HB.out)⟩
                        · rw [if_neg c27] at H
                          have c27b0 : (t162 == (-1)) = false := beq_eq_false_iff_ne.mpr c27
                          have c27b1 : (t162 != (-1)) = true := bne_iff_ne.mpr c27
                          obtain rfl := Option.some.inj H
                          go_wp2_with (first | ((with_reducible refine gate_callee (f := 12) rfl ?_); refine goesL_ (some 44) rfl rfl Try.func12 (by kernel_rfl) rfl #[.int .i64 t160] rfl (by (try simp only [List.map_toArray, List.map_cons, List.map_nil]); first | done | rfl | (simp only [List.length_drop, List.length_take]; rfl)) ?_; (with_reducible refine (impl_MajorityTable.calls t160 t167 _ A17.out).mono ?_); rintro e w30 ⟨rfl, hb⟩; refine ⟨_, rfl, ?_⟩; have n0_ := Aside0.mk (below_step (by repeat (first | (with_reducible first | exact HB.out | apply below_alloc | apply pw_below_drewN | apply below_drew1) | exact HB.out)) hb); clear HB; have HB := n0_; clear n0_; (try clear hb); (try clear hb2); (try clear hk); (try clear hi)) | (go_at_call 13; (with_reducible refine (impl_OppositeTable.calls t160 t161 t168 _ A25.out).mono ?_); rintro e w31 ⟨rfl, hb⟩; have n0_ := Aside0.mk (below_step (by repeat (first | (with_reducible first | exact HB.out | apply below_alloc | apply pw_below_drewN | apply below_drew1) | exact HB.out)) hb); clear HB; have HB := n0_; clear n0_; (try clear hb); (try clear hb2); (try clear hk); (try clear hi)))
                          go_ret
                          exact ⟨by first | rfl | (simp [errW_none, errW_some] <;> rfl) | (simp [*, errW_none, errW_some] <;> rfl), by repeat (first | (with_reducible first | exact HB.out | apply below_alloc | apply pw_below_drewN | apply below_drew1) | exact HB.out)⟩
                      · rw [if_neg c26] at H
                        have c26b0 : (t168 == t161) = false := beq_eq_false_iff_ne.mpr c26
                        have c26b1 : (t168 != t161) = true := bne_iff_ne.mpr c26
                        obtain rfl := Option.some.inj H
                        go_wp2_with (first | ((with_reducible refine gate_callee (f := 12) rfl ?_); refine goesL_ (some 44) rfl rfl Try.func12 (by kernel_rfl) rfl #[.int .i64 t160] rfl (by (try simp only [List.map_toArray, List.map_cons, List.map_nil]); first | done | rfl | (simp only [List.length_drop, List.length_take]; rfl)) ?_; (with_reducible refine (impl_MajorityTable.calls t160 t167 _ A17.out).mono ?_); rintro e w32 ⟨rfl, hb⟩; refine ⟨_, rfl, ?_⟩; have n0_ := Aside0.mk (below_step (by repeat (first | (with_reducible first | exact HB.out | apply below_alloc | apply pw_below_drewN | apply below_drew1) | exact HB.out)) hb); clear HB; have HB := n0_; clear n0_; (try clear hb); (try clear hb2); (try clear hk); (try clear hi)) | (go_at_call 13; (with_reducible refine (impl_OppositeTable.calls t160 t161 t168 _ A25.out).mono ?_); rintro e w33 ⟨rfl, hb⟩; have n0_ := Aside0.mk (below_step (by repeat (first | (with_reducible first | exact HB.out | apply below_alloc | apply pw_below_drewN | apply below_drew1) | exact HB.out)) hb); clear HB; have HB := n0_; clear n0_; (try clear hb); (try clear hb2); (try clear hk); (try clear hi)))
                        go_ret
                        exact ⟨by first | rfl | (simp [errW_none, errW_some] <;> rfl) | (simp [*, errW_none, errW_some] <;> rfl), by repeat (first | (with_reducible first | exact HB.out | apply below_alloc | apply pw_below_drewN | apply below_drew1) | exact HB.out)⟩
              · rw [if_neg c18] at H
                have c18b0 : ((Go.bits .andNot .i64 t161 t167) == 0) = false := beq_eq_false_iff_ne.mpr c18
                have c18b1 : ((Go.bits .andNot .i64 t161 t167) != 0) = true := bne_iff_ne.mpr c18
                by_cases c34 : t161 = 0
                · rw [if_pos c34] at H
                  have c34b0 : (t161 == 0) = true := beq_iff_eq.mpr c34
                  have c34b1 : (t161 != 0) = false := bne_eq_false_iff_eq.mpr c34
                  clear c34
                  obtain rfl := Option.some.inj H
                  go_wp2_with (first | ((with_reducible refine gate_callee (f := 12) rfl ?_); refine goesL_ (some 44) rfl rfl Try.func12 (by kernel_rfl) rfl #[.int .i64 t160] rfl (by (try simp only [List.map_toArray, List.map_cons, List.map_nil]); first | done | rfl | (simp only [List.length_drop, List.length_take]; rfl)) ?_; (with_reducible refine (impl_MajorityTable.calls t160 t167 _ A17.out).mono ?_); rintro e w35 ⟨rfl, hb⟩; refine ⟨_, rfl, ?_⟩; have n0_ := Aside0.mk (below_step (by repeat (first | (with_reducible first | exact HB.out | apply below_alloc | apply pw_below_drewN | apply below_drew1) | exact HB.out)) hb); clear HB; have HB := n0_; clear n0_; (try clear hb); (try clear hb2); (try clear hk); (try clear hi)))
                  go_ret
                  exact ⟨by first | rfl | (simp [errW_none, errW_some] <;> rfl) | (simp [*, errW_none, errW_some] <;> rfl), by repeat (first | (with_reducible first | exact HB.out | apply below_alloc | apply pw_below_drewN | apply below_drew1) | exact HB.out)⟩
                · rw [if_neg c34] at H
                  have c34b0 : (t161 == 0) = false := beq_eq_false_iff_ne.mpr c34
                  have c34b1 : (t161 != 0) = true := bne_iff_ne.mpr c34
                  replace H := Option.bind_eq_some_iff.mp H
                  obtain ⟨t169, A360, H⟩ := H
                  replace H : (if t169 = t161 then (if t162 = (-1) then (some (decide (t162 < t160))) else (some false)) else (some (decide (t162 < t160)))) = some r := H
                  have A36 := Aside0.mk A360
                  clear A360
                  by_cases c37 : t169 = t161
                  · rw [if_pos c37] at H
                    have c37b0 : (t169 == t161) = true := beq_iff_eq.mpr c37
                    have c37b1 : (t169 != t161) = false := bne_eq_false_iff_eq.mpr c37
                    clear c37
                    by_cases c38 : t162 = (-1)
                    · rw [if_pos c38] at H
                      have c38b0 : (t162 == (-1)) = true := beq_iff_eq.mpr c38
                      have c38b1 : (t162 != (-1)) = false := bne_eq_false_iff_eq.mpr c38
                      clear c38
                      obtain rfl := Option.some.inj H
                      go_wp2_with (first | ((with_reducible refine gate_callee (f := 12) rfl ?_); refine goesL_ (some 44) rfl rfl Try.func12 (by kernel_rfl) rfl #[.int .i64 t160] rfl (by (try simp only [List.map_toArray, List.map_cons, List.map_nil]); first | done | rfl | (simp only [List.length_drop, List.length_take]; rfl)) ?_; (with_reducible refine (impl_MajorityTable.calls t160 t167 _ A17.out).mono ?_); rintro e w39 ⟨rfl, hb⟩; refine ⟨_, rfl, ?_⟩; have n0_ := Aside0.mk (below_step (by repeat (first | (with_reducible first | exact HB.out | apply below_alloc | apply pw_below_drewN | apply below_drew1) | exact HB.out)) hb); clear HB; have HB := n0_; clear n0_; (try clear hb); (try clear hb2); (try clear hk); (try clear hi)) | (go_at_call 13; (with_reducible refine (impl_OppositeTable.calls t160 t161 t169 _ A36.out).mono ?_); rintro e w40 ⟨rfl, hb⟩; have n0_ := Aside0.mk (below_step (by repeat (first | (with_reducible first | exact HB.out | apply below_alloc | apply pw_below_drewN | apply below_drew1) | exact HB.out)) hb); clear HB; have HB := n0_; clear n0_; (try clear hb); (try clear hb2); (try clear hk); (try clear hi)))
                      go_ret
                      exact ⟨by first | rfl | (simp [errW_none, errW_some] <;> rfl) | (simp [*, errW_none, errW_some] <;> rfl), by repeat (first | (with_reducible first | exact HB.out | apply below_alloc | apply pw_below_drewN | apply below_drew1) | exact HB.out)⟩
                    · rw [if_neg c38] at H
                      have c38b0 : (t162 == (-1)) = false := beq_eq_false_iff_ne.mpr c38
                      have c38b1 : (t162 != (-1)) = true := bne_iff_ne.mpr c38
                      obtain rfl := Option.some.inj H
                      go_wp2_with (first | ((with_reducible refine gate_callee (f := 12) rfl ?_); refine goesL_ (some 44) rfl rfl Try.func12 (by kernel_rfl) rfl #[.int .i64 t160] rfl (by (try simp only [List.map_toArray, List.map_cons, List.map_nil]); first | done | rfl | (simp only [List.length_drop, List.length_take]; rfl)) ?_; (with_reducible refine (impl_MajorityTable.calls t160 t167 _ A17.out).mono ?_); rintro e w41 ⟨rfl, hb⟩; refine ⟨_, rfl, ?_⟩; have n0_ := Aside0.mk (below_step (by repeat (first | (with_reducible first | exact HB.out | apply below_alloc | apply pw_below_drewN | apply below_drew1) | exact HB.out)) hb); clear HB; have HB := n0_; clear n0_; (try clear hb); (try clear hb2); (try clear hk); (try clear hi)) | (go_at_call 13; (with_reducible refine (impl_OppositeTable.calls t160 t161 t169 _ A36.out).mono ?_); rintro e w42 ⟨rfl, hb⟩; have n0_ := Aside0.mk (below_step (by repeat (first | (with_reducible first | exact HB.out | apply below_alloc | apply pw_below_drewN | apply below_drew1) | exact HB.out)) hb); clear HB; have HB := n0_; clear n0_; (try clear hb); (try clear hb2); (try clear hk); (try clear hi)))
                      go_ret
                      exact ⟨by first | rfl | (simp [errW_none, errW_some] <;> rfl) | (simp [*, errW_none, errW_some] <;> rfl), by repeat (first | (with_reducible first | exact HB.out | apply below_alloc | apply pw_below_drewN | apply below_drew1) | exact HB.out)⟩
                  · rw [if_neg c37] at H
                    have c37b0 : (t169 == t161) = false := beq_eq_false_iff_ne.mpr c37
                    have c37b1 : (t169 != t161) = true := bne_iff_ne.mpr c37
                    obtain rfl := Option.some.inj H
                    go_wp2_with (first | ((with_reducible refine gate_callee (f := 12) rfl ?_); refine goesL_ (some 44) rfl rfl Try.func12 (by kernel_rfl) rfl #[.int .i64 t160] rfl (by (try simp only [List.map_toArray, List.map_cons, List.map_nil]); first | done | rfl | (simp only [List.length_drop, List.length_take]; rfl)) ?_; (with_reducible refine (impl_MajorityTable.calls t160 t167 _ A17.out).mono ?_); rintro e w43 ⟨rfl, hb⟩; refine ⟨_, rfl, ?_⟩; have n0_ := Aside0.mk (below_step (by repeat (first | (with_reducible first | exact HB.out | apply below_alloc | apply pw_below_drewN | apply below_drew1) | exact HB.out)) hb); clear HB; have HB := n0_; clear n0_; (try clear hb); (try clear hb2); (try clear hk); (try clear hi)) | (go_at_call 13; (with_reducible refine (impl_OppositeTable.calls t160 t161 t169 _ A36.out).mono ?_); rintro e w44 ⟨rfl, hb⟩; have n0_ := Aside0.mk (below_step (by repeat (first | (with_reducible first | exact HB.out | apply below_alloc | apply pw_below_drewN | apply below_drew1) | exact HB.out)) hb); clear HB; have HB := n0_; clear n0_; (try clear hb); (try clear hb2); (try clear hk); (try clear hi)))
                    go_ret
                    exact ⟨by first | rfl | (simp [errW_none, errW_some] <;> rfl) | (simp [*, errW_none, errW_some] <;> rfl), by repeat (first | (with_reducible first | exact HB.out | apply below_alloc | apply pw_below_drewN | apply below_drew1) | exact HB.out)⟩
      · replace c8 := Bool.eq_false_iff.mpr c8
        subst c8
        have H1 : (if t162 = (-1) then ((laws_alive.f).bind fun t165 => (some t165)) else (some false)) = some r := by rw [if_neg (show ¬ (false = true) by decide)] at H; exact H
        clear H
        have H := H1
        clear H1
        by_cases c45 : t162 = (-1)
        · rw [if_pos c45] at H
          have c45b0 : (t162 == (-1)) = true := beq_iff_eq.mpr c45
          have c45b1 : (t162 != (-1)) = false := bne_eq_false_iff_eq.mpr c45
          clear c45
          replace H := Option.bind_eq_some_iff.mp H
          obtain ⟨t165, A460, H⟩ := H
          replace H : (some t165) = some r := H
          have A46 := Aside0.mk A460
          clear A460
          obtain rfl := Option.some.inj H
          go_enter Try.func3, Try.ntmps3
          go_wp2_with (first | ((with_reducible refine gate_callee (f := 6) rfl ?_); refine goesL_ (some 11) rfl rfl Try.func6 (by kernel_rfl) rfl #[.slice A0 l0.length c0] rfl (by (try simp only [List.map_toArray, List.map_cons, List.map_nil]); first | done | rfl | (simp only [List.length_drop, List.length_take]; rfl)) ?_; (with_reducible refine (spec_DrawLeastAsks.calls k _ _ l0 t160 t161 _ ?side1 ?side2 A3.out).mono ?_); (case side1 => repeat (first | exact HR0.out | (with_reducible refine Kd.C_alloc ?_ _) | (with_reducible refine Kd.C_drewN ?_ _) | (with_reducible refine Kd.C_drew ?_))); (case side2 => exact HC0.out); rintro e w47 ⟨rfl, hb⟩; refine ⟨_, rfl, ?_⟩; have n0_ := Aside0.mk (below_step (by repeat (first | (with_reducible first | exact HB.out | apply below_alloc | apply pw_below_drewN | apply below_drew1) | exact HB.out)) hb); clear HB; have HB := n0_; clear n0_; (try clear hb); (try clear hb2); (try clear hk); (try clear hi)) | ((with_reducible refine gate_callee (f := 7) rfl ?_); refine goesL_ (some 16) rfl rfl Try.func7 (by kernel_rfl) rfl #[.int .i64 t160, .int .i64 t161] rfl (by (try simp only [List.map_toArray, List.map_cons, List.map_nil]); first | done | rfl | (simp only [List.length_drop, List.length_take]; rfl)) ?_; (with_reducible refine (impl_LeastAsks.calls t160 t161 t162 _ A4.out).mono ?_); rintro e w48 ⟨rfl, hb⟩; refine ⟨_, rfl, ?_⟩; have n0_ := Aside0.mk (below_step (by repeat (first | (with_reducible first | exact HB.out | apply below_alloc | apply pw_below_drewN | apply below_drew1) | exact HB.out)) hb); clear HB; have HB := n0_; clear n0_; (try clear hb); (try clear hb2); (try clear hk); (try clear hi)) | ((with_reducible refine gate_callee (f := 8) rfl ?_); refine goesL_ (some 20) rfl rfl Try.func8 (by kernel_rfl) rfl #[.int .i64 t160, .int .i64 t161] rfl (by (try simp only [List.map_toArray, List.map_cons, List.map_nil]); first | done | rfl | (simp only [List.length_drop, List.length_take]; rfl)) ?_; (with_reducible refine (spec_LeastAsks.calls k t160 t161 t163 _ A5.out).mono ?_); rintro e w49 ⟨rfl, hb⟩; refine ⟨_, rfl, ?_⟩; have n0_ := Aside0.mk (below_step (by repeat (first | (with_reducible first | exact HB.out | apply below_alloc | apply pw_below_drewN | apply below_drew1) | exact HB.out)) hb); clear HB; have HB := n0_; clear n0_; (try clear hb); (try clear hb2); (try clear hk); (try clear hi)) | ((with_reducible refine gate_callee (f := 9) rfl ?_); refine goesL_ (some 24) rfl rfl Try.func9 (by kernel_rfl) rfl #[.int .i64 t160, .int .i64 t161] rfl (by (try simp only [List.map_toArray, List.map_cons, List.map_nil]); first | done | rfl | (simp only [List.length_drop, List.length_take]; rfl)) ?_; (with_reducible refine (spec_TableOk.calls t160 t161 false _ A7.out).mono ?_); rintro e w' ⟨rfl, ⟨nd, rfl⟩⟩; refine ⟨_, rfl, ?_⟩) | (go_at_call 10; (with_reducible refine (laws_alive.calls  t165 _ A46.out).mono ?_); rintro e w' ⟨rfl, ⟨nd, rfl⟩⟩))
          go_ret
          exact ⟨by first | rfl | (simp [errW_none, errW_some] <;> rfl) | (simp [*, errW_none, errW_some] <;> rfl), by repeat (first | (with_reducible first | exact HB.out | apply below_alloc | apply pw_below_drewN | apply below_drew1) | exact HB.out)⟩
        · rw [if_neg c45] at H
          have c45b0 : (t162 == (-1)) = false := beq_eq_false_iff_ne.mpr c45
          have c45b1 : (t162 != (-1)) = true := bne_iff_ne.mpr c45
          obtain rfl := Option.some.inj H
          go_enter Try.func3, Try.ntmps3
          go_wp2_with (first | ((with_reducible refine gate_callee (f := 6) rfl ?_); refine goesL_ (some 11) rfl rfl Try.func6 (by kernel_rfl) rfl #[.slice A0 l0.length c0] rfl (by (try simp only [List.map_toArray, List.map_cons, List.map_nil]); first | done | rfl | (simp only [List.length_drop, List.length_take]; rfl)) ?_; (with_reducible refine (spec_DrawLeastAsks.calls k _ _ l0 t160 t161 _ ?side1 ?side2 A3.out).mono ?_); (case side1 => repeat (first | exact HR0.out | (with_reducible refine Kd.C_alloc ?_ _) | (with_reducible refine Kd.C_drewN ?_ _) | (with_reducible refine Kd.C_drew ?_))); (case side2 => exact HC0.out); rintro e w50 ⟨rfl, hb⟩; refine ⟨_, rfl, ?_⟩; have n0_ := Aside0.mk (below_step (by repeat (first | (with_reducible first | exact HB.out | apply below_alloc | apply pw_below_drewN | apply below_drew1) | exact HB.out)) hb); clear HB; have HB := n0_; clear n0_; (try clear hb); (try clear hb2); (try clear hk); (try clear hi)) | ((with_reducible refine gate_callee (f := 7) rfl ?_); refine goesL_ (some 16) rfl rfl Try.func7 (by kernel_rfl) rfl #[.int .i64 t160, .int .i64 t161] rfl (by (try simp only [List.map_toArray, List.map_cons, List.map_nil]); first | done | rfl | (simp only [List.length_drop, List.length_take]; rfl)) ?_; (with_reducible refine (impl_LeastAsks.calls t160 t161 t162 _ A4.out).mono ?_); rintro e w51 ⟨rfl, hb⟩; refine ⟨_, rfl, ?_⟩; have n0_ := Aside0.mk (below_step (by repeat (first | (with_reducible first | exact HB.out | apply below_alloc | apply pw_below_drewN | apply below_drew1) | exact HB.out)) hb); clear HB; have HB := n0_; clear n0_; (try clear hb); (try clear hb2); (try clear hk); (try clear hi)) | ((with_reducible refine gate_callee (f := 8) rfl ?_); refine goesL_ (some 20) rfl rfl Try.func8 (by kernel_rfl) rfl #[.int .i64 t160, .int .i64 t161] rfl (by (try simp only [List.map_toArray, List.map_cons, List.map_nil]); first | done | rfl | (simp only [List.length_drop, List.length_take]; rfl)) ?_; (with_reducible refine (spec_LeastAsks.calls k t160 t161 t163 _ A5.out).mono ?_); rintro e w52 ⟨rfl, hb⟩; refine ⟨_, rfl, ?_⟩; have n0_ := Aside0.mk (below_step (by repeat (first | (with_reducible first | exact HB.out | apply below_alloc | apply pw_below_drewN | apply below_drew1) | exact HB.out)) hb); clear HB; have HB := n0_; clear n0_; (try clear hb); (try clear hb2); (try clear hk); (try clear hi)) | ((with_reducible refine gate_callee (f := 9) rfl ?_); refine goesL_ (some 24) rfl rfl Try.func9 (by kernel_rfl) rfl #[.int .i64 t160, .int .i64 t161] rfl (by (try simp only [List.map_toArray, List.map_cons, List.map_nil]); first | done | rfl | (simp only [List.length_drop, List.length_take]; rfl)) ?_; (with_reducible refine (spec_TableOk.calls t160 t161 false _ A7.out).mono ?_); rintro e w' ⟨rfl, ⟨nd, rfl⟩⟩; refine ⟨_, rfl, ?_⟩))
          go_ret
          exact ⟨by first | rfl | (simp [errW_none, errW_some] <;> rfl) | (simp [*, errW_none, errW_some] <;> rfl), by repeat (first | (with_reducible first | exact HB.out | apply below_alloc | apply pw_below_drewN | apply below_drew1) | exact HB.out)⟩
    · rw [if_neg c6] at H
      have c6b0 : (t162 == t163) = false := beq_eq_false_iff_ne.mpr c6
      have c6b1 : (t162 != t163) = true := bne_iff_ne.mpr c6
      obtain rfl := Option.some.inj H
      go_enter Try.func3, Try.ntmps3
      go_wp2_with (first | ((with_reducible refine gate_callee (f := 6) rfl ?_); refine goesL_ (some 11) rfl rfl Try.func6 (by kernel_rfl) rfl #[.slice A0 l0.length c0] rfl (by (try simp only [List.map_toArray, List.map_cons, List.map_nil]); first | done | rfl | (simp only [List.length_drop, List.length_take]; rfl)) ?_; (with_reducible refine (spec_DrawLeastAsks.calls k _ _ l0 t160 t161 _ ?side1 ?side2 A3.out).mono ?_); (case side1 => repeat (first | exact HR0.out | (with_reducible refine Kd.C_alloc ?_ _) | (with_reducible refine Kd.C_drewN ?_ _) | (with_reducible refine Kd.C_drew ?_))); (case side2 => exact HC0.out); rintro e w53 ⟨rfl, hb⟩; refine ⟨_, rfl, ?_⟩; have n0_ := Aside0.mk (below_step (by repeat (first | (with_reducible first | exact HB.out | apply below_alloc | apply pw_below_drewN | apply below_drew1) | exact HB.out)) hb); clear HB; have HB := n0_; clear n0_; (try clear hb); (try clear hb2); (try clear hk); (try clear hi)) | ((with_reducible refine gate_callee (f := 7) rfl ?_); refine goesL_ (some 16) rfl rfl Try.func7 (by kernel_rfl) rfl #[.int .i64 t160, .int .i64 t161] rfl (by (try simp only [List.map_toArray, List.map_cons, List.map_nil]); first | done | rfl | (simp only [List.length_drop, List.length_take]; rfl)) ?_; (with_reducible refine (impl_LeastAsks.calls t160 t161 t162 _ A4.out).mono ?_); rintro e w54 ⟨rfl, hb⟩; refine ⟨_, rfl, ?_⟩; have n0_ := Aside0.mk (below_step (by repeat (first | (with_reducible first | exact HB.out | apply below_alloc | apply pw_below_drewN | apply below_drew1) | exact HB.out)) hb); clear HB; have HB := n0_; clear n0_; (try clear hb); (try clear hb2); (try clear hk); (try clear hi)) | ((with_reducible refine gate_callee (f := 8) rfl ?_); refine goesL_ (some 20) rfl rfl Try.func8 (by kernel_rfl) rfl #[.int .i64 t160, .int .i64 t161] rfl (by (try simp only [List.map_toArray, List.map_cons, List.map_nil]); first | done | rfl | (simp only [List.length_drop, List.length_take]; rfl)) ?_; (with_reducible refine (spec_LeastAsks.calls k t160 t161 t163 _ A5.out).mono ?_); rintro e w55 ⟨rfl, hb⟩; refine ⟨_, rfl, ?_⟩; have n0_ := Aside0.mk (below_step (by repeat (first | (with_reducible first | exact HB.out | apply below_alloc | apply pw_below_drewN | apply below_drew1) | exact HB.out)) hb); clear HB; have HB := n0_; clear n0_; (try clear hb); (try clear hb2); (try clear hk); (try clear hi)))
      go_ret
      exact ⟨by first | rfl | (simp [errW_none, errW_some] <;> rfl) | (simp [*, errW_none, errW_some] <;> rfl), by repeat (first | (with_reducible first | exact HB.out | apply below_alloc | apply pw_below_drewN | apply below_drew1) | exact HB.out)⟩

/-- THE ONE PURE STATEMENT of laws_FnLeastAsks: yours. -/
noncomputable def laws_FnLeastAsks.Pure : Prop := ∀ (l0 : List Int), l0.length ≤ maxLen → l0.length * 1 ≤ 140737488351232 → (∀ x ∈ l0, (Lit.int .u8 x).wf = true) → ∃ k, laws_FnLeastAsks.f k l0 = some true
theorem laws_FnLeastAsks.walk (P : laws_FnLeastAsks.Pure) (a0 : Option Addr) (len0 cap0 : Nat) (z0 : List Int) (w : World) (w0 : (a0 = none ∧ len0 = 0 ∧ cap0 = 0 ∧ z0 = []) ∨ ∃ x, a0 = some x ∧ len0 ≤ cap0 ∧ cap0 ≤ maxLen ∧ z0.length = cap0 ∧ (∀ i, i < z0.length → w.cell? (x.add i) = some (.int .u8 (z0.getD i 0))) ∧ ∀ n ∈ z0, (Lit.int .u8 n).wf = true) (y0 : len0 * 1 ≤ 140737488351232) :
    Calls Try.prog 3 #[.slice a0 len0 cap0] w fun e w' => e = .returned (.bool true) ∧ Below w.heap.size w w' := by
  obtain ⟨l0, rfl, hr0, hm0, hw0, hc0⟩ := ReadsInt.ofRowC w0
  obtain ⟨k, h⟩ := P l0 hm0 y0 hw0
  refine (laws_FnLeastAsks.calls k _ _ l0 true w (Kd.C_of_reads (d := (0 : Int)) (h1 := fun _ => rfl) hr0) hc0 h).mono ?_
  rintro e w' ⟨rfl, hd⟩
  exact ⟨rfl, hd⟩

end Go.Proofs.Ytgcdlkpjjnglbaa.PA

/- Plain: what the reader of the draws picks (spec.l20Rd). -/
namespace Go.Proofs.Ytgcdlkpjjnglbaa.PA
open Go.RowKit Go.Proofs.YtgcdlkpjjnglbaaW.PrintWords Go.Proofs.YtgcdlkpjjnglbaaW.PrintLast Go.Proofs.YtgcdlkpjjnglbaaW.PrintMore
set_option linter.unusedVariables false
set_option linter.unusedSimpArgs false
/-- A code that may be read. -/
structure Rdr (b : List Int) : Prop where
  bytes : ∀ x ∈ b, 0 ≤ x ∧ x ≤ 255
  short : b.length ≤ 2000
theorem Rdr.at_ {b : List Int} (h : Rdr b) (i : Int) : 0 ≤ rd b i ∧ rd b i ≤ 255 := by
  unfold rd
  rw [List.getD_eq_getElem?_getD]
  by_cases hi : i.toNat < b.length
  · rw [List.getElem?_eq_getElem hi]; exact h.bytes _ (List.getElem_mem hi)
  · rw [List.getElem?_eq_none (by omega)]; simp
theorem tmod_lo {a n : Int} (h : 0 ≤ a) : 0 ≤ Int.tmod a n := Int.tmod_nonneg n h
theorem tmod_hi {a n : Int} (h : 0 ≤ a) (hn : 0 < n) : Int.tmod a n < n := by rw [Int.tmod_eq_emod_of_nonneg h]; exact Int.emod_lt_of_pos a hn
theorem pick_ev {b : List Int} (hb : Rdr b) (p n : Int) (h0 : 0 ≤ p) (h1 : p ≤ 1000000) : ∃ v : Int, (n < 1 → v = 0) ∧ (1 ≤ n → 0 ≤ v ∧ v < n) ∧ ∀ k, 1 ≤ k → spec_l20Rd_pick.f k b p n = some (v, p + 1) := by
  have hl := hb.short
  by_cases hn : n < 1
  · refine ⟨0, fun _ => rfl, fun h => by omega, fun k hk => ?_⟩
    obtain ⟨k, rfl⟩ : ∃ m, k = m + 1 := ⟨k - 1, by omega⟩
    unfold spec_l20Rd_pick.f
    rw [if_pos hn, wrap_id (by omega) (by omega)]
    simp [spec_l20Rd_pick.j0]
  · by_cases he : b.length = 0
    · refine ⟨0, fun _ => rfl, fun h => by omega, fun k hk => ?_⟩
      obtain ⟨k, rfl⟩ : ∃ m, k = m + 1 := ⟨k - 1, by omega⟩
      unfold spec_l20Rd_pick.f
      rw [if_neg hn, wrap_id (by omega) (by omega), show (((b.length : Int) == 0) = true) from beq_iff_eq.2 (by omega)]
      simp [spec_l20Rd_pick.j0]
    · have hb0 : (((b.length : Int) == 0) = false) := beq_eq_false_iff_ne.2 (by omega)
      have e1 : wrap64 (p + 1) = p + 1 := wrap_id (by omega) (by omega)
      have e2 : wrap64 (p + 1 - 1) = p := by rw [wrap_id (by omega) (by omega)]; omega
      by_cases hlt : p < b.length
      · obtain ⟨r0, r1⟩ := hb.at_ p
        refine ⟨Int.tmod (rd b p) n, fun h => by omega, fun h => ⟨tmod_lo r0, tmod_hi r0 (by omega)⟩, fun k hk => ?_⟩
        obtain ⟨k, rfl⟩ : ∃ m, k = m + 1 := ⟨k - 1, by omega⟩
        unfold spec_l20Rd_pick.f
        rw [if_neg hn, e1, hb0]
        simp only [spec_l20Rd_pick.j0]
        rw [if_neg (by decide), e2, if_pos hlt, if_pos h0, if_neg (by omega), wrap_id (by omega) (by omega)]
      · obtain ⟨L, hL⟩ : ∃ L : Int, L = b.length := ⟨_, rfl⟩
        have hL0 : 0 < L := by omega
        have hL1 : L ≤ 2000 := by omega
        have m0 := tmod_lo (n := L) h0
        have m1 := tmod_hi h0 hL0
        have q0 : 0 ≤ wrap64 (wrap64 (p * 7) + 3) := by rw [wrap_id (x := p * 7) (by omega) (by omega), wrap_id (by omega) (by omega)]; omega
        have m2 := tmod_lo (n := L) q0
        have m3 := tmod_hi q0 hL0
        obtain ⟨c0, c1⟩ := hb.at_ (Int.tmod p L)
        obtain ⟨d0, d1⟩ := hb.at_ (Int.tmod (wrap64 (wrap64 (p * 7) + 3)) L)
        have t0 : 0 ≤ Int.tdiv p L := Int.tdiv_nonneg h0 (by omega)
        have t1 : Int.tdiv p L ≤ p := by rw [Int.tdiv_eq_ediv_of_nonneg h0]; exact Int.ediv_le_self _ h0
        obtain ⟨C, hC⟩ : ∃ C, C = rd b (Int.tmod p L) := ⟨_, rfl⟩
        obtain ⟨E, hE⟩ : ∃ E, E = rd b (Int.tmod (wrap64 (wrap64 (p * 7) + 3)) L) := ⟨_, rfl⟩
        obtain ⟨T, hT⟩ : ∃ T, T = Int.tdiv p L := ⟨_, rfl⟩
        rw [← hC] at c0 c1
        rw [← hE] at d0 d1
        rw [← hT] at t0 t1
        have ex : wrap64 (wrap64 (wrap64 (wrap64 (wrap64 C * 131) + wrap64 (wrap64 E * 1117)) + wrap64 (p * 29)) + wrap64 (wrap64 T * 53)) = C * 131 + E * 1117 + p * 29 + T * 53 := by
          rw [wrap_id (x := C) (by omega) (by omega), wrap_id (x := E) (by omega) (by omega), wrap_id (x := T) (by omega) (by omega), wrap_id (x := C * 131) (by omega) (by omega), wrap_id (x := E * 1117) (by omega) (by omega), wrap_id (x := p * 29) (by omega) (by omega), wrap_id (x := T * 53) (by omega) (by omega),
            wrap_id (x := C * 131 + E * 1117) (by omega) (by omega), wrap_id (x := C * 131 + E * 1117 + p * 29) (by omega) (by omega), wrap_id (by omega) (by omega)]
        obtain ⟨X, hX⟩ : ∃ X : Nat, (X : Int) = C * 131 + E * 1117 + p * 29 + T * 53 := ⟨(C * 131 + E * 1117 + p * 29 + T * 53).toNat, by omega⟩
        have hXb : X ≤ 100000000 := by omega
        have hd : Int.tdiv (X : Int) 64 = ((X / 64 : Nat) : Int) := by rw [Int.tdiv_eq_ediv_of_nonneg (by omega)]; rfl
        have hx : Go.bits .xor .i64 (X : Int) (wrap64 (Int.tdiv (X : Int) 64)) = ((X ^^^ (X / 64) : Nat) : Int) := by
          rw [hd, wrap_id (by omega) (by omega), i64_xor_nat _ _ (by omega) (by omega)]
        refine ⟨Int.tmod ((X ^^^ (X / 64) : Nat) : Int) n, fun h => by omega, fun h => ⟨tmod_lo (by omega), tmod_hi (by omega) (by omega)⟩, fun k hk => ?_⟩
        obtain ⟨k, rfl⟩ : ∃ m, k = m + 1 := ⟨k - 1, by omega⟩
        unfold spec_l20Rd_pick.f
        rw [if_neg hn, e1, hb0]
        simp only [spec_l20Rd_pick.j0]
        rw [if_neg (by decide), e2, if_neg hlt, if_neg (by omega), ← hL, if_pos m0, if_pos m1, if_pos m2, if_pos m3, if_neg (by omega), ← hC, ← hE, ← hT, ex, ← hX, hx]
theorem open_ev (l : List Int) (h : ∀ x ∈ l, (Lit.int .u8 x).wf = true) : ∃ b, Rdr b ∧ spec_l20Open.f l = some (b, 0) := by
  have hb : ∀ x ∈ l, 0 ≤ x ∧ x ≤ 255 := by
    intro x hx
    have := h x hx
    simp [Lit.wf, IntKind.min, IntKind.max, IntKind.signed, IntKind.bits] at this
    omega
  unfold spec_l20Open.f
  by_cases hl : (l.length : Int) > 2000
  · rw [if_pos hl, if_pos (by omega)]
    exact ⟨l.take 2000, ⟨fun x hx => hb x (List.mem_of_mem_take hx), by simp; omega⟩, rfl⟩
  · rw [if_neg hl]
    exact ⟨l, ⟨hb, by omega⟩, rfl⟩
end Go.Proofs.Ytgcdlkpjjnglbaa.PA

/- Plain: the reference's questions (spec.l13Teller, l13Asked, l13Least, LeastAsks), over the printed functions. -/
namespace Go.Proofs.Ytgcdlkpjjnglbaa.PA
open Go.RowKit Go.Proofs.YtgcdlkpjjnglbaaW.PrintWords Go.Proofs.YtgcdlkpjjnglbaaW.PrintLast Go.Proofs.YtgcdlkpjjnglbaaW.PrintMore
set_option linter.unusedVariables false
set_option linter.unusedSimpArgs false
theorem l1In_ev (a b c : Int) : spec_l1In.f a b c = some (decide (b ≤ a ∧ a ≤ c)) := by
  unfold spec_l1In.f
  by_cases h : a ≥ b
  · rw [if_pos h]; congr 1; exact decide_eq_decide.2 (by omega)
  · rw [if_neg h]; congr 1; symm; exact decide_eq_false (by omega)
theorem stableOk_ev (a0 a1 : Int) : spec_TableOk.f a0 a1 = some (decide (1 ≤ a0 ∧ a0 ≤ 4 ∧ 0 ≤ a1 ∧ a1 < ((2 ^ 2 ^ a0.toNat : Nat) : Int))) := by
  unfold spec_TableOk.f
  rw [l1In_ev]
  simp only [Option.bind_some]
  by_cases h : 1 ≤ a0 ∧ a0 ≤ 4
  · obtain ⟨p, rfl⟩ := Int.eq_ofNat_of_zero_le (show 0 ≤ a0 by omega)
    have h4 : p ≤ 4 := by omega
    have h16 := pow_le16 h4
    have hpp := pow_pow_le h4
    have hpos := Nat.two_pow_pos (2 ^ p)
    rw [decide_eq_true h, if_pos rfl, if_pos (by omega), l1In_ev, shl_one_u64 p (by omega), shl_one_i64 _ (by omega), wrap_id (by omega) (by omega), Int.toNat_natCast]
    simp only [Option.bind_some]
    congr 1
    exact decide_eq_decide.2 (by omega)
  · rw [decide_eq_false h, if_neg (by decide)]
    congr 1
    symm; exact decide_eq_false (by omega)
/-- which worlds l13Asked keeps -/
def kept (t i j : Nat) (b : Bool) : Nat → Bool := fun x => t.testBit x && ((x.testBit i == x.testBit j) == b)
theorem bit_beq (x i j : Nat) (hi : i ≤ 64) (hj : j ≤ 64) (b : Bool) : ((Int.tmod (shr .i64 (x : Int) (i : Int)) 2 == Int.tmod (shr .i64 (x : Int) (j : Int)) 2) == b) = ((x.testBit i == x.testBit j) == b) := by
  rw [mod_shr x i hi, mod_shr x j hj]
  cases x.testBit i <;> cases x.testBit j <;> cases b <;> rfl
theorem or_shl (a w : Nat) (f : Nat → Bool) (hw : w ≤ 16) (hf : f w = true) (ha : a = Tb.num w f) : Go.bits .or .i64 (a : Int) (shl .i64 1 (w : Int)) = (Tb.num (w + 1) f : Nat) := by
  have h1 := Tb.num_lt w f
  have h2 : 2 ^ w ≤ 65536 := Nat.le_trans (Nat.pow_le_pow_right (by omega) hw) (by decide)
  rw [shl_one_i64 w (by omega), ha, i64_or_nat _ _ (by omega) (by omega), Tb.or_step w f hf]
theorem asked_l0 (p t i j : Nat) (b : Bool) (h4 : p ≤ 4) (hi : i < p) (hj : j < p) (d : Nat) : ∀ (k w : Nat), w + d = 2 ^ p → d < k →
    spec_l13Asked.l0 k (p : Int) (t : Int) (i : Int) (j : Int) b (Tb.num w (kept t i j b) : Nat) (w : Int) = some ((Tb.num (2 ^ p) (kept t i j b) : Nat) : Int) := by
  have h16 := pow_le16 h4
  induction d with
  | zero =>
    intro k w hw hk
    obtain ⟨k, rfl⟩ : ∃ m, k = m + 1 := ⟨k - 1, by omega⟩
    obtain rfl : w = 2 ^ p := by omega
    simp only [spec_l13Asked.l0]
    rw [if_pos (by omega), shl_one_i64 p (by omega), if_neg (by omega)]
  | succ d ih =>
    intro k w hw hk
    obtain ⟨k, rfl⟩ : ∃ m, k = m + 1 := ⟨k - 1, by omega⟩
    simp only [spec_l13Asked.l0]
    rw [if_pos (by omega), shl_one_i64 p (by omega), if_pos (by omega), if_pos (by omega), mod_shr t w (by omega), bit_beq w i j (by omega) (by omega), wrap_id (by omega) (by omega), show (w : Int) + 1 = ((w + 1 : Nat) : Int) by omega]
    by_cases hb : t.testBit w = true
    · rw [if_pos hb, if_pos rfl, if_pos (by omega), if_pos (by omega)]
      by_cases hs : ((w.testBit i == w.testBit j) == b) = true
      · rw [if_pos hs, or_shl _ w (kept t i j b) (by omega) (by simp [kept, hb, hs]) rfl]
        exact ih k (w + 1) (by omega) (by omega)
      · rw [if_neg hs, Tb.skip_step w (kept t i j b) (by simp only [kept, hb, Bool.true_and]; simpa using hs)]
        exact ih k (w + 1) (by omega) (by omega)
    · rw [if_neg hb, if_neg (by decide), Tb.skip_step w (kept t i j b) (by simp [kept, hb])]
      exact ih k (w + 1) (by omega) (by omega)
theorem sasked_ev (p t i j : Nat) (b : Bool) (h4 : p ≤ 4) (hi : i < p) (hj : j < p) (k : Nat) (hk : 17 ≤ k) :
    spec_l13Asked.f k (p : Int) (t : Int) (i : Int) (j : Int) b = some ((Tb.num (2 ^ p) (kept t i j b) : Nat) : Int) := by
  have h16 := pow_le16 h4
  unfold spec_l13Asked.f
  have := asked_l0 p t i j b h4 hi hj (2 ^ p) k 0 (by omega) (by omega)
  simpa [Tb.num] using this
theorem kept_bits (p t i j : Nat) (b : Bool) (ht : t < 2 ^ 2 ^ p) : (Tb.num (2 ^ p) (kept t i j b)).testBit = La.ask t.testBit i j b := by
  funext w
  rw [Tb.testBit_num]
  simp only [La.ask, La.same, kept]
  by_cases hw : w < 2 ^ p
  · simp [hw]
  · rw [Nat.testBit_lt_two_pow (Nat.lt_of_lt_of_le ht (Nat.pow_le_pow_right (by omega) (by omega)))]
    simp
/-- spec.l13Teller: for one person, over the worlds from w on -/
theorem teller_l1 (p t i : Nat) (h4 : p ≤ 4) (hi : i < p) (d : Nat) : ∀ (k w : Nat) (all : Bool), w + d = 2 ^ p → d < k →
    (all = true ↔ ∀ x, x < w → t.testBit x = true → x.testBit i = true) →
    ((∀ x, x < 2 ^ p → t.testBit x = true → x.testBit i = true) → spec_l13Teller.l1 k (p : Int) (t : Int) (i : Int) all (w : Int) = some (i : Int)) ∧
    ((¬ ∀ x, x < 2 ^ p → t.testBit x = true → x.testBit i = true) → spec_l13Teller.l1 k (p : Int) (t : Int) (i : Int) all (w : Int) = spec_l13Teller.l0 (k - d - 1) (p : Int) (t : Int) ((i + 1 : Nat) : Int)) := by
  have h16 := pow_le16 h4
  induction d with
  | zero =>
    intro k w all hw hk hall
    obtain ⟨k, rfl⟩ : ∃ m, k = m + 1 := ⟨k - 1, by omega⟩
    obtain rfl : w = 2 ^ p := by omega
    simp only [spec_l13Teller.l1]
    rw [if_pos (by omega), shl_one_i64 p (by omega), if_neg (by omega)]
    refine ⟨fun h => by rw [if_pos (hall.2 h)], fun h => ?_⟩
    rw [if_neg (fun e => h (hall.1 e)), wrap_id (by omega) (by omega)]
    rfl
  | succ d ih =>
    intro k w all hw hk hall
    obtain ⟨k, rfl⟩ : ∃ m, k = m + 1 := ⟨k - 1, by omega⟩
    simp only [spec_l13Teller.l1]
    rw [if_pos (by omega), shl_one_i64 p (by omega), if_pos (by omega), wrap_id (by omega) (by omega), show (w : Int) + 1 = ((w + 1 : Nat) : Int) by omega, show k + 1 - (d + 1) - 1 = k - d - 1 by omega]
    cases all with
    | false =>
      rw [if_neg (by decide)]
      refine ih k (w + 1) false (by omega) (by omega) ?_
      constructor
      · intro h; cases h
      · intro h
        exact hall.2 (fun x hx => h x (by omega))
    | true =>
      have hall' := hall.1 rfl
      rw [if_pos rfl, if_pos (by omega), mod_shr t w (by omega)]
      by_cases hb : t.testBit w = true
      · rw [if_pos hb, if_neg (by decide), if_pos (by omega), mod_shr w i (by omega)]
        refine ih k (w + 1) _ (by omega) (by omega) ?_
        by_cases hwi : w.testBit i = true
        · rw [if_pos hwi]
          refine ⟨fun _ x hx hxt => ?_, fun _ => rfl⟩
          by_cases e : x = w
          · subst e; exact hwi
          · exact hall' x (by omega) hxt
        · rw [if_neg hwi]
          refine ⟨fun h => absurd h (by decide), fun h => absurd (h w (by omega) hb) hwi⟩
      · rw [if_neg hb, if_pos rfl]
        refine ih k (w + 1) true (by omega) (by omega) ⟨fun _ x hx hxt => ?_, fun _ => rfl⟩
        by_cases e : x = w
        · subst e; exact absurd hxt hb
        · exact hall' x (by omega) hxt
theorem teller_l0 (p t : Nat) (h4 : p ≤ 4) (d : Nat) : ∀ (k i : Nat), i + d = p → 18 * d < k →
    ∃ v : Int, -1 ≤ v ∧ spec_l13Teller.l0 k (p : Int) (t : Int) (i : Int) = some v ∧ (0 ≤ v ↔ ∃ j, i ≤ j ∧ j < p ∧ ∀ x, x < 2 ^ p → t.testBit x = true → x.testBit j = true) := by
  have h16 := pow_le16 h4
  induction d with
  | zero =>
    intro k i hi hk
    obtain ⟨k, rfl⟩ : ∃ m, k = m + 1 := ⟨k - 1, by omega⟩
    refine ⟨-1, by omega, by simp only [spec_l13Teller.l0]; rw [if_neg (by omega)], ?_⟩
    constructor
    · omega
    · rintro ⟨j, h1, h2, _⟩; omega
  | succ d ih =>
    intro k i hi hk
    obtain ⟨k, rfl⟩ : ∃ m, k = m + 1 := ⟨k - 1, by omega⟩
    simp only [spec_l13Teller.l0]
    rw [if_pos (by omega)]
    have h := teller_l1 p t i h4 (by omega) (2 ^ p) k 0 true (by omega) (by omega) ⟨fun _ x hx => by omega, fun _ => rfl⟩
    by_cases hall : ∀ x, x < 2 ^ p → t.testBit x = true → x.testBit i = true
    · exact ⟨i, by omega, h.1 hall, ⟨fun _ => ⟨i, by omega, by omega, hall⟩, fun _ => by omega⟩⟩
    · obtain ⟨v, hv1, hv2, hv3⟩ := ih (k - 2 ^ p - 1) (i + 1) (by omega) (by omega)
      refine ⟨v, hv1, (h.2 hall).trans hv2, hv3.trans ⟨fun ⟨j, a1, a2, a3⟩ => ⟨j, by omega, a2, a3⟩, fun ⟨j, a1, a2, a3⟩ => ⟨j, ?_, a2, a3⟩⟩⟩
      by_cases e : j = i
      · subst e; exact absurd a3 hall
      · omega
theorem teller_ev (p t : Nat) (h4 : p ≤ 4) (k : Nat) (hk : 80 ≤ k) : ∃ v : Int, spec_l13Teller.f k (p : Int) (t : Int) = some v ∧ (0 ≤ v ↔ La.knows p t.testBit) := by
  obtain ⟨v, _, h2, h3⟩ := teller_l0 p t h4 p k 0 (by omega) (by omega)
  refine ⟨v, h2, h3.trans ⟨fun ⟨j, _, a2, a3⟩ => ⟨j, a2, a3⟩, fun ⟨j, a2, a3⟩ => ⟨j, by omega, a2, a3⟩⟩⟩
end Go.Proofs.Ytgcdlkpjjnglbaa.PA

/- Plain: tables are drawn (spec.DrawLeastAsks). -/
namespace Go.Proofs.Ytgcdlkpjjnglbaa.PA
open Go.RowKit Go.Proofs.YtgcdlkpjjnglbaaW.PrintWords Go.Proofs.YtgcdlkpjjnglbaaW.PrintLast Go.Proofs.YtgcdlkpjjnglbaaW.PrintMore
set_option linter.unusedVariables false
set_option linter.unusedSimpArgs false
theorem table_l0 {b : List Int} (hb : Rdr b) (q : Nat) (hq : q ≤ 4) (x6 : Int) (d : Nat) : ∀ (w : Nat) (x5 p : Int), w + d = 2 ^ q → 0 ≤ p → p + d + 2 ≤ 1000000 →
    ∃ r : Int × Int × Int, 0 ≤ r.2.2 ∧ r.2.2 ≤ p + d + 2 ∧ Ev (fun k => spec_l20Table.l0 k (q : Int) x5 x6 (w : Int) b p) r := by
  have h16 := pow_le16 hq
  induction d with
  | zero =>
    intro w x5 p hw h0 h1
    obtain ⟨v1, _, a2, a3⟩ := pick_ev hb p 40 h0 (by omega)
    obtain ⟨v2, _, b2, b3⟩ := pick_ev hb (p + 1) 40 (by omega) (by omega)
    refine ⟨(wrap64 ((q : Int) + (wrap64 ((wrap64 (Int.tdiv v1 39)) * 4))), wrap64 (x5 - (wrap64 ((wrap64 (Int.tdiv v2 39)) * 70000))), p + 1 + 1), by simp only; omega, by simp only; omega, 2, fun k hk => ?_⟩
    obtain ⟨k, rfl⟩ : ∃ m, k = m + 1 := ⟨k - 1, by omega⟩
    simp only [spec_l20Table.l0]
    rw [if_pos (by omega), shl_one_i64 q (by omega), if_neg (by omega), a3 k (by omega)]
    simp only [Option.bind_some]
    rw [b3 k (by omega)]
    rfl
  | succ d ih =>
    intro w x5 p hw h0 h1
    obtain ⟨v1, _, a2, a3⟩ := pick_ev hb p (wrap64 (x6 + 2)) h0 (by omega)
    by_cases hv : v1 = 0
    · obtain ⟨r, r0, r1, K, hK⟩ := ih (w + 1) (Go.bits .or .i64 x5 (shl .i64 1 (w : Int))) (p + 1) (by omega) (by omega) (by omega)
      refine ⟨r, r0, by omega, K + 2, fun k hk => ?_⟩
      obtain ⟨k, rfl⟩ : ∃ m, k = m + 1 := ⟨k - 1, by omega⟩
      simp only [spec_l20Table.l0]
      rw [if_pos (by omega), shl_one_i64 q (by omega), if_pos (by omega), a3 k (by omega)]
      simp only [Option.bind_some]
      rw [if_pos hv, if_pos (by omega), wrap_id (by omega) (by omega)]
      exact hK k (by omega)
    · obtain ⟨r, r0, r1, K, hK⟩ := ih (w + 1) x5 (p + 1) (by omega) (by omega) (by omega)
      refine ⟨r, r0, by omega, K + 2, fun k hk => ?_⟩
      obtain ⟨k, rfl⟩ : ∃ m, k = m + 1 := ⟨k - 1, by omega⟩
      simp only [spec_l20Table.l0]
      rw [if_pos (by omega), shl_one_i64 q (by omega), if_pos (by omega), a3 k (by omega)]
      simp only [Option.bind_some]
      rw [if_neg hv, wrap_id (by omega) (by omega)]
      exact hK k (by omega)
theorem table_ev {b : List Int} (hb : Rdr b) (p : Int) (h0 : 0 ≤ p) (h1 : p ≤ 900000) : ∃ r : Int × Int × Int, 0 ≤ r.2.2 ∧ r.2.2 ≤ p + 20 ∧ Ev (fun k => spec_l20Table.f k b p) r := by
  obtain ⟨v1, _, a2, a3⟩ := pick_ev hb p 4 h0 (by omega)
  obtain ⟨v2, _, b2, b3⟩ := pick_ev hb (p + 1) 3 (by omega) (by omega)
  have := a2 (by omega)
  obtain ⟨q, hq⟩ : ∃ q : Nat, (q : Int) = 1 + v1 := ⟨(1 + v1).toNat, by omega⟩
  have h16 := pow_le16 (show q ≤ 4 by omega)
  obtain ⟨r, r0, r1, K, hK⟩ := table_l0 hb q (by omega) v2 (2 ^ q) 0 0 (p + 1 + 1) (by omega) (by omega) (by omega)
  refine ⟨r, r0, by omega, K + 1, fun k hk => ?_⟩
  unfold spec_l20Table.f
  simp only
  rw [a3 k (by omega)]
  simp only [Option.bind_some]
  rw [b3 k (by omega)]
  simp only [Option.bind_some]
  rw [wrap_id (by omega) (by omega), ← hq]
  exact hK k (by omega)
theorem heads_ev (n : Nat) : ∀ (x : Nat) (s : Int), x ≤ n → 0 ≤ s → s + x ≤ 1000000 → ∃ v : Int, 0 ≤ v ∧ v ≤ s + x ∧ Ev (fun k => spec_l1Heads.l0 k (x : Int) s) v := by
  induction n using Nat.strongRecOn with
  | _ n ih =>
    intro x s hx h0 h1
    by_cases hz : x = 0
    · refine ⟨s, h0, by omega, 1, fun k hk => ?_⟩
      obtain ⟨k, rfl⟩ : ∃ m, k = m + 1 := ⟨k - 1, by omega⟩
      simp only [spec_l1Heads.l0]
      rw [if_neg (by omega)]
    · have e1 : Int.tdiv (x : Int) 2 = ((x / 2 : Nat) : Int) := by rw [Int.tdiv_eq_ediv_of_nonneg (by omega)]; rfl
      have e2 : Int.tmod (x : Int) 2 = ((x % 2 : Nat) : Int) := by rw [Int.tmod_eq_emod_of_nonneg (by omega)]; rfl
      obtain ⟨v, v0, v1, K, hK⟩ := ih (x / 2) (by omega) (x / 2) (s + ((x % 2 : Nat) : Int)) (Nat.le_refl _) (by omega) (by omega)
      refine ⟨v, v0, by omega, K + 1, fun k hk => ?_⟩
      obtain ⟨k, rfl⟩ : ∃ m, k = m + 1 := ⟨k - 1, by omega⟩
      simp only [spec_l1Heads.l0]
      rw [if_pos (by omega), e1, e2, wrap_id (by omega) (by omega), wrap_id (by omega) (by omega)]
      exact hK k (by omega)
theorem smaj_l0 (q : Nat) (hq : q ≤ 4) (d : Nat) : ∀ (w : Nat) (x : Int), w + d = 2 ^ q → ∃ r : Int, Ev (fun k => spec_MajorityTable.l0 k (q : Int) x (w : Int)) r := by
  have h16 := pow_le16 hq
  induction d with
  | zero =>
    intro w x hw
    refine ⟨x, 1, fun k hk => ?_⟩
    obtain ⟨k, rfl⟩ : ∃ m, k = m + 1 := ⟨k - 1, by omega⟩
    simp only [spec_MajorityTable.l0]
    rw [if_pos (by omega), shl_one_i64 q (by omega), if_neg (by omega)]
  | succ d ih =>
    intro w x hw
    obtain ⟨v, v0, v1, K1, hK1⟩ := heads_ev w w 0 (Nat.le_refl _) (by omega) (by omega)
    obtain ⟨r1, K2, hK2⟩ := ih (w + 1) (Go.bits .or .i64 x (shl .i64 1 (w : Int))) (by omega)
    obtain ⟨r2, K3, hK3⟩ := ih (w + 1) x (by omega)
    by_cases hc : (wrap64 (2 * v)) > (q : Int)
    · refine ⟨r1, K1 + K2 + 1, fun k hk => ?_⟩
      obtain ⟨k, rfl⟩ : ∃ m, k = m + 1 := ⟨k - 1, by omega⟩
      have := hK1 k (by omega)
      simp only [spec_MajorityTable.l0, spec_l1Heads.f]
      rw [if_pos (by omega), shl_one_i64 q (by omega), if_pos (by omega)]
      simp only at this
      rw [this]
      simp only [Option.bind_some]
      rw [if_pos hc, if_pos (by omega), wrap_id (x := (w : Int) + 1) (by omega) (by omega)]
      exact hK2 k (by omega)
    · refine ⟨r2, K1 + K3 + 1, fun k hk => ?_⟩
      obtain ⟨k, rfl⟩ : ∃ m, k = m + 1 := ⟨k - 1, by omega⟩
      have := hK1 k (by omega)
      simp only [spec_MajorityTable.l0, spec_l1Heads.f]
      rw [if_pos (by omega), shl_one_i64 q (by omega), if_pos (by omega)]
      simp only at this
      rw [this]
      simp only [Option.bind_some]
      rw [if_neg hc, wrap_id (x := (w : Int) + 1) (by omega) (by omega)]
      exact hK3 k (by omega)
theorem turned_l0 (q : Nat) (hq : q ≤ 4) (t : Int) (d : Nat) : ∀ (w : Nat) (x : Int), w + d = 2 ^ q → ∃ r : Int, Ev (fun k => spec_l1Turned.l0 k (q : Int) t x (w : Int)) r := by
  have h16 := pow_le16 hq
  induction d with
  | zero =>
    intro w x hw
    refine ⟨x, 1, fun k hk => ?_⟩
    obtain ⟨k, rfl⟩ : ∃ m, k = m + 1 := ⟨k - 1, by omega⟩
    simp only [spec_l1Turned.l0]
    rw [if_pos (by omega), shl_one_i64 q (by omega), if_neg (by omega)]
  | succ d ih =>
    intro w x hw
    obtain ⟨r, K, hK⟩ := ih (w + 1) (Go.bits .or .i64 x (shl .i64 (Int.tmod (shr .i64 t (w : Int)) 2) (wrap64 ((wrap64 ((((2 ^ q : Nat) : Int)) - 1)) - (w : Int))))) (by omega)
    refine ⟨r, K + 1, fun k hk => ?_⟩
    obtain ⟨k, rfl⟩ : ∃ m, k = m + 1 := ⟨k - 1, by omega⟩
    simp only [spec_l1Turned.l0]
    rw [if_pos (by omega), shl_one_i64 q (by omega), if_pos (by omega), if_pos (by omega), if_pos (by rw [wrap_id (x := ((2 ^ q : Nat) : Int) - 1) (by omega) (by omega), wrap_id (by omega) (by omega)]; omega)]
    rw [wrap_id (x := (w : Int) + 1) (by omega) (by omega)]
    exact hK k (by omega)
theorem smaj_ev (a : Int) : ∃ r : Int, Ev (fun k => spec_MajorityTable.f k a) r := by
  by_cases h : 1 ≤ a ∧ a ≤ 4
  · obtain ⟨q, rfl⟩ := Int.eq_ofNat_of_zero_le (show 0 ≤ a by omega)
    obtain ⟨r, K, hK⟩ := smaj_l0 q (by omega) (2 ^ q) 0 0 (by omega)
    refine ⟨r, K, fun k hk => ?_⟩
    unfold spec_MajorityTable.f
    simp only
    rw [l1In_ev, decide_eq_true h]
    exact hK k hk
  · refine ⟨-1, 0, fun k hk => ?_⟩
    unfold spec_MajorityTable.f
    simp only
    rw [l1In_ev, decide_eq_false h]
    rfl
theorem known_j0 {b : List Int} (hb : Rdr b) (a t p : Int) (c : Bool) (h0 : 0 ≤ p) (h1 : p ≤ 900000) : ∃ r : Int × Int × Int, Ev (fun k => spec_l20Known.j0 k a t c b p) r := by
  cases c with
  | true =>
    obtain ⟨r, K, hK⟩ := smaj_ev a
    refine ⟨(a, Go.bits .and .i64 t r, p), K + 1, fun k hk => ?_⟩
    obtain ⟨k, rfl⟩ : ∃ m, k = m + 1 := ⟨k - 1, by omega⟩
    have := hK k (by omega)
    simp only at this
    simp only [spec_l20Known.j0]
    rw [if_pos trivial, this]
    rfl
  | false =>
    obtain ⟨v, _, _, a3⟩ := pick_ev hb p 4 h0 (by omega)
    by_cases hv : v = 0
    · by_cases hok : 1 ≤ a ∧ a ≤ 4 ∧ 0 ≤ t ∧ t < ((2 ^ 2 ^ a.toNat : Nat) : Int)
      · obtain ⟨q, rfl⟩ := Int.eq_ofNat_of_zero_le (show 0 ≤ a by omega)
        obtain ⟨r, K, hK⟩ := turned_l0 q (by omega) t (2 ^ q) 0 0 (by omega)
        refine ⟨((q : Int), Go.bits .or .i64 t r, p + 1), K + 2, fun k hk => ?_⟩
        obtain ⟨k, rfl⟩ : ∃ m, k = m + 1 := ⟨k - 1, by omega⟩
        have := hK k (by omega)
        simp only [spec_l20Known.j0, spec_l1Turned.f]
        rw [if_neg (by decide), a3 k (by omega)]
        simp only [Option.bind_some]
        rw [if_pos hv, stableOk_ev, decide_eq_true hok]
        simp only [Option.bind_some]
        simp only [Int.natCast_zero] at this
        rw [if_pos trivial]
        exact (congrArg (fun o => Option.bind o fun t128 => some ((q : Int), Go.bits .or .i64 t t128, p + 1)) this).trans rfl
      · refine ⟨(a, t, p + 1), 2, fun k hk => ?_⟩
        obtain ⟨k, rfl⟩ : ∃ m, k = m + 1 := ⟨k - 1, by omega⟩
        simp only [spec_l20Known.j0]
        rw [if_neg (by decide), a3 k (by omega)]
        simp only [Option.bind_some]
        rw [if_pos hv, stableOk_ev, decide_eq_false hok]
        rfl
    · refine ⟨(a, t, p + 1), 2, fun k hk => ?_⟩
      obtain ⟨k, rfl⟩ : ∃ m, k = m + 1 := ⟨k - 1, by omega⟩
      simp only [spec_l20Known.j0]
      rw [if_neg (by decide), a3 k (by omega)]
      simp only [Option.bind_some]
      rw [if_neg hv]
theorem drawLA_ev (l : List Int) (h : ∀ x ∈ l, (Lit.int .u8 x).wf = true) : ∃ r : Int × Int, Ev (fun k => spec_DrawLeastAsks.f k l) r := by
  obtain ⟨b, hb, ho⟩ := open_ev l h
  obtain ⟨⟨a, t, p⟩, r0, r1, K1, hK1⟩ := table_ev hb 0 (by omega) (by omega)
  obtain ⟨v, _, _, a3⟩ := pick_ev hb p 2 r0 (by simp only at r1; omega)
  simp only at r0 r1
  obtain ⟨⟨a', t', p'⟩, K2, hK2⟩ := known_j0 hb a t (p + 1) (if v = 0 then decide (1 ≤ a ∧ a ≤ 4 ∧ 0 ≤ t ∧ t < ((2 ^ 2 ^ a.toNat : Nat) : Int)) else false) (by omega) (by omega)
  refine ⟨(a', t'), K1 + K2 + 1, fun k hk => ?_⟩
  have q1 := hK1 k (by omega)
  have q2 := hK2 k (by omega)
  simp only at q1 q2
  unfold spec_DrawLeastAsks.f spec_l20Known.f
  simp only
  rw [ho]
  simp only [Option.bind_some]
  rw [q1]
  simp only [Option.bind_some]
  rw [a3 k (by omega)]
  simp only [Option.bind_some]
  by_cases hv : v = 0
  · rw [if_pos hv] at q2 ⊢
    rw [stableOk_ev]
    simp only [Option.bind_some]
    rw [q2]
    rfl
  · rw [if_neg hv] at q2 ⊢
    rw [q2]
    rfl
end Go.Proofs.Ytgcdlkpjjnglbaa.PA

/- Plain: the reference's least number of questions (spec.l13Least) is the least number of questions. -/
namespace Go.Proofs.Ytgcdlkpjjnglbaa.PA
open Go.RowKit Go.Proofs.YtgcdlkpjjnglbaaW.PrintWords Go.Proofs.YtgcdlkpjjnglbaaW.PrintLast Go.Proofs.YtgcdlkpjjnglbaaW.PrintMore
set_option linter.unusedVariables false
set_option linter.unusedSimpArgs false
theorem Ev.const {α : Type} {g : Nat → Option α} {r : α} (K : Nat) (h : ∀ k, K ≤ k → g k = some r) : Ev g r := ⟨K, h⟩
/-- what l13Least makes of a question -/
theorem least_ev (p : Nat) (h1 : 1 ≤ p) (h4 : p ≤ 4) : ∀ (m : Nat), m ≤ 4 → ∀ t : Nat, t < 2 ^ 2 ^ p → La.rank p t.testBit ≤ m → Ev (fun k => spec_l13Least.f k (p : Int) (t : Int) (m : Int)) (La.L p t.testBit) := by
  intro m
  induction m with
  | zero =>
    intro _ t ht hr
    by_cases he : La.easy p t.testBit
    · rw [La.L_easy he]
      obtain ⟨v, hv, hiff⟩ := teller_ev p t h4 80 (Nat.le_refl _)
      refine Ev.step (f := fun k => if (t : Int) = 0 then (spec_l13Least.j0 k (p : Int) (t : Int) 0 true) else ((spec_l13Teller.f k (p : Int) (t : Int)).bind fun v => (spec_l13Least.j0 k (p : Int) (t : Int) 0 (decide (v ≥ 0))))) (fun k => rfl) ?_
      refine ⟨81, fun k hk => ?_⟩
      obtain ⟨k, rfl⟩ : ∃ n, k = n + 1 := ⟨k - 1, by omega⟩
      by_cases h0 : t = 0
      · subst h0; simp [spec_l13Least.j0]
      · obtain ⟨v, hv, hiff⟩ := teller_ev p t h4 (k + 1) (by omega)
        have hkn : La.knows p t.testBit := by
          rcases he with he | he
          · exact absurd ((empty_zero ht).1 he) h0
          · exact he
        simp only
        rw [if_neg (by omega), hv]
        simp only [Option.bind_some]
        rw [decide_eq_true (hiff.2 hkn)]
        simp [spec_l13Least.j0]
    · have hL : La.L p t.testBit = -1 := by
        have := La.L_rank p t.testBit
        have := La.L_lo p t.testBit
        rcases (show La.L p t.testBit = -1 ∨ La.L p t.testBit = 0 by omega) with h | h
        · exact h
        · exact absurd (La.L_zero h) he
      rw [hL]
      refine ⟨82, fun k hk => ?_⟩
      obtain ⟨k, rfl⟩ : ∃ n, k = n + 2 := ⟨k - 2, by omega⟩
      obtain ⟨v, hv, hiff⟩ := teller_ev p t h4 (k + 1) (by omega)
      have h0 : ¬ t = 0 := fun h => he (.inl ((empty_zero ht).2 h))
      simp only [spec_l13Least.f]
      rw [if_neg (by omega), hv]
      simp only [Option.bind_some]
      rw [decide_eq_false (fun h => he (.inr (hiff.1 h)))]
      simp [spec_l13Least.j0]
  | succ m ihm =>
    intro hm t ht hr
    have ih := ihm (by omega)
    clear ihm
    by_cases he : La.easy p t.testBit
    · rw [La.L_easy he]
      refine ⟨82, fun k hk => ?_⟩
      obtain ⟨k, rfl⟩ : ∃ n, k = n + 2 := ⟨k - 2, by omega⟩
      simp only [spec_l13Least.f]
      by_cases h0 : t = 0
      · subst h0; simp [spec_l13Least.j0]
      · obtain ⟨v, hv, hiff⟩ := teller_ev p t h4 (k + 1) (by omega)
        have hkn : La.knows p t.testBit := by
          rcases he with he | he
          · exact absurd ((empty_zero ht).1 he) h0
          · exact he
        rw [if_neg (by omega), hv]
        simp only [Option.bind_some]
        rw [decide_eq_true (hiff.2 hkn)]
        simp [spec_l13Least.j0]
    · obtain ⟨R, hR⟩ : ∃ R, R = La.L p t.testBit := ⟨_, rfl⟩
      rw [← hR]
      have hpp := pow_pow_le h4
      -- the loop over who is asked
      have outer : ∀ (e who : Nat) (v : Int), who + e = p → La.Bst p t.testBit (fun i j => i < j ∧ j < p ∧ i < who) v → Ev (fun k => spec_l13Least.l0 k (p : Int) (t : Int) ((m + 1 : Nat) : Int) v (who : Int)) R := by
        intro e
        induction e with
        | zero =>
          intro who v hw hb
          refine ⟨1, fun k hk => ?_⟩
          obtain ⟨k, rfl⟩ : ∃ n, k = n + 1 := ⟨k - 1, by omega⟩
          simp only [spec_l13Least.l0]
          rw [if_neg (by omega), hR]
          congr 1
          exact (La.Bst.all (hb.same (fun i j => by omega)) he).symm
        | succ e ihe =>
          intro who v hw hb
          have inner : ∀ (d whom : Nat) (v : Int), whom + d = p → who < whom → La.Bst p t.testBit (fun i j => i < j ∧ j < p ∧ (i < who ∨ (i = who ∧ j < whom))) v →
              Ev (fun k => spec_l13Least.l1 k (p : Int) (t : Int) ((m + 1 : Nat) : Int) v (who : Int) (whom : Int)) R := by
            intro d
            induction d with
            | zero =>
              intro whom v hw2 hlt hb
              refine Ev.step (f := fun k => spec_l13Least.l0 k (p : Int) (t : Int) ((m + 1 : Nat) : Int) v ((who + 1 : Nat) : Int)) (fun k => ?_) (ihe (who + 1) v (by omega) (hb.same (fun i j => by omega)))
              simp only [spec_l13Least.l1]
              rw [if_neg (by omega), wrap_id (by omega) (by omega)]
              rfl
            | succ d ihd =>
              intro whom v hw2 hlt hb
              have hwp : who < p := by omega
              have hmp : whom < p := by omega
              obtain ⟨Y, hY⟩ : ∃ Y, Y = Tb.num (2 ^ p) (kept t who whom true) := ⟨_, rfl⟩
              obtain ⟨N, hN⟩ : ∃ N, N = Tb.num (2 ^ p) (kept t who whom false) := ⟨_, rfl⟩
              have hYb : Y.testBit = La.ask t.testBit who whom true := by rw [hY]; exact kept_bits p t who whom true ht
              have hNb : N.testBit = La.ask t.testBit who whom false := by rw [hN]; exact kept_bits p t who whom false ht
              have hYt : Y < 2 ^ 2 ^ p := by rw [hY]; exact Tb.num_lt _ _
              have hNt : N < 2 ^ 2 ^ p := by rw [hN]; exact Tb.num_lt _ _
              have aY : ∀ k, 17 ≤ k → spec_l13Asked.f k (p : Int) (t : Int) (who : Int) (whom : Int) true = some (Y : Int) := fun k hk => by rw [hY]; exact sasked_ev p t who whom true h4 hwp hmp k hk
              have aN : ∀ k, 17 ≤ k → spec_l13Asked.f k (p : Int) (t : Int) (who : Int) (whom : Int) false = some (N : Int) := fun k hk => by rw [hN]; exact sasked_ev p t who whom false h4 hwp hmp k hk
              have hmem : ∀ a b, (a < b ∧ b < p ∧ (a < who ∨ (a = who ∧ b < whom + 1))) ↔ (a < b ∧ b < p ∧ (a < who ∨ (a = who ∧ b < whom))) ∨ (a = who ∧ b = whom) := by
                intro a b
                omega
              -- the one is all: the other is nothing
              have all1 : Y = t ↔ N = 0 := by
                rw [← empty_zero hNt, hNb]
                constructor
                · intro e w hw
                  have := congrFun hYb w
                  rw [e] at this
                  simp only [La.ask] at this ⊢
                  revert this
                  generalize t.testBit w = x1
                  generalize La.same who whom w = x2
                  revert x1 x2
                  decide
                · intro h
                  apply Nat.eq_of_testBit_eq
                  intro w
                  rw [hYb]
                  simp only [La.ask]
                  by_cases hw : w < 2 ^ p
                  · have := h w hw
                    simp only [La.ask] at this
                    revert this
                    generalize t.testBit w = x1
                    generalize La.same who whom w = x2
                    revert x1 x2
                    decide
                  · rw [Nat.testBit_lt_two_pow (Nat.lt_of_lt_of_le ht (Nat.pow_le_pow_right (by omega) (by omega)))]; rfl
              have all2 : N = t ↔ Y = 0 := by
                rw [← empty_zero hYt, hYb]
                constructor
                · intro e w hw
                  have := congrFun hNb w
                  rw [e] at this
                  simp only [La.ask] at this ⊢
                  revert this
                  generalize t.testBit w = x1
                  generalize La.same who whom w = x2
                  revert x1 x2
                  decide
                · intro h
                  apply Nat.eq_of_testBit_eq
                  intro w
                  rw [hNb]
                  simp only [La.ask]
                  by_cases hw : w < 2 ^ p
                  · have := h w hw
                    simp only [La.ask] at this
                    revert this
                    generalize t.testBit w = x1
                    generalize La.same who whom w = x2
                    revert x1 x2
                    decide
                  · rw [Nat.testBit_lt_two_pow (Nat.lt_of_lt_of_le ht (Nat.pow_le_pow_right (by omega) (by omega)))]; rfl
              clear hY hN
              have next := fun v' h => ihd (whom + 1) v' (by omega) (by omega) h
              have hub := bst_hi h1 h4 hb
              have stepc : ∀ k : Nat, wrap64 ((whom : Int) + 1) = ((whom + 1 : Nat) : Int) := fun _ => by rw [wrap_id (by omega) (by omega)]; rfl
              by_cases hpt : La.parts p t.testBit who whom
              · have hnt := La.parts_not_tied hpt
                have ry := La.rank_ask (b := true) hwp hmp hnt
                have rn := La.rank_ask (b := false) hwp hmp hnt
                have eY := ih Y hYt (by rw [hYb]; omega)
                have eN := ih N hNt (by rw [hNb]; omega)
                have halo := La.L_lo p Y.testBit
                have hahi := L_hi p Y h1 h4
                have hblo := La.L_lo p N.testBit
                have hbhi := L_hi p N h1 h4
                obtain ⟨a, ha⟩ : ∃ a, a = La.L p Y.testBit := ⟨_, rfl⟩
                obtain ⟨b, hb'⟩ : ∃ b, b = La.L p N.testBit := ⟨_, rfl⟩
                rw [← ha] at eY halo hahi
                rw [← hb'] at eN hblo hbhi
                have hcan : La.can p t.testBit who whom ↔ 0 ≤ a ∧ 0 ≤ b := by
                  unfold La.can
                  rw [← hYb, ← hNb, ← ha, ← hb']
                  exact ⟨fun h => h.2, fun h => ⟨hpt, h⟩⟩
                have hcost : La.cost p t.testBit who whom = 1 + mx a b := by unfold La.cost mx; rw [← hYb, ← hNb, ← ha, ← hb']
                have hmx : -1 ≤ mx a b ∧ mx a b ≤ 3 := by unfold mx; split <;> omega
                have hne1 : ¬ (Y : Int) = (t : Int) := by
                  intro e
                  have : N = 0 := all1.1 (by omega)
                  exact hpt.2 (by rw [← hNb, empty_zero hNt]; exact this)
                have hne2 : ¬ (N : Int) = (t : Int) := by
                  intro e
                  have : Y = 0 := all2.1 (by omega)
                  exact hpt.1 (by rw [← hYb, empty_zero hYt]; exact this)
                obtain ⟨K1, k1⟩ := eY
                obtain ⟨K2, k2⟩ := eN
                -- what comes of it
                have key : ∃ v', La.Bst p t.testBit (fun i j => i < j ∧ j < p ∧ (i < who ∨ (i = who ∧ j < whom + 1))) v' ∧
                    ∀ k, 17 + K1 + K2 ≤ k → spec_l13Least.l1 (k + 3) (p : Int) (t : Int) ((m + 1 : Nat) : Int) v (who : Int) (whom : Int) = spec_l13Least.l1 k (p : Int) (t : Int) ((m + 1 : Nat) : Int) v' (who : Int) ((whom + 1 : Nat) : Int) := by
                  have hd : ∀ k, 17 + K1 + K2 ≤ k → spec_l13Least.l1 (k + 3) (p : Int) (t : Int) ((m + 1 : Nat) : Int) v (who : Int) (whom : Int) =
                      (if a < 0 then (spec_l13Least.j4 (k + 1) (p : Int) (t : Int) ((m + 1 : Nat) : Int) v (who : Int) (whom : Int) a b true) else (spec_l13Least.j4 (k + 1) (p : Int) (t : Int) ((m + 1 : Nat) : Int) v (who : Int) (whom : Int) a b (decide (b < 0)))) := by
                    intro k hk
                    have q1 := k1 (k + 1) (by omega)
                    have q2 := k2 (k + 1) (by omega)
                    simp only at q1 q2
                    simp only [spec_l13Least.l1]
                    rw [if_pos (by omega), aY (k + 2) (by omega), aN (k + 2) (by omega)]
                    simp only [Option.bind_some]
                    rw [if_neg hne1, show (((N : Int) == (t : Int)) = false) from beq_eq_false_iff_ne.2 hne2]
                    simp only [spec_l13Least.j3]
                    rw [if_neg (by decide), show wrap64 (((m + 1 : Nat) : Int) - 1) = (m : Int) from by rw [wrap_id (by omega) (by omega)]; omega, q1, q2]
                    simp only [Option.bind_some]
                  by_cases ha0 : a < 0
                  · refine ⟨v, hb.skip (i := who) (j := whom) (fun h => by have := (hcan.1 h).1; omega) hmem, fun k hk => ?_⟩
                    rw [hd k hk, if_pos ha0]
                    simp only [spec_l13Least.j4]
                    rw [if_pos trivial, stepc k]
                  · by_cases hb0 : b < 0
                    · refine ⟨v, hb.skip (i := who) (j := whom) (fun h => by have := (hcan.1 h).2; omega) hmem, fun k hk => ?_⟩
                      rw [hd k hk, if_neg ha0, decide_eq_true hb0]
                      simp only [spec_l13Least.j4]
                      rw [if_pos trivial, stepc k]
                    · have hc := hcan.2 ⟨by omega, by omega⟩
                      have hw1 : wrap64 (mx a b + 1) = La.cost p t.testBit who whom := by rw [wrap_id (by omega) (by omega), hcost]; omega
                      by_cases hv0 : v < 0
                      · refine ⟨_, hb.take hc (.inl hv0) hmem, fun k hk => ?_⟩
                        rw [hd k hk, if_neg ha0, decide_eq_false hb0]
                        simp only [spec_l13Least.j4]
                        rw [if_neg (by decide), if_pos hv0, stepc k, hw1]
                      · by_cases hlt2 : La.cost p t.testBit who whom < v
                        · refine ⟨_, hb.take hc (.inr hlt2) hmem, fun k hk => ?_⟩
                          rw [hd k hk, if_neg ha0, decide_eq_false hb0]
                          simp only [spec_l13Least.j4]
                          rw [if_neg (by decide), if_neg hv0, stepc k, hw1, if_pos hlt2]
                        · refine ⟨v, hb.keep (i := who) (j := whom) (by omega) (by omega) hmem, fun k hk => ?_⟩
                          rw [hd k hk, if_neg ha0, decide_eq_false hb0]
                          simp only [spec_l13Least.j4]
                          rw [if_neg (by decide), if_neg hv0, stepc k, hw1, if_neg hlt2]
                obtain ⟨v', hb2, heq⟩ := key
                obtain ⟨K3, k3⟩ := next v' hb2
                refine ⟨17 + K1 + K2 + K3 + 3, fun k hk => ?_⟩
                obtain ⟨k, rfl⟩ : ∃ n, k = n + 3 := ⟨k - 3, by omega⟩
                exact (heq k (by omega)).trans (k3 k (by omega))
              · have hz : N = 0 ∨ Y = 0 := by
                  by_cases hy0 : Y = 0
                  · exact .inr hy0
                  · refine .inl ?_
                    rw [← empty_zero hNt, hNb]
                    refine Classical.byContradiction fun hne => hpt ⟨?_, hne⟩
                    rw [← hYb, empty_zero hYt]
                    exact hy0
                have hb2 := hb.skip (i := who) (j := whom) (fun h => hpt h.1) hmem
                obtain ⟨K3, k3⟩ := next v hb2
                refine ⟨17 + K3 + 2, fun k hk => ?_⟩
                obtain ⟨k, rfl⟩ : ∃ n, k = n + 2 := ⟨k - 2, by omega⟩
                simp only [spec_l13Least.l1]
                rw [if_pos (by omega), aY (k + 1) (by omega), aN (k + 1) (by omega)]
                simp only [Option.bind_some]
                have fin : spec_l13Least.j3 (k + 1) (p : Int) (t : Int) ((m + 1 : Nat) : Int) v (who : Int) (whom : Int) (Y : Int) (N : Int) true = some R := by
                  simp only [spec_l13Least.j3]
                  rw [if_pos trivial, stepc k]
                  exact k3 k (by omega)
                by_cases e1 : (Y : Int) = (t : Int)
                · rw [if_pos e1]; exact fin
                · have e2 : N = t := by
                    rcases hz with h | h
                    · exact absurd (congrArg (fun x : Nat => (x : Int)) (all1.2 h)) e1
                    · exact all2.2 h
                  rw [if_neg e1, show (((N : Int) == (t : Int)) = true) from beq_iff_eq.2 (by rw [e2])]
                  exact fin
          refine Ev.step (f := fun k => spec_l13Least.l1 k (p : Int) (t : Int) ((m + 1 : Nat) : Int) v (who : Int) ((who + 1 : Nat) : Int)) (fun k => ?_) (inner (p - (who + 1)) (who + 1) v (by omega) (by omega) (hb.same (fun i j => by omega)))
          simp only [spec_l13Least.l0]
          rw [if_pos (by omega), wrap_id (by omega) (by omega)]
          rfl
      obtain ⟨K, hK⟩ := outer p 0 (-1) (by omega) (.inl ⟨rfl, fun i j h => by omega⟩)
      refine ⟨80 + K + 2, fun k hk => ?_⟩
      obtain ⟨k, rfl⟩ : ∃ n, k = n + 2 := ⟨k - 2, by omega⟩
      obtain ⟨v, hv, hiff⟩ := teller_ev p t h4 (k + 1) (by omega)
      have h0 : ¬ t = 0 := fun h => he (.inl ((empty_zero ht).2 h))
      simp only [spec_l13Least.f]
      rw [if_neg (by omega), hv]
      simp only [Option.bind_some]
      rw [decide_eq_false (fun h => he (.inr (hiff.1 h)))]
      simp only [spec_l13Least.j0]
      rw [if_neg (by decide), if_neg (by omega)]
      exact hK k (by omega)
theorem sleast_ev (a0 a1 : Int) : Ev (fun k => spec_LeastAsks.f k a0 a1) (if 1 ≤ a0 ∧ a0 ≤ 4 ∧ 0 ≤ a1 ∧ a1 < ((2 ^ 2 ^ a0.toNat : Nat) : Int) then La.L a0.toNat a1.toNat.testBit else -1) := by
  by_cases h : 1 ≤ a0 ∧ a0 ≤ 4 ∧ 0 ≤ a1 ∧ a1 < ((2 ^ 2 ^ a0.toNat : Nat) : Int)
  · rw [if_pos h]
    have hok := stableOk_ev a0 a1
    rw [decide_eq_true h] at hok
    obtain ⟨p1, p4, t0, t1⟩ := h
    obtain ⟨p, rfl⟩ := Int.eq_ofNat_of_zero_le (show 0 ≤ a0 by omega)
    obtain ⟨t, rfl⟩ := Int.eq_ofNat_of_zero_le t0
    rw [Int.toNat_natCast] at t1 ⊢
    rw [Int.toNat_natCast]
    have := La.rank_le p t.testBit (by omega)
    obtain ⟨K, hK⟩ := least_ev p (by omega) (by omega) p (by omega) t (by omega) (by omega)
    refine ⟨K, fun k hk => ?_⟩
    unfold spec_LeastAsks.f
    have := hK k hk
    simp only at this
    rw [hok]
    simp only [Option.bind_some]
    rw [if_pos trivial, this]
    rfl
  · rw [if_neg h]
    have hok := stableOk_ev a0 a1
    rw [decide_eq_false h] at hok
    refine ⟨0, fun k _ => ?_⟩
    unfold spec_LeastAsks.f
    rw [hok]
    rfl
end Go.Proofs.Ytgcdlkpjjnglbaa.PA

/- FnLeastAsks, as a statement over numbers and lists: it is true of every code. -/
namespace Go.Proofs.Ytgcdlkpjjnglbaa.Pure
open Go.RowKit Go.Proofs.Ytgcdlkpjjnglbaa Go.Proofs.Ytgcdlkpjjnglbaa.PA Go.Proofs.YtgcdlkpjjnglbaaW.PrintWords Go.Proofs.YtgcdlkpjjnglbaaW.PrintLast Go.Proofs.YtgcdlkpjjnglbaaW.PrintMore
set_option linter.unusedVariables false
set_option linter.unusedSimpArgs false
theorem alive_ev : laws_alive.f = some true := by
  unfold laws_alive.f impl_WorldOk.f
  have e : shl .i64 1 1 = 2 := by
    have := shl_one_i64 1 (by omega)
    simpa using this
  simp [peopleOk_ev, e]
/-- more tellers than liars: no two of its worlds are opposites -/
def apartB : Bool := (List.range 5).all fun p => (List.range 16).all fun x => (List.range 16).all fun y =>
  !(decide (1 ≤ p) && (decide (x < 2 ^ p) && (decide (y < 2 ^ p) && (decide (p < 2 * ones8 8 x) && decide (p < 2 * ones8 8 y))))) || (List.range p).any fun i => x.testBit i == y.testBit i
def someB : Bool := (List.range 5).all fun p => (List.range 16).all fun x => !(decide (1 ≤ p) && (decide (x < 2 ^ p) && decide (p < 2 * ones8 8 x))) || (List.range p).any fun i => x.testBit i
theorem apartB_true : apartB = true := by decide +kernel
theorem someB_true : someB = true := by decide +kernel
theorem major_apart (p : Nat) (h1 : 1 ≤ p) (h4 : p ≤ 4) (x y : Nat) (hx : x < 2 ^ p) (hy : y < 2 ^ p) (hmx : p < 2 * ones8 8 x) (hmy : p < 2 * ones8 8 y) : ¬ ∀ i, i < p → x.testBit i = !y.testBit i := by
  have h16 := pow_le16 h4
  have h := apartB_true
  unfold apartB at h
  have h := List.all_eq_true.1 h p (List.mem_range.2 (by omega))
  have h := List.all_eq_true.1 h x (List.mem_range.2 (by omega))
  have h := List.all_eq_true.1 h y (List.mem_range.2 (by omega))
  rw [decide_eq_true h1, decide_eq_true hx, decide_eq_true hy, decide_eq_true hmx, decide_eq_true hmy] at h
  simp only [Bool.and_self, Bool.not_true, Bool.false_or] at h
  obtain ⟨i, hi, he⟩ := List.any_eq_true.1 h
  have hi := List.mem_range.1 hi
  intro hall
  have := hall i hi
  have he := beq_iff_eq.1 he
  rw [he] at this
  cases hb : y.testBit i <;> rw [hb] at this <;> cases this
theorem major_some (p : Nat) (h1 : 1 ≤ p) (h4 : p ≤ 4) (x : Nat) (hx : x < 2 ^ p) (hmx : p < 2 * ones8 8 x) : ∃ i, i < p ∧ x.testBit i = true := by
  have h16 := pow_le16 h4
  have h := someB_true
  unfold someB at h
  have h := List.all_eq_true.1 h p (List.mem_range.2 (by omega))
  have h := List.all_eq_true.1 h x (List.mem_range.2 (by omega))
  rw [decide_eq_true h1, decide_eq_true hx, decide_eq_true hmx] at h
  simp only [Bool.and_self, Bool.not_true, Bool.false_or] at h
  obtain ⟨i, hi, he⟩ := List.any_eq_true.1 h
  exact ⟨i, List.mem_range.1 hi, he⟩
theorem opp_bits (p : Nat) (h4 : p ≤ 4) (w i : Nat) (hw : w < 2 ^ p) (hi : i < p) : (2 ^ p - 1 - w).testBit i = !w.testBit i := by
  have h : ∀ p, p < 5 → ∀ w, w < 16 → w < 2 ^ p → ∀ i, i < p → (2 ^ p - 1 - w).testBit i = !w.testBit i := by decide +kernel
  have h16 := pow_le16 h4
  exact h p (by omega) w (by omega) hw i hi
theorem FnLeastAsks : laws_FnLeastAsks.Pure := by
  intro l _ _ hl
  by_cases hlen : (l.length : Int) > 1048576
  · refine ⟨0, ?_⟩
    unfold laws_FnLeastAsks.f
    rw [if_pos hlen]
  · obtain ⟨⟨a, t⟩, K1, hK1⟩ := drawLA_ev l hl
    obtain ⟨K2, hK2⟩ := sleast_ev a t
    refine ⟨K1 + K2 + 100, ?_⟩
    have q1 := hK1 (K1 + K2 + 100) (by omega)
    have q2 := hK2 (K1 + K2 + 100) (by omega)
    simp only at q1 q2
    unfold laws_FnLeastAsks.f
    rw [if_neg hlen, q1]
    simp only [Option.bind_some]
    unfold impl_LeastAsks.f
    simp only [Option.bind_some]
    rw [q2]
    simp only [Option.bind_some]
    rw [if_pos trivial, stableOk_ev]
    simp only [Option.bind_some]
    by_cases h : 1 ≤ a ∧ a ≤ 4 ∧ 0 ≤ t ∧ t < ((2 ^ 2 ^ a.toNat : Nat) : Int)
    · rw [decide_eq_true h, if_pos h]
      have htab := tableOk_ev a t
      rw [decide_eq_true h] at htab
      obtain ⟨p1, p4, t0, t1⟩ := h
      obtain ⟨p, rfl⟩ := Int.eq_ofNat_of_zero_le (show 0 ≤ a by omega)
      obtain ⟨t, rfl⟩ := Int.eq_ofNat_of_zero_le t0
      rw [Int.toNat_natCast] at t1
      rw [Int.toNat_natCast, Int.toNat_natCast]
      have h1 : 1 ≤ p := by omega
      have h4 : p ≤ 4 := by omega
      have ht : t < 2 ^ 2 ^ p := by omega
      have h16 := pow_le16 h4
      have hpp := pow_pow_le h4
      have hlo := La.L_lo p t.testBit
      have hhi : La.L p t.testBit < p := by
        have := La.L_rank p t.testBit
        have := La.rank_le p t.testBit h1
        omega
      -- the end
      have fin : ∀ k, laws_FnLeastAsks.j0 (k + 1) (p : Int) (t : Int) (La.L p t.testBit) false = some true := by
        intro k
        simp only [laws_FnLeastAsks.j0]
        have hmaj : impl_MajorityTable.f (p : Int) = some ((Tb.num (2 ^ p) fun x => decide (p < 2 * ones8 8 x) : Nat) : Int) := by
          unfold impl_MajorityTable.f
          rw [if_pos ⟨p1, p4⟩, Int.toNat_natCast]
        have hopp : impl_OppositeTable.f (p : Int) (t : Int) = some ((Tb.num (2 ^ p) fun x => t.testBit (2 ^ p - 1 - x) : Nat) : Int) := by
          unfold impl_OppositeTable.f
          have e : (2 : Int) ^ 2 ^ p = ((2 ^ 2 ^ p : Nat) : Int) := by simp
          rw [if_pos ⟨p1, p4, t0, by rw [Int.toNat_natCast, e]; exact t1, htab⟩, Int.toNat_natCast, Int.toNat_natCast]
        have hm1 := Tb.num_lt (2 ^ p) (fun x => decide (p < 2 * ones8 8 x))
        have last : (if (t : Int) = 0 then some (decide (La.L p t.testBit < (p : Int))) else (impl_OppositeTable.f (p : Int) (t : Int)).bind fun t168 => if t168 = (t : Int) then (if La.L p t.testBit = -1 then some (decide (La.L p t.testBit < (p : Int))) else some false) else some (decide (La.L p t.testBit < (p : Int)))) = some true := by
          by_cases hz : (t : Int) = 0
          · rw [if_pos hz, decide_eq_true hhi]
          · rw [if_neg hz, hopp]
            simp only [Option.bind_some]
            by_cases ho : ((Tb.num (2 ^ p) fun x => t.testBit (2 ^ p - 1 - x) : Nat) : Int) = (t : Int)
            · rw [if_pos ho]
              have ho' : (Tb.num (2 ^ p) fun x => t.testBit (2 ^ p - 1 - x)) = t := by omega
              have hm : La.L p t.testBit = -1 := by
                rcases (show La.L p t.testBit = -1 ∨ 0 ≤ La.L p t.testBit by omega) with h | h
                · exact h
                · have := La.opposite_never (La.L_enough h) (fun w hw => by
                    have := congrArg (fun n => n.testBit w) ho'
                    simp only [Tb.testBit_num, hw, decide_true, Bool.true_and] at this
                    exact this) (fun w i hw hi => opp_bits p h4 w i hw hi)
                  rw [empty_zero ht] at this
                  omega
              rw [if_pos hm, decide_eq_true hhi]
            · rw [if_neg ho, decide_eq_true hhi]
        rw [if_neg (by decide), hmaj]
        simp only [Option.bind_some]
        rw [i64_andNot_nat _ _ (by omega) (by omega)]
        by_cases hsub : ((t &&& (t ^^^ (Tb.num (2 ^ p) fun x => decide (p < 2 * ones8 8 x))) : Nat) : Int) = 0
        · rw [if_pos hsub]
          have hsub' : t &&& (t ^^^ (Tb.num (2 ^ p) fun x => decide (p < 2 * ones8 8 x))) = 0 := by omega
          have hin : ∀ w, w < 2 ^ p → t.testBit w = true → p < 2 * ones8 8 w := by
            intro w hw hwt
            have := congrArg (fun n => n.testBit w) hsub'
            simp only [Nat.testBit_and, Nat.testBit_xor, Tb.testBit_num, hw, decide_true, Bool.true_and, hwt, Nat.zero_testBit] at this
            simpa using this
          have he := La.told (p := p) (t := t.testBit) (fun w w' hw hw' hwt hwt' hh => major_apart p h1 h4 w w' hw hw' (hin w hw hwt) (hin w' hw' hwt') hh) (fun w hw hwt => major_some p h1 h4 w hw (hin w hw hwt))
          have h0 := (La.L_of he).1
          rw [if_neg (by omega), if_neg (by omega)]
          exact last
        · rw [if_neg hsub]
          exact last
      rw [if_pos rfl]
      obtain ⟨v, v1, hv, hiff⟩ := known_ev p t h1 h4 ht
      have heasy : La.L p t.testBit = 0 ↔ t = 0 ∨ 0 ≤ v := by
        rw [← easy_iff ht hiff]
        exact ⟨La.L_zero, La.L_easy⟩
      by_cases hz : (t : Int) = 0
      · rw [if_pos hz]
        have : La.L p t.testBit = 0 := heasy.2 (.inl (by omega))
        have hb : ((La.L p t.testBit == 0) != true) = false := by rw [this]; rfl
        rw [hb]
        exact fin _
      · rw [if_neg hz, hv _ (by omega)]
        simp only [Option.bind_some]
        have hb : ((La.L p t.testBit == 0) != decide (v ≥ 0)) = false := by
          by_cases h0 : 0 ≤ v
          · rw [heasy.2 (.inr h0), decide_eq_true h0]; rfl
          · have hne : ¬ La.L p t.testBit = 0 := fun h => by
              rcases heasy.1 h with h | h
              · omega
              · exact h0 h
            rw [decide_eq_false h0, beq_eq_false_iff_ne.2 hne]; rfl
        rw [hb]
        exact fin _
    · rw [decide_eq_false h, if_neg h, if_neg (by decide), if_pos rfl, alive_ev]
      rfl
end Go.Proofs.Ytgcdlkpjjnglbaa.Pure
