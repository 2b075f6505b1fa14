/- Part 0 of the proof of FnExactDeskNew: contracts of the functions that it reaches, and plain lemmas. -/
import Derived.Test.YtgcdlkpjjnglbaaProg
import Derived.Below
import Derived.Deep.Draws
import Derived.Deep.AppendLies
import Derived.Maps.AppendAt
import Derived.OwnWalk
import Derived.Laws.BytesArg
import Derived.Laws.MakeOwn
import Derived.Laws.OwnMore
import Derived.Deep.OwnRows
import Derived.Tactics
import Derived.Lib.ConvBytes
import Derived.Laws.Slices
import Derived.WalkKit
import Derived.KernelRfl
import Derived.RowKit3
import Derived.Deep.LoopGhost
import Derived.Deep.QuietTactic
import Derived.BigQuiet
import Derived.WideLaws
import Derived.Deep.DeepCutAuto
import Derived.Deep.CutBlock
import Derived.Deep.RegionHeld3
import Derived.Laws.Rows
import Derived.Lib.AppendStr
import Derived.ArgAppend
import Derived.Laws.IdiomCopy
import Derived.OrdersHeld
import Derived.Laws.BitsLemmas
import Derived.RowKit
import Derived.Test.YtgcdlkpjjnglbaaWWords
import Derived.Test.YtgcdlkpjjnglbaaWLast
import Derived.Test.YtgcdlkpjjnglbaaWTab
import Derived.Test.YtgcdlkpjjnglbaaWFour
import Derived.Test.YtgcdlkpjjnglbaaWQPut
import Derived.Test.YtgcdlkpjjnglbaaWApart
import Derived.Test.YtgcdlkpjjnglbaaWArr
import Derived.Test.YtgcdlkpjjnglbaaWZeros
import Derived.Test.YtgcdlkpjjnglbaaWFoot
import Derived.Test.YtgcdlkpjjnglbaaWKept
import Derived.Test.YtgcdlkpjjnglbaaWShare
import Derived.Test.YtgcdlkpjjnglbaaWN
import Derived.Test.YtgcdlkpjjnglbaaWFootNe
import Derived.Test.YtgcdlkpjjnglbaaWAt
import Derived.Test.YtgcdlkpjjnglbaaWEqStruct
import Derived.Test.YtgcdlkpjjnglbaaWRepsOne
import Derived.Test.YtgcdlkpjjnglbaaWInv
import Derived.Test.YtgcdlkpjjnglbaaWInvWords
import Derived.Test.YtgcdlkpjjnglbaaWGuard
import Derived.Test.YtgcdlkpjjnglbaaWNEv
import Derived.Test.YtgcdlkpjjnglbaaWMore
import Derived.ProofKit
import Derived.DataShut
import Derived.Lib.SmallJoins
import Derived.Deep.Slices

namespace Go.Proofs.Ytgcdlkpjjnglbaa.PA
open Go.RowKit Go.Proofs.YtgcdlkpjjnglbaaW.PrintWords Go.Proofs.YtgcdlkpjjnglbaaW.PrintLast Go.Proofs.YtgcdlkpjjnglbaaW.PrintMore
attribute [local go_sem] max2_int min2_int max_two min_two max_three min_three max_four min_four   -- for this text's walks alone
set_option linter.unusedVariables false
set_option linter.unusedSimpArgs false



def errW : Option Int → Value
  | none => .nilIface
  | some c => .iface 0 (.int .i64 c)
theorem errW_none : errW none = .nilIface := rfl
theorem errW_some (c : Int) : errW (some c) = .iface 0 (.int .i64 c) := rfl

theorem info3 : (Try.prog.info? 3).map (fun i => (i.zero, i.size, i.bytes)) = some (some (.int .i64 0), 1, 8) := by kernel_rfl
theorem info5 : (Try.prog.info? 5).map (fun i => (i.zero, i.size, i.bytes)) = some (some (.int .u8 0), 1, 1) := by kernel_rfl
theorem info9 : (Try.prog.info? 9).map (fun i => (i.zero, i.size, i.bytes)) = some (some (.string ⟨#[]⟩), 1, 16) := by kernel_rfl
theorem info36 : (Try.prog.info? 36).map (fun i => (i.zero, i.size, i.bytes)) = some (some (.agg #[(.int .i64 0), (.slice none 0 0)]), 2, 32) := by kernel_rfl
theorem info83 : (Try.prog.info? 83).map (fun i => (i.zero, i.size, i.bytes)) = some (some (.agg #[(.int .i64 0), (.slice none 0 0)]), 2, 32) := by kernel_rfl
theorem info102 : (Try.prog.info? 102).map (fun i => (i.zero, i.size, i.bytes)) = some (some (.agg #[(.int .i64 0), (.int .i64 0)]), 2, 16) := by kernel_rfl
-- the values' own types
/-! #### struct type 112 -/
structure S112 where
  f0 : Int
  f1 : Int
def z112 : S112 := ⟨(0 : Int), (0 : Int)⟩
def k112 : Kd S112 := Kd.iso (Kd.pair (Kd.int .i64) (Kd.int .i64)) (fun x : S112 => (x.f0, x.f1))
theorem k112_open {w : World} {x : S112} {cs : List Value} (h : k112.K w x cs) : cs = [.int .i64 x.f0, .int .i64 x.f1] := by
  obtain ⟨_, _, rfl, rfl, rfl⟩ := h
  exact rfl
theorem k112_openM {w : World} {base : Nat} {ok : Nat → Prop} {x : S112} {cs : List Value} (h : k112.M w base ok x cs) : cs = [.int .i64 x.f0, .int .i64 x.f1] := by
  obtain ⟨_, _, rfl, rfl, rfl⟩ := h
  exact rfl
theorem k112_mk (w : World) (x : S112)  : k112.K w x [.int .i64 x.f0, .int .i64 x.f1] := ⟨[.int .i64 x.f0], [.int .i64 x.f1], rfl, rfl, rfl⟩
theorem k112_mkM (w : World) (base : Nat) (ok : Nat → Prop) (x : S112)  : k112.M w base ok x [.int .i64 x.f0, .int .i64 x.f1] := ⟨[.int .i64 x.f0], [.int .i64 x.f1], rfl, rfl, rfl⟩
theorem k112_mkF (W : World) (ok : Nat → Prop) (x : S112) : Kd.FK k112 W ok x [.int .i64 x.f0, .int .i64 x.f1] := fun W2 _ => k112_mk W2 x
def rd_T112 (xs : List S112) (i : Int) : S112 := xs.getD i.toNat z112
theorem at_T112 {w : World} {A : Option Addr} {n : Nat} {xs : List S112} (h : Kd.C k112 w A n xs) (i : Int) (h0 : 0 ≤ i) (h1 : i < n) : ∃ ad , A = some ad ∧ w.cell? (ad.add (i.toNat * 2)) = some (.int .i64 (rd_T112 xs i).f0) ∧ w.cell? ⟨(ad.add (i.toNat * 2)).block, (ad.add (i.toNat * 2)).off + 1, none⟩ = some (.int .i64 (rd_T112 xs i).f1) := by
  obtain ⟨ad, c, e, _, hK, hc0⟩ := Kd.C_get h z112 i h0 h1
  have hc : ∀ j u, c[j]? = some u → w.cell? (ad.add (i.toNat * 2 + j)) = some u := hc0
  obtain rfl := k112_open hK
  exact ⟨ad, e, hc 0 _ rfl, by rw [← add_field _ _ 1 (by omega)]; exact hc 1 _ rfl⟩

def rd_L3 (xs : List (List S112)) (i : Int) : (List S112) := xs.getD i.toNat ([] : List S112)
theorem at_L3 {w : World} {A : Option Addr} {n : Nat} {xs : List (List S112)} (h : Kd.C (Kd.slice 112 k112) w A n xs) (i : Int) (h0 : 0 ≤ i) (h1 : i < n) : ∃ ad A0 c0, A = some ad ∧ w.cell? (ad.add i.toNat) = some (.slice A0 (rd_L3 xs i).length c0) ∧ (rd_L3 xs i).length ≤ c0 ∧ k112.C w A0 (rd_L3 xs i).length (rd_L3 xs i) := by
  obtain ⟨ad, c, e, _, hK, hc0⟩ := Kd.C_get h ([] : List S112) i h0 h1
  have hc : ∀ j u, c[j]? = some u → w.cell? (ad.add (i.toNat * 1 + j)) = some u := hc0
  obtain ⟨A0, c0, rfl, l0, g0⟩ := hK
  exact ⟨ad, A0, c0, e, by have hq := hc 0 _ rfl; rwa [Nat.mul_one, Nat.add_zero] at hq, l0, g0⟩

/-! #### struct type 79 -/
structure S79 where
  f0 : Int
  f1 : (List S112)
def z79 : S79 := ⟨(0 : Int), ([] : List S112)⟩
def k79 : Kd S79 := Kd.iso (Kd.pair (Kd.int .i64) (Kd.slice 112 k112)) (fun x : S79 => (x.f0, x.f1))
theorem k79_open {w : World} {x : S79} {cs : List Value} (h : k79.K w x cs) : ∃ A1 c1, cs = [.int .i64 x.f0, .slice A1 x.f1.length c1] ∧ x.f1.length ≤ c1 ∧ k112.C w A1 x.f1.length x.f1 := by
  obtain ⟨_, _, rfl, rfl, ⟨A1, c1, rfl, l1, g1⟩⟩ := h
  exact ⟨A1, c1, rfl, l1, g1⟩
theorem k79_openM {w : World} {base : Nat} {ok : Nat → Prop} {x : S79} {cs : List Value} (h : k79.M w base ok x cs) : ∃ v1, cs = [.int .i64 x.f0, v1] ∧ k112.R 112 w base ok v1 x.f1 := by
  obtain ⟨_, _, rfl, rfl, ⟨v1, rfl, g1⟩⟩ := h
  exact ⟨v1, rfl, g1⟩
theorem k79_mk (w : World) (x : S79) {A1 : Option Addr} {c1 : Nat} (l1 : x.f1.length ≤ c1) (g1 : k112.C w A1 x.f1.length x.f1) : k79.K w x [.int .i64 x.f0, .slice A1 x.f1.length c1] := ⟨[.int .i64 x.f0], [.slice A1 x.f1.length c1], rfl, rfl, ⟨A1, c1, rfl, l1, g1⟩⟩
theorem k79_mkM (w : World) (base : Nat) (ok : Nat → Prop) (x : S79) {v1 : Value} (g1 : k112.R 112 w base ok v1 x.f1) : k79.M w base ok x [.int .i64 x.f0, v1] := ⟨[.int .i64 x.f0], [v1], rfl, rfl, ⟨v1, rfl, g1⟩⟩
theorem k79_openF {W : World} {ok : Nat → Prop} {x : S79} {cs : List Value} (h : Kd.FK k79 W ok x cs) : ∃ A1 c1, cs = [.int .i64 x.f0, .slice A1 x.f1.length c1] ∧ x.f1.length ≤ c1 ∧ Kd.F k112 W ok A1 x.f1.length x.f1 := by
  obtain ⟨A1, c1, rfl, l1, _⟩ := k79_open (Kd.FK_now h)
  exact ⟨A1, c1, rfl, l1, (fun W' hW => by obtain ⟨A1_, c1_, he, l1_, g1_⟩ := k79_open (h W' hW); injection (Option.some.inj (show some (Value.slice A1 x.f1.length c1) = some (Value.slice A1_ x.f1.length c1_) from congrArg (fun l => l[1]?) he)) with ha_ _ _; rw [ha_]; exact g1_)⟩
theorem k79_mkF (W : World) (ok : Nat → Prop) (x : S79) {A1 : Option Addr} {c1 : Nat} (l1 : x.f1.length ≤ c1) (g1 : Kd.F k112 W ok A1 x.f1.length x.f1) : Kd.FK k79 W ok x [.int .i64 x.f0, .slice A1 x.f1.length c1] := fun W2 hW => k79_mk W2 x l1 (g1 W2 hW)
def rd_T79 (xs : List S79) (i : Int) : S79 := xs.getD i.toNat z79
theorem at_T79 {w : World} {A : Option Addr} {n : Nat} {xs : List S79} (h : Kd.C k79 w A n xs) (i : Int) (h0 : 0 ≤ i) (h1 : i < n) : ∃ ad A1 c1, A = some ad ∧ w.cell? (ad.add (i.toNat * 2)) = some (.int .i64 (rd_T79 xs i).f0) ∧ w.cell? ⟨(ad.add (i.toNat * 2)).block, (ad.add (i.toNat * 2)).off + 1, none⟩ = some (.slice A1 (rd_T79 xs i).f1.length c1) ∧ (rd_T79 xs i).f1.length ≤ c1 ∧ k112.C w A1 (rd_T79 xs i).f1.length (rd_T79 xs i).f1 := by
  obtain ⟨ad, c, e, _, hK, hc0⟩ := Kd.C_get h z79 i h0 h1
  have hc : ∀ j u, c[j]? = some u → w.cell? (ad.add (i.toNat * 2 + j)) = some u := hc0
  obtain ⟨A1, c1, rfl, l1, g1⟩ := k79_open hK
  exact ⟨ad, A1, c1, e, hc 0 _ rfl, by rw [← add_field _ _ 1 (by omega)]; exact hc 1 _ rfl, l1, g1⟩

/-! #### struct type 102 -/
structure S102 where
  f0 : Int
  f1 : Int
def z102 : S102 := ⟨(0 : Int), (0 : Int)⟩
def k102 : Kd S102 := Kd.iso (Kd.pair (Kd.int .i64) (Kd.int .i64)) (fun x : S102 => (x.f0, x.f1))
theorem k102_open {w : World} {x : S102} {cs : List Value} (h : k102.K w x cs) : cs = [.int .i64 x.f0, .int .i64 x.f1] := by
  obtain ⟨_, _, rfl, rfl, rfl⟩ := h
  exact rfl
theorem k102_openM {w : World} {base : Nat} {ok : Nat → Prop} {x : S102} {cs : List Value} (h : k102.M w base ok x cs) : cs = [.int .i64 x.f0, .int .i64 x.f1] := by
  obtain ⟨_, _, rfl, rfl, rfl⟩ := h
  exact rfl
theorem k102_mk (w : World) (x : S102)  : k102.K w x [.int .i64 x.f0, .int .i64 x.f1] := ⟨[.int .i64 x.f0], [.int .i64 x.f1], rfl, rfl, rfl⟩
theorem k102_mkM (w : World) (base : Nat) (ok : Nat → Prop) (x : S102)  : k102.M w base ok x [.int .i64 x.f0, .int .i64 x.f1] := ⟨[.int .i64 x.f0], [.int .i64 x.f1], rfl, rfl, rfl⟩
theorem k102_mkF (W : World) (ok : Nat → Prop) (x : S102) : Kd.FK k102 W ok x [.int .i64 x.f0, .int .i64 x.f1] := fun W2 _ => k102_mk W2 x
def rd_T102 (xs : List S102) (i : Int) : S102 := xs.getD i.toNat z102
theorem at_T102 {w : World} {A : Option Addr} {n : Nat} {xs : List S102} (h : Kd.C k102 w A n xs) (i : Int) (h0 : 0 ≤ i) (h1 : i < n) : ∃ ad , A = some ad ∧ w.cell? (ad.add (i.toNat * 2)) = some (.int .i64 (rd_T102 xs i).f0) ∧ w.cell? ⟨(ad.add (i.toNat * 2)).block, (ad.add (i.toNat * 2)).off + 1, none⟩ = some (.int .i64 (rd_T102 xs i).f1) := by
  obtain ⟨ad, c, e, _, hK, hc0⟩ := Kd.C_get h z102 i h0 h1
  have hc : ∀ j u, c[j]? = some u → w.cell? (ad.add (i.toNat * 2 + j)) = some u := hc0
  obtain rfl := k102_open hK
  exact ⟨ad, e, hc 0 _ rfl, by rw [← add_field _ _ 1 (by omega)]; exact hc 1 _ rfl⟩

def rd_L6 (xs : List (List S102)) (i : Int) : (List S102) := xs.getD i.toNat ([] : List S102)
theorem at_L6 {w : World} {A : Option Addr} {n : Nat} {xs : List (List S102)} (h : Kd.C (Kd.slice 102 k102) w A n xs) (i : Int) (h0 : 0 ≤ i) (h1 : i < n) : ∃ ad A0 c0, A = some ad ∧ w.cell? (ad.add i.toNat) = some (.slice A0 (rd_L6 xs i).length c0) ∧ (rd_L6 xs i).length ≤ c0 ∧ k102.C w A0 (rd_L6 xs i).length (rd_L6 xs i) := by
  obtain ⟨ad, c, e, _, hK, hc0⟩ := Kd.C_get h ([] : List S102) i h0 h1
  have hc : ∀ j u, c[j]? = some u → w.cell? (ad.add (i.toNat * 1 + j)) = some u := hc0
  obtain ⟨A0, c0, rfl, l0, g0⟩ := hK
  exact ⟨ad, A0, c0, e, by have hq := hc 0 _ rfl; rwa [Nat.mul_one, Nat.add_zero] at hq, l0, g0⟩

/-! #### struct type 83 -/
structure S83 where
  f0 : Int
  f1 : (List S102)
def z83 : S83 := ⟨(0 : Int), ([] : List S102)⟩
def k83 : Kd S83 := Kd.iso (Kd.pair (Kd.int .i64) (Kd.slice 102 k102)) (fun x : S83 => (x.f0, x.f1))
theorem k83_open {w : World} {x : S83} {cs : List Value} (h : k83.K w x cs) : ∃ A1 c1, cs = [.int .i64 x.f0, .slice A1 x.f1.length c1] ∧ x.f1.length ≤ c1 ∧ k102.C w A1 x.f1.length x.f1 := by
  obtain ⟨_, _, rfl, rfl, ⟨A1, c1, rfl, l1, g1⟩⟩ := h
  exact ⟨A1, c1, rfl, l1, g1⟩
theorem k83_openM {w : World} {base : Nat} {ok : Nat → Prop} {x : S83} {cs : List Value} (h : k83.M w base ok x cs) : ∃ v1, cs = [.int .i64 x.f0, v1] ∧ k102.R 102 w base ok v1 x.f1 := by
  obtain ⟨_, _, rfl, rfl, ⟨v1, rfl, g1⟩⟩ := h
  exact ⟨v1, rfl, g1⟩
theorem k83_mk (w : World) (x : S83) {A1 : Option Addr} {c1 : Nat} (l1 : x.f1.length ≤ c1) (g1 : k102.C w A1 x.f1.length x.f1) : k83.K w x [.int .i64 x.f0, .slice A1 x.f1.length c1] := ⟨[.int .i64 x.f0], [.slice A1 x.f1.length c1], rfl, rfl, ⟨A1, c1, rfl, l1, g1⟩⟩
theorem k83_mkM (w : World) (base : Nat) (ok : Nat → Prop) (x : S83) {v1 : Value} (g1 : k102.R 102 w base ok v1 x.f1) : k83.M w base ok x [.int .i64 x.f0, v1] := ⟨[.int .i64 x.f0], [v1], rfl, rfl, ⟨v1, rfl, g1⟩⟩
theorem k83_openF {W : World} {ok : Nat → Prop} {x : S83} {cs : List Value} (h : Kd.FK k83 W ok x cs) : ∃ A1 c1, cs = [.int .i64 x.f0, .slice A1 x.f1.length c1] ∧ x.f1.length ≤ c1 ∧ Kd.F k102 W ok A1 x.f1.length x.f1 := by
  obtain ⟨A1, c1, rfl, l1, _⟩ := k83_open (Kd.FK_now h)
  exact ⟨A1, c1, rfl, l1, (fun W' hW => by obtain ⟨A1_, c1_, he, l1_, g1_⟩ := k83_open (h W' hW); injection (Option.some.inj (show some (Value.slice A1 x.f1.length c1) = some (Value.slice A1_ x.f1.length c1_) from congrArg (fun l => l[1]?) he)) with ha_ _ _; rw [ha_]; exact g1_)⟩
theorem k83_mkF (W : World) (ok : Nat → Prop) (x : S83) {A1 : Option Addr} {c1 : Nat} (l1 : x.f1.length ≤ c1) (g1 : Kd.F k102 W ok A1 x.f1.length x.f1) : Kd.FK k83 W ok x [.int .i64 x.f0, .slice A1 x.f1.length c1] := fun W2 hW => k83_mk W2 x l1 (g1 W2 hW)
def rd_T83 (xs : List S83) (i : Int) : S83 := xs.getD i.toNat z83
theorem at_T83 {w : World} {A : Option Addr} {n : Nat} {xs : List S83} (h : Kd.C k83 w A n xs) (i : Int) (h0 : 0 ≤ i) (h1 : i < n) : ∃ ad A1 c1, A = some ad ∧ w.cell? (ad.add (i.toNat * 2)) = some (.int .i64 (rd_T83 xs i).f0) ∧ w.cell? ⟨(ad.add (i.toNat * 2)).block, (ad.add (i.toNat * 2)).off + 1, none⟩ = some (.slice A1 (rd_T83 xs i).f1.length c1) ∧ (rd_T83 xs i).f1.length ≤ c1 ∧ k102.C w A1 (rd_T83 xs i).f1.length (rd_T83 xs i).f1 := by
  obtain ⟨ad, c, e, _, hK, hc0⟩ := Kd.C_get h z83 i h0 h1
  have hc : ∀ j u, c[j]? = some u → w.cell? (ad.add (i.toNat * 2 + j)) = some u := hc0
  obtain ⟨A1, c1, rfl, l1, g1⟩ := k83_open hK
  exact ⟨ad, A1, c1, e, hc 0 _ rfl, by rw [← add_field _ _ 1 (by omega)]; exact hc 1 _ rfl, l1, g1⟩

def rd_L8 (xs : List (List S83)) (i : Int) : (List S83) := xs.getD i.toNat ([] : List S83)
theorem at_L8 {w : World} {A : Option Addr} {n : Nat} {xs : List (List S83)} (h : Kd.C (Kd.slice 83 k83) w A n xs) (i : Int) (h0 : 0 ≤ i) (h1 : i < n) : ∃ ad A0 c0, A = some ad ∧ w.cell? (ad.add i.toNat) = some (.slice A0 (rd_L8 xs i).length c0) ∧ (rd_L8 xs i).length ≤ c0 ∧ k83.C w A0 (rd_L8 xs i).length (rd_L8 xs i) := by
  obtain ⟨ad, c, e, _, hK, hc0⟩ := Kd.C_get h ([] : List S83) i h0 h1
  have hc : ∀ j u, c[j]? = some u → w.cell? (ad.add (i.toNat * 1 + j)) = some u := hc0
  obtain ⟨A0, c0, rfl, l0, g0⟩ := hK
  exact ⟨ad, A0, c0, e, by have hq := hc 0 _ rfl; rwa [Nat.mul_one, Nat.add_zero] at hq, l0, g0⟩

/-! #### struct type 36 -/
structure S36 where
  f0 : Int
  f1 : (List S83)
def z36 : S36 := ⟨(0 : Int), ([] : List S83)⟩
def k36 : Kd S36 := Kd.iso (Kd.pair (Kd.int .i64) (Kd.slice 83 k83)) (fun x : S36 => (x.f0, x.f1))
theorem k36_open {w : World} {x : S36} {cs : List Value} (h : k36.K w x cs) : ∃ A1 c1, cs = [.int .i64 x.f0, .slice A1 x.f1.length c1] ∧ x.f1.length ≤ c1 ∧ k83.C w A1 x.f1.length x.f1 := by
  obtain ⟨_, _, rfl, rfl, ⟨A1, c1, rfl, l1, g1⟩⟩ := h
  exact ⟨A1, c1, rfl, l1, g1⟩
theorem k36_openM {w : World} {base : Nat} {ok : Nat → Prop} {x : S36} {cs : List Value} (h : k36.M w base ok x cs) : ∃ v1, cs = [.int .i64 x.f0, v1] ∧ k83.R 83 w base ok v1 x.f1 := by
  obtain ⟨_, _, rfl, rfl, ⟨v1, rfl, g1⟩⟩ := h
  exact ⟨v1, rfl, g1⟩
theorem k36_mk (w : World) (x : S36) {A1 : Option Addr} {c1 : Nat} (l1 : x.f1.length ≤ c1) (g1 : k83.C w A1 x.f1.length x.f1) : k36.K w x [.int .i64 x.f0, .slice A1 x.f1.length c1] := ⟨[.int .i64 x.f0], [.slice A1 x.f1.length c1], rfl, rfl, ⟨A1, c1, rfl, l1, g1⟩⟩
theorem k36_mkM (w : World) (base : Nat) (ok : Nat → Prop) (x : S36) {v1 : Value} (g1 : k83.R 83 w base ok v1 x.f1) : k36.M w base ok x [.int .i64 x.f0, v1] := ⟨[.int .i64 x.f0], [v1], rfl, rfl, ⟨v1, rfl, g1⟩⟩
theorem k36_openF {W : World} {ok : Nat → Prop} {x : S36} {cs : List Value} (h : Kd.FK k36 W ok x cs) : ∃ A1 c1, cs = [.int .i64 x.f0, .slice A1 x.f1.length c1] ∧ x.f1.length ≤ c1 ∧ Kd.F k83 W ok A1 x.f1.length x.f1 := by
  obtain ⟨A1, c1, rfl, l1, _⟩ := k36_open (Kd.FK_now h)
  exact ⟨A1, c1, rfl, l1, (fun W' hW => by obtain ⟨A1_, c1_, he, l1_, g1_⟩ := k36_open (h W' hW); injection (Option.some.inj (show some (Value.slice A1 x.f1.length c1) = some (Value.slice A1_ x.f1.length c1_) from congrArg (fun l => l[1]?) he)) with ha_ _ _; rw [ha_]; exact g1_)⟩
theorem k36_mkF (W : World) (ok : Nat → Prop) (x : S36) {A1 : Option Addr} {c1 : Nat} (l1 : x.f1.length ≤ c1) (g1 : Kd.F k83 W ok A1 x.f1.length x.f1) : Kd.FK k36 W ok x [.int .i64 x.f0, .slice A1 x.f1.length c1] := fun W2 hW => k36_mk W2 x l1 (g1 W2 hW)
def rd_T36 (xs : List S36) (i : Int) : S36 := xs.getD i.toNat z36
theorem at_T36 {w : World} {A : Option Addr} {n : Nat} {xs : List S36} (h : Kd.C k36 w A n xs) (i : Int) (h0 : 0 ≤ i) (h1 : i < n) : ∃ ad A1 c1, A = some ad ∧ w.cell? (ad.add (i.toNat * 2)) = some (.int .i64 (rd_T36 xs i).f0) ∧ w.cell? ⟨(ad.add (i.toNat * 2)).block, (ad.add (i.toNat * 2)).off + 1, none⟩ = some (.slice A1 (rd_T36 xs i).f1.length c1) ∧ (rd_T36 xs i).f1.length ≤ c1 ∧ k83.C w A1 (rd_T36 xs i).f1.length (rd_T36 xs i).f1 := by
  obtain ⟨ad, c, e, _, hK, hc0⟩ := Kd.C_get h z36 i h0 h1
  have hc : ∀ j u, c[j]? = some u → w.cell? (ad.add (i.toNat * 2 + j)) = some u := hc0
  obtain ⟨A1, c1, rfl, l1, g1⟩ := k36_open hK
  exact ⟨ad, A1, c1, e, hc 0 _ rfl, by rw [← add_field _ _ 1 (by omega)]; exact hc 1 _ rfl, l1, g1⟩

end Go.Proofs.Ytgcdlkpjjnglbaa.PA

/- What the reading of an argument says, in the words of the kinds: whole numbers, strings, slices and structs, one in another. -/
namespace Go.Proofs.Ytgcdlkpjjnglbaa.PA
open Go.RowKit Go.Proofs.YtgcdlkpjjnglbaaW.PrintWords Go.Proofs.YtgcdlkpjjnglbaaW.PrintLast Go.Proofs.YtgcdlkpjjnglbaaW.PrintMore
set_option linter.unusedVariables false
set_option linter.unusedSimpArgs false
section
variable {H : Type} {enc : TypeId × Value → H} {P : Program} {w : World}
/-- whatever reads by type t is of this kind, and good -/
def Opens (enc : TypeId × Value → H) (P : Program) (w : World) {α : Type} (d : Kd α) (G : α → Prop) (t : TypeId) : Prop :=
  ∀ (fuel : Nat) (cs : List Value) (x : DataW H × List MemPlace), DataW.trod enc P w 0 (fun _ => true) true fuel t cs = some x → ∃ a, d.K w a cs ∧ G a
theorem opens_int {t : TypeId} {k : IntKind} (ht : P.underlying t = some (.int k)) : Opens enc P w (Kd.int k) (fun n => (Lit.int k n).wf = true) t := by
  intro fuel cs x h
  obtain ⟨n, rfl, _, hn⟩ := DataW.trod_int ht h
  exact ⟨n, rfl, hn⟩
theorem opens_string {t : TypeId} (ht : P.underlying t = some .string) : Opens enc P w Kd.string (fun s => s.size ≤ maxLen) t := by
  intro fuel cs x h
  obtain ⟨s, rfl, _, hn⟩ := DataW.trod_string ht h
  exact ⟨s, rfl, hn⟩
theorem opens_slice {t e : TypeId} {α : Type} {d : Kd α} {G : α → Prop} (ht : P.underlying t = some (.slice e)) (he : P.cellsOf e = d.sz) (h : Opens enc P w d G e) :
    Opens enc P w (Kd.slice e d) (fun xs => xs.length ≤ 9223372036854775807 ∧ ∀ x ∈ xs, G x) t := by
  intro fuel cs x hx
  rcases Go.Deep.open_slice ht hx with ⟨rfl, _⟩ | ⟨a, len, cap, m, n, D, Pl, rfl, hb, hl, hm, hmm, rfl, hi⟩
  · exact ⟨[], ⟨none, 0, rfl, Nat.le_refl _, rfl, by simp, fun h => absurd h (by simp)⟩, by simp, by simp⟩
  · have hmc : m = cap := by simpa using hmm
    subst hmc
    by_cases hz : len = 0
    · subst hz
      exact ⟨[], ⟨some a, m, rfl, Nat.zero_le _, rfl, by simp, fun h => absurd h (by simp)⟩, by simp, by simp⟩
    have hne : Nonempty (α × List Value) := by
      obtain ⟨cs', h1, h2⟩ := hi 0 (by omega)
      obtain ⟨b, h3, h4⟩ := h n cs' _ h2
      exact ⟨(b, cs')⟩
    haveI : Inhabited (α × List Value) := ⟨Classical.choice hne⟩
    obtain ⟨V, hV⟩ := Go.Deep.choose_lt (n := len) (p := fun i (y : α × List Value) => w.cells? 0 (a.add (i * P.cellsOf e)) (P.cellsOf e) = some y.2 ∧ d.K w y.1 y.2 ∧ G y.1) (fun i hlt => by
      obtain ⟨cs', h1, h2⟩ := hi i (Nat.lt_of_lt_of_le hlt hl)
      obtain ⟨b, h3, h4⟩ := h n cs' _ h2
      exact ⟨(b, cs'), h1, h3, h4⟩)
    have hml : len ≤ 9223372036854775807 := by unfold maxLen at hm; omega
    refine ⟨(List.range len).map fun i => (V i).1, ⟨some a, m, by simp, by simpa using hl, by simp, by simpa using hml, fun _ => ⟨a, rfl, fun j p hj => ?_⟩⟩, by simpa using hml, fun y hy => ?_⟩
    · have hjl : j < len := by
        have := (List.getElem?_eq_some_iff.1 hj).1
        simpa using this
      obtain ⟨g1, g2, g3⟩ := hV j hjl
      rw [List.getElem?_map, List.getElem?_range hjl] at hj
      obtain rfl : (V j).1 = p := by simpa using hj
      obtain ⟨_, hlen, hcell⟩ := World.cells?_some g1
      refine ⟨(V j).2, by rw [hlen, he], g2, fun i u hu => ?_⟩
      have hil : i < P.cellsOf e := by
        have := (List.getElem?_eq_some_iff.1 hu).1
        omega
      have := hcell i hil
      rw [Go.Deep.add_add] at this
      rw [← he, this, hu]
    · obtain ⟨i, hir, rfl⟩ := List.mem_map.1 hy
      exact (hV i (List.mem_range.1 hir)).2.2
theorem opens_pair {t : TypeId} {f0 f1 : Field} {α β : Type} {d0 : Kd α} {d1 : Kd β} {G0 : α → Prop} {G1 : β → Prop} (ht : P.underlying t = some (.struct #[f0, f1])) (o0 : f0.offset = 0) (o1 : f1.offset = d0.sz) (c0 : P.cellsOf f0.type = d0.sz) (c1 : P.cellsOf f1.type = d1.sz) (ct : P.cellsOf t = d0.sz + d1.sz)
    (h0 : Opens enc P w d0 G0 f0.type) (h1 : Opens enc P w d1 G1 f1.type) : Opens enc P w (Kd.pair d0 d1) (fun x => G0 x.1 ∧ G1 x.2) t := by
  intro fuel cs x hx
  obtain ⟨y0, y1, n, _, hlen, g0, g1⟩ := Go.ChangeShapes.trod_struct2 ht hx
  rw [o0, c0, List.drop_zero] at g0
  rw [o1, c1] at g1
  obtain ⟨a, k0, q0⟩ := h0 _ _ _ g0
  obtain ⟨b, k1, q1⟩ := h1 _ _ _ g1
  refine ⟨(a, b), ⟨_, _, ?_, k0, k1⟩, q0, q1⟩
  rw [List.take_of_length_le (l := cs.drop d0.sz) (by rw [List.length_drop]; omega), List.take_append_drop]
theorem opens_iso {t : TypeId} {α β : Type} {d : Kd α} {G : α → Prop} {f : β → α} (g : α → β) (hg : ∀ a, f (g a) = a) (h : Opens enc P w d G t) : Opens enc P w (Kd.iso d f) (fun x => G (f x)) t := by
  intro fuel cs x hx
  obtain ⟨a, k, q⟩ := h _ _ _ hx
  exact ⟨g a, by show d.K w (f (g a)) cs; rw [hg]; exact k, by show G (f (g a)); rw [hg]; exact q⟩
theorem opens_mono {t : TypeId} {α : Type} {d : Kd α} {G G' : α → Prop} (h : Opens enc P w d G t) (hG : ∀ a, G a → G' a) : Opens enc P w d G' t := by
  intro fuel cs x hx
  obtain ⟨a, k, q⟩ := h _ _ _ hx
  exact ⟨a, k, hG a q⟩
theorem wf_bounds {n : Int} (h : (Lit.int .i64 n).wf = true) : -9223372036854775808 ≤ n ∧ n ≤ 9223372036854775807 := by
  obtain ⟨h1, h2⟩ := (Lit.wf_int_iff _ _).1 h
  have e1 : IntKind.i64.min = -9223372036854775808 := by decide
  have e2 : IntKind.i64.max = 9223372036854775807 := by decide
  omega
end
end Go.Proofs.Ytgcdlkpjjnglbaa.PA

namespace Go.Proofs.Ytgcdlkpjjnglbaa.PA
open Go.RowKit Go.Proofs.YtgcdlkpjjnglbaaW.PrintWords Go.Proofs.YtgcdlkpjjnglbaaW.PrintLast Go.Proofs.YtgcdlkpjjnglbaaW.PrintMore
attribute [local go_sem] max2_int min2_int max_two min_two max_three min_three max_four min_four   -- for this text's walks alone
set_option linter.unusedVariables false
set_option linter.unusedSimpArgs false

/-! ### laws_markMarkS: function 66 -/
def laws_markMarkS.l0 : Nat → List (S102) → Int → Int → Option (Int × (List (S102)))
  | 0, _, _, _ => none
  | k + 1, x0, x1, x5 => if x5 < (x0.length : Int) then (if 0 ≤ x5 then ((some (x0.set (x5 : Int).toNat (⟨x1, (rd_T102 x0 x5).f1⟩ : S102) : List (S102))).bind fun y303 => (laws_markMarkS.l0 k (y303.set (x5 : Int).toNat (⟨(rd_T102 y303 x5).f0, wrap64 (x1 + 1)⟩ : S102)) (wrap64 ((wrap64 (x1 + 1)) + 1)) (wrap64 (x5 + 1)))) else (none)) else (some (x1, x0))
def laws_markMarkS.f (k : Nat) (l0 : List (S102)) (a1 : Int) : Option (Int × (List (S102))) := laws_markMarkS.l0 k l0 a1 0
theorem laws_markMarkS.mono_l : ∀ k, (∀ y0 y1 y2, LeO (laws_markMarkS.l0 k y0 y1 y2) (laws_markMarkS.l0 (k + 1) y0 y1 y2))
  | 0 => fun _ _ _ r h => by simp [laws_markMarkS.l0] at h
  | k + 1 => by
    have ih0 := laws_markMarkS.mono_l k
    · intro y0 y1 y2
      unfold laws_markMarkS.l0
      repeat' first
      | (with_reducible exact ih0 _ _ _)
      | (with_reducible exact LeO.refl _)
      | (with_reducible exact LeO.none _)
      | (with_reducible refine LeO.ite ?_ ?_)
      | (with_reducible refine LeO.bind ?_ (fun _ => ?_))
      | exact ih0 _ _ _
      | exact LeO.none _
      | refine LeO.ite ?_ ?_
      | refine LeO.bind ?_ (fun _ => ?_)
theorem laws_markMarkS.mono : ∀ a0 a1 k, LeO (laws_markMarkS.f k a0 a1) (laws_markMarkS.f (k + 1) a0 a1) := by
  intro a0 a1 k
  have ih0 := laws_markMarkS.mono_l k
  unfold laws_markMarkS.f
  repeat' first
      | (with_reducible exact ih0 _ _ _)
      | (with_reducible exact LeO.refl _)
      | (with_reducible exact LeO.none _)
      | (with_reducible refine LeO.ite ?_ ?_)
      | (with_reducible refine LeO.bind ?_ (fun _ => ?_))
      | exact ih0 _ _ _
      | exact LeO.none _
      | refine LeO.ite ?_ ?_
      | refine LeO.bind ?_ (fun _ => ?_)
set_option maxHeartbeats 8000000 in
set_option maxRecDepth 100000 in
theorem laws_markMarkS.calls (k : Nat) (P0_ : Nat → Prop) (u9000_ : Value) (l0 : List (S102)) (a1 : Int) (r1 : Int) (r2 : List (S102)) (w0 w : World) (hB : Below w0.heap.size w0 w) (ho0 : Kd.R k102 102 w w0.heap.size P0_ u9000_ l0) (h : laws_markMarkS.f k l0 a1 = some (r1, r2)) :
    Calls Try.prog 66 #[u9000_, .int .i64 a1] w fun e w' => e = .returned (.int .i64 r1) ∧ Kd.R k102 102 w' w0.heap.size (fun k_ => (P0_ k_ ∨ w.heap.size ≤ k_)) u9000_ r2 ∧ Below w0.heap.size w0 w' ∧ Kept w w' (fun k_ => P0_ k_) := by
  have HO0 := Aside0.mk (show Kd.R k102 102 w w0.heap.size (fun k_ => (P0_ k_ ∨ w.heap.size ≤ k_)) u9000_ l0 from Kd.R_mono ho0 (fun k_ hk => (.inl hk)))
  have HK := Aside0.mk (Kept.refl w (fun k_ => P0_ k_))
  have HW0 := Aside0.mk hB.size
  have HB := Aside0.mk hB
  clear hB
  have H : (laws_markMarkS.l0 k l0 a1 0) = some (r1, r2) := h
  clear h
  have H' := Aside0.mk H
  clear H
  go_enter Try.func66, Try.ntmps66
  go_wp2
  go_loopg [1, 5] k (fun kq v1 v5 w' => ∃ (x0_1 : List (S102)) (x1_1 : Int) (x5_1 : Int), v1 = .int .i64 x1_1 ∧ v5 = .int .i64 x5_1 ∧ Aside0 (laws_markMarkS.l0 kq x0_1 x1_1 x5_1 = some (r1, r2)) ∧ Aside0 (kq ≤ k) ∧ Aside0 (Kd.R k102 102 w' w0.heap.size (fun k_ => (P0_ k_ ∨ w.heap.size ≤ k_)) u9000_ x0_1) ∧ Aside0 (Kept w w' (fun k_ => P0_ k_)) ∧ Aside0 (Below w0.heap.size w0 w'))
  case atStart => exact ⟨(l0), (a1), (0), (by first | rfl | (simp; done) | (simp [*]; done)), (by first | rfl | (simp; done) | (simp [*]; done)), H', ⟨Nat.le_refl _⟩, ⟨by (with_reducible repeat (first | apply Kd.R_alloc | apply Kd.R_drewN | apply Kd.R_drew)); exact HO0.out⟩, ⟨by repeat (first | (with_reducible first | exact HK.out | apply Kept.alloc | apply Kept.drewN | apply Kept.drew) | exact HK.out)⟩, ⟨by repeat (first | (with_reducible first | exact HB.out | apply below_alloc | apply pw_below_drewN | apply below_drew1) | exact HB.out)⟩⟩
  case round =>
    clear H'
    try clear p2
    obtain ⟨x0_1, x1_1, x5_1, rfl, rfl, HA, HK1, HO_0, HK, HB⟩ := hrel
    cases gk with
    | zero => exact absurd HA.out (by simp [laws_markMarkS.l0])
    | succ k1 =>
      have H := HA.out
      clear HA
      simp only [laws_markMarkS.l0] at H
      by_cases c3 : x5_1 < (x0_1.length : Int)
      · rw [if_pos c3] at H
        have c3b0 : decide (x5_1 < (x0_1.length : Int)) = true := decide_eq_true c3
        clear c3
        by_cases c4 : 0 ≤ x5_1
        · rw [if_pos c4] at H
          have c4b0 : decide (0 ≤ x5_1) = true := decide_eq_true c4
          clear c4
          obtain ⟨y303, hy303⟩ : ∃ y_ : List (S102), y_ = (x0_1.set (x5_1 : Int).toNat (⟨x1_1, (rd_T102 x0_1 x5_1).f1⟩ : S102)) := ⟨_, rfl⟩
          replace H : (laws_markMarkS.l0 k1 (y303.set (x5_1 : Int).toNat (⟨(rd_T102 y303 x5_1).f0, wrap64 (x1_1 + 1)⟩ : S102)) (wrap64 ((wrap64 (x1_1 + 1)) + 1)) (wrap64 (x5_1 + 1))) = some (r1, r2) := by first | (rw [hy303]; with_reducible exact H) | (have H2_ := (Option.bind_some _ _).symm.trans H; rw [hy303]; with_reducible exact H2_) | (have H2_ := (Option.bind_some _ _).symm.trans H; with_reducible exact H2_) | with_reducible exact H | (rw [hy303]; exact H) | exact H
          have Ny303 := Aside0.mk hy303
          clear hy303
          obtain ⟨y304, hy304⟩ : ∃ y_ : List (S102), y_ = (y303.set (x5_1 : Int).toNat (⟨(rd_T102 y303 x5_1).f0, wrap64 (x1_1 + 1)⟩ : S102)) := ⟨_, rfl⟩
          replace H : (laws_markMarkS.l0 k1 y304 (wrap64 ((wrap64 (x1_1 + 1)) + 1)) (wrap64 (x5_1 + 1))) = some (r1, r2) := by first | (rw [hy304]; with_reducible exact H) | (have H2_ := (Option.bind_some _ _).symm.trans H; rw [hy304]; with_reducible exact H2_) | (have H2_ := (Option.bind_some _ _).symm.trans H; with_reducible exact H2_) | with_reducible exact H | (rw [hy304]; exact H) | exact H
          have Ny304 := Aside0.mk hy304
          clear hy304
          have H' := Aside0.mk H
          clear H
          obtain ⟨Ao7, co7, eo7⟩ := Kd.R_slice HO_0.out
          subst eo7
          have p5 : 0 ≤ (x5_1 : Int) := of_decide_eq_true (by first | (with_reducible assumption) | assumption)
          have q5 : (x5_1 : Int) < ((x0_1.length : Int) : Int) := of_decide_eq_true (by first | (with_reducible assumption) | assumption)
          obtain ⟨go5, co5, eo5, gb5, gl5, cl5, HG5⟩ := Kd.R_form HO_0.out (by omega)
          (first | cases eo5 | (injection eo5 with ea_ en_ ec_; (first | subst ea_ | (injection ea_ with ea_; subst ea_)); subst ec_; clear en_))
          have GB5 := Aside0.mk gb5
          have GG5 := Aside0.mk HG5
          clear gb5 gl5 HG5
          have HMgo5 := Aside0.mk (show (P0_ go5 ∨ w.heap.size ≤ go5) from (HO_0.out.1 _ rfl))
          obtain ⟨ce5, hcl5, hM5, hcc5, hfr5⟩ := Kd.R_elem HO_0.out z102 (x5_1 : Int) p5 q5
          obtain rfl := k102_openM hM5
          have hx5_0 : wr.cell? ⟨go5, (x5_1 : Int).toNat * 2, none⟩ = some (.int .i64 ((rd_T102 x0_1 x5_1).f0)) := hcc5 0 _ rfl
          have hx5_1 : wr.cell? ⟨go5, (x5_1 : Int).toNat * 2 + 1, none⟩ = some (.int .i64 ((rd_T102 x0_1 x5_1).f1)) := hcc5 1 _ rfl
          have hf5_0 : wr.frozen? ⟨go5, (x5_1 : Int).toNat * 2, none⟩ = false := hfr5 0
          have hf5_1 : wr.frozen? ⟨go5, (x5_1 : Int).toNat * 2 + 1, none⟩ = false := hfr5 1
          clear hcl5 hcc5 hfr5 hM5
          replace p5 := eq_true p5
          replace q5 := eq_true q5
          have HX8 := Aside0.mk (show Kd.R k102 102 wr w0.heap.size (fun k_ => (P0_ k_ ∨ w.heap.size ≤ k_)) (.slice (some ⟨go5, 0, none⟩) x0_1.length co7) x0_1 from (by (with_reducible repeat (first | apply Kd.R_alloc | apply Kd.R_drewN | apply Kd.R_drew)); exact HO_0.out))
          obtain ⟨ce8, hcl8, hM8, hcc8, hfr8⟩ := Kd.R_elem HX8.out z102 (x5_1 : Int) (of_decide_eq_true (by first | (with_reducible assumption) | assumption)) (by have h_ : (x5_1 : Int) < ((x0_1.length : Int) : Int) := of_decide_eq_true (by first | (with_reducible assumption) | assumption); first | exact h_ | (have e_ := (Kd.R_reads' HO_0.out).1; omega) | simpa using h_)
          obtain rfl := k102_openM hM8
          have HP8 := Kd.R_seg HX8.out (x5_1 : Int) (of_decide_eq_true (by first | (with_reducible assumption) | assumption)) (by have h_ : (x5_1 : Int) < ((x0_1.length : Int) : Int) := of_decide_eq_true (by first | (with_reducible assumption) | assumption); first | exact h_ | (have e_ := (Kd.R_reads' HO_0.out).1; omega) | simpa using h_) (seg := [.int .i64 x1_1]) (j := 0) hcl8 hcc8 (show 1 ≤ 2 from by decide) (x' := (⟨x1_1, (rd_T102 x0_1 x5_1).f1⟩ : S102)) (k102_mkM _ _ _ (⟨x1_1, (rd_T102 x0_1 x5_1).f1⟩ : S102) ) (fun _ hk => hk)
          have hx8_0 := hcc8 0 _ rfl
          (try simp only [show (k102).sz = 2 from rfl, Nat.mul_one, Nat.add_zero] at hx8_0)
          have hf8_0 := hfr8 0
          (try simp only [show (k102).sz = 2 from rfl, Nat.mul_one, Nat.add_zero] at hf8_0)
          clear hcl8 hcc8 hfr8 hM8
          go_wp2_with (first | ((with_reducible refine gate_store (t := 3) (p := 16) rfl ?_); refine store_event (t := 3) (p := 16) (v := ?vo_w9) (w1 := (wr.setCell ⟨go5, (x5_1 : Int).toNat * 2, none⟩ (.int .i64 x1_1))) ?hg ?ho ?hn ?hr ?_; (case ho => rfl); (case hg => rfl); (case hn => rfl); (case hr => first | (go_simp; done) | (go_simp; rfl)); intro w9 hw; have hg : wr.grownBy w9 (some go5) := (by rw [hw]; exact HP8.2); have hp_ : Kd.R k102 102 w9 w0.heap.size (fun k_ => (P0_ k_ ∨ w.heap.size ≤ k_)) (.slice (some ⟨go5, 0, none⟩) x0_1.length co7) y303 := (by rw [hw, Ny303.out]; exact HP8.1); clear HP8; have n0_ := Aside0.mk (hp_); have n1_ := Aside0.mk ((by rw [hw]; exact below_set (HB.out) GB5.out : Below w0.heap.size w0 w9)); have n2_ := Aside0.mk (Kept.of_grown (S := (fun k_ => P0_ k_)) hg (by repeat (first | (with_reducible first | exact HK.out | apply Kept.alloc | apply Kept.drewN | apply Kept.drew) | exact HK.out)) (fun k_ e_ => (HO_0.out.1 k_ e_))); clear HO_0; clear HB; clear HK; have HO_0 := n0_; have HB := n1_; have HK := n2_; clear n0_ n1_ n2_; clear hg hw hp_; have p6 : 0 ≤ (x5_1 : Int) := of_decide_eq_true (by first | (with_reducible assumption) | assumption); have q6 : (x5_1 : Int) < ((x0_1.length : Int) : Int) := of_decide_eq_true (by first | (with_reducible assumption) | assumption); obtain ⟨ce6, hcl6, hM6, hcc6, hfr6⟩ := Kd.R_elem HO_0.out z102 (x5_1 : Int) p6 q6; obtain rfl := k102_openM hM6; have hx6_0 : w9.cell? ⟨go5, (x5_1 : Int).toNat * 2, none⟩ = some (.int .i64 ((rd_T102 y303 x5_1).f0)) := hcc6 0 _ rfl; have hx6_1 : w9.cell? ⟨go5, (x5_1 : Int).toNat * 2 + 1, none⟩ = some (.int .i64 ((rd_T102 y303 x5_1).f1)) := hcc6 1 _ rfl; have hf6_0 : w9.frozen? ⟨go5, (x5_1 : Int).toNat * 2, none⟩ = false := hfr6 0; have hf6_1 : w9.frozen? ⟨go5, (x5_1 : Int).toNat * 2 + 1, none⟩ = false := hfr6 1; clear hcl6 hcc6 hfr6 hM6; replace p6 := eq_true p6; replace q6 := eq_true q6; have HX10 := Aside0.mk (show Kd.R k102 102 w9 w0.heap.size (fun k_ => (P0_ k_ ∨ w.heap.size ≤ k_)) (.slice (some ⟨go5, 0, none⟩) x0_1.length co7) y303 from (by (with_reducible repeat (first | apply Kd.R_alloc | apply Kd.R_drewN | apply Kd.R_drew)); exact HO_0.out)); obtain ⟨ce10, hcl10, hM10, hcc10, hfr10⟩ := Kd.R_elem HX10.out z102 (x5_1 : Int) (of_decide_eq_true (by first | (with_reducible assumption) | assumption)) (by have h_ : (x5_1 : Int) < ((x0_1.length : Int) : Int) := of_decide_eq_true (by first | (with_reducible assumption) | assumption); first | exact h_ | (have e_ := (Kd.R_reads' HO_0.out).1; omega) | simpa using h_); obtain rfl := k102_openM hM10; have HP10 := Kd.R_seg HX10.out (x5_1 : Int) (of_decide_eq_true (by first | (with_reducible assumption) | assumption)) (by have h_ : (x5_1 : Int) < ((x0_1.length : Int) : Int) := of_decide_eq_true (by first | (with_reducible assumption) | assumption); first | exact h_ | (have e_ := (Kd.R_reads' HO_0.out).1; omega) | simpa using h_) (seg := [.int .i64 (wrap64 (x1_1 + 1))]) (j := 1) hcl10 hcc10 (show 2 ≤ 2 from by decide) (x' := (⟨(rd_T102 y303 x5_1).f0, wrap64 (x1_1 + 1)⟩ : S102)) (k102_mkM _ _ _ (⟨(rd_T102 y303 x5_1).f0, wrap64 (x1_1 + 1)⟩ : S102) ) (fun _ hk => hk); have hx10_1 := hcc10 1 _ rfl; (try simp only [show (k102).sz = 2 from rfl, Nat.mul_one, Nat.add_zero] at hx10_1); have hf10_1 := hfr10 1; (try simp only [show (k102).sz = 2 from rfl, Nat.mul_one, Nat.add_zero] at hf10_1); clear hcl10 hcc10 hfr10 hM10) | ((with_reducible refine gate_store (t := 3) (p := 23) rfl ?_); refine store_event (t := 3) (p := 23) (v := ?vo_w11) (w1 := (w9.setCell ⟨go5, (x5_1 : Int).toNat * 2 + 1, none⟩ (.int .i64 (wrap64 (x1_1 + 1))))) ?hg ?ho ?hn ?hr ?_; (case ho => rfl); (case hg => rfl); (case hn => rfl); (case hr => first | (go_simp; done) | (go_simp; rfl)); intro w11 hw; have hg : w9.grownBy w11 (some go5) := (by rw [hw]; exact HP10.2); have hp_ : Kd.R k102 102 w11 w0.heap.size (fun k_ => (P0_ k_ ∨ w.heap.size ≤ k_)) (.slice (some ⟨go5, 0, none⟩) x0_1.length co7) y304 := (by rw [hw, Ny304.out]; exact HP10.1); clear HP10; have n0_ := Aside0.mk (hp_); have n1_ := Aside0.mk ((by rw [hw]; exact below_set (HB.out) GB5.out : Below w0.heap.size w0 w11)); have n2_ := Aside0.mk (Kept.of_grown (S := (fun k_ => P0_ k_)) hg (by repeat (first | (with_reducible first | exact HK.out | apply Kept.alloc | apply Kept.drewN | apply Kept.drew) | exact HK.out)) (fun k_ e_ => (HO_0.out.1 k_ e_))); clear HO_0; clear HB; clear HK; have HO_0 := n0_; have HB := n1_; have HK := n2_; clear n0_ n1_ n2_; clear hg hw hp_))
          go_roundg k1
          case measure => have := HK1.out; omega
          case rel => exact ⟨(y304), (wrap64 ((wrap64 (x1_1 + 1)) + 1)), (wrap64 (x5_1 + 1)), (by first | rfl | (simp; done) | (simp [*]; done)), (by first | rfl | (simp; done) | (simp [*]; done)), H', ⟨by have := HK1.out; omega⟩, ⟨by (with_reducible repeat (first | apply Kd.R_alloc | apply Kd.R_drewN | apply Kd.R_drew)); exact HO_0.out⟩, ⟨by repeat (first | (with_reducible first | exact HK.out | apply Kept.alloc | apply Kept.drewN | apply Kept.drew) | exact HK.out)⟩, ⟨by repeat (first | (with_reducible first | exact HB.out | apply below_alloc | apply pw_below_drewN | apply below_drew1) | exact HB.out)⟩⟩
        · rw [if_neg c4] at H
          exact absurd H (by simp)
      · rw [if_neg c3] at H
        have c3b0 : decide (x5_1 < (x0_1.length : Int)) = false := decide_eq_false c3
        clear c3
        simp only [Option.some.injEq, Prod.mk.injEq] at H
        obtain ⟨rfl, rfl⟩ := H
        obtain ⟨Ao12, co12, eo12⟩ := Kd.R_slice HO_0.out
        subst eo12
        go_wp2
        go_ret
        exact ⟨by first | rfl | (simp [errW_none, errW_some] <;> rfl) | (simp [*, errW_none, errW_some] <;> rfl), by (with_reducible repeat (first | apply Kd.R_alloc | apply Kd.R_drewN | apply Kd.R_drew)); exact HO_0.out, by repeat (first | (with_reducible first | exact HB.out | apply below_alloc | apply pw_below_drewN | apply below_drew1) | exact HB.out), by repeat (first | (with_reducible first | exact HK.out | apply Kept.alloc | apply Kept.drewN | apply Kept.drew) | exact HK.out)⟩

end Go.Proofs.Ytgcdlkpjjnglbaa.PA

/- Given by hand: laws.markClaimS, markPlace: rows of rows that are written. -/
namespace Go.Proofs.Ytgcdlkpjjnglbaa.PA
open Go.RowKit Go.Proofs.YtgcdlkpjjnglbaaW.PrintWords Go.Proofs.YtgcdlkpjjnglbaaW.PrintLast Go.Proofs.YtgcdlkpjjnglbaaW.PrintMore
set_option linter.unusedVariables false
set_option linter.unusedSimpArgs false
def laws_markClaimS.l0 : Nat → List S83 → Int → Int → Option (Int × List S83)
  | 0, _, _, _ => none
  | k + 1, xs, a, i => if i < (xs.length : Int) then (if 0 ≤ i then ((some (xs.set (i : Int).toNat (⟨a, (rd_T83 xs i).f1⟩ : S83)) : Option (List S83)).bind fun y => (laws_markMarkS.f k (rd_T83 y i).f1 (wrap64 (a + 1))).bind fun t => laws_markClaimS.l0 k (y.set (i : Int).toNat (⟨(rd_T83 y i).f0, t.2⟩ : S83)) t.1 (wrap64 (i + 1))) else none) else some (a, xs)
def laws_markClaimS.f (k : Nat) (xs : List S83) (a : Int) : Option (Int × List S83) := laws_markClaimS.l0 k xs a 0
set_option maxHeartbeats 8000000 in
set_option maxRecDepth 100000 in
theorem laws_markClaimS.calls (k : Nat) (P0_ : Nat → Prop) (u : Value) (l0 : List (S83)) (a1 : Int) (r1 : Int) (r2 : List (S83)) (w0 w : World) (hB : Below w0.heap.size w0 w) (ho0 : Kd.S k83 83 w w0.heap.size P0_ u l0) (h : laws_markClaimS.f k l0 a1 = some (r1, r2)) :
    Calls Try.prog 47 #[u, .int .i64 a1] w fun e w' => e = .returned (.int .i64 r1) ∧ Kd.S k83 83 w' w0.heap.size (fun k_ => (P0_ k_ ∨ w.heap.size ≤ k_)) u r2 ∧ Below w0.heap.size w0 w' ∧ Kept w w' (fun k_ => P0_ k_) := by
  obtain ⟨A, c, rfl⟩ := Kd.S_slice ho0
  have HO0 := Aside0.mk (show Kd.S k83 83 w w0.heap.size (fun k_ => (P0_ k_ ∨ w.heap.size ≤ k_)) (.slice A l0.length c) l0 from Kd.S_mono ho0 (fun k_ hk => (.inl hk)))
  have HK := Aside0.mk (Kept.refl w (fun k_ => P0_ k_))
  have HB := Aside0.mk hB
  clear hB ho0
  have H' := Aside0.mk (show laws_markClaimS.l0 k l0 a1 0 = some (r1, r2) from h)
  clear h
  obtain ⟨n, hn⟩ : ∃ n, n = l0.length := ⟨_, rfl⟩
  rw [← hn] at HO0 ⊢
  clear hn
  go_enter Try.func47, Try.ntmps47
  go_wp2
  go_loopg [1, 5] k (fun kq v1 v5 w' => ∃ (x0_1 : List (S83)) (x1_1 : Int) (x5_1 : Int), v1 = .int .i64 x1_1 ∧ v5 = .int .i64 x5_1 ∧ Aside0 (laws_markClaimS.l0 kq x0_1 x1_1 x5_1 = some (r1, r2)) ∧ Aside0 (kq ≤ k) ∧ Aside0 (Kd.S k83 83 w' w0.heap.size (fun k_ => (P0_ k_ ∨ w.heap.size ≤ k_)) (.slice A n c) x0_1) ∧ Aside0 (Kept w w' (fun k_ => P0_ k_)) ∧ Aside0 (Below w0.heap.size w0 w'))
  case atStart => exact ⟨l0, a1, 0, rfl, rfl, H', ⟨Nat.le_refl _⟩, HO0, HK, HB⟩
  case round =>
    clear H' HO0 HK HB
    obtain ⟨x0_1, x1_1, x5_1, rfl, rfl, HA, HK1, HO_0, HK, HB⟩ := hrel
    cases gk with
    | zero => exact absurd HA.out (by simp [laws_markClaimS.l0])
    | succ k1 =>
      have H := HA.out
      clear HA
      simp only [laws_markClaimS.l0] at H
      obtain hn := (Kd.S_reads' HO_0.out).1
      by_cases c3 : x5_1 < (x0_1.length : Int)
      · rw [if_pos c3] at H
        by_cases c4 : 0 ≤ x5_1
        · rw [if_pos c4] at H
          obtain ⟨go5, co5, eo5, gb5, gl5, cl5, HG5⟩ := Kd.S_form HO_0.out (by omega)
          injection eo5 with ea_ en_ ec_
          subst ea_
          subst ec_
          clear en_
          rw [← hn] at c3
          have c3b0 : decide (x5_1 < (n : Int)) = true := decide_eq_true c3
          have c4b0 : decide (0 ≤ x5_1) = true := decide_eq_true c4
          obtain ⟨y, hy⟩ : ∃ y_ : List (S83), y_ = (x0_1.set (x5_1 : Int).toNat (⟨x1_1, (rd_T83 x0_1 x5_1).f1⟩ : S83)) := ⟨_, rfl⟩
          rw [← hy, Option.bind_some] at H
          obtain ⟨⟨t1, t2⟩, HM, H⟩ := Option.bind_eq_some_iff.mp H
          have H' := Aside0.mk H
          clear H
          replace HM := Aside0.mk HM
          have GB5 := Aside0.mk gb5
          have HN := Aside0.mk hn
          clear hn
          -- the first store
          obtain ⟨oki, ce, hcl, hM, hcc, hfr, hoki, hH⟩ := Kd.S_elem (Kd.S_mono (ok' := fun k_ => (P0_ k_ ∨ w.heap.size ≤ k_) ∧ ¬ (fun _ : Nat => False) k_) HO_0.out (fun k_ hk => ⟨hk, fun h_ => h_⟩)) z83 (x5_1 : Int) c4 c3
          obtain ⟨ve, rfl, ge⟩ := k83_openM hM
          have HP := Aside0.mk (Kd.S_seg hH c4 c3 (seg := [.int .i64 x1_1]) (j := 0) (show 1 ≤ 2 from by decide) (x' := (⟨x1_1, (rd_T83 x0_1 x5_1).f1⟩ : S83)) (k83_mkM _ _ _ (⟨x1_1, (rd_T83 x0_1 x5_1).f1⟩ : S83) ge) (fun _ hk => .inl hk) (fun _ hk => hk.elim))
          have hx5_0 : wr.cell? ⟨go5, (x5_1 : Int).toNat * 2, none⟩ = some (.int .i64 ((rd_T83 x0_1 x5_1).f0)) := hcc 0 _ rfl
          have hf5_0 : wr.frozen? ⟨go5, (x5_1 : Int).toNat * 2, none⟩ = false := hfr 0
          clear hcl hM hcc hfr hH ge
          have C3 := Aside0.mk c3
          have C4 := Aside0.mk c4
          replace c3 := eq_true c3
          replace c4 := eq_true c4
          go_wp2_with (first | ((with_reducible refine gate_store (t := 3) (p := 16) rfl ?_); refine store_event (t := 3) (p := 16) (v := ?vo_w9) (w1 := (wr.setCell ⟨go5, (x5_1 : Int).toNat * 2, none⟩ (.int .i64 x1_1))) ?hg ?ho ?hn ?hr ?_; (case ho => rfl); (case hg => rfl); (case hn => rfl); (case hr => first | (go_simp; done) | (go_simp; rfl)); intro w9 hw; have n0_ : Aside0 (Kd.S k83 83 w9 w0.heap.size (fun k_ => (P0_ k_ ∨ w.heap.size ≤ k_)) (.slice (some ⟨go5, 0, none⟩) n c) y) := ⟨by rw [hw, hy]; exact HP.out.1⟩; have n1_ : Aside0 (Kept w w9 (fun k_ => P0_ k_)) := ⟨Kept.of_grown (row := some go5) (by rw [hw]; exact HP.out.2) HK.out (fun k_ e_ => (Kd.S_R HO_0.out).1 k_ e_)⟩; have n2_ : Aside0 (Below w0.heap.size w0 w9) := ⟨by rw [hw]; exact below_set HB.out GB5.out⟩; clear hw; clear HP HO_0 HK HB hx5_0 hf5_0; obtain ⟨oki2, ce2, hcl2, hM2, hcc2, hoki2, hH2⟩ := Kd.S_lend n0_.out z83 (x5_1 : Int) C4.out C3.out; obtain ⟨ve2, rfl, ge2⟩ := k83_openM hM2; have hx6_1 : w9.cell? ⟨go5, (x5_1 : Int).toNat * 2 + 1, none⟩ = some ve2 := hcc2 1 _ rfl; clear hcl2 hM2 hcc2; have HH2 := Aside0.mk (Kd.H_widen hH2); have GE2 := Aside0.mk ge2; have OK2 := Aside0.mk hoki2; clear hH2 ge2 hoki2) | (go_at_call 66; refine (laws_markMarkS.calls k1 oki2 ve2 _ _ t1 t2 w0 w9 n2_.out GE2.out HM.out).mono ?_; rintro e w11 ⟨rfl, hR3, hB3, hK3⟩; have m0_ : Aside0 (Kd.S k83 83 w11 w0.heap.size (fun k_ => (P0_ k_ ∨ w.heap.size ≤ k_)) (.slice (some ⟨go5, 0, none⟩) n c) (y.set (x5_1 : Int).toNat (⟨(rd_T83 y x5_1).f0, t2⟩ : S83))) := ⟨Kd.H_back (Kd.H_step HH2.out (fun k_ _ hn_ hlt_ => hK3.2 k_ hlt_ (fun h_ => hn_ (.inl h_)))) (k83_mkM _ _ _ (⟨(rd_T83 y x5_1).f0, t2⟩ : S83) hR3) (fun k_ hk_ => hk_.elim .inl (fun h_ => .inr ⟨.inr (Nat.le_trans n1_.out.1 h_), h_⟩))⟩; have m1_ : Aside0 (Kept w w11 (fun k_ => P0_ k_)) := ⟨n1_.out.then_ hK3 (fun k_ hk_ => (OK2.out k_ hk_).1)⟩; have m2_ : Aside0 (Below w0.heap.size w0 w11) := ⟨hB3⟩; clear n0_ n1_ n2_ HH2 GE2 OK2 hR3 hB3 hK3))
          go_roundg k1
          case measure => have := HK1.out; omega
          case rel => exact ⟨_, _, _, rfl, rfl, H', ⟨by have := HK1.out; omega⟩, m0_, m1_, m2_⟩
        · rw [if_neg c4] at H
          exact absurd H (by simp)
      · rw [if_neg c3] at H
        rw [← hn] at c3
        have c3b0 : decide (x5_1 < (n : Int)) = false := decide_eq_false c3
        clear c3 hn
        simp only [Option.some.injEq, Prod.mk.injEq] at H
        obtain ⟨rfl, rfl⟩ := H
        go_wp2
        go_ret
        exact ⟨rfl, HO_0.out, HB.out, HK.out⟩
end Go.Proofs.Ytgcdlkpjjnglbaa.PA

/- Given by hand: laws.markPlace, markPlaceS, markDesk: rows of rows of rows that are written. Kd.sliceS: a row inside whose elements lie apart. -/
namespace Go.Proofs.YtgcdlkpjjnglbaaW.PrintWords
open Go.RowKit
namespace Kd
/-- As slice, but what is made has its elements apart. -/
def sliceS {α : Type} (e : Nat) (d : Kd α) : Kd (List α) where
  sz := 1
  E := e :: d.E
  K := (slice e d).K
  M := fun w base ok xs cs => ∃ v, cs = [v] ∧ S d e w base ok v xs
  K_len := (slice e d).K_len
  K_one := (slice e d).K_one
  K_below := (slice e d).K_below
  K_of_M := by
    rintro w base ok x cs ⟨v, rfl, h⟩
    obtain ⟨A, c, rfl, hl, hr⟩ := S_reads h
    exact ⟨A, c, rfl, hl, hr⟩
  M_mono := by
    rintro w base ok ok' x cs hok ⟨v, rfl, h⟩
    exact ⟨v, rfl, S_mono h hok⟩
  M_bound := by
    rintro w base ok x cs ⟨v, rfl, h⟩
    exact ⟨v, rfl, S_bound h⟩
  M_move := by
    rintro w w1 base ok x cs hm ⟨v, rfl, h⟩
    exact ⟨v, rfl, S_move h hm⟩
  M_lower := by
    rintro w base base' ok x cs hb ⟨v, rfl, h⟩
    exact ⟨v, rfl, S_lower h hb⟩
end Kd
end Go.Proofs.YtgcdlkpjjnglbaaW.PrintWords
namespace Go.Proofs.Ytgcdlkpjjnglbaa.PA
open Go.RowKit Go.Proofs.YtgcdlkpjjnglbaaW.PrintWords Go.Proofs.YtgcdlkpjjnglbaaW.PrintLast Go.Proofs.YtgcdlkpjjnglbaaW.PrintMore
set_option linter.unusedVariables false
set_option linter.unusedSimpArgs false
def kS36 : Kd S36 := Kd.iso (Kd.pair (Kd.int .i64) (Kd.sliceS 83 k83)) (fun x : S36 => (x.f0, x.f1))
theorem kS36_openM {w : World} {base : Nat} {ok : Nat → Prop} {x : S36} {cs : List Value} (h : kS36.M w base ok x cs) : ∃ v1, cs = [.int .i64 x.f0, v1] ∧ k83.S 83 w base ok v1 x.f1 := by
  obtain ⟨_, _, rfl, rfl, ⟨v1, rfl, g1⟩⟩ := h
  exact ⟨v1, rfl, g1⟩
theorem kS36_mkM (w : World) (base : Nat) (ok : Nat → Prop) (x : S36) {v1 : Value} (g1 : k83.S 83 w base ok v1 x.f1) : kS36.M w base ok x [.int .i64 x.f0, v1] := ⟨[.int .i64 x.f0], [v1], rfl, rfl, ⟨v1, rfl, g1⟩⟩
def laws_markPlaceS.l0 : Nat → List S36 → Int → Int → Option (Int × List S36)
  | 0, _, _, _ => none
  | k + 1, xs, a, i => if i < (xs.length : Int) then (if 0 ≤ i then ((some (xs.set (i : Int).toNat (⟨a, (rd_T36 xs i).f1⟩ : S36)) : Option (List S36)).bind fun y => (laws_markClaimS.f k (rd_T36 y i).f1 (wrap64 (a + 1))).bind fun t => laws_markPlaceS.l0 k (y.set (i : Int).toNat (⟨(rd_T36 y i).f0, t.2⟩ : S36)) t.1 (wrap64 (i + 1))) else none) else some (a, xs)
def laws_markPlaceS.f (k : Nat) (xs : List S36) (a : Int) : Option (Int × List S36) := laws_markPlaceS.l0 k xs a 0
set_option maxHeartbeats 8000000 in
set_option maxRecDepth 100000 in
theorem laws_markPlaceS.calls (k : Nat) (P0_ : Nat → Prop) (u : Value) (l0 : List (S36)) (a1 : Int) (r1 : Int) (r2 : List (S36)) (w0 w : World) (hB : Below w0.heap.size w0 w) (ho0 : Kd.S kS36 36 w w0.heap.size P0_ u l0) (h : laws_markPlaceS.f k l0 a1 = some (r1, r2)) :
    Calls Try.prog 48 #[u, .int .i64 a1] w fun e w' => e = .returned (.int .i64 r1) ∧ Kd.S kS36 36 w' w0.heap.size (fun k_ => (P0_ k_ ∨ w.heap.size ≤ k_)) u r2 ∧ Below w0.heap.size w0 w' ∧ Kept w w' (fun k_ => P0_ k_) := by
  obtain ⟨A, c, rfl⟩ := Kd.S_slice ho0
  have HO0 := Aside0.mk (show Kd.S kS36 36 w w0.heap.size (fun k_ => (P0_ k_ ∨ w.heap.size ≤ k_)) (.slice A l0.length c) l0 from Kd.S_mono ho0 (fun k_ hk => (.inl hk)))
  have HK := Aside0.mk (Kept.refl w (fun k_ => P0_ k_))
  have HB := Aside0.mk hB
  clear hB ho0
  have H' := Aside0.mk (show laws_markPlaceS.l0 k l0 a1 0 = some (r1, r2) from h)
  clear h
  obtain ⟨n, hn⟩ : ∃ n, n = l0.length := ⟨_, rfl⟩
  rw [← hn] at HO0 ⊢
  clear hn
  go_enter Try.func48, Try.ntmps48
  go_wp2
  go_loopg [1, 5] k (fun kq v1 v5 w' => ∃ (x0_1 : List (S36)) (x1_1 : Int) (x5_1 : Int), v1 = .int .i64 x1_1 ∧ v5 = .int .i64 x5_1 ∧ Aside0 (laws_markPlaceS.l0 kq x0_1 x1_1 x5_1 = some (r1, r2)) ∧ Aside0 (kq ≤ k) ∧ Aside0 (Kd.S kS36 36 w' w0.heap.size (fun k_ => (P0_ k_ ∨ w.heap.size ≤ k_)) (.slice A n c) x0_1) ∧ Aside0 (Kept w w' (fun k_ => P0_ k_)) ∧ Aside0 (Below w0.heap.size w0 w'))
  case atStart => exact ⟨l0, a1, 0, rfl, rfl, H', ⟨Nat.le_refl _⟩, HO0, HK, HB⟩
  case round =>
    clear H' HO0 HK HB
    obtain ⟨x0_1, x1_1, x5_1, rfl, rfl, HA, HK1, HO_0, HK, HB⟩ := hrel
    cases gk with
    | zero => exact absurd HA.out (by simp [laws_markPlaceS.l0])
    | succ k1 =>
      have H := HA.out
      clear HA
      simp only [laws_markPlaceS.l0] at H
      obtain hn := (Kd.S_reads' HO_0.out).1
      by_cases c3 : x5_1 < (x0_1.length : Int)
      · rw [if_pos c3] at H
        by_cases c4 : 0 ≤ x5_1
        · rw [if_pos c4] at H
          obtain ⟨go5, co5, eo5, gb5, gl5, cl5, HG5⟩ := Kd.S_form HO_0.out (by omega)
          injection eo5 with ea_ en_ ec_
          subst ea_
          subst ec_
          clear en_
          rw [← hn] at c3
          have c3b0 : decide (x5_1 < (n : Int)) = true := decide_eq_true c3
          have c4b0 : decide (0 ≤ x5_1) = true := decide_eq_true c4
          obtain ⟨y, hy⟩ : ∃ y_ : List (S36), y_ = (x0_1.set (x5_1 : Int).toNat (⟨x1_1, (rd_T36 x0_1 x5_1).f1⟩ : S36)) := ⟨_, rfl⟩
          rw [← hy, Option.bind_some] at H
          obtain ⟨⟨t1, t2⟩, HM, H⟩ := Option.bind_eq_some_iff.mp H
          have H' := Aside0.mk H
          clear H
          replace HM := Aside0.mk HM
          have GB5 := Aside0.mk gb5
          have HN := Aside0.mk hn
          clear hn
          -- the first store
          obtain ⟨oki, ce, hcl, hM, hcc, hfr, hoki, hH⟩ := Kd.S_elem (Kd.S_mono (ok' := fun k_ => (P0_ k_ ∨ w.heap.size ≤ k_) ∧ ¬ (fun _ : Nat => False) k_) HO_0.out (fun k_ hk => ⟨hk, fun h_ => h_⟩)) z36 (x5_1 : Int) c4 c3
          obtain ⟨ve, rfl, ge⟩ := kS36_openM hM
          have HP := Aside0.mk (Kd.S_seg hH c4 c3 (seg := [.int .i64 x1_1]) (j := 0) (show 1 ≤ 2 from by decide) (x' := (⟨x1_1, (rd_T36 x0_1 x5_1).f1⟩ : S36)) (kS36_mkM _ _ _ (⟨x1_1, (rd_T36 x0_1 x5_1).f1⟩ : S36) ge) (fun _ hk => .inl hk) (fun _ hk => hk.elim))
          have hx5_0 : wr.cell? ⟨go5, (x5_1 : Int).toNat * 2, none⟩ = some (.int .i64 ((rd_T36 x0_1 x5_1).f0)) := hcc 0 _ rfl
          have hf5_0 : wr.frozen? ⟨go5, (x5_1 : Int).toNat * 2, none⟩ = false := hfr 0
          clear hcl hM hcc hfr hH ge
          have C3 := Aside0.mk c3
          have C4 := Aside0.mk c4
          replace c3 := eq_true c3
          replace c4 := eq_true c4
          go_wp2_with (first | ((with_reducible refine gate_store (t := 3) (p := 16) rfl ?_); refine store_event (t := 3) (p := 16) (v := ?vo_w9) (w1 := (wr.setCell ⟨go5, (x5_1 : Int).toNat * 2, none⟩ (.int .i64 x1_1))) ?hg ?ho ?hn ?hr ?_; (case ho => rfl); (case hg => rfl); (case hn => rfl); (case hr => first | (go_simp; done) | (go_simp; rfl)); intro w9 hw; have n0_ : Aside0 (Kd.S kS36 36 w9 w0.heap.size (fun k_ => (P0_ k_ ∨ w.heap.size ≤ k_)) (.slice (some ⟨go5, 0, none⟩) n c) y) := ⟨by rw [hw, hy]; exact HP.out.1⟩; have n1_ : Aside0 (Kept w w9 (fun k_ => P0_ k_)) := ⟨Kept.of_grown (row := some go5) (by rw [hw]; exact HP.out.2) HK.out (fun k_ e_ => (Kd.S_R HO_0.out).1 k_ e_)⟩; have n2_ : Aside0 (Below w0.heap.size w0 w9) := ⟨by rw [hw]; exact below_set HB.out GB5.out⟩; clear hw; clear HP HO_0 HK HB hx5_0 hf5_0; obtain ⟨oki2, ce2, hcl2, hM2, hcc2, hoki2, hH2⟩ := Kd.S_lend n0_.out z36 (x5_1 : Int) C4.out C3.out; obtain ⟨ve2, rfl, ge2⟩ := kS36_openM hM2; have hx6_1 : w9.cell? ⟨go5, (x5_1 : Int).toNat * 2 + 1, none⟩ = some ve2 := hcc2 1 _ rfl; clear hcl2 hM2 hcc2; have HH2 := Aside0.mk (Kd.H_widen hH2); have GE2 := Aside0.mk ge2; have OK2 := Aside0.mk hoki2; clear hH2 ge2 hoki2) | (go_at_call 47; refine (laws_markClaimS.calls k1 oki2 ve2 _ _ t1 t2 w0 w9 n2_.out GE2.out HM.out).mono ?_; rintro e w11 ⟨rfl, hR3, hB3, hK3⟩; have m0_ : Aside0 (Kd.S kS36 36 w11 w0.heap.size (fun k_ => (P0_ k_ ∨ w.heap.size ≤ k_)) (.slice (some ⟨go5, 0, none⟩) n c) (y.set (x5_1 : Int).toNat (⟨(rd_T36 y x5_1).f0, t2⟩ : S36))) := ⟨Kd.H_back (Kd.H_step HH2.out (fun k_ _ hn_ hlt_ => hK3.2 k_ hlt_ (fun h_ => hn_ (.inl h_)))) (kS36_mkM _ _ _ (⟨(rd_T36 y x5_1).f0, t2⟩ : S36) hR3) (fun k_ hk_ => hk_.elim .inl (fun h_ => .inr ⟨.inr (Nat.le_trans n1_.out.1 h_), h_⟩))⟩; have m1_ : Aside0 (Kept w w11 (fun k_ => P0_ k_)) := ⟨n1_.out.then_ hK3 (fun k_ hk_ => (OK2.out k_ hk_).1)⟩; have m2_ : Aside0 (Below w0.heap.size w0 w11) := ⟨hB3⟩; clear n0_ n1_ n2_ HH2 GE2 OK2 hR3 hB3 hK3))
          go_roundg k1
          case measure => have := HK1.out; omega
          case rel => exact ⟨_, _, _, rfl, rfl, H', ⟨by have := HK1.out; omega⟩, m0_, m1_, m2_⟩
        · rw [if_neg c4] at H
          exact absurd H (by simp)
      · rw [if_neg c3] at H
        rw [← hn] at c3
        have c3b0 : decide (x5_1 < (n : Int)) = false := decide_eq_false c3
        clear c3 hn
        simp only [Option.some.injEq, Prod.mk.injEq] at H
        obtain ⟨rfl, rfl⟩ := H
        go_wp2
        go_ret
        exact ⟨rfl, HO_0.out, HB.out, HK.out⟩
def laws_markPlace.f (k : Nat) (a : Int) (xs : List S83) (b : Int) : Option (Int × List S83) := laws_markClaimS.f k xs b
set_option maxRecDepth 100000 in
theorem laws_markPlace.calls (k : Nat) (P0_ : Nat → Prop) (a : Int) (u : Value) (l0 : List S83) (a1 : Int) (r1 : Int) (r2 : List S83) (w0 w : World) (hB : Below w0.heap.size w0 w) (ho0 : Kd.S k83 83 w w0.heap.size P0_ u l0) (h : laws_markPlace.f k a l0 a1 = some (r1, r2)) :
    Calls Try.prog 20 #[.agg #[.int .i64 a, u], .int .i64 a1] w fun e w' => e = .returned (.int .i64 r1) ∧ Kd.S k83 83 w' w0.heap.size (fun k_ => (P0_ k_ ∨ w.heap.size ≤ k_)) u r2 ∧ Below w0.heap.size w0 w' ∧ Kept w w' (fun k_ => P0_ k_) := by
  obtain ⟨A, c, rfl⟩ := Kd.S_slice ho0
  go_enter Try.func20, Try.ntmps20
  go_wp2_with (go_at_call 47; refine (laws_markClaimS.calls k P0_ _ l0 a1 r1 r2 w0 _ (below_alloc hB _) (Kd.S_alloc ho0 _) h).mono ?_; rintro e w1 ⟨rfl, h1, h2, h3⟩)
  go_ret
  exact ⟨rfl, Kd.S_mono h1 (fun k_ hk => hk.imp id (fun h_ => Nat.le_trans (by rw [World.size_alloc]; omega) h_)), h2, ((Kept.refl w _).alloc _).then_ h3 (fun _ hk => .inl hk)⟩
def laws_markDesk.f (k : Nat) (a : Int) (xs : List S83) (ys : List S36) (b : Int) : Option (Int × List S83 × List S36) := (laws_markPlace.f k a xs b).bind fun t => (laws_markPlaceS.f k ys t.1).bind fun s => some (s.1, t.2, s.2)
set_option maxRecDepth 100000 in
theorem laws_markDesk.calls (k : Nat) (P1 P2 : Nat → Prop) (a : Int) (u v : Value) (l1 : List S83) (l2 : List S36) (a1 : Int) (r1 : Int) (r2 : List S83) (r3 : List S36) (w0 w : World) (hB : Below w0.heap.size w0 w) (ho1 : Kd.S k83 83 w w0.heap.size P1 u l1) (ho2 : Kd.S kS36 36 w w0.heap.size P2 v l2) (hap : ∀ k, P1 k → ¬ P2 k) (h : laws_markDesk.f k a l1 l2 a1 = some (r1, r2, r3)) :
    Calls Try.prog 21 #[.agg #[.int .i64 a, u, v], .int .i64 a1] w fun e w' => e = .returned (.int .i64 r1) ∧ (∃ Q1 Q2 : Nat → Prop, (∀ k, Q1 k → ¬ Q2 k) ∧ (∀ k, Q1 k → P1 k ∨ w.heap.size ≤ k) ∧ (∀ k, Q2 k → P2 k ∨ w.heap.size ≤ k) ∧ Kd.S k83 83 w' w0.heap.size Q1 u r2 ∧ Kd.S kS36 36 w' w0.heap.size Q2 v r3) ∧ Below w0.heap.size w0 w' ∧ Kept w w' (fun k_ => P1 k_ ∨ P2 k_) := by
  obtain ⟨⟨t1, t2⟩, h1, hq⟩ := Option.bind_eq_some_iff.mp h
  obtain ⟨⟨s1, s2⟩, hS, h3⟩ := Option.bind_eq_some_iff.mp hq
  clear hq h
  simp only [Option.some.injEq, Prod.mk.injEq] at h3
  obtain ⟨rfl, rfl, rfl⟩ := h3
  obtain ⟨A, c, rfl⟩ := Kd.S_slice ho1
  obtain ⟨A2, c2, rfl⟩ := Kd.S_slice ho2
  have hb1 := Kd.S_bound ho1
  replace ho2 := Kd.S_bound ho2
  go_enter Try.func21, Try.ntmps21
  go_wp2_with (first | (go_at_call 20; go_loud (refine (laws_markPlace.calls k _ _ _ l1 a1 t1 t2 w0 _ (below_alloc hB _) (Kd.S_alloc hb1 _) h1).mono ?_; rintro e w1 ⟨rfl, g1, g2, g3⟩; have g4 : Kept w w1 _ := ((Kept.refl w _).alloc _).then_ g3 (fun _ hk => .inl hk); have ho3 := Kd.S_kept ho2 g4 (fun k_ hk hk1 => hap k_ hk1.1 hk.1); have hx := cell_kept (a := ⟨w.heap.size, 2, none⟩) (v := .slice A2 l2.length c2) (by go_simp) g3 (fun hk => Nat.lt_irrefl _ hk.2.2.1))) | (go_at_call 48; go_loud (refine (laws_markPlaceS.calls k _ _ l2 t1 s1 s2 w0 w1 g2 ho3 hS).mono ?_; rintro e w2 ⟨rfl, i1, i2, i3⟩)))
  go_ret
  refine ⟨rfl, ⟨_, _, ?_, ?_, ?_, Kd.S_mono (ok' := fun k => (P1 k ∧ k < w.heap.size ∨ w.heap.size ≤ k) ∧ k < w1.heap.size) (Kd.S_kept (Kd.S_bound g1) i3 ?_) (fun k hk => ⟨?_, hk.2.2.1⟩), i1⟩, i2, ?_⟩
  · rintro k ⟨hk1, hk2⟩ hk3
    rcases hk3 with hk3 | hk3
    · rcases hk1 with hk1 | hk1
      · exact hap k hk1.1 hk3.1
      · have := hk3.2.2.1; omega
    · omega
  · exact fun k hk => hk.1.imp And.left id
  · exact fun k hk => hk.elim (fun h => .inl h.1) (fun h => .inr (Nat.le_trans g4.1 h))
  · rintro k ⟨hk1, hk2⟩ hk3
    rcases hk1 with hk1 | hk1
    · exact hap k hk1.1 hk3.1
    · have := hk3.2.2.1
      rw [World.size_alloc] at hk1
      omega
  · exact hk.1.imp (fun h => ⟨h.1, h.2.2.1⟩) (fun h => Nat.le_trans (by rw [World.size_alloc]; omega) h)
  · exact (g4.mono (fun k hk => .inl hk.1)).then_ i3 (fun k hk => .inl (.inr hk.1))
end Go.Proofs.Ytgcdlkpjjnglbaa.PA

/- Desks and places of the call's own: their rows lie apart, in a set X of blocks. -/
namespace Go.Proofs.Ytgcdlkpjjnglbaa.PA
open Go.RowKit Go.Proofs.YtgcdlkpjjnglbaaW.PrintWords Go.Proofs.YtgcdlkpjjnglbaaW.PrintLast Go.Proofs.YtgcdlkpjjnglbaaW.PrintMore
set_option linter.unusedVariables false
set_option linter.unusedSimpArgs false
abbrev TCl := S83
abbrev TPl := S36
abbrev kCl := k83
abbrev kPlS := kS36
/-- A story of the call's own, in the blocks X. -/
def OwnP (w : World) (base : Nat) (X : Nat → Prop) (u : Value) (l : List TCl) : Prop := Kd.S kCl 83 w base X u l
/-- The rows of a desk. -/
def OwnD (w : World) (base : Nat) (X : Nat → Prop) (u v : Value) (l1 : List TCl) (l2 : List TPl) : Prop :=
  ∃ Q1 Q2 : Nat → Prop, (∀ k, Q1 k → ¬ Q2 k) ∧ (∀ k, Q1 k ∨ Q2 k → X k) ∧ Kd.S kCl 83 w base Q1 u l1 ∧ Kd.S kPlS 36 w base Q2 v l2
theorem OwnP.kept {w w' : World} {base : Nat} {X P : Nat → Prop} {u : Value} {l : List TCl} (h : OwnP w base X u l) (hk : Kept w w' P) (hd : ∀ k, X k → ¬ P k) : OwnP w' base X u l := Kd.S_kept h hk hd
theorem OwnD.kept {w w' : World} {base : Nat} {X P : Nat → Prop} {u v : Value} {l1 : List TCl} {l2 : List TPl} (h : OwnD w base X u v l1 l2) (hk : Kept w w' P) (hd : ∀ k, X k → ¬ P k) : OwnD w' base X u v l1 l2 := by
  obtain ⟨Q1, Q2, h1, h2, h3, h4⟩ := h
  exact ⟨Q1, Q2, h1, h2, Kd.S_kept h3 hk (fun k hq => hd k (h2 k (.inl hq))), Kd.S_kept h4 hk (fun k hq => hd k (h2 k (.inr hq)))⟩
theorem OwnD.below {w w' : World} {base : Nat} {X : Nat → Prop} {u v : Value} {l1 : List TCl} {l2 : List TPl} (h : OwnD w base X u v l1 l2) (hb : Below w.heap.size w w') : OwnD w' base X u v l1 l2 := h.kept (Kept.of_below hb (fun _ => False)) (fun _ _ h => h)
theorem OwnP.below {w w' : World} {base : Nat} {X : Nat → Prop} {u : Value} {l : List TCl} (h : OwnP w base X u l) (hb : Below w.heap.size w w') : OwnP w' base X u l := h.kept (Kept.of_below hb (fun _ => False)) (fun _ _ h => h)
theorem OwnP.form {w : World} {base : Nat} {X : Nat → Prop} {u : Value} {l : List TCl} (h : OwnP w base X u l) : ∃ A c, u = .slice A l.length c ∧ l.length ≤ c ∧ Kd.C kCl w A l.length l := Kd.S_reads h
theorem OwnP.reads {w : World} {base c : Nat} {X : Nat → Prop} {A : Option Addr} {l : List TCl} (h : OwnP w base X (.slice A l.length c) l) : Kd.C kCl w A l.length l := (Kd.S_reads' h).2.2
theorem OwnD.form {w : World} {base : Nat} {X : Nat → Prop} {u v : Value} {l1 : List TCl} {l2 : List TPl} (h : OwnD w base X u v l1 l2) : ∃ A c A2 c2, u = .slice A l1.length c ∧ l1.length ≤ c ∧ v = .slice A2 l2.length c2 ∧ l2.length ≤ c2 := by
  obtain ⟨Q1, Q2, h1, h2, h3, h4⟩ := h
  obtain ⟨A, c, rfl, hc, _⟩ := Kd.S_reads h3
  obtain ⟨A2, c2, rfl, hc2, _⟩ := Kd.S_reads h4
  exact ⟨A, c, A2, c2, rfl, hc, rfl, hc2⟩
theorem OwnD.reads1 {w : World} {base c : Nat} {X : Nat → Prop} {A : Option Addr} {v : Value} {l1 : List TCl} {l2 : List TPl} (h : OwnD w base X (.slice A l1.length c) v l1 l2) : Kd.C kCl w A l1.length l1 := by
  obtain ⟨Q1, Q2, h1, h2, h3, h4⟩ := h
  exact (Kd.S_reads' h3).2.2
theorem OwnD.reads2 {w : World} {base c : Nat} {X : Nat → Prop} {A : Option Addr} {u : Value} {l1 : List TCl} {l2 : List TPl} (h : OwnD w base X u (.slice A l2.length c) l1 l2) : Kd.C k36 w A l2.length l2 := by
  obtain ⟨Q1, Q2, h1, h2, h3, h4⟩ := h
  exact (Kd.S_reads' h4).2.2
theorem OwnP.mono {w : World} {base : Nat} {X Y : Nat → Prop} {u : Value} {l : List TCl} (h : OwnP w base X u l) (hX : ∀ k, X k → Y k) : OwnP w base Y u l := Kd.S_mono h hX
theorem OwnD.mono {w : World} {base : Nat} {X Y : Nat → Prop} {u v : Value} {l1 : List TCl} {l2 : List TPl} (h : OwnD w base X u v l1 l2) (hX : ∀ k, X k → Y k) : OwnD w base Y u v l1 l2 := by
  obtain ⟨Q1, Q2, h1, h2, h3, h4⟩ := h
  exact ⟨Q1, Q2, h1, fun k hk => hX k (h2 k hk), h3, h4⟩
/-- what a call has made, told by the blocks that came -/
theorem OwnP.of_made {w w' : World} {base : Nat} {u : Value} {l : List TCl} (h : Kd.S kCl 83 w' w.heap.size (fun _ => True) u l) (hb : base ≤ w.heap.size) : OwnP w' base (fun k => w.heap.size ≤ k ∧ k < w'.heap.size) u l :=
  Kd.S_lower (Kd.S_mono (Kd.S_bound h) (fun k hk => ⟨hk.2.1, hk.2.2.1⟩)) hb
theorem S_of_nil {w : World} {base e : Nat} {ok : Nat → Prop} {α : Type} {d d' : Kd α} {v : Value} (hs : d.sz = d'.sz) (h : Kd.R d e w base ok v []) : Kd.S d' e w base ok v [] := by
  obtain ⟨h0, inner, ho, hr⟩ := h
  refine ⟨fun _ => 0, h0, inner, ?_, ?_, fun j p hj => by simp at hj⟩
  · show World.ownsRow w base e d'.sz v _ inner
    rw [← hs]; exact ho
  · have := hr.1; simpa using this
theorem OwnD.of_new {w w' : World} {base : Nat} {u v : Value} {l1 : List TCl} {l2 : List TPl} (hn : l2 = []) (h : Kd.S kCl 83 w' w.heap.size (fun _ => True) u l1) (h2 : Kd.R k36 36 w' w.heap.size (fun k_ => some k_ ≠ u.ownBlock) v l2) (hb : base ≤ w.heap.size) : OwnD w' base (fun k => w.heap.size ≤ k ∧ k < w'.heap.size) u v l1 l2 := by
  subst hn
  have ht := Kd.R_bound h2
  have h5 : Kd.S kPlS 36 w' w.heap.size (fun k => w.heap.size ≤ k ∧ k < w'.heap.size ∧ some k = v.ownBlock) v [] := by
    obtain ⟨h0, inner, ho, hr⟩ := ht
    exact S_of_nil (d := k36) rfl ⟨fun k hk => ⟨(h0 k hk).2.1, (h0 k hk).2.2.1, hk.symm⟩, inner, ho, hr.1, fun j p hj => by simp at hj⟩
  refine ⟨fun k => (w.heap.size ≤ k ∧ k < w'.heap.size) ∧ some k ≠ v.ownBlock, fun k => w.heap.size ≤ k ∧ k < w'.heap.size ∧ some k = v.ownBlock, fun k hk hk2 => hk.2 hk2.2.2, fun k hk => hk.elim (fun h => h.1) (fun h => ⟨h.1, h.2.1⟩), ?_, Kd.S_lower h5 hb⟩
  exact Kd.S_lower (Kd.S_mono (Kd.S_apart' (Kd.S_bound h) (Kd.R_typed h2) (by decide)) (fun k hk => ⟨⟨hk.1.2.1, hk.1.2.2.1⟩, hk.2⟩)) hb
theorem OwnP.marked {w w' : World} {w0 : World} {X : Nat → Prop} {u : Value} {l : List TCl} (h : Kd.S kCl 83 w' w0.heap.size (fun k_ => X k_ ∨ w.heap.size ≤ k_) u l) : OwnP w' w0.heap.size (fun k => X k ∨ w.heap.size ≤ k ∧ k < w'.heap.size) u l :=
  Kd.S_mono (Kd.S_bound h) (fun k hk => hk.1.imp id (fun h => ⟨h, hk.2.2.1⟩))
/-- the marks go into a desk -/
theorem markDesk_own (k : Nat) (X : Nat → Prop) (a : Int) (u v : Value) (l1 : List TCl) (l2 : List TPl) (a1 : Int) (r1 : Int) (r2 : List TCl) (r3 : List TPl) (w0 w : World) (hB : Below w0.heap.size w0 w) (ho : OwnD w w0.heap.size X u v l1 l2) (h : laws_markDesk.f k a l1 l2 a1 = some (r1, r2, r3)) :
    Calls Try.prog 21 #[.agg #[.int .i64 a, u, v], .int .i64 a1] w fun e w' => e = .returned (.int .i64 r1) ∧ OwnD w' w0.heap.size (fun k => X k ∨ w.heap.size ≤ k ∧ k < w'.heap.size) u v r2 r3 ∧ Below w0.heap.size w0 w' ∧ Kept w w' X := by
  obtain ⟨Q1, Q2, h1, h2, h3, h4⟩ := ho
  refine (laws_markDesk.calls k Q1 Q2 a u v l1 l2 a1 r1 r2 r3 w0 w hB h3 h4 h1 h).mono ?_
  rintro e w' ⟨he, ⟨R1, R2, g1, g2, g3, g4, g5⟩, g6, g7⟩
  refine ⟨he, ⟨fun k => R1 k ∧ k < w'.heap.size, fun k => R2 k ∧ k < w'.heap.size, fun k hk hk2 => g1 k hk.1 hk2.1, ?_, Kd.S_mono (Kd.S_bound g4) (fun k hk => ⟨hk.1, hk.2.2.1⟩), Kd.S_mono (Kd.S_bound g5) (fun k hk => ⟨hk.1, hk.2.2.1⟩)⟩, g6, g7.mono (fun k hk => h2 k hk)⟩
  rintro k (⟨hk, hl⟩ | ⟨hk, hl⟩)
  · exact (g2 k hk).imp (fun h => h2 k (.inl h)) (fun h => ⟨h, hl⟩)
  · exact (g3 k hk).imp (fun h => h2 k (.inr h)) (fun h => ⟨h, hl⟩)
/-- the marks go into a story -/
theorem markPlace_own (k : Nat) (X : Nat → Prop) (a : Int) (u : Value) (l1 : List TCl) (a1 : Int) (r1 : Int) (r2 : List TCl) (w0 w : World) (hB : Below w0.heap.size w0 w) (ho : OwnP w w0.heap.size X u l1) (h : laws_markPlace.f k a l1 a1 = some (r1, r2)) :
    Calls Try.prog 20 #[.agg #[.int .i64 a, u], .int .i64 a1] w fun e w' => e = .returned (.int .i64 r1) ∧ OwnP w' w0.heap.size (fun k => X k ∨ w.heap.size ≤ k ∧ k < w'.heap.size) u r2 ∧ Below w0.heap.size w0 w' ∧ Kept w w' X := by
  refine (laws_markPlace.calls k X a u l1 a1 r1 r2 w0 w hB ho h).mono ?_
  rintro e w' ⟨he, g1, g2, g3⟩
  exact ⟨he, OwnP.marked g1, g2, g3⟩
/-- a box that is stored into -/
theorem box_set2 {W : World} {g t : Nat} {a b c d : Value} (h : W.heap[g]? = some (.cells #[a, b] t (0, 0))) : ((W.setCell ⟨g, 0, none⟩ c).setCell ⟨g, 1, none⟩ d).heap[g]? = some (.cells #[c, d] t (0, 0)) :=
  blk_put (blk_put h 0 c rfl) 1 d rfl
theorem box_set3 {W : World} {g t : Nat} {a b c d e f : Value} (h : W.heap[g]? = some (.cells #[a, b, c] t (0, 0))) : (((W.setCell ⟨g, 0, none⟩ d).setCell ⟨g, 1, none⟩ e).setCell ⟨g, 2, none⟩ f).heap[g]? = some (.cells #[d, e, f] t (0, 0)) :=
  blk_put (blk_put (blk_put h 0 d rfl) 1 e rfl) 2 f rfl
theorem kept_put {w W : World} {g j : Nat} {u : Value} (h : Kept w W (fun k => k = g)) : Kept w (W.setCell ⟨g, j, none⟩ u) (fun k => k = g) := Kept.setCell (p := ⟨g, j, none⟩) h (.inl rfl) u
theorem kept_set2 {W w' : World} {g : Nat} {c d : Value} (h : w' = (W.setCell ⟨g, 0, none⟩ c).setCell ⟨g, 1, none⟩ d) : Kept W w' (fun k => k = g) := h ▸ kept_put (kept_put (Kept.refl _ _))
theorem kept_set3 {W w' : World} {g : Nat} {c d e : Value} (h : w' = ((W.setCell ⟨g, 0, none⟩ c).setCell ⟨g, 1, none⟩ d).setCell ⟨g, 2, none⟩ e) : Kept W w' (fun k => k = g) := h ▸ kept_put (kept_put (kept_put (Kept.refl _ _)))
theorem below_set2 {w W w' : World} {g : Nat} {c d : Value} (h : w' = (W.setCell ⟨g, 0, none⟩ c).setCell ⟨g, 1, none⟩ d) (hb : Below w.heap.size w W) (hg : w.heap.size ≤ g) : Below w.heap.size w w' := h ▸ below_set (below_set hb hg) hg
theorem below_set3 {w W w' : World} {g : Nat} {c d e : Value} (h : w' = ((W.setCell ⟨g, 0, none⟩ c).setCell ⟨g, 1, none⟩ d).setCell ⟨g, 2, none⟩ e) (hb : Below w.heap.size w W) (hg : w.heap.size ≤ g) : Below w.heap.size w w' := h ▸ below_set (below_set (below_set hb hg) hg) hg
theorem box_store2 {W w' : World} {g t : Nat} {a b c d : Value} (h' : w' = (W.setCell ⟨g, 0, none⟩ c).setCell ⟨g, 1, none⟩ d) (h : W.heap[g]? = some (.cells #[a, b] t (0, 0))) : w'.heap[g]? = some (.cells #[c, d] t (0, 0)) := h' ▸ box_set2 h
theorem box_store3 {W w' : World} {g t : Nat} {a b c d e f : Value} (h' : w' = ((W.setCell ⟨g, 0, none⟩ d).setCell ⟨g, 1, none⟩ e).setCell ⟨g, 2, none⟩ f) (h : W.heap[g]? = some (.cells #[a, b, c] t (0, 0))) : w'.heap[g]? = some (.cells #[d, e, f] t (0, 0)) := h' ▸ box_set3 h
end Go.Proofs.Ytgcdlkpjjnglbaa.PA

/- The plain theory of terms: postfix rows of marks as trees. -/
open Go.Proofs.Ytgcdlkpjjnglbaa.PA
deriving instance DecidableEq for S102
namespace Tm
abbrev Mk := S102
inductive Tr where
  | tells (i : Int)
  | cnt (n : Int)
  | neg (t : Tr)
  | bin (k : Int) (a b : Tr)
deriving DecidableEq
def flat : Tr → List Mk
  | .tells i => [⟨0, i⟩]
  | .cnt n => [⟨1, n⟩]
  | .neg t => flat t ++ [⟨2, 0⟩]
  | .bin k a b => flat a ++ (flat b ++ [⟨k, 0⟩])
def wf (p : Int) : Tr → Prop
  | .tells i => 0 ≤ i ∧ i < p
  | .cnt n => 0 ≤ n ∧ n ≤ p + 1
  | .neg t => wf p t
  | .bin k a b => (k = 3 ∨ k = 4 ∨ k = 5) ∧ wf p a ∧ wf p b
/-- one mark, on a stack of trees (the last part first) -/
def push (p : Int) (m : Mk) (st : List Tr) : Option (List Tr) :=
  if m.f0 = 0 then (if 0 ≤ m.f1 ∧ m.f1 < p then some (.tells m.f1 :: st) else none)
  else if m.f0 = 1 then (if 0 ≤ m.f1 ∧ m.f1 ≤ p + 1 then some (.cnt m.f1 :: st) else none)
  else if m.f0 = 2 then (match st with | t :: r => if m.f1 = 0 then some (.neg t :: r) else none | _ => none)
  else if m.f0 = 3 ∨ m.f0 = 4 ∨ m.f0 = 5 then (match st with | b :: a :: r => if m.f1 = 0 then some (.bin m.f0 a b :: r) else none | _ => none)
  else none
def go (p : Int) : List Mk → List Tr → Option (List Tr)
  | [], st => some st
  | m :: l, st => (push p m st).bind (go p l)
def cat (st : List Tr) : List Mk := (st.reverse.map flat).flatten
theorem cat_cons (t : Tr) (st : List Tr) : cat (t :: st) = cat st ++ flat t := by simp [cat]
theorem push_cat {p : Int} {m : Mk} {st st' : List Tr} (h : push p m st = some st') (hw : ∀ t ∈ st, wf p t) :
    cat st' = cat st ++ [m] ∧ (∀ t ∈ st', wf p t) := by
  obtain ⟨a, b⟩ := m
  unfold push at h
  simp only at h
  split at h
  · rename_i h0; subst h0
    split at h
    · rename_i h1; cases h
      refine ⟨by simp [cat_cons, flat], ?_⟩
      intro t ht
      rcases List.mem_cons.1 ht with rfl | ht
      · exact h1
      · exact hw t ht
    · cases h
  · split at h
    · rename_i h0; subst h0
      split at h
      · rename_i h1; cases h
        refine ⟨by simp [cat_cons, flat], ?_⟩
        intro t ht
        rcases List.mem_cons.1 ht with rfl | ht
        · exact h1
        · exact hw t ht
      · cases h
    · split at h
      · rename_i h0; subst h0
        split at h
        · rename_i t r
          split at h
          · rename_i h1; subst h1; cases h
            refine ⟨by simp [cat_cons, flat], ?_⟩
            intro t' ht
            rcases List.mem_cons.1 ht with rfl | ht
            · exact hw t (by simp)
            · exact hw t' (by simp [ht])
          · cases h
        · cases h
      · split at h
        · rename_i h0
          split at h
          · rename_i y x r
            split at h
            · rename_i h1; subst h1; cases h
              refine ⟨by simp [cat_cons, flat], ?_⟩
              intro t' ht
              rcases List.mem_cons.1 ht with rfl | ht
              · exact ⟨h0, hw x (by simp), hw y (by simp)⟩
              · exact hw t' (by simp [ht])
            · cases h
          · cases h
        · cases h
theorem go_cat {p : Int} {l : List Mk} {st st' : List Tr} (h : go p l st = some st') (hw : ∀ t ∈ st, wf p t) :
    cat st' = cat st ++ l ∧ (∀ t ∈ st', wf p t) := by
  induction l generalizing st with
  | nil => cases h; exact ⟨by simp, hw⟩
  | cons m l ih =>
    simp only [go, Option.bind_eq_some_iff] at h
    obtain ⟨s1, h1, h2⟩ := h
    obtain ⟨c1, w1⟩ := push_cat h1 hw
    obtain ⟨c2, w2⟩ := ih h2 w1
    exact ⟨by rw [c2, c1]; simp, w2⟩
theorem go_append (p : Int) (l r : List Mk) (st : List Tr) : go p (l ++ r) st = (go p l st).bind (go p r) := by
  induction l generalizing st with
  | nil => rfl
  | cons m l ih =>
    simp only [List.cons_append, go]
    cases push p m st with
    | none => rfl
    | some s => simp [ih]
theorem go_flat (p : Int) (t : Tr) (h : wf p t) (st : List Tr) : go p (flat t) st = some (t :: st) := by
  induction t generalizing st with
  | tells i => simp [flat, go, push, h.1, h.2]
  | cnt n => simp [flat, go, push, h.1, h.2]
  | neg t ih => simp [flat, go_append, ih h, go, push]
  | bin k a b iha ihb =>
    obtain ⟨hk, ha, hb⟩ := h
    simp only [flat, go_append, iha ha, ihb hb, Option.bind_some, go, push]
    rcases hk with rfl | rfl | rfl <;> simp
/-- The tree of a row of marks. -/
def dec (p : Int) (l : List Mk) : Option Tr := match go p l [] with | some [t] => some t | _ => none
theorem dec_flat (p : Int) (t : Tr) (h : wf p t) : dec p (flat t) = some t := by simp [dec, go_flat p t h]
theorem dec_some {p : Int} {l : List Mk} {t : Tr} (h : dec p l = some t) : wf p t ∧ flat t = l := by
  unfold dec at h
  split at h
  · rename_i t' hg
    cases h
    obtain ⟨c, w⟩ := go_cat hg (by simp)
    exact ⟨w t (by simp), by simpa [cat] using c⟩
  · cases h
theorem flat_inj {p : Int} {s t : Tr} (hs : wf p s) (ht : wf p t) (h : flat s = flat t) : s = t := by
  have := dec_flat p s hs; rw [h, dec_flat p t ht] at this; exact (Option.some.inj this).symm
theorem flat_ne_nil (t : Tr) : flat t ≠ [] := by cases t <;> simp [flat]
end Tm

namespace Go.Proofs.Ytgcdlkpjjnglbaa.PA
open Go.RowKit Go.Proofs.YtgcdlkpjjnglbaaW.PrintWords Go.Proofs.YtgcdlkpjjnglbaaW.PrintLast Go.Proofs.YtgcdlkpjjnglbaaW.PrintMore
attribute [local go_sem] max2_int min2_int max_two min_two max_three min_three max_four min_four   -- for this text's walks alone
set_option linter.unusedVariables false
set_option linter.unusedSimpArgs false

theorem eqA102 (d : Nat) (w : World) (x0 y0 : Int) (x1 y1 : Int) :
    (Op.equalIn (d + 2) 102 (.agg #[.int .i64 x0, .int .i64 x1]) (.agg #[.int .i64 y0, .int .i64 y1])).run Try.prog w = .ok (x0 == y0 && (x1 == y1)) w := by
  refine eqA_of Try.underlying102 (by kernel_rfl) ?_
  refine eqf_cons (by rfl) (by go_simp; rfl) (by go_simp; rfl) (by go_simp) ?_
  exact eqf_last (by rfl) (by go_simp; rfl) (by go_simp; rfl) (by go_simp)
end Go.Proofs.Ytgcdlkpjjnglbaa.PA

namespace Go.Proofs.Ytgcdlkpjjnglbaa.PA
open Go.RowKit Go.Proofs.YtgcdlkpjjnglbaaW.PrintWords Go.Proofs.YtgcdlkpjjnglbaaW.PrintLast Go.Proofs.YtgcdlkpjjnglbaaW.PrintMore
attribute [local go_sem] max2_int min2_int max_two min_two max_three min_three max_four min_four   -- for this text's walks alone
set_option linter.unusedVariables false
set_option linter.unusedSimpArgs false

/-! ### spec_l1In: function 31 -/
def spec_l1In.f (a0 : Int) (a1 : Int) (a2 : Int) : Option (Bool) := if a0 ≥ a1 then (some (decide (a0 ≤ a2))) else (some false)
set_option maxHeartbeats 8000000 in
set_option maxRecDepth 100000 in
theorem spec_l1In.calls (a0 : Int) (a1 : Int) (a2 : Int) (r : Bool) (w : World) (h : spec_l1In.f a0 a1 a2 = some r) :
    Calls Try.prog 31 #[.int .i64 a0, .int .i64 a1, .int .i64 a2] w fun e w' => e = .returned (.bool r) ∧ Drawn0 w w' := by
  have H : (if a0 ≥ a1 then (some (decide (a0 ≤ a2))) else (some false)) = some r := h
  clear h
  by_cases c4 : a0 ≥ a1
  · rw [if_pos c4] at H
    have c4b0 : decide (a1 ≤ a0) = true := decide_eq_true c4
    clear c4
    obtain rfl := Option.some.inj H
    go_enter Try.func31, Try.ntmps31
    go_wp2
    go_ret
    exact ⟨by first | rfl | (simp; done) | (simp [*]; done), by repeat (first | exact Drawn0.refl _ | apply Drawn0.step)⟩
  · rw [if_neg c4] at H
    have c4b0 : decide (a1 ≤ a0) = false := decide_eq_false c4
    clear c4
    obtain rfl := Option.some.inj H
    go_enter Try.func31, Try.ntmps31
    go_wp2
    go_ret
    exact ⟨by first | rfl | (simp; done) | (simp [*]; done), by repeat (first | exact Drawn0.refl _ | apply Drawn0.step)⟩

end Go.Proofs.Ytgcdlkpjjnglbaa.PA

namespace Go.Proofs.Ytgcdlkpjjnglbaa.PA
open Go.RowKit Go.Proofs.YtgcdlkpjjnglbaaW.PrintWords Go.Proofs.YtgcdlkpjjnglbaaW.PrintLast Go.Proofs.YtgcdlkpjjnglbaaW.PrintMore
attribute [local go_sem] max2_int min2_int max_two min_two max_three min_three max_four min_four   -- for this text's walks alone
set_option linter.unusedVariables false
set_option linter.unusedSimpArgs false

attribute [local go_sem high] eqA102
/-! ### spec_TermOk: function 88 -/
mutual
def spec_TermOk.l0 : Nat → Int → List (S102) → Int → Int → Option (Bool)
  | 0, _, _, _, _ => none
  | k + 1, x0, x1, x5, x6 => if x6 < (x1.length : Int) then (if 0 ≤ x6 then (if ((rd_T102 x1 x6).f0) = 0 then (if ((rd_T102 x1 x6).f1) ≥ 0 then (spec_TermOk.j1 k x0 x1 x5 x6 (decide (((rd_T102 x1 x6).f1) < x0))) else (spec_TermOk.j1 k x0 x1 x5 x6 false)) else (spec_TermOk.j1 k x0 x1 x5 x6 false)) else (none)) else ((spec_l1In.f x0 1 4).bind fun t176 => (if t176 = true then (if x5 = 1 then (some (decide ((x1.length : Int) ≤ 15))) else (some false)) else (some false)))
def spec_TermOk.j1 : Nat → Int → List (S102) → Int → Int → Bool → Option (Bool)
  | 0, _, _, _, _, _ => none
  | k + 1, x0, x1, x5, x6, x13 => if x13 = true then (spec_TermOk.l0 k x0 x1 (wrap64 (x5 + 1)) (wrap64 (x6 + 1))) else (if 0 ≤ x6 then (if x6 < (x1.length : Int) then (if ((rd_T102 x1 x6).f0) = 1 then (if ((rd_T102 x1 x6).f1) ≥ 0 then (if ((rd_T102 x1 x6).f1) ≤ x0 then (spec_TermOk.j2 k x0 x1 x5 x6 true) else (spec_TermOk.j2 k x0 x1 x5 x6 ((wrap64 (((rd_T102 x1 x6).f1) - 1)) == x0))) else (spec_TermOk.j2 k x0 x1 x5 x6 false)) else (spec_TermOk.j2 k x0 x1 x5 x6 false)) else (none)) else (none))
def spec_TermOk.j2 : Nat → Int → List (S102) → Int → Int → Bool → Option (Bool)
  | 0, _, _, _, _, _ => none
  | k + 1, x0, x1, x5, x6, x39 => if x39 = true then (spec_TermOk.l0 k x0 x1 (wrap64 (x5 + 1)) (wrap64 (x6 + 1))) else (if 0 ≤ x6 then (if x6 < (x1.length : Int) then (if (((rd_T102 x1 x6).f0) == 2 && (((rd_T102 x1 x6).f1) == 0)) = true then (spec_TermOk.j3 k x0 x1 x5 x6 (decide (x5 ≥ 1))) else (spec_TermOk.j3 k x0 x1 x5 x6 false)) else (none)) else (none))
def spec_TermOk.j3 : Nat → Int → List (S102) → Int → Int → Bool → Option (Bool)
  | 0, _, _, _, _, _ => none
  | k + 1, x0, x1, x5, x6, x75 => if x75 = true then (spec_TermOk.l0 k x0 x1 x5 (wrap64 (x6 + 1))) else (if 0 ≤ x6 then (if x6 < (x1.length : Int) then ((spec_l1In.f ((rd_T102 x1 x6).f0) 3 5).bind fun t186 => (if t186 = true then (if ((rd_T102 x1 x6).f1) = 0 then (if x5 ≥ 2 then (spec_TermOk.l0 k x0 x1 (wrap64 (x5 - 1)) (wrap64 (x6 + 1))) else (some false)) else (some false)) else (some false))) else (none)) else (none))
end
def spec_TermOk.f (k : Nat) (a0 : Int) (l1 : List (S102)) : Option (Bool) := spec_TermOk.l0 k a0 l1 0 0
theorem spec_TermOk.mono_l : ∀ k, (∀ y0 y1 y2 y3, LeO (spec_TermOk.l0 k y0 y1 y2 y3) (spec_TermOk.l0 (k + 1) y0 y1 y2 y3)) ∧ (∀ y0 y1 y2 y3 y4, LeO (spec_TermOk.j1 k y0 y1 y2 y3 y4) (spec_TermOk.j1 (k + 1) y0 y1 y2 y3 y4)) ∧ (∀ y0 y1 y2 y3 y4, LeO (spec_TermOk.j2 k y0 y1 y2 y3 y4) (spec_TermOk.j2 (k + 1) y0 y1 y2 y3 y4)) ∧ (∀ y0 y1 y2 y3 y4, LeO (spec_TermOk.j3 k y0 y1 y2 y3 y4) (spec_TermOk.j3 (k + 1) y0 y1 y2 y3 y4))
  | 0 => ⟨fun _ _ _ _ r h => by simp [spec_TermOk.l0] at h, fun _ _ _ _ _ r h => by simp [spec_TermOk.j1] at h, fun _ _ _ _ _ r h => by simp [spec_TermOk.j2] at h, fun _ _ _ _ _ r h => by simp [spec_TermOk.j3] at h⟩
  | k + 1 => by
    obtain ⟨ih0, ih1, ih2, ih3⟩ := spec_TermOk.mono_l k
    refine ⟨?_, ?_, ?_, ?_⟩
    · intro y0 y1 y2 y3
      unfold spec_TermOk.l0
      repeat' first
      | (with_reducible exact ih0 _ _ _ _)
      | (with_reducible exact ih1 _ _ _ _ _)
      | (with_reducible exact ih2 _ _ _ _ _)
      | (with_reducible exact ih3 _ _ _ _ _)
      | (with_reducible exact LeO.refl _)
      | (with_reducible exact LeO.none _)
      | (with_reducible refine LeO.ite ?_ ?_)
      | (with_reducible refine LeO.bind ?_ (fun _ => ?_))
      | exact ih0 _ _ _ _
      | exact ih1 _ _ _ _ _
      | exact ih2 _ _ _ _ _
      | exact ih3 _ _ _ _ _
      | exact LeO.none _
      | refine LeO.ite ?_ ?_
      | refine LeO.bind ?_ (fun _ => ?_)
    · intro y0 y1 y2 y3 y4
      unfold spec_TermOk.j1
      repeat' first
      | (with_reducible exact ih0 _ _ _ _)
      | (with_reducible exact ih1 _ _ _ _ _)
      | (with_reducible exact ih2 _ _ _ _ _)
      | (with_reducible exact ih3 _ _ _ _ _)
      | (with_reducible exact LeO.refl _)
      | (with_reducible exact LeO.none _)
      | (with_reducible refine LeO.ite ?_ ?_)
      | (with_reducible refine LeO.bind ?_ (fun _ => ?_))
      | exact ih0 _ _ _ _
      | exact ih1 _ _ _ _ _
      | exact ih2 _ _ _ _ _
      | exact ih3 _ _ _ _ _
      | exact LeO.none _
      | refine LeO.ite ?_ ?_
      | refine LeO.bind ?_ (fun _ => ?_)
    · intro y0 y1 y2 y3 y4
      unfold spec_TermOk.j2
      repeat' first
      | (with_reducible exact ih0 _ _ _ _)
      | (with_reducible exact ih1 _ _ _ _ _)
      | (with_reducible exact ih2 _ _ _ _ _)
      | (with_reducible exact ih3 _ _ _ _ _)
      | (with_reducible exact LeO.refl _)
      | (with_reducible exact LeO.none _)
      | (with_reducible refine LeO.ite ?_ ?_)
      | (with_reducible refine LeO.bind ?_ (fun _ => ?_))
      | exact ih0 _ _ _ _
      | exact ih1 _ _ _ _ _
      | exact ih2 _ _ _ _ _
      | exact ih3 _ _ _ _ _
      | exact LeO.none _
      | refine LeO.ite ?_ ?_
      | refine LeO.bind ?_ (fun _ => ?_)
    · intro y0 y1 y2 y3 y4
      unfold spec_TermOk.j3
      repeat' first
      | (with_reducible exact ih0 _ _ _ _)
      | (with_reducible exact ih1 _ _ _ _ _)
      | (with_reducible exact ih2 _ _ _ _ _)
      | (with_reducible exact ih3 _ _ _ _ _)
      | (with_reducible exact LeO.refl _)
      | (with_reducible exact LeO.none _)
      | (with_reducible refine LeO.ite ?_ ?_)
      | (with_reducible refine LeO.bind ?_ (fun _ => ?_))
      | exact ih0 _ _ _ _
      | exact ih1 _ _ _ _ _
      | exact ih2 _ _ _ _ _
      | exact ih3 _ _ _ _ _
      | exact LeO.none _
      | refine LeO.ite ?_ ?_
      | refine LeO.bind ?_ (fun _ => ?_)
theorem spec_TermOk.mono : ∀ a0 a1 k, LeO (spec_TermOk.f k a0 a1) (spec_TermOk.f (k + 1) a0 a1) := by
  intro a0 a1 k
  obtain ⟨ih0, ih1, ih2, ih3⟩ := spec_TermOk.mono_l k
  unfold spec_TermOk.f
  repeat' first
      | (with_reducible exact ih0 _ _ _ _)
      | (with_reducible exact ih1 _ _ _ _ _)
      | (with_reducible exact ih2 _ _ _ _ _)
      | (with_reducible exact ih3 _ _ _ _ _)
      | (with_reducible exact LeO.refl _)
      | (with_reducible exact LeO.none _)
      | (with_reducible refine LeO.ite ?_ ?_)
      | (with_reducible refine LeO.bind ?_ (fun _ => ?_))
      | exact ih0 _ _ _ _
      | exact ih1 _ _ _ _ _
      | exact ih2 _ _ _ _ _
      | exact ih3 _ _ _ _ _
      | exact LeO.none _
      | refine LeO.ite ?_ ?_
      | refine LeO.bind ?_ (fun _ => ?_)
set_option maxHeartbeats 8000000 in
set_option maxRecDepth 100000 in
theorem spec_TermOk.calls (k : Nat) (a0 : Int) (A1 : Option Addr) (c1 : Nat) (l1 : List (S102)) (r : Bool) (w : World) (hr1 : Kd.C k102 w A1 l1.length l1) (hc1 : l1.length ≤ c1) (h : spec_TermOk.f k a0 l1 = some r) :
    Calls Try.prog 88 #[.int .i64 a0, .slice A1 l1.length c1] w fun e w' => e = .returned (.bool r) ∧ Drawn0 w w' := by
  have hu102 := Try.underlying102
  have HR1 := Aside0.mk hr1
  have HC1 := Aside0.mk hc1
  clear hr1 hc1
  have H : (spec_TermOk.l0 k a0 l1 0 0) = some r := h
  clear h
  have H' := Aside0.mk H
  clear H
  go_enter Try.func88, Try.ntmps88
  go_wp2
  go_loopg [5, 6] k (fun kq v5 v6 w' => ∃ (x5_1 : Int) (x6_1 : Int), v5 = .int .i64 x5_1 ∧ v6 = .int .i64 x6_1 ∧ Aside0 (spec_TermOk.l0 kq a0 l1 x5_1 x6_1 = some r) ∧ Aside0 (kq ≤ k) ∧ Drawn0 w w')
  case atStart => exact ⟨(0), (0), (by first | rfl | (simp; done) | (simp [*]; done)), (by first | rfl | (simp; done) | (simp [*]; done)), H', ⟨Nat.le_refl _⟩, by repeat (first | exact Drawn0.refl _ | apply Drawn0.step)⟩
  case round =>
    clear H'
    try clear c1
    try clear p2
    obtain ⟨x5_1, x6_1, rfl, rfl, HA, HK1, ⟨m1, rfl⟩⟩ := hrel
    cases gk with
    | zero => exact absurd HA.out (by simp [spec_TermOk.l0])
    | succ k1 =>
      have H := HA.out
      clear HA
      simp only [spec_TermOk.l0] at H
      by_cases c3 : x6_1 < (l1.length : Int)
      · rw [if_pos c3] at H
        have c3b0 : decide (x6_1 < (l1.length : Int)) = true := decide_eq_true c3
        clear c3
        have HC4 := Aside0.mk H
        clear H
        go_upto_region 6 with (fail)
        go_cut [13] (fun v13 wc => ∃ (kq : Nat) (x13_3 : Bool), v13 = .bool x13_3 ∧ Aside0 (spec_TermOk.j1 kq a0 l1 x5_1 x6_1 x13_3 = some r) ∧ Aside0 (kq ≤ k1) ∧ Drawn0 w wc)
        case first =>
          have H := HC4.out
          clear HC4
          by_cases c5 : 0 ≤ x6_1
          · rw [if_pos c5] at H
            have c5b0 : decide (0 ≤ x6_1) = true := decide_eq_true c5
            clear c5
            (first | rw [c5b0] | (simp only [i64_w, i32_w]; rw [c5b0]) | skip)
            by_cases c6 : ((rd_T102 l1 x6_1).f0) = 0
            · rw [if_pos c6] at H
              have c6b0 : (((rd_T102 l1 x6_1).f0) == 0) = true := beq_iff_eq.mpr c6
              have c6b1 : (((rd_T102 l1 x6_1).f0) != 0) = false := bne_eq_false_iff_eq.mpr c6
              clear c6
              by_cases c7 : ((rd_T102 l1 x6_1).f1) ≥ 0
              · rw [if_pos c7] at H
                have c7b0 : decide (0 ≤ ((rd_T102 l1 x6_1).f1)) = true := decide_eq_true c7
                clear c7
                have H' := Aside0.mk H
                clear H
                have p177 : 0 ≤ (x6_1 : Int) := of_decide_eq_true (by first | (with_reducible assumption) | assumption)
                have q177 : x6_1 < (l1.length : Int) := of_decide_eq_true (by first | (with_reducible assumption) | assumption)
                obtain ⟨ad177, e177, hx177_0, hx177_1⟩ := at_T102 HR1.out x6_1 p177 q177
                cases e177
                replace p177 := eq_true p177
                replace q177 := eq_true q177
                have p178 : 0 ≤ (x6_1 : Int) := of_decide_eq_true (by first | (with_reducible assumption) | assumption)
                have q178 : x6_1 < (l1.length : Int) := of_decide_eq_true (by first | (with_reducible assumption) | assumption)
                obtain ⟨ad178, e178, hx178_0, hx178_1⟩ := at_T102 HR1.out x6_1 p178 q178
                obtain rfl : ad177 = ad178 := (by injection e178)
                replace p178 := eq_true p178
                replace q178 := eq_true q178
                have p179 : 0 ≤ (x6_1 : Int) := of_decide_eq_true (by first | (with_reducible assumption) | assumption)
                have q179 : x6_1 < (l1.length : Int) := of_decide_eq_true (by first | (with_reducible assumption) | assumption)
                obtain ⟨ad179, e179, hx179_0, hx179_1⟩ := at_T102 HR1.out x6_1 p179 q179
                obtain rfl : ad177 = ad179 := (by injection e179)
                replace p179 := eq_true p179
                replace q179 := eq_true q179
                go_wp2
                go_meet
                case rel => exact ⟨_, (decide (((rd_T102 l1 x6_1).f1) < a0)), (by first | rfl | (simp; done) | (simp [*]; done)), H', ⟨by have := HK1.out; first | omega | exact Nat.le_refl _⟩, by repeat (first | exact Drawn0.refl _ | apply Drawn0.step)⟩
              · rw [if_neg c7] at H
                have c7b0 : decide (0 ≤ ((rd_T102 l1 x6_1).f1)) = false := decide_eq_false c7
                clear c7
                have H' := Aside0.mk H
                clear H
                have p177 : 0 ≤ (x6_1 : Int) := of_decide_eq_true (by first | (with_reducible assumption) | assumption)
                have q177 : x6_1 < (l1.length : Int) := of_decide_eq_true (by first | (with_reducible assumption) | assumption)
                obtain ⟨ad177, e177, hx177_0, hx177_1⟩ := at_T102 HR1.out x6_1 p177 q177
                cases e177
                replace p177 := eq_true p177
                replace q177 := eq_true q177
                have p178 : 0 ≤ (x6_1 : Int) := of_decide_eq_true (by first | (with_reducible assumption) | assumption)
                have q178 : x6_1 < (l1.length : Int) := of_decide_eq_true (by first | (with_reducible assumption) | assumption)
                obtain ⟨ad178, e178, hx178_0, hx178_1⟩ := at_T102 HR1.out x6_1 p178 q178
                obtain rfl : ad177 = ad178 := (by injection e178)
                replace p178 := eq_true p178
                replace q178 := eq_true q178
                go_wp2
                go_meet
                case rel => exact ⟨_, (false), (by first | rfl | (simp; done) | (simp [*]; done)), H', ⟨by have := HK1.out; first | omega | exact Nat.le_refl _⟩, by repeat (first | exact Drawn0.refl _ | apply Drawn0.step)⟩
            · rw [if_neg c6] at H
              have c6b0 : (((rd_T102 l1 x6_1).f0) == 0) = false := beq_eq_false_iff_ne.mpr c6
              have c6b1 : (((rd_T102 l1 x6_1).f0) != 0) = true := bne_iff_ne.mpr c6
              have H' := Aside0.mk H
              clear H
              have p177 : 0 ≤ (x6_1 : Int) := of_decide_eq_true (by first | (with_reducible assumption) | assumption)
              have q177 : x6_1 < (l1.length : Int) := of_decide_eq_true (by first | (with_reducible assumption) | assumption)
              obtain ⟨ad177, e177, hx177_0, hx177_1⟩ := at_T102 HR1.out x6_1 p177 q177
              cases e177
              replace p177 := eq_true p177
              replace q177 := eq_true q177
              go_wp2
              go_meet
              case rel => exact ⟨_, (false), (by first | rfl | (simp; done) | (simp [*]; done)), H', ⟨by have := HK1.out; first | omega | exact Nat.le_refl _⟩, by repeat (first | exact Drawn0.refl _ | apply Drawn0.step)⟩
          · rw [if_neg c5] at H
            exact absurd H (by simp)
        case rest =>
          clear HC4
          try clear c1
          try clear p1
          try clear q1
          try clear hx1
          try clear p2
          try clear c3
          try clear c3b0
          try clear c5
          try clear c5b0
          try clear c6
          try clear c6b0
          try clear c6b1
          try clear c7
          try clear c7b0
          try clear hx177_0
          try clear hx177_1
          try clear hx178_0
          try clear hx178_1
          try clear hx179_0
          try clear hx179_1
          try clear p177
          try clear p178
          try clear p179
          try clear p2
          try clear q177
          try clear q178
          try clear q179
          obtain ⟨kq, x13_3, rfl, HA, HJ3, ⟨mc3, rfl⟩⟩ := hcut
          cases kq with
          | zero => exact absurd HA.out (by simp [spec_TermOk.j1])
          | succ kj3 =>
            have H := HA.out
            clear HA
            simp only [spec_TermOk.j1] at H
            by_cases c8 : x13_3 = true
            · subst c8
              have H1 : (spec_TermOk.l0 kj3 a0 l1 (wrap64 (x5_1 + 1)) (wrap64 (x6_1 + 1))) = some r := by rw [if_pos rfl] at H; exact H
              clear H
              have H := H1
              clear H1
              have H' := Aside0.mk H
              clear H
              go_wp2
              go_roundg kj3
              case measure => have := HK1.out; have := HJ3.out; omega
              case rel => exact ⟨(wrap64 (x5_1 + 1)), (wrap64 (x6_1 + 1)), (by first | rfl | (simp; done) | (simp [*]; done)), (by first | rfl | (simp; done) | (simp [*]; done)), H', ⟨by have := HK1.out; have := HJ3.out; omega⟩, by repeat (first | exact Drawn0.refl _ | apply Drawn0.step)⟩
            · replace c8 := Bool.eq_false_iff.mpr c8
              subst c8
              have H1 : (if 0 ≤ x6_1 then (if x6_1 < (l1.length : Int) then (if ((rd_T102 l1 x6_1).f0) = 1 then (if ((rd_T102 l1 x6_1).f1) ≥ 0 then (if ((rd_T102 l1 x6_1).f1) ≤ a0 then (spec_TermOk.j2 kj3 a0 l1 x5_1 x6_1 true) else (spec_TermOk.j2 kj3 a0 l1 x5_1 x6_1 ((wrap64 (((rd_T102 l1 x6_1).f1) - 1)) == a0))) else (spec_TermOk.j2 kj3 a0 l1 x5_1 x6_1 false)) else (spec_TermOk.j2 kj3 a0 l1 x5_1 x6_1 false)) else (none)) else (none)) = some r := by rw [if_neg (show ¬ (false = true) by decide)] at H; exact H
              clear H
              have H := H1
              clear H1
              have HC9 := Aside0.mk H
              clear H
              go_upto_region 8 with (fail)
              go_cut [39] (fun v39 wc => ∃ (kq : Nat) (x39_8 : Bool), v39 = .bool x39_8 ∧ Aside0 (spec_TermOk.j2 kq a0 l1 x5_1 x6_1 x39_8 = some r) ∧ Aside0 (kq ≤ kj3) ∧ Drawn0 w wc)
              case first =>
                have H := HC9.out
                clear HC9
                by_cases c10 : 0 ≤ x6_1
                · rw [if_pos c10] at H
                  have c10b0 : decide (0 ≤ x6_1) = true := decide_eq_true c10
                  clear c10
                  (first | rw [c10b0] | (simp only [i64_w, i32_w]; rw [c10b0]) | skip)
                  by_cases c11 : x6_1 < (l1.length : Int)
                  · rw [if_pos c11] at H
                    have c11b0 : decide (x6_1 < (l1.length : Int)) = true := decide_eq_true c11
                    clear c11
                    by_cases c12 : ((rd_T102 l1 x6_1).f0) = 1
                    · rw [if_pos c12] at H
                      have c12b0 : (((rd_T102 l1 x6_1).f0) == 1) = true := beq_iff_eq.mpr c12
                      have c12b1 : (((rd_T102 l1 x6_1).f0) != 1) = false := bne_eq_false_iff_eq.mpr c12
                      clear c12
                      by_cases c13 : ((rd_T102 l1 x6_1).f1) ≥ 0
                      · rw [if_pos c13] at H
                        have c13b0 : decide (0 ≤ ((rd_T102 l1 x6_1).f1)) = true := decide_eq_true c13
                        clear c13
                        by_cases c14 : ((rd_T102 l1 x6_1).f1) ≤ a0
                        · rw [if_pos c14] at H
                          have c14b0 : decide (((rd_T102 l1 x6_1).f1) ≤ a0) = true := decide_eq_true c14
                          clear c14
                          have H' := Aside0.mk H
                          clear H
                          have p180 : 0 ≤ (x6_1 : Int) := of_decide_eq_true (by first | (with_reducible assumption) | assumption)
                          have q180 : x6_1 < (l1.length : Int) := of_decide_eq_true (by first | (with_reducible assumption) | assumption)
                          obtain ⟨ad180, e180, hx180_0, hx180_1⟩ := at_T102 HR1.out x6_1 p180 q180
                          cases e180
                          replace p180 := eq_true p180
                          replace q180 := eq_true q180
                          have p181 : 0 ≤ (x6_1 : Int) := of_decide_eq_true (by first | (with_reducible assumption) | assumption)
                          have q181 : x6_1 < (l1.length : Int) := of_decide_eq_true (by first | (with_reducible assumption) | assumption)
                          obtain ⟨ad181, e181, hx181_0, hx181_1⟩ := at_T102 HR1.out x6_1 p181 q181
                          obtain rfl : ad180 = ad181 := (by injection e181)
                          replace p181 := eq_true p181
                          replace q181 := eq_true q181
                          have p182 : 0 ≤ (x6_1 : Int) := of_decide_eq_true (by first | (with_reducible assumption) | assumption)
                          have q182 : x6_1 < (l1.length : Int) := of_decide_eq_true (by first | (with_reducible assumption) | assumption)
                          obtain ⟨ad182, e182, hx182_0, hx182_1⟩ := at_T102 HR1.out x6_1 p182 q182
                          obtain rfl : ad180 = ad182 := (by injection e182)
                          replace p182 := eq_true p182
                          replace q182 := eq_true q182
                          go_wp2
                          go_meet
                          case rel => exact ⟨_, (true), (by first | rfl | (simp; done) | (simp [*]; done)), H', ⟨by have := HK1.out; have := HJ3.out; first | omega | exact Nat.le_refl _⟩, by repeat (first | exact Drawn0.refl _ | apply Drawn0.step)⟩
                        · rw [if_neg c14] at H
                          have c14b0 : decide (((rd_T102 l1 x6_1).f1) ≤ a0) = false := decide_eq_false c14
                          clear c14
                          have H' := Aside0.mk H
                          clear H
                          have p180 : 0 ≤ (x6_1 : Int) := of_decide_eq_true (by first | (with_reducible assumption) | assumption)
                          have q180 : x6_1 < (l1.length : Int) := of_decide_eq_true (by first | (with_reducible assumption) | assumption)
                          obtain ⟨ad180, e180, hx180_0, hx180_1⟩ := at_T102 HR1.out x6_1 p180 q180
                          cases e180
                          replace p180 := eq_true p180
                          replace q180 := eq_true q180
                          have p181 : 0 ≤ (x6_1 : Int) := of_decide_eq_true (by first | (with_reducible assumption) | assumption)
                          have q181 : x6_1 < (l1.length : Int) := of_decide_eq_true (by first | (with_reducible assumption) | assumption)
                          obtain ⟨ad181, e181, hx181_0, hx181_1⟩ := at_T102 HR1.out x6_1 p181 q181
                          obtain rfl : ad180 = ad181 := (by injection e181)
                          replace p181 := eq_true p181
                          replace q181 := eq_true q181
                          have p182 : 0 ≤ (x6_1 : Int) := of_decide_eq_true (by first | (with_reducible assumption) | assumption)
                          have q182 : x6_1 < (l1.length : Int) := of_decide_eq_true (by first | (with_reducible assumption) | assumption)
                          obtain ⟨ad182, e182, hx182_0, hx182_1⟩ := at_T102 HR1.out x6_1 p182 q182
                          obtain rfl : ad180 = ad182 := (by injection e182)
                          replace p182 := eq_true p182
                          replace q182 := eq_true q182
                          have p183 : 0 ≤ (x6_1 : Int) := of_decide_eq_true (by first | (with_reducible assumption) | assumption)
                          have q183 : x6_1 < (l1.length : Int) := of_decide_eq_true (by first | (with_reducible assumption) | assumption)
                          obtain ⟨ad183, e183, hx183_0, hx183_1⟩ := at_T102 HR1.out x6_1 p183 q183
                          obtain rfl : ad180 = ad183 := (by injection e183)
                          replace p183 := eq_true p183
                          replace q183 := eq_true q183
                          go_wp2
                          go_meet
                          case rel => exact ⟨_, (((wrap64 (((rd_T102 l1 x6_1).f1) - 1)) == a0)), (by first | rfl | (simp; done) | (simp [*]; done)), H', ⟨by have := HK1.out; have := HJ3.out; first | omega | exact Nat.le_refl _⟩, by repeat (first | exact Drawn0.refl _ | apply Drawn0.step)⟩
                      · rw [if_neg c13] at H
                        have c13b0 : decide (0 ≤ ((rd_T102 l1 x6_1).f1)) = false := decide_eq_false c13
                        clear c13
                        have H' := Aside0.mk H
                        clear H
                        have p180 : 0 ≤ (x6_1 : Int) := of_decide_eq_true (by first | (with_reducible assumption) | assumption)
                        have q180 : x6_1 < (l1.length : Int) := of_decide_eq_true (by first | (with_reducible assumption) | assumption)
                        obtain ⟨ad180, e180, hx180_0, hx180_1⟩ := at_T102 HR1.out x6_1 p180 q180
                        cases e180
                        replace p180 := eq_true p180
                        replace q180 := eq_true q180
                        have p181 : 0 ≤ (x6_1 : Int) := of_decide_eq_true (by first | (with_reducible assumption) | assumption)
                        have q181 : x6_1 < (l1.length : Int) := of_decide_eq_true (by first | (with_reducible assumption) | assumption)
                        obtain ⟨ad181, e181, hx181_0, hx181_1⟩ := at_T102 HR1.out x6_1 p181 q181
                        obtain rfl : ad180 = ad181 := (by injection e181)
                        replace p181 := eq_true p181
                        replace q181 := eq_true q181
                        go_wp2
                        go_meet
                        case rel => exact ⟨_, (false), (by first | rfl | (simp; done) | (simp [*]; done)), H', ⟨by have := HK1.out; have := HJ3.out; first | omega | exact Nat.le_refl _⟩, by repeat (first | exact Drawn0.refl _ | apply Drawn0.step)⟩
                    · rw [if_neg c12] at H
                      have c12b0 : (((rd_T102 l1 x6_1).f0) == 1) = false := beq_eq_false_iff_ne.mpr c12
                      have c12b1 : (((rd_T102 l1 x6_1).f0) != 1) = true := bne_iff_ne.mpr c12
                      have H' := Aside0.mk H
                      clear H
                      have p180 : 0 ≤ (x6_1 : Int) := of_decide_eq_true (by first | (with_reducible assumption) | assumption)
                      have q180 : x6_1 < (l1.length : Int) := of_decide_eq_true (by first | (with_reducible assumption) | assumption)
                      obtain ⟨ad180, e180, hx180_0, hx180_1⟩ := at_T102 HR1.out x6_1 p180 q180
                      cases e180
                      replace p180 := eq_true p180
                      replace q180 := eq_true q180
                      go_wp2
                      go_meet
                      case rel => exact ⟨_, (false), (by first | rfl | (simp; done) | (simp [*]; done)), H', ⟨by have := HK1.out; have := HJ3.out; first | omega | exact Nat.le_refl _⟩, by repeat (first | exact Drawn0.refl _ | apply Drawn0.step)⟩
                  · rw [if_neg c11] at H
                    exact absurd H (by simp)
                · rw [if_neg c10] at H
                  exact absurd H (by simp)
              case rest =>
                clear HC9
                try clear c1
                try clear p1
                try clear q1
                try clear hx1
                try clear p2
                try clear c3
                try clear c3b0
                try clear c5
                try clear c5b0
                try clear c6
                try clear c6b0
                try clear c6b1
                try clear p6
                try clear c7
                try clear c7b0
                try clear c8
                try clear c10
                try clear c10b0
                try clear c11
                try clear c11b0
                try clear c12
                try clear c12b0
                try clear c12b1
                try clear c13
                try clear c13b0
                try clear c14
                try clear c14b0
                try clear hx177_0
                try clear hx177_1
                try clear hx178_0
                try clear hx178_1
                try clear hx179_0
                try clear hx179_1
                try clear hx180_0
                try clear hx180_1
                try clear hx181_0
                try clear hx181_1
                try clear hx182_0
                try clear hx182_1
                try clear hx183_0
                try clear hx183_1
                try clear p1
                try clear p177
                try clear p178
                try clear p179
                try clear p180
                try clear p181
                try clear p182
                try clear p183
                try clear p2
                try clear q1
                try clear q177
                try clear q178
                try clear q179
                try clear q180
                try clear q181
                try clear q182
                try clear q183
                obtain ⟨kq, x39_8, rfl, HA, HJ8, ⟨mc8, rfl⟩⟩ := hcut
                cases kq with
                | zero => exact absurd HA.out (by simp [spec_TermOk.j2])
                | succ kj8 =>
                  have H := HA.out
                  clear HA
                  simp only [spec_TermOk.j2] at H
                  by_cases c15 : x39_8 = true
                  · subst c15
                    have H1 : (spec_TermOk.l0 kj8 a0 l1 (wrap64 (x5_1 + 1)) (wrap64 (x6_1 + 1))) = some r := by rw [if_pos rfl] at H; exact H
                    clear H
                    have H := H1
                    clear H1
                    have H' := Aside0.mk H
                    clear H
                    go_wp2
                    go_roundg kj8
                    case measure => have := HK1.out; have := HJ3.out; have := HJ8.out; omega
                    case rel => exact ⟨(wrap64 (x5_1 + 1)), (wrap64 (x6_1 + 1)), (by first | rfl | (simp; done) | (simp [*]; done)), (by first | rfl | (simp; done) | (simp [*]; done)), H', ⟨by have := HK1.out; have := HJ3.out; have := HJ8.out; omega⟩, by repeat (first | exact Drawn0.refl _ | apply Drawn0.step)⟩
                  · replace c15 := Bool.eq_false_iff.mpr c15
                    subst c15
                    have H1 : (if 0 ≤ x6_1 then (if x6_1 < (l1.length : Int) then (if (((rd_T102 l1 x6_1).f0) == 2 && (((rd_T102 l1 x6_1).f1) == 0)) = true then (spec_TermOk.j3 kj8 a0 l1 x5_1 x6_1 (decide (x5_1 ≥ 1))) else (spec_TermOk.j3 kj8 a0 l1 x5_1 x6_1 false)) else (none)) else (none)) = some r := by rw [if_neg (show ¬ (false = true) by decide)] at H; exact H
                    clear H
                    have H := H1
                    clear H1
                    have HC16 := Aside0.mk H
                    clear H
                    go_upto_region 10 with (fail)
                    go_cut [75] (fun v75 wc => ∃ (kq : Nat) (x75_15 : Bool), v75 = .bool x75_15 ∧ Aside0 (spec_TermOk.j3 kq a0 l1 x5_1 x6_1 x75_15 = some r) ∧ Aside0 (kq ≤ kj8) ∧ Drawn0 w wc)
                    case first =>
                      have H := HC16.out
                      clear HC16
                      by_cases c17 : 0 ≤ x6_1
                      · rw [if_pos c17] at H
                        have c17b0 : decide (0 ≤ x6_1) = true := decide_eq_true c17
                        clear c17
                        (first | rw [c17b0] | (simp only [i64_w, i32_w]; rw [c17b0]) | skip)
                        by_cases c18 : x6_1 < (l1.length : Int)
                        · rw [if_pos c18] at H
                          have c18b0 : decide (x6_1 < (l1.length : Int)) = true := decide_eq_true c18
                          clear c18
                          by_cases c19 : (((rd_T102 l1 x6_1).f0) == 2 && (((rd_T102 l1 x6_1).f1) == 0)) = true
                          · rw [if_pos c19] at H
                            have c19b0 : (((rd_T102 l1 x6_1).f0) == 2 && (((rd_T102 l1 x6_1).f1) == 0)) = true := c19
                            (try (have c19b1 : decide (((rd_T102 l1 x6_1).f0) = 2 && (((rd_T102 l1 x6_1).f1) == 0)) = true := by simpa using c19))
                            (try (have c19b2 : (((rd_T102 l1 x6_1).f0) == 2 && (((rd_T102 l1 x6_1).f1) == 0)) = true := by simpa using c19))
                            clear c19
                            have H' := Aside0.mk H
                            clear H
                            have p184 : 0 ≤ (x6_1 : Int) := of_decide_eq_true (by first | (with_reducible assumption) | assumption)
                            have q184 : x6_1 < (l1.length : Int) := of_decide_eq_true (by first | (with_reducible assumption) | assumption)
                            obtain ⟨ad184, e184, hx184_0, hx184_1⟩ := at_T102 HR1.out x6_1 p184 q184
                            cases e184
                            replace p184 := eq_true p184
                            replace q184 := eq_true q184
                            go_wp2
                            go_meet
                            case rel => exact ⟨_, (decide (x5_1 ≥ 1)), (by first | rfl | (simp; done) | (simp [*]; done)), H', ⟨by have := HK1.out; have := HJ3.out; have := HJ8.out; first | omega | exact Nat.le_refl _⟩, by repeat (first | exact Drawn0.refl _ | apply Drawn0.step)⟩
                          · rw [if_neg c19] at H
                            have c19b0 : (((rd_T102 l1 x6_1).f0) == 2 && (((rd_T102 l1 x6_1).f1) == 0)) = false := by simpa using c19
                            (try (have c19b1 : decide (((rd_T102 l1 x6_1).f0) = 2 && (((rd_T102 l1 x6_1).f1) == 0)) = false := by simpa using c19))
                            (try (have c19b2 : (((rd_T102 l1 x6_1).f0) == 2 && (((rd_T102 l1 x6_1).f1) == 0)) = false := by simpa using c19))
                            (try (have c19b3 : ¬ (((rd_T102 l1 x6_1).f0) = 2 && (((rd_T102 l1 x6_1).f1) == 0)) := by simpa using c19))
                            clear c19
                            have H' := Aside0.mk H
                            clear H
                            have p184 : 0 ≤ (x6_1 : Int) := of_decide_eq_true (by first | (with_reducible assumption) | assumption)
                            have q184 : x6_1 < (l1.length : Int) := of_decide_eq_true (by first | (with_reducible assumption) | assumption)
                            obtain ⟨ad184, e184, hx184_0, hx184_1⟩ := at_T102 HR1.out x6_1 p184 q184
                            cases e184
                            replace p184 := eq_true p184
                            replace q184 := eq_true q184
                            go_wp2
                            go_meet
                            case rel => exact ⟨_, (false), (by first | rfl | (simp; done) | (simp [*]; done)), H', ⟨by have := HK1.out; have := HJ3.out; have := HJ8.out; first | omega | exact Nat.le_refl _⟩, by repeat (first | exact Drawn0.refl _ | apply Drawn0.step)⟩
                        · rw [if_neg c18] at H
                          exact absurd H (by simp)
                      · rw [if_neg c17] at H
                        exact absurd H (by simp)
                    case rest =>
                      clear HC16
                      try clear c1
                      try clear p1
                      try clear q1
                      try clear hx1
                      try clear p2
                      try clear c3
                      try clear c3b0
                      try clear c5
                      try clear c5b0
                      try clear c6
                      try clear c6b0
                      try clear c6b1
                      try clear p6
                      try clear c7
                      try clear c7b0
                      try clear c8
                      try clear c10
                      try clear c10b0
                      try clear c11
                      try clear c11b0
                      try clear c12
                      try clear c12b0
                      try clear c12b1
                      try clear c13
                      try clear c13b0
                      try clear c14
                      try clear c14b0
                      try clear c15
                      try clear c17
                      try clear c17b0
                      try clear p17
                      try clear q17
                      try clear hx17
                      try clear c18
                      try clear c18b0
                      try clear p18
                      try clear q18
                      try clear hx18
                      try clear c19
                      try clear c19b0
                      try clear c19b1
                      try clear c19b2
                      try clear hx177_0
                      try clear hx177_1
                      try clear hx178_0
                      try clear hx178_1
                      try clear hx179_0
                      try clear hx179_1
                      try clear hx180_0
                      try clear hx180_1
                      try clear hx181_0
                      try clear hx181_1
                      try clear hx182_0
                      try clear hx182_1
                      try clear hx183_0
                      try clear hx183_1
                      try clear hx184_0
                      try clear hx184_1
                      try clear p1
                      try clear p177
                      try clear p178
                      try clear p179
                      try clear p180
                      try clear p181
                      try clear p182
                      try clear p183
                      try clear p184
                      try clear p2
                      try clear p6
                      try clear q1
                      try clear q177
                      try clear q178
                      try clear q179
                      try clear q180
                      try clear q181
                      try clear q182
                      try clear q183
                      try clear q184
                      obtain ⟨kq, x75_15, rfl, HA, HJ15, ⟨mc15, rfl⟩⟩ := hcut
                      cases kq with
                      | zero => exact absurd HA.out (by simp [spec_TermOk.j3])
                      | succ kj15 =>
                        have H := HA.out
                        clear HA
                        simp only [spec_TermOk.j3] at H
                        by_cases c20 : x75_15 = true
                        · subst c20
                          have H1 : (spec_TermOk.l0 kj15 a0 l1 x5_1 (wrap64 (x6_1 + 1))) = some r := by rw [if_pos rfl] at H; exact H
                          clear H
                          have H := H1
                          clear H1
                          have H' := Aside0.mk H
                          clear H
                          go_wp2
                          go_roundg kj15
                          case measure => have := HK1.out; have := HJ3.out; have := HJ8.out; have := HJ15.out; omega
                          case rel => exact ⟨(x5_1), (wrap64 (x6_1 + 1)), (by first | rfl | (simp; done) | (simp [*]; done)), (by first | rfl | (simp; done) | (simp [*]; done)), H', ⟨by have := HK1.out; have := HJ3.out; have := HJ8.out; have := HJ15.out; omega⟩, by repeat (first | exact Drawn0.refl _ | apply Drawn0.step)⟩
                        · replace c20 := Bool.eq_false_iff.mpr c20
                          subst c20
                          have H1 : (if 0 ≤ x6_1 then (if x6_1 < (l1.length : Int) then ((spec_l1In.f ((rd_T102 l1 x6_1).f0) 3 5).bind fun t186 => (if t186 = true then (if ((rd_T102 l1 x6_1).f1) = 0 then (if x5_1 ≥ 2 then (spec_TermOk.l0 kj15 a0 l1 (wrap64 (x5_1 - 1)) (wrap64 (x6_1 + 1))) else (some false)) else (some false)) else (some false))) else (none)) else (none)) = some r := by rw [if_neg (show ¬ (false = true) by decide)] at H; exact H
                          clear H
                          have H := H1
                          clear H1
                          by_cases c21 : 0 ≤ x6_1
                          · rw [if_pos c21] at H
                            have c21b0 : decide (0 ≤ x6_1) = true := decide_eq_true c21
                            clear c21
                            by_cases c22 : x6_1 < (l1.length : Int)
                            · rw [if_pos c22] at H
                              have c22b0 : decide (x6_1 < (l1.length : Int)) = true := decide_eq_true c22
                              clear c22
                              replace H := Option.bind_eq_some_iff.mp H
                              obtain ⟨t186, A230, H⟩ := H
                              replace H : (if t186 = true then (if ((rd_T102 l1 x6_1).f1) = 0 then (if x5_1 ≥ 2 then (spec_TermOk.l0 kj15 a0 l1 (wrap64 (x5_1 - 1)) (wrap64 (x6_1 + 1))) else (some false)) else (some false)) else (some false)) = some r := H
                              have A23 := Aside0.mk A230
                              clear A230
                              by_cases c24 : t186 = true
                              · subst c24
                                have H1 : (if ((rd_T102 l1 x6_1).f1) = 0 then (if x5_1 ≥ 2 then (spec_TermOk.l0 kj15 a0 l1 (wrap64 (x5_1 - 1)) (wrap64 (x6_1 + 1))) else (some false)) else (some false)) = some r := by rw [if_pos rfl] at H; exact H
                                clear H
                                have H := H1
                                clear H1
                                by_cases c25 : ((rd_T102 l1 x6_1).f1) = 0
                                · rw [if_pos c25] at H
                                  have c25b0 : (((rd_T102 l1 x6_1).f1) == 0) = true := beq_iff_eq.mpr c25
                                  have c25b1 : (((rd_T102 l1 x6_1).f1) != 0) = false := bne_eq_false_iff_eq.mpr c25
                                  clear c25
                                  by_cases c26 : x5_1 ≥ 2
                                  · rw [if_pos c26] at H
                                    have c26b0 : decide (2 ≤ x5_1) = true := decide_eq_true c26
                                    clear c26
                                    have H' := Aside0.mk H
                                    clear H
                                    have p185 : 0 ≤ (x6_1 : Int) := of_decide_eq_true (by first | (with_reducible assumption) | assumption)
                                    have q185 : x6_1 < (l1.length : Int) := of_decide_eq_true (by first | (with_reducible assumption) | assumption)
                                    obtain ⟨ad185, e185, hx185_0, hx185_1⟩ := at_T102 HR1.out x6_1 p185 q185
                                    cases e185
                                    replace p185 := eq_true p185
                                    replace q185 := eq_true q185
                                    go_wp2_with (first | ((with_reducible refine gate_callee (f := 31) rfl ?_); refine goesL_ (some 92) rfl rfl Try.func31 (by kernel_rfl) rfl #[.int .i64 ((rd_T102 l1 x6_1).f0), .int .i64 3, .int .i64 5] rfl (by (try simp only [List.map_toArray, List.map_cons, List.map_nil]); first | done | rfl | (simp only [List.length_drop, List.length_take]; rfl)) ?_; (with_reducible refine (spec_l1In.calls ((rd_T102 l1 x6_1).f0) 3 5 true _ A23.out).mono ?_); rintro e w' ⟨rfl, ⟨nd, rfl⟩⟩; refine ⟨_, rfl, ?_⟩; have p187 : 0 ≤ (x6_1 : Int) := of_decide_eq_true (by first | (with_reducible assumption) | assumption); have q187 : x6_1 < (l1.length : Int) := of_decide_eq_true (by first | (with_reducible assumption) | assumption); obtain ⟨ad187, e187, hx187_0, hx187_1⟩ := at_T102 HR1.out x6_1 p187 q187; obtain rfl : ad185 = ad187 := (by injection e187); replace p187 := eq_true p187; replace q187 := eq_true q187))
                                    go_roundg kj15
                                    case measure => have := HK1.out; have := HJ3.out; have := HJ8.out; have := HJ15.out; omega
                                    case rel => exact ⟨(wrap64 (x5_1 - 1)), (wrap64 (x6_1 + 1)), (by first | rfl | (simp; done) | (simp [*]; done)), (by first | rfl | (simp; done) | (simp [*]; done)), H', ⟨by have := HK1.out; have := HJ3.out; have := HJ8.out; have := HJ15.out; omega⟩, by repeat (first | exact Drawn0.refl _ | apply Drawn0.step)⟩
                                  · rw [if_neg c26] at H
                                    have c26b0 : decide (2 ≤ x5_1) = false := decide_eq_false c26
                                    clear c26
                                    obtain rfl := Option.some.inj H
                                    have p185 : 0 ≤ (x6_1 : Int) := of_decide_eq_true (by first | (with_reducible assumption) | assumption)
                                    have q185 : x6_1 < (l1.length : Int) := of_decide_eq_true (by first | (with_reducible assumption) | assumption)
                                    obtain ⟨ad185, e185, hx185_0, hx185_1⟩ := at_T102 HR1.out x6_1 p185 q185
                                    cases e185
                                    replace p185 := eq_true p185
                                    replace q185 := eq_true q185
                                    go_wp2_with (first | ((with_reducible refine gate_callee (f := 31) rfl ?_); refine goesL_ (some 92) rfl rfl Try.func31 (by kernel_rfl) rfl #[.int .i64 ((rd_T102 l1 x6_1).f0), .int .i64 3, .int .i64 5] rfl (by (try simp only [List.map_toArray, List.map_cons, List.map_nil]); first | done | rfl | (simp only [List.length_drop, List.length_take]; rfl)) ?_; (with_reducible refine (spec_l1In.calls ((rd_T102 l1 x6_1).f0) 3 5 true _ A23.out).mono ?_); rintro e w' ⟨rfl, ⟨nd, rfl⟩⟩; refine ⟨_, rfl, ?_⟩; have p187 : 0 ≤ (x6_1 : Int) := of_decide_eq_true (by first | (with_reducible assumption) | assumption); have q187 : x6_1 < (l1.length : Int) := of_decide_eq_true (by first | (with_reducible assumption) | assumption); obtain ⟨ad187, e187, hx187_0, hx187_1⟩ := at_T102 HR1.out x6_1 p187 q187; obtain rfl : ad185 = ad187 := (by injection e187); replace p187 := eq_true p187; replace q187 := eq_true q187))
                                    go_ret
                                    exact ⟨by first | rfl | (simp; done) | (simp [*]; done), by repeat (first | exact Drawn0.refl _ | apply Drawn0.step)⟩
                                · rw [if_neg c25] at H
                                  have c25b0 : (((rd_T102 l1 x6_1).f1) == 0) = false := beq_eq_false_iff_ne.mpr c25
                                  have c25b1 : (((rd_T102 l1 x6_1).f1) != 0) = true := bne_iff_ne.mpr c25
                                  obtain rfl := Option.some.inj H
                                  have p185 : 0 ≤ (x6_1 : Int) := of_decide_eq_true (by first | (with_reducible assumption) | assumption)
                                  have q185 : x6_1 < (l1.length : Int) := of_decide_eq_true (by first | (with_reducible assumption) | assumption)
                                  obtain ⟨ad185, e185, hx185_0, hx185_1⟩ := at_T102 HR1.out x6_1 p185 q185
                                  cases e185
                                  replace p185 := eq_true p185
                                  replace q185 := eq_true q185
                                  go_wp2_with (first | ((with_reducible refine gate_callee (f := 31) rfl ?_); refine goesL_ (some 92) rfl rfl Try.func31 (by kernel_rfl) rfl #[.int .i64 ((rd_T102 l1 x6_1).f0), .int .i64 3, .int .i64 5] rfl (by (try simp only [List.map_toArray, List.map_cons, List.map_nil]); first | done | rfl | (simp only [List.length_drop, List.length_take]; rfl)) ?_; (with_reducible refine (spec_l1In.calls ((rd_T102 l1 x6_1).f0) 3 5 true _ A23.out).mono ?_); rintro e w' ⟨rfl, ⟨nd, rfl⟩⟩; refine ⟨_, rfl, ?_⟩; have p187 : 0 ≤ (x6_1 : Int) := of_decide_eq_true (by first | (with_reducible assumption) | assumption); have q187 : x6_1 < (l1.length : Int) := of_decide_eq_true (by first | (with_reducible assumption) | assumption); obtain ⟨ad187, e187, hx187_0, hx187_1⟩ := at_T102 HR1.out x6_1 p187 q187; obtain rfl : ad185 = ad187 := (by injection e187); replace p187 := eq_true p187; replace q187 := eq_true q187))
                                  go_ret
                                  exact ⟨by first | rfl | (simp; done) | (simp [*]; done), by repeat (first | exact Drawn0.refl _ | apply Drawn0.step)⟩
                              · replace c24 := Bool.eq_false_iff.mpr c24
                                subst c24
                                have H1 : (some false) = some r := by rw [if_neg (show ¬ (false = true) by decide)] at H; exact H
                                clear H
                                have H := H1
                                clear H1
                                obtain rfl := Option.some.inj H
                                have p185 : 0 ≤ (x6_1 : Int) := of_decide_eq_true (by first | (with_reducible assumption) | assumption)
                                have q185 : x6_1 < (l1.length : Int) := of_decide_eq_true (by first | (with_reducible assumption) | assumption)
                                obtain ⟨ad185, e185, hx185_0, hx185_1⟩ := at_T102 HR1.out x6_1 p185 q185
                                cases e185
                                replace p185 := eq_true p185
                                replace q185 := eq_true q185
                                go_wp2_with (first | ((with_reducible refine gate_callee (f := 31) rfl ?_); refine goesL_ (some 92) rfl rfl Try.func31 (by kernel_rfl) rfl #[.int .i64 ((rd_T102 l1 x6_1).f0), .int .i64 3, .int .i64 5] rfl (by (try simp only [List.map_toArray, List.map_cons, List.map_nil]); first | done | rfl | (simp only [List.length_drop, List.length_take]; rfl)) ?_; (with_reducible refine (spec_l1In.calls ((rd_T102 l1 x6_1).f0) 3 5 false _ A23.out).mono ?_); rintro e w' ⟨rfl, ⟨nd, rfl⟩⟩; refine ⟨_, rfl, ?_⟩))
                                go_ret
                                exact ⟨by first | rfl | (simp; done) | (simp [*]; done), by repeat (first | exact Drawn0.refl _ | apply Drawn0.step)⟩
                            · rw [if_neg c22] at H
                              exact absurd H (by simp)
                          · rw [if_neg c21] at H
                            exact absurd H (by simp)
      · rw [if_neg c3] at H
        have c3b0 : decide (x6_1 < (l1.length : Int)) = false := decide_eq_false c3
        clear c3
        replace H := Option.bind_eq_some_iff.mp H
        obtain ⟨t176, A270, H⟩ := H
        replace H : (if t176 = true then (if x5_1 = 1 then (some (decide ((l1.length : Int) ≤ 15))) else (some false)) else (some false)) = some r := H
        have A27 := Aside0.mk A270
        clear A270
        by_cases c28 : t176 = true
        · subst c28
          have H1 : (if x5_1 = 1 then (some (decide ((l1.length : Int) ≤ 15))) else (some false)) = some r := by rw [if_pos rfl] at H; exact H
          clear H
          have H := H1
          clear H1
          by_cases c29 : x5_1 = 1
          · rw [if_pos c29] at H
            have c29b0 : (x5_1 == 1) = true := beq_iff_eq.mpr c29
            have c29b1 : (x5_1 != 1) = false := bne_eq_false_iff_eq.mpr c29
            clear c29
            obtain rfl := Option.some.inj H
            go_wp2_with (first | ((with_reducible refine gate_callee (f := 31) rfl ?_); refine goesL_ (some 108) rfl rfl Try.func31 (by kernel_rfl) rfl #[.int .i64 a0, .int .i64 1, .int .i64 4] rfl (by (try simp only [List.map_toArray, List.map_cons, List.map_nil]); first | done | rfl | (simp only [List.length_drop, List.length_take]; rfl)) ?_; (with_reducible refine (spec_l1In.calls a0 1 4 true _ A27.out).mono ?_); rintro e w' ⟨rfl, ⟨nd, rfl⟩⟩; refine ⟨_, rfl, ?_⟩))
            go_ret
            exact ⟨by first | rfl | (simp; done) | (simp [*]; done), by repeat (first | exact Drawn0.refl _ | apply Drawn0.step)⟩
          · rw [if_neg c29] at H
            have c29b0 : (x5_1 == 1) = false := beq_eq_false_iff_ne.mpr c29
            have c29b1 : (x5_1 != 1) = true := bne_iff_ne.mpr c29
            obtain rfl := Option.some.inj H
            go_wp2_with (first | ((with_reducible refine gate_callee (f := 31) rfl ?_); refine goesL_ (some 108) rfl rfl Try.func31 (by kernel_rfl) rfl #[.int .i64 a0, .int .i64 1, .int .i64 4] rfl (by (try simp only [List.map_toArray, List.map_cons, List.map_nil]); first | done | rfl | (simp only [List.length_drop, List.length_take]; rfl)) ?_; (with_reducible refine (spec_l1In.calls a0 1 4 true _ A27.out).mono ?_); rintro e w' ⟨rfl, ⟨nd, rfl⟩⟩; refine ⟨_, rfl, ?_⟩))
            go_ret
            exact ⟨by first | rfl | (simp; done) | (simp [*]; done), by repeat (first | exact Drawn0.refl _ | apply Drawn0.step)⟩
        · replace c28 := Bool.eq_false_iff.mpr c28
          subst c28
          have H1 : (some false) = some r := by rw [if_neg (show ¬ (false = true) by decide)] at H; exact H
          clear H
          have H := H1
          clear H1
          obtain rfl := Option.some.inj H
          go_wp2_with (first | ((with_reducible refine gate_callee (f := 31) rfl ?_); refine goesL_ (some 108) rfl rfl Try.func31 (by kernel_rfl) rfl #[.int .i64 a0, .int .i64 1, .int .i64 4] rfl (by (try simp only [List.map_toArray, List.map_cons, List.map_nil]); first | done | rfl | (simp only [List.length_drop, List.length_take]; rfl)) ?_; (with_reducible refine (spec_l1In.calls a0 1 4 false _ A27.out).mono ?_); rintro e w' ⟨rfl, ⟨nd, rfl⟩⟩; refine ⟨_, rfl, ?_⟩))
          go_ret
          exact ⟨by first | rfl | (simp; done) | (simp [*]; done), by repeat (first | exact Drawn0.refl _ | apply Drawn0.step)⟩

end Go.Proofs.Ytgcdlkpjjnglbaa.PA

namespace Go.Proofs.Ytgcdlkpjjnglbaa.PA
open Go.RowKit Go.Proofs.YtgcdlkpjjnglbaaW.PrintWords Go.Proofs.YtgcdlkpjjnglbaaW.PrintLast Go.Proofs.YtgcdlkpjjnglbaaW.PrintMore
attribute [local go_sem] max2_int min2_int max_two min_two max_three min_three max_four min_four   -- for this text's walks alone
set_option linter.unusedVariables false
set_option linter.unusedSimpArgs false

/-! ### impl_peopleOk: function 34 -/
def impl_peopleOk.f (a0 : Int) : Option (Bool) := if a0 ≥ 1 then (some (decide (a0 ≤ 4))) else (some false)
set_option maxHeartbeats 8000000 in
set_option maxRecDepth 100000 in
theorem impl_peopleOk.calls (a0 : Int) (r : Bool) (w : World) (h : impl_peopleOk.f a0 = some r) :
    Calls Try.prog 34 #[.int .i64 a0] w fun e w' => e = .returned (.bool r) ∧ Drawn0 w w' := by
  have H : (if a0 ≥ 1 then (some (decide (a0 ≤ 4))) else (some false)) = some r := h
  clear h
  by_cases c2 : a0 ≥ 1
  · rw [if_pos c2] at H
    have c2b0 : decide (1 ≤ a0) = true := decide_eq_true c2
    clear c2
    obtain rfl := Option.some.inj H
    go_enter Try.func34, Try.ntmps34
    go_wp2
    go_ret
    exact ⟨by first | rfl | (simp; done) | (simp [*]; done), by repeat (first | exact Drawn0.refl _ | apply Drawn0.step)⟩
  · rw [if_neg c2] at H
    have c2b0 : decide (1 ≤ a0) = false := decide_eq_false c2
    clear c2
    obtain rfl := Option.some.inj H
    go_enter Try.func34, Try.ntmps34
    go_wp2
    go_ret
    exact ⟨by first | rfl | (simp; done) | (simp [*]; done), by repeat (first | exact Drawn0.refl _ | apply Drawn0.step)⟩

end Go.Proofs.Ytgcdlkpjjnglbaa.PA
