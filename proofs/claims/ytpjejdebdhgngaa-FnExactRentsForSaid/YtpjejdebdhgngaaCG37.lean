/-
  Contracts: GainsOf (both programs). No condition.
-/
import Derived.Test.YtpjejdebdhgngaaCG36
import Derived.Test.YtpjejdebdhgngaaCG22
namespace Go.Proofs.Ytpjejdebdhgngaa.Ax
open Go Go.RowKit
set_option linter.unusedSimpArgs false

theorem Own.nil {w : World} {F S : Nat → Prop} {a b : Nat} {y : Value} (h : Own w true F S (.sl true a []) y) : Own w true F S (.sl true b []) y := by
  obtain ⟨a1, l, c, hy, k1, k2, k3, k4⟩ := Excl.of_own h
  refine Excl.own ⟨a1, l, c, hy, k1, k2, k3, ?_⟩
  rcases k4 with k4 | ⟨_, _, _, _, _, k4, _⟩
  · exact .inl k4
  · simp at k4
/-- A nil slice beside others is a nil slice of whatever. -/
theorem callOk_nil1 {P : Program} {f : FuncId} {args vs : List AV} {a b : Nat} (h : CallOk P f args (.tup (.sl true a [] :: vs))) : CallOk P f args (.tup (.sl true b [] :: vs)) := by
  refine ⟨h.1, fun w F vals hF hv => (h.2 w F vals hF hv).mono fun e w' he => ?_⟩
  obtain ⟨y, S, h1, h2, h3, h4⟩ := he
  refine ⟨y, S, h1, h2, h3, ?_⟩
  simp only [Own] at h4 ⊢
  obtain ⟨ys, rfl, h4⟩ := h4
  refine ⟨ys, rfl, ?_⟩
  simp only [OwnL] at h4 ⊢
  obtain ⟨y, ys', S1, S2, k1, k2, k3, k4, k5, k6⟩ := h4
  exact ⟨y, ys', S1, S2, k1, k2, k3, k4, Own.nil k5, k6⟩

noncomputable def mGain1 : List AV → Option AV := mk (fun p => fracOk (p.2.1, p.2.2) = true) (fun (p : (Int) × (Int) × (Int)) => [int p.1, frac (p.2.1, p.2.2)]) (fun p => .tup [.agg [.v (.int .i64 (subF (p.1, 1) (p.2.1, p.2.2)).1.1), .v (.int .i64 (subF (p.1, 1) (p.2.1, p.2.2)).1.2)], .v (.bool (subF (p.1, 1) (p.2.1, p.2.2)).2)])
theorem mGain1_at (x : Int) (c : Int) (d : Int) (hpre : fracOk (c, d) = true) : mGain1 [.v (.int .i64 x), .agg [.v (.int .i64 c), .v (.int .i64 d)]] = some (.tup [.agg [.v (.int .i64 (subF (x, 1) (c, d)).1.1), .v (.int .i64 (subF (x, 1) (c, d)).1.2)], .v (.bool (subF (x, 1) (c, d)).2)]) :=
  mk_eq (enc := fun (p : (Int) × (Int) × (Int)) => [int p.1, frac (p.2.1, p.2.2)]) (x := (x, c, d)) (by rintro ⟨a0, a1, a2⟩ ⟨b0, b1, b2⟩ h; simp [ints, intss, int, bool, row, frac, fracs, map_int_inj, map_row_inj, frac_inj, map_frac_inj] at h; simp [h]) hpre
/-- One row, of the call's own. -/
def tk1 (sz : Nat) (l : List AV) : List Tok := [⟨true, .sl false sz l⟩]

/-- What person i gains. -/
def gainF (xss : List (Bool × List Int)) (l : List Int) (fs : List (Int × Int)) (i : Nat) : (Int × Int) × Bool := subF (ent xss i (l.getD i 0), 1) (fs.getD (l.getD i 0).toNat (0, 0))
def gainA (xss : List (Bool × List Int)) (l : List Int) (fs : List (Int × Int)) (k : Nat) : List (Int × Int) := (List.range k).map fun i => (gainF xss l fs i).1
def gainOk (xss : List (Bool × List Int)) (l : List Int) (fs : List (Int × Int)) (i : Nat) : Bool := (gainF xss l fs i).2
def gainsB (xss : List (Bool × List Int)) (l : List Int) (fs : List (Int × Int)) : Bool := rentsB xss l fs && allR l.length (gainOk xss l fs)
def gainsL (xss : List (Bool × List Int)) (l : List Int) (fs : List (Int × Int)) : List (Int × Int) := if gainsB xss l fs then gainA xss l fs l.length else []
theorem gainA_len {xss : List (Bool × List Int)} {l : List Int} {fs : List (Int × Int)} {k : Nat} : (gainA xss l fs k).length = k := by simp [gainA]
theorem gainA_succ {xss : List (Bool × List Int)} {l : List Int} {fs : List (Int × Int)} {k : Nat} : (gainA xss l fs k).map frac ++ [.agg [.v (.int .i64 (gainF xss l fs k).1.1), .v (.int .i64 (gainF xss l fs k).1.2)]] = (gainA xss l fs (k + 1)).map frac := by
  simp [gainA, List.range_succ, frac]

noncomputable def mGains : List AV → Option AV := mk (fun _ => True) (fun (p : (Bool) × (List (Bool × List Int)) × (Bool) × (List Int) × (Bool) × (List (Int × Int))) => [intss p.1 p.2.1, ints p.2.2.1 p.2.2.2.1, fracs p.2.2.2.2.1 p.2.2.2.2.2]) (fun p => .tup [.sl (!gainsB p.2.1 p.2.2.2.1 p.2.2.2.2.2) 2 ((gainsL p.2.1 p.2.2.2.1 p.2.2.2.2.2).map frac), .v (.bool (gainsB p.2.1 p.2.2.2.1 p.2.2.2.2.2))])
theorem mGains_at (nl : Bool) (xss : List (Bool × List Int)) (nl1 : Bool) (l : List Int) (nl2 : Bool) (fs : List (Int × Int)) : mGains [.sl nl 1 (xss.map row), .sl nl1 1 (l.map int), .sl nl2 2 (fs.map frac)] = some (.tup [.sl (!gainsB xss l fs) 2 ((gainsL xss l fs).map frac), .v (.bool (gainsB xss l fs))]) :=
  mk_eq (enc := fun (p : (Bool) × (List (Bool × List Int)) × (Bool) × (List Int) × (Bool) × (List (Int × Int))) => [intss p.1 p.2.1, ints p.2.2.1 p.2.2.2.1, fracs p.2.2.2.2.1 p.2.2.2.2.2]) (x := (nl, xss, nl1, l, nl2, fs)) (by rintro ⟨a0, a1, a2, a3, a4, a5⟩ ⟨b0, b1, b2, b3, b4, b5⟩ h; simp [ints, intss, int, bool, row, frac, fracs, map_int_inj, map_row_inj, frac_inj, map_frac_inj] at h; simp [h]) trivial

end Go.Proofs.Ytpjejdebdhgngaa.Ax
