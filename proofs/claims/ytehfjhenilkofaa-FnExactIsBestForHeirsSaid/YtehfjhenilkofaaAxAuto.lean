/-
  Ways of a run that depend on what is not known; the lengths of what is handed to a function; loops that count. No condition.
-/
import Derived.Test.YtehfjhenilkofaaAxType
namespace Go.Proofs.Ytehfjhenilkofaa.Ax
open Go Go.RowKit

section
variable {live : List Bool} {Q : Exit → ASt → Prop} {f : ASt → Option ASt}
theorem regS_ite {p : Prop} [Decidable p] {x y : Option ASt} : regS live Q (bindS f (if p then x else y)) = ((p → regS live Q (bindS f x)) ∧ (¬ p → regS live Q (bindS f y))) := by
  by_cases h : p <;> simp [h]
theorem pickAV_bool {t a b : Bool} : pickAV t (.v (.bool a)) (.v (.bool b)) = .v (.bool (bif t then a else b)) := by cases t <;> rfl
end

theorem nn1 {k : Nat} : (0 ≤ (k : Int) + 1) = True := by simp; omega
theorem tn1 {k : Nat} : ((k : Int) + 1).toNat = k + 1 := by omega

theorem nz1 {k : Nat} : (((k : Int) + 1) == 0) = false := by simp; omega
theorem nz1' {k : Nat} : ((k : Int) + 1 = 0) = False := by simp; omega
theorem lt1 {a b : Nat} : ((a : Int) + 1 < (b : Int)) = (a + 1 < b) := by simp; omega

mutual
/-- Every slice in it is no longer than a slice may be, and a nil one is empty. -/
def lens : AV → Prop
  | .v _ => True
  | .agg cs => lensL cs
  | .tup cs => lensL cs
  | .sl nl _ es => (es.length ≤ 9223372036854775807 ∧ (nl = true → es = [])) ∧ lensL es
  | .fp e _ => lens e
  | .fn _ cs => lensL cs
  | .ref _ _ _ _ => True
  | .ptr _ _ _ _ => True
  | .junk => True
def lensL : List AV → Prop
  | [] => True
  | c :: cs => lens c ∧ lensL cs
end

theorem lensL_iff : ∀ {l : List AV}, lensL l ↔ ∀ x ∈ l, lens x
  | [] => by simp [lensL]
  | c :: cs => by simp [lensL, lensL_iff (l := cs)]

mutual
theorem Rep.lens {w : World} {F : Nat → Prop} : ∀ (a : AV) (y : Value), Rep w F a y → Ax.lens a
  | .v _, _, _ => by simp [Ax.lens]
  | .agg cs, y, k => by simp only [Rep, Ax.lens] at k ⊢; obtain ⟨ys, rfl, k⟩ := k; exact RepL.lens cs _ k
  | .tup cs, y, k => by simp only [Rep, Ax.lens] at k ⊢; obtain ⟨ys, rfl, k⟩ := k; exact RepL.lens cs _ k
  | .sl nl sz es, y, k => by
    simp only [Rep, Ax.lens] at k ⊢
    obtain ⟨a, len, cap, rfl, h1, h2, h3, k⟩ := k
    refine ⟨⟨by simp only [maxLen] at h3; omega, fun hnl => ?_⟩, ?_⟩
    · rcases k with ⟨_, _, h, _⟩ | ⟨_, _, _, h, _⟩ | ⟨_, h, _⟩
      · exact List.length_eq_zero_iff.1 (by omega)
      · rw [h] at hnl; simp at hnl
      · rw [h] at hnl; simp at hnl
    · rcases k with ⟨_, _, h, _⟩ | ⟨b, o, _, _, k⟩ | ⟨_, _, h⟩
      · rw [List.length_eq_zero_iff.1 (show es.length = 0 by omega)]; simp [lensL]
      · exact RepRow.lens b sz o es k
      · rw [h]; simp [lensL]
  | .fp e j, y, k => by simp only [Rep, Ax.lens] at k ⊢; obtain ⟨b, o, x, rfl, k, _⟩ := k; exact Rep.lens e x k
  | .fn f cs, y, k => by simp only [Rep, Ax.lens] at k ⊢; obtain ⟨ys, rfl, k⟩ := k; exact RepL.lens cs _ k
  | .ref _ _ _ _, _, _ => by simp [Ax.lens]
  | .ptr _ _ _ _, _, _ => by simp [Ax.lens]
  | .junk, _, _ => by simp [Ax.lens]
theorem RepL.lens {w : World} {F : Nat → Prop} : ∀ (a : List AV) (y : List Value), RepL w F a y → lensL a
  | [], _, _ => by simp [lensL]
  | c :: cs, y, k => by
    simp only [RepL, lensL] at k ⊢
    obtain ⟨y, ys, rfl, k1, k2⟩ := k
    exact ⟨Rep.lens c y k1, RepL.lens cs ys k2⟩
theorem RepRow.lens {w : World} {F : Nat → Prop} (b sz : Nat) : ∀ (o : Nat) (es : List AV), RepRow w F b sz o es → lensL es
  | _, [], _ => by simp [lensL]
  | o, e :: es, k => by
    simp only [RepRow, lensL] at k ⊢
    obtain ⟨⟨x, k1, _⟩, k2⟩ := k
    exact ⟨Rep.lens e x k1, RepRow.lens b sz (o + sz) es k2⟩
end

theorem lensL_map {α : Type} {f : α → AV} {l : List α} : lensL (l.map f) ↔ ∀ x ∈ l, lens (f x) := by simp [lensL_iff]

section
variable {P : Program} {C : Ctx}
/-- The contract of a function, by the run of its body; what is handed to it is no longer than may be. -/
theorem callOk_awp (hC : C.Ok P) (hm : P.follows .mixedOrders = true) {live : List Bool} {f : FuncId} {fn : Func} {c : Code} {args : List AV} {r : AV} (hf : P.funcs[f]? = some fn) (hb : fn.body = some c) (hname : (fn.name == "runtime.NumGoroutine") = false) (hck : codeOk [] c = true)
    (h : ∀ w0, lensL args → awp P C live noLd w0 c ⟨args ++ List.replicate (fn.ntmps - args.length) .junk, []⟩ (doneS C fn.results.toList r)) : CallOk P f args r := by
  by_cases hl : lensL args
  · exact callOk_of_awp hC hm hf hb hname hck fun w0 => h w0 hl
  · refine ⟨⟨fn, hf, hname, by rw [hb]; rfl⟩, fun w F vals hF hvals => (hl (RepL.lens _ _ hvals)).elim⟩

theorem inBlock_mono {id : Nat} {Q Q' : Exit → ASt → Prop} (h : ∀ e s, Q e s → Q' e s) : ∀ e s, inBlock id Q e s → inBlock id Q' e s
  | .normal, s, k => h _ s k
  | .exit id', s, k => by
    simp only [inBlock] at k ⊢
    split
    · rename_i e; rw [if_pos e] at k; exact h _ _ k
    · rename_i e; rw [if_neg e] at k; exact h _ _ k
  | .goto _, _, k => h _ _ k
  | .ret, _, k => h _ _ k
  | .panic _, _, k => h _ _ k
  | .outgrown, _, k => h _ _ k

theorem andThen_imp {N N' : ASt → Prop} {Q Q' : Exit → ASt → Prop} (hn : ∀ s, N s → N' s) (h : ∀ e s, Q e s → Q' e s) : ∀ e s, andThen N Q e s → andThen N' Q' e s
  | .normal, s, k => hn s k
  | .exit _, _, k => h _ _ k
  | .goto _, _, k => h _ _ k
  | .ret, _, k => h _ _ k
  | .panic _, _, k => h _ _ k
  | .outgrown, _, k => h _ _ k

theorem awp_mono {live : List Bool} {U : Ld} {w0 : World} : ∀ (c : Code) (st : ASt) (Q Q' : Exit → ASt → Prop), awp P C live U w0 c st Q → (∀ e s, Q e s → Q' e s) → awp P C live U w0 c st Q'
  | .skip, _, _, _, h, hq => hq _ _ h
  | .region _ _ _, _, _, _, h, hq => by obtain ⟨fin, h1, h2⟩ := h; exact ⟨fin, h1, hq _ _ h2⟩
  | .seq x y, st, _, _, h, hq => awp_mono x st _ _ h (andThen_imp (fun s hs => awp_mono y s _ _ hs hq) hq)
  | .cond c x y, st, _, _, h, hq => by
    obtain ⟨t, h1, h2, h3⟩ := h
    exact ⟨t, h1, fun ht => awp_mono x st _ _ (h2 ht) hq, fun ht => awp_mono y st _ _ (h3 ht) hq⟩
  | .block id x, st, _, _, h, hq => awp_mono x st _ _ h (inBlock_mono hq)
  | .exit _, _, _, _, h, hq => hq _ _ h
  | .ret, _, _, _, h, hq => hq _ _ h
  | .loop _, _, _, _, h, hq => Tr.weak h hq
  | .rangeFunc _ _ _ _, _, _, _, h, hq => Tr.weak h hq
  | .scope _, _, _, _, h, hq => Tr.weak h hq
  | .label _, _, _, _, h, hq => Tr.weak h hq
  | .goto _, _, _, _, h, hq => Tr.weak h hq
  | .refuse _, _, _, _, h, hq => Tr.weak h hq

/-- Behind a round of a loop that counts. -/
def rngS (N : ASt → Prop) (Q : Exit → ASt → Prop) : Exit → ASt → Prop := andThen N Q
theorem rngS_normal {N : ASt → Prop} {Q : Exit → ASt → Prop} {s : ASt} : rngS N Q .normal s = N s := rfl
theorem rngS_exit {N : ASt → Prop} {Q : Exit → ASt → Prop} {s : ASt} {id : Nat} : rngS N Q (.exit id) s = Q (.exit id) s := rfl
theorem rngS_ret {N : ASt → Prop} {Q : Exit → ASt → Prop} {s : ASt} : rngS N Q .ret s = Q .ret s := rfl

/-- A loop that counts from 0 to n. -/
theorem awp_range (hC : C.Ok P) (hm : P.follows .mixedOrders = true) {live : List Bool} {U : Ld} {w0 : World} (lv : List Bool) {c : Code} {st : ASt} {Q : Exit → ASt → Prop} (n : Nat) (p : Nat → Prop) (I : Nat → ASt) (hn : n ≤ 9223372036854775807)
    (h0 : sub (clean lv st) (I 0)) (hp : p 0)
    (hstep : ∀ k, k < n → p k → IntKind.i64.wrap ((k : Int) + 1) = (k : Int) + 1 → awp P C live U w0 c (I k) (rngS (fun s => sub (clean lv s) (I (k + 1)) ∧ p (k + 1)) Q))
    (hend : p n → awp P C live U w0 c (I n) (rngS (fun _ => False) Q)) : Tr P U w0 (.loop c) st Q := by
  refine awp_loop_of (live := live) hC hm lv (α := {k : Nat // k ≤ n ∧ p k}) (fun k => I k.1) (fun k => n - k.1) ⟨0, Nat.zero_le _, hp⟩ h0 ?_
  rintro ⟨k, hk, hpk⟩
  by_cases h : k < n
  · exact awp_mono _ _ _ _ (hstep k h hpk (wrapI (by omega) (by omega))) (andThen_mono fun s hs => ⟨⟨k + 1, h, hs.2⟩, hs.1, by simp; omega⟩)
  · obtain rfl : k = n := by omega
    exact awp_mono _ _ _ _ (hend hpk) (andThen_mono fun s hs => hs.elim)
end

end Go.Proofs.Ytehfjhenilkofaa.Ax
