/-
 Contracts: RankingOk (both programs). No condition.
-/
import Derived.Test.YtompijgfpeibnaaGreatDoorCG14
import Derived.Test.YtompijgfpeibnaaGreatDoorCG13
import Derived.Shelf.SlicesE.Index
import Derived.Test.YtompijgfpeibnaaGreatDoorCG12
namespace Go.Proofs.YtompijgfpeibnaaGreatDoor.Ax
open Go Go.RowKit
set_option linter.unusedSimpArgs false
theorem posFrom_iff {v : Int} : ∀ {xs : List Int} {k : Nat}, 0 ≤ posFrom v xs k ↔ v ∈ xs
 | [], k => by simp [posFrom]
 | x :: xs, k => by
  rw [posFrom]
  by_cases e : x = v
  ·rw [if_pos e]; subst e; simp
  ·rw [if_neg e, posFrom_iff, List.mem_cons]; exact ⟨.inr, fun h => h.resolve_left fun e' => e e'.symm⟩
theorem pos_iff {v : Int} {xs : List Int} : 0 ≤ pos xs v ↔ v ∈ xs := posFrom_iff
end Go.Proofs.YtompijgfpeibnaaGreatDoor.Ax
namespace Go.Proofs
open Go.Shelf
def Tryz.laysHas_ren : Go.Shelf.Ren := ⟨fun | 31 => 218 | 29 => 166 | n => n, fun | 22 => 27 | 23 => 3 | 4 => 4 | 3 => 3 | 0 => 0 | n => n, fun | n => n⟩
theorem Tryz.laysHas : Go.Proofs.SlLaysE.n31 Tryz.prog Tryz.laysHas_ren := {
 mixed := by kernel_rfl
 f29 := ⟨Tryz.f166.name, by decide, Tryz.func166.trans (congrArg some (by kernel_rfl))⟩
 f31 := ⟨Tryz.f218.name, by decide, Tryz.func218.trans (congrArg some (by kernel_rfl))⟩
 t0 := Tryz.underlying0
 a0 := Tryz.isAgg0
 z0 := Tryz.sizeOf0
 v0 := Tryz.zeroValue0
 t3 := Tryz.underlying3
 a3 := Tryz.isAgg3
 z3 := Tryz.sizeOf3
 v3 := Tryz.zeroValue3
 t4 := Tryz.underlying4
 a4 := Tryz.isAgg4
 z4 := Tryz.sizeOf4
 v4 := Tryz.zeroValue4
 t22 := Tryz.underlying27
 a22 := Tryz.isAgg27
 z22 := Tryz.sizeOf27
 v22 := Tryz.zeroValue27
 a23 := Tryz.isAgg3
 z23 := Tryz.sizeOf3 }
end Go.Proofs
namespace Go.Proofs.YtompijgfpeibnaaGreatDoor.Ax
open Go Go.RowKit Go.Sort
set_option linter.unusedSimpArgs false
set_option linter.unusedVariables false
def gnA (l : List Int) : AV := if l = [] then .sl true 1 [] else .sl false 1 (l.map int)
theorem gnA_inj {a b : List Int} (h : gnA a = gnA b) : a = b := by
 unfold gnA at h
 split at h <;> split at h
 ·simp_all
 ·simp at h
 ·simp at h
 ·simp only [AV.sl.injEq, true_and] at h; exact map_int_inj.1 h
def capG (l : List Int) : List AV := [.fp (gnA l) 0]
theorem any_pos {l : List Int} {x : Int} : (l.any fun y => x == y) = decide (0 ≤ pos l x) := by
 rw [Bool.eq_iff_iff, List.any_eq_true, decide_eq_true_eq, pos_iff]
 simp only [beq_iff_eq]
 exact ⟨fun ⟨y, h1, h2⟩ => h2 ▸ h1, fun h => ⟨x, h, rfl⟩⟩
set_option maxRecDepth 32000 in
set_option maxHeartbeats 4000000 in
theorem gone1_says (l : List Int) (hl : l.length ≤ 1000) : SaysOf 217 (capG l) (fun x => decide (0 ≤ pos l x)) := by
 intro w F cv x hF hcv
 simp only [capG, RepL, Rep] at hcv
 obtain ⟨y1, ys1, e1, ⟨b1, o1, z1, rfl, hz, hF1, hat1, hz1⟩, rfl⟩ := hcv
 have hcv : cv = #[.pointer (some ⟨b1, o1 + 0, none⟩)] := by
  apply Array.ext'
  rw [e1]
 subst hcv
 unfold gnA at hz hz1
 by_cases hn : l = []
 ·subst hn
  rw [if_pos rfl] at hz
  simp only [Rep] at hz
  obtain ⟨a, len, cap, rfl, hlen, _, _, hrow⟩ := hz
  have hlen : len = 0 := by simpa using hlen
  subst hlen
  have hc1 : w.cell? ⟨b1, o1, none⟩ = some (.slice a 0 cap) := hat1 0 _ (by simp [Value.cells])
  show FnGives _ _ _ _ (.bool (decide (0 ≤ pos [] x))) w
  rw [show decide (0 ≤ pos [] x) = false from rfl]
  clear hrow hat1 hz1 hF1 e1 hF hl hlen
  unfold FnGives
  show Calls Tryz.prog 217 #[.int .i64 x, .pointer (some ⟨b1, o1, none⟩)] w _
  go_enter Tryz.func217, Tryz.ntmps217
  go_wp2_with (go_at_call 218; refine (AnyE.slices_Contains_empty Tryz.laysHas a cap (.int .i64 x) _).mono ?_; rintro e w' ⟨rfl, rfl⟩)
  go_ret
  exact ⟨rfl, 0, rfl⟩
 ·rw [if_neg hn] at hz
  simp only [Rep] at hz
  obtain ⟨a, len, cap, rfl, hlen, _, _, hrow⟩ := hz
  have hlen : len = l.length := by simpa using hlen
  subst hlen
  have hc1 : w.cell? ⟨b1, o1, none⟩ = some (.slice a l.length cap) := hat1 0 _ (by simp [Value.cells])
  rcases hrow with ⟨_, h, _⟩ | ⟨b, o, rfl, _, hrow⟩ | ⟨_, _, h⟩
  ·simp at h
  ·have hcs : ∀ j, j < l.length → w.cell? ⟨b, o + j, none⟩ = some (Value.int .i64 l[j]!) := fun j hj => by
    obtain ⟨z, h1, _, _, hFb, h4⟩ := RepRow.get hrow j (int l[j]) (by rw [List.getElem?_map, List.getElem?_eq_getElem hj]; rfl)
    simp only [Rep, int] at h1
    obtain ⟨rfl, _⟩ := h1
    rw [getElem!_pos l j hj]
    simpa using h4 0 (.int .i64 l[j]) (by simp [Value.cells])
   have hany := any_pos (l := l) (x := x)
   show FnGives _ _ _ _ (.bool (decide (0 ≤ pos l x))) w
   rw [← hany]
   clear hany hrow hat1 hz1 hF1 e1 hF hlen
   have hbig : l.length ≤ 9223372036854775807 := by omega
   generalize hL : l.length = L at *
   have hzl : L ≤ l.length := by omega
   clear hl
   unfold FnGives
   show Calls Tryz.prog 217 #[.int .i64 x, .pointer (some ⟨b1, o1, none⟩)] w _
   go_enter Tryz.func217, Tryz.ntmps217
   go_wp2_with (go_at_call 218; refine (AnyE.slices_Contains Tryz.laysHas (Value.int .i64) (fun x y => x == y) (EqlAt.int _ _ _) b o L cap l x _ hzl hbig (hL ▸ hcs)).mono ?_; rintro e w' ⟨rfl, rfl⟩)
   go_ret
   rw [← hL, List.take_length]
   exact ⟨rfl, 0, rfl⟩
  ·simp only [List.map_eq_nil_iff] at h
   exact absurd h hn
noncomputable def mDelG : List AV → Option (List Nat × AV) := mkV (fun p => p.2.length ≤ 1000) (fun (p : List Int × List Int) => [ints false p.1, .fn 217 (capG p.2)]) [0] (fun p => ints false (p.1.filter fun x => !decide (0 ≤ pos p.2 x)))
theorem mDelG_at (xs l : List Int) (h : l.length ≤ 1000) : mDelG [.sl false 1 (xs.map int), .fn 217 [.fp (gnA l) 0]] = some ([0], .sl false 1 ((xs.filter fun x => !decide (0 ≤ pos l x)).map int)) := by
 have := mkV_eq (pre := fun p : List Int × List Int => p.2.length ≤ 1000) (enc := fun (p : List Int × List Int) => [ints false p.1, .fn 217 (capG p.2)]) (mv := [0]) (f := fun p => ints false (p.1.filter fun x => !decide (0 ≤ pos p.2 x))) (x := (xs, l)) (by
  rintro ⟨a, b⟩ ⟨d, e⟩ h
  simp only [ints, capG, List.cons.injEq, AV.sl.injEq, AV.fn.injEq, AV.fp.injEq, true_and, and_true, map_int_inj] at h
  obtain ⟨rfl, h⟩ := h
  rw [gnA_inj h]) h
 exact this
theorem delG_ok : FnMov Tryz.prog 216 mDelG := by
 refine mkV_ok fun ⟨xs, l⟩ h => ?_
 exact delF_ok (g := 217) (caps := capG l) (fun x => decide (0 ≤ pos l x)) (enters_of Tryz.func217 (by kernel_rfl) rfl) (gone1_says l h) xs
open Go Go.RowKit
def intsOf : List AV → Option (List Int)
 | [] => some []
 | .v (.int .i64 n) :: es => (match intsOf es with
  | some ns => some (n :: ns)
  | none => none)
 | _ :: _ => none
theorem intsOf_ok : ∀ {es : List AV} {ns : List Int}, intsOf es = some ns → es = ns.map int
 | [], _, h => by simp only [intsOf, Option.some.injEq] at h; subst h; rfl
 | e :: es, ns, h => by
  unfold intsOf at h
  split at h
  ·rename_i e; simp at e
  ·rename_i s es' e
   simp only [List.cons.injEq] at e
   obtain ⟨rfl, rfl⟩ := e
   split at h
   ·rename_i ws' hw
    simp only [Option.some.injEq] at h; subst h
    rw [List.map_cons, ← intsOf_ok hw]; rfl
   ·simp at h
  ·simp at h
def b_delete (args : List AV) : Option (List Nat × AV) := match args with
 | [.sl false 1 es, .v (.int .i64 (.ofNat i)), .v (.int .i64 (.ofNat j))] => (match intsOf es with
  | some xs => if i ≤ j ∧ j ≤ xs.length then some ([0], .sl false 1 ((xs.take i ++ xs.drop j).map int)) else none
  | none => none)
 | _ => none
def gnOf : AV → Option (List Int)
 | .sl true 1 [] => some []
 | .sl false 1 es => (match intsOf es with
  | some (x :: xs) => some (x :: xs)
  | _ => none)
 | _ => none
theorem gnOf_ok {a : AV} {l : List Int} (h : gnOf a = some l) : a = gnA l := by
 unfold gnOf at h
 split at h
 ·simp only [Option.some.injEq] at h; subst h; rfl
 ·split at h
  ·rename_i x xs hx
   simp only [Option.some.injEq] at h; subst h
   rw [intsOf_ok hx]; simp [gnA]
  ·simp at h
 ·simp at h
def b_delF (args : List AV) : Option (List Nat × AV) := match args with
 | [.sl false 1 es, .fn g [.fp a 0]] => (match intsOf es, gnOf a with
  | some xs, some l => if g = 217 ∧ l.length ≤ 1000 then some ([0], .sl false 1 ((xs.filter fun x => !decide (0 ≤ pos l x)).map int)) else none
  | _, _ => none)
 | _ => none
def baseLV (f : FuncId) (args : List AV) : Option (List Nat × AV) := if f = 172 then b_delete args else if f = 216 then b_delF args else none
theorem baseLV_ok (f : FuncId) (args : List AV) (mv : List Nat) (r : AV) (h : baseLV f args = some (mv, r)) : MovOk Tryz.prog f args mv r := by
 unfold baseLV at h
 split at h
 ·rename_i e; subst e
  unfold b_delete at h
  split at h
  ·rename_i es i j
   split at h
   ·rename_i xs hx
    split at h
    ·rename_i hc
     simp only [Option.some.injEq, Prod.mk.injEq] at h
     obtain ⟨rfl, rfl⟩ := h
     rw [intsOf_ok hx]
     exact delete_ok _ _ _ (mDel_at xs i j hc)
    ·simp at h
   ·simp at h
  ·simp at h
 ·split at h
  ·rename_i e; subst e
   unfold b_delF at h
   split at h
   ·rename_i es g a
    split at h
    ·rename_i xs l hx hl
     split at h
     ·rename_i hc
      obtain ⟨rfl, hc⟩ := hc
      simp only [Option.some.injEq, Prod.mk.injEq] at h
      obtain ⟨rfl, rfl⟩ := h
      rw [intsOf_ok hx, gnOf_ok hl]
      exact delG_ok _ _ _ (mDelG_at xs l hc)
     ·simp at h
    ·simp at h
   ·simp at h
  ·simp at h
end Go.Proofs.YtompijgfpeibnaaGreatDoor.Ax
