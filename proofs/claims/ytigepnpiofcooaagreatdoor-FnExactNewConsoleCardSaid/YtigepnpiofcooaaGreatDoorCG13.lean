/-
  The law FnExactNewConsole: it returns true. No condition.
-/
import Derived.Test.YtigepnpiofcooaaGreatDoorCG12
import Derived.Test.YtigepnpiofcooaaGreatDoorCG2
import Derived.Test.YtigepnpiofcooaaGreatDoorCK5
namespace Go.Proofs.YtigepnpiofcooaaGreatDoor.Ax
open Go Go.RowKit
set_option linter.unusedSimpArgs false
noncomputable def mSpN : List AV → Option AV := mk (fun _ => True) (fun (_ : Unit) => []) (fun _ => prof 3 false vs0)
theorem mSpN_at : mSpN [] = some (.agg [.v (.int .i64 3), .sl false 2 (vs0.map vote)]) := mk_eq (enc := fun (_ : Unit) => ([] : List AV)) (f := fun _ => prof 3 false vs0) (x := ()) (fun _ _ _ => rfl) trivial
theorem spN_ok : FnFrz Tryz.prog 4 true mSpN := by
  refine mk_frz fun _ _ => ?_
  exact specNew
theorem mark0 (vs : List Vt) (h : vmS vs vs.length ≤ 1000) : MutSt Tryz.prog 7 (.int .i64 3) (.int .i64 1) (.int .i64 (1 + vmS vs vs.length)) false 2 (vs.map vote) ((vmA 1 vs).map vote) :=
  ⟨⟨_, Tryz.func7, by kernel_rfl, by kernel_rfl⟩, by simp [vmA_len], rfl, fun w F S hd hF hS hx => markProfile_calls 3 false vs 1 ⟨by omega, by omega⟩ w F S hd hF hS hx⟩
set_option maxRecDepth 8000 in
set_option maxHeartbeats 4000000 in
theorem fnNewConsole_call : CallOk Tryz.prog 3 [] (.v (.bool true)) := by
  have hsm : smallVs vs0 := ⟨by decide, by decide⟩
  have hv : vmS vs0 vs0.length ≤ 1000 := by decide
  have d1 := mSpN_at
  obtain ⟨m2, hm2, d2⟩ := as_model implNew
  simp only [prof] at d2
  have g1 := mEqP_at 3 false vs0 3 false vs0 ⟨hsm, hsm⟩
  have g2 := mHeldP_at 3 false vs0 1 ⟨by omega, by omega⟩
  have hmk := mark0 vs0 hv
  simp only [and_self, decide_true] at g1
  have hml := vmA_len (k := 1) (vs := vs0)
  have hng : ¬ ((1 : Int) + (vmS vs0 vs0.length : Int) < 0) := by omega
  generalize vmA 1 vs0 = M at *
  generalize vmS vs0 vs0.length = z at *
  generalize vs0 = vs at *
  have hG : FnsOk Tryz.prog [(5, m2), (6, mEqP), (8, mHeldP)] := (.cons hm2 (.cons eqProfile_ok (.cons heldProfile_ok .nil)))
  have hM : FnsMut Tryz.prog [] := .nil
  have hV : FnsMov Tryz.prog [] := .nil
  have hK : FnsFrz Tryz.prog [(4, true, mSpN)] := (.cons spN_ok .nil)
  refine callOk_of_tr (C := _) (ctxH_ok eqOk hG hM hV hK) (dt := []) Tryz.func3 rfl (by kernel_rfl) (by kernel_rfl) fun w0 => ?_
  refine tr_seq (tr_awp (live := [true, true, true, true, true, true, false, false, false, false, false, true, false, false, false, false, false, false, false, true, false, false, true, false, false, false, false, true, false, false, false, false, true, false, false, true]) (ctxH_ok eqOk hG hM hV hK) mixed _ _ _ ?_)
  simp [Tryz.f3, List.range, List.range.loop, ints, intss, int, bool, row, frac, fracs, ← List.map_take, ← List.map_drop, List.all, andThen]
  refine tr_seq (tr_awp (live := [true, true, true, true, true, true, false, false, false, false, false, true, false, false, false, false, false, false, false, true, false, false, true, false, false, false, false, true, false, false, false, false, true, false, false, true]) (ctxH_ok eqOk hG hM hV hK) mixed _ _ _ ?_)
  simp [List.range, List.range.loop, ints, intss, int, bool, row, frac, fracs, ← List.map_take, ← List.map_drop, List.all, andThen, d1]
  refine tr_seq (tr_awp (live := [true, true, true, true, true, true, false, false, false, false, false, true, false, false, false, false, false, false, false, true, false, false, true, false, false, false, false, true, false, false, false, false, true, false, false, true]) (ctxH_ok eqOk hG hM hV hK) mixed _ _ _ ?_)
  simp [List.range, List.range.loop, ints, intss, int, bool, row, frac, fracs, ← List.map_take, ← List.map_drop, List.all, andThen, d2]
  refine tr_seq (tr_awp (live := [true, true, true, true, true, true, false, false, false, false, false, true, false, false, false, false, false, false, false, true, false, false, true, false, false, false, false, true, false, false, false, false, true, false, false, true]) (ctxH_ok eqOk hG hM hV hK) mixed _ _ _ ?_)
  simp [List.range, List.range.loop, ints, intss, int, bool, row, frac, fracs, ← List.map_take, ← List.map_drop, List.all, andThen, g1]
  refine tr_seq (tr_awp (live := [true, true, true, true, true, true, false, false, false, false, false, true, false, false, false, false, false, false, false, true, false, false, true, false, false, false, false, true, false, false, false, false, true, false, false, true]) (ctxH_ok eqOk hG hM hV hK) mixed _ _ _ ?_)
  simp [List.range, List.range.loop, ints, intss, int, bool, row, frac, fracs, ← List.map_take, ← List.map_drop, List.all, andThen]
  refine tr_seq (tr_mark (ctxH_ok eqOk hG hM hV hK) [_, _] [_] _ rfl rfl rfl (by simp [List.range, List.range.loop, ints, intss, int, bool, row, frac, fracs, ← List.map_take, ← List.map_drop, List.all]; rfl) (x := .int .i64 3) (k := .int .i64 1) (r := .int .i64 (1 + z)) (t := 1) (p := [(0, 1)]) (n := vs.length) (tk := ⟨true, .sl false 2 [.agg [.v (.int .i64 3), .sl false 2 (vs.map vote)]]⟩) (nl := false) (sz := 2) (es := vs.map vote) (es' := M.map vote) rfl rfl rfl rfl rfl (by simp) hmk (by simp [List.range, List.range.loop, ints, intss, int, bool, row, frac, fracs, ← List.map_take, ← List.map_drop, List.all, List.eraseIdx]; rfl) ?_)
  simp [List.range, List.range.loop, ints, intss, int, bool, row, frac, fracs, ← List.map_take, ← List.map_drop, List.all, andThen]
  refine tr_seq (tr_awp (live := [true, true, true, true, true, true, false, false, false, false, false, true, false, false, false, false, false, false, false, true, false, false, true, false, false, false, false, true, false, false, false, false, true, false, false, true]) (ctxH_ok eqOk hG hM hV hK) mixed _ _ _ ?_)
  simp [List.range, List.range.loop, ints, intss, int, bool, row, frac, fracs, ← List.map_take, ← List.map_drop, List.all, andThen]
  refine tr_seq (tr_awp (live := [true, true, true, true, true, true, false, false, false, false, false, true, false, false, false, false, false, false, false, true, false, false, true, false, false, false, false, true, false, false, false, false, true, false, false, true]) (ctxH_ok eqOk hG hM hV hK) mixed _ _ _ ?_)
  simp [List.range, List.range.loop, ints, intss, int, bool, row, frac, fracs, ← List.map_take, ← List.map_drop, List.all, andThen, g2]
  refine tr_seq (tr_awp (live := [true, true, true, true, true, true, false, false, false, false, false, true, false, false, false, false, false, false, false, true, false, false, true, false, false, false, false, true, false, false, false, false, true, false, false, true]) (ctxH_ok eqOk hG hM hV hK) mixed _ _ _ ?_)
  simp [List.range, List.range.loop, ints, intss, int, bool, row, frac, fracs, ← List.map_take, ← List.map_drop, List.all, andThen, hng]
  refine tr_seq (tr_awp (live := [true, true, true, true, true, true, false, false, false, false, false, true, false, false, false, false, false, false, false, true, false, false, true, false, false, false, false, true, false, false, false, false, true, false, false, true]) (ctxH_ok eqOk hG hM hV hK) mixed _ _ _ ?_)
  simp [List.range, List.range.loop, ints, intss, int, bool, row, frac, fracs, ← List.map_take, ← List.map_drop, List.all, andThen, hng]
  refine tr_seq (tr_awp (live := [true, true, true, true, true, true, false, false, false, false, false, true, false, false, false, false, false, false, false, true, false, false, true, false, false, false, false, true, false, false, false, false, true, false, false, true]) (ctxH_ok eqOk hG hM hV hK) mixed _ _ _ ?_)
  simp [List.range, List.range.loop, ints, intss, int, bool, row, frac, fracs, ← List.map_take, ← List.map_drop, List.all, andThen, d2]
  refine tr_awp (live := [true, true, true, true, true, true, false, false, false, false, false, true, false, false, false, false, false, false, false, true, false, false, true, false, false, false, false, true, false, false, false, false, true, false, false, true]) (ctxH_ok eqOk hG hM hV hK) mixed _ _ _ ?_
  simp [List.range, List.range.loop, ints, intss, int, bool, row, frac, fracs, ← List.map_take, ← List.map_drop, List.all, g1, g2, hng]
  done
end Go.Proofs.YtigepnpiofcooaaGreatDoor.Ax
