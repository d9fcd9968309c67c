/-
  From a law's contract to the statement's form: whatever arguments read as data of plain types, the call returns true and turns nothing that was there. No condition.
-/
import Derived.Test.YtehfjhenilkofaaAxOpen
import Derived.WalkKit
import Derived.ProofKit
import Derived.OpenShut
import Derived.ShutString
import Derived.ChangeOld
import Derived.Below
import Derived.Carry
namespace Go.Proofs.Ytehfjhenilkofaa.Ax
open Go Go.RowKit Go.ChangeShapes Go.WideShapes Go.ChangeAt

def DatL (P : Program) : List TypeId → List AV → Prop
  | [], as => as = []
  | t :: ts, as => ∃ a as', as = a :: as' ∧ DatE P t a ∧ DatL P ts as'

section
variable {H : Type} {enc : TypeId × Value → H} {P : Program} {w : World} {spare : Nat → Bool} {held : Bool}

theorem trod_arg {t : TypeId} {v : Value} {d : DataW H} {ps : List MemPlace} {r : Reach} {base : Nat} (h : DataW.Trod enc P w 0 spare held t v d ps) {m : Nat} (hp : plainB P m t = true) (hv : Value.okWide P w r base t v) :
    ∃ a : AV, Rep w (fun b => b < w.heap.size) a v ∧ a.isAgg = structB P t ∧ Dat P t a.cells := by
  obtain ⟨fuel, hf⟩ := h
  obtain ⟨as, h1, h2⟩ := trod_dat fuel m t _ _ hf hp
  cases m with
  | zero => simp [plainB] at hp
  | succ m =>
    cases hs : structB P t with
    | true =>
      unfold structB at hs
      split at hs
      · rename_i fs hu
        simp only [Value.okWide, hu] at hv
        obtain ⟨cs, rfl, _⟩ := hv
        exact ⟨.agg as, by simp only [Rep]; exact ⟨_, rfl, by simpa [Value.cells] using h1⟩, rfl, h2⟩
      · simp at hs
    | false =>
      obtain ⟨a, rfl, ha, hc⟩ := h2.one hs
      simp only [RepL] at h1
      obtain ⟨y, ys, hy, h1, rfl⟩ := h1
      have hvy : v.cells = #[v] := by
        cases hu : P.underlying t with
        | none => simp [plainB, hu] at hp
        | some d =>
          cases d with
          | bool => obtain ⟨b, rfl⟩ := okWide_bool hu hv; rfl
          | int k => obtain ⟨b, rfl⟩ := okWide_int hu hv; rfl
          | string => obtain ⟨b, rfl⟩ := okWide_string hu hv; rfl
          | slice e => obtain ⟨a, b, c, rfl⟩ := okWide_slice hu hv; rfl
          | struct fs => simp [structB, hu] at hs
          | _ => simp [plainB, hu] at hp
      rw [hvy] at hy
      simp only [List.cons.injEq, and_true] at hy
      subst hy
      have : a.cells = [a] := by rcases hc with ⟨x, rfl⟩ | ⟨_, _, _, rfl⟩ <;> rfl
      exact ⟨a, h1, ha, by rw [this]; exact h2⟩

theorem trod_args : ∀ {ts : List TypeId} {vs : List Value} {ds : List (DataW H)} {ps : List MemPlace} {r : Reach} {base : Nat}, DataW.TrodAll enc P w 0 spare held ts vs ds ps → ts.all (plainB P 30) = true →
    (∀ (j : Nat) t v, ts[j]? = some t → vs[j]? = some v → Value.okWide P w r base t v) → ∃ as, RepL w (fun b => b < w.heap.size) as vs ∧ DatL P ts as
  | [], [], [], _, _, _, h, _, _ => ⟨[], by simp [RepL], by simp [DatL]⟩
  | t :: ts, v :: vs, d :: ds, ps, r, base, h, hp, hv => by
    simp only [DataW.TrodAll] at h
    obtain ⟨p, q, h1, h2, rfl⟩ := h
    simp only [List.all_cons, Bool.and_eq_true] at hp
    obtain ⟨a, k1, k2⟩ := trod_arg h1 hp.1 (hv 0 t v rfl rfl)
    obtain ⟨as, k3, k4⟩ := trod_args h2 hp.2 (fun j t v ht hv' => hv (j + 1) t v (by simpa using ht) (by simpa using hv'))
    exact ⟨a :: as, by simp only [RepL]; exact ⟨v, vs, rfl, k1, k3⟩, by simp only [DatL]; exact ⟨a, as, rfl, k2, k4⟩⟩
  | [], _ :: _, _, _, _, _, h, _, _ => by simp [DataW.TrodAll] at h
  | [], [], _ :: _, _, _, _, h, _, _ => by simp [DataW.TrodAll] at h
  | _ :: _, [], _, _, _, _, h, _, _ => by simp [DataW.TrodAll] at h
  | _ :: _, _ :: _, [], _, _, _, h, _, _ => by simp [DataW.TrodAll] at h

theorem trodAll_below {W W' : World} (hl : laidOutB P = true) (hb : Below W.heap.size W W') : ∀ {ts : List TypeId} {vs : List Value} {ds : List (DataW H)} {ps : List MemPlace}, DataW.TrodAll enc P W 0 (fun _ => true) true ts vs ds ps →
    ts.all (fun t => P.readableRec t && decide (t < P.types.size)) = true → DataW.TrodAll enc P W' 0 (fun b => decide (b < W.heap.size)) true ts vs ds ps
  | [], [], [], _, h, _ => by simpa [DataW.TrodAll] using h
  | t :: ts, v :: vs, d :: ds, ps, h, hp => by
    simp only [DataW.TrodAll] at h ⊢
    obtain ⟨p, q, h1, h2, rfl⟩ := h
    simp only [List.all_cons, Bool.and_eq_true, decide_eq_true_eq] at hp
    exact ⟨p, q, Below.trod hl hp.1.1 hp.1.2 h1 hb (by obtain ⟨m, hm⟩ := h1; exact DataW.trod_lt m _ _ _ hm), trodAll_below hl hb h2 hp.2, rfl⟩
  | [], _ :: _, _, _, h, _ => by simp [DataW.TrodAll] at h
  | [], [], _ :: _, _, h, _ => by simp [DataW.TrodAll] at h
  | _ :: _, [], _, _, h, _ => by simp [DataW.TrodAll] at h
  | _ :: _, _ :: _, [], _, h, _ => by simp [DataW.TrodAll] at h

theorem trodAll_len : ∀ {ts : List TypeId} {vs : List Value} {ds : List (DataW H)} {ps : List MemPlace}, DataW.TrodAll enc P w 0 spare held ts vs ds ps → ds.length = ts.length
  | [], [], [], _, _ => rfl
  | t :: ts, v :: vs, d :: ds, ps, h => by
    simp only [DataW.TrodAll] at h
    obtain ⟨p, q, h1, h2, rfl⟩ := h
    simp [trodAll_len h2]
  | [], _ :: _, _, _, h => by simp [DataW.TrodAll] at h
  | [], [], _ :: _, _, h => by simp [DataW.TrodAll] at h
  | _ :: _, [], _, _, h => by simp [DataW.TrodAll] at h
  | _ :: _, _ :: _, [], _, h => by simp [DataW.TrodAll] at h
end

theorem below_of_frm {W W' : World} (h : Frm (fun _ => False) W W') : Below W.heap.size W W' := ⟨h.os, h.tape, h.output, h.size, fun k hk => h.block k hk (fun h => h)⟩

theorem framed {C : Checked} {os : Os} {started : os.Started} {H : Type} {enc : TypeId × Value → H} {f : FuncId} {fn : Func} {s : ChangeSpec} {conds : List PathCond} {tb : TypeId}
    (own : ownKnob C.prog.godebug = none) (noInit : C.prog.inits.idxOf? f = none) (hfn : C.prog.funcs[f]? = some fn)
    (witness : ∃ (w : World) (tape : Tape) (i : Input), w.os = os ∧ (w.forCall tape i).Shaped C.prog ∧ i.vars = [] ∧ Input.okWide C.prog (w.forCall tape i) .any w.heap.size f i ∧
      s.pre6 enc C.prog fn conds false (w.forCall tape i).memory i.args ∧ ({} : Assume).holds C.prog (lone (Frame.enter C.prog f i.args .normal) [] (w.forCall tape i)))
    (hl : laidOutB C.prog = true) (hp : fn.params.toList.all (plainB C.prog 30) = true) (hr : fn.params.toList.all (fun t => C.prog.readableRec t && decide (t < C.prog.types.size)) = true)
    (hres : fn.resultTypes = #[tb]) (hb : C.prog.underlying tb = some .bool) (hvars : s.vars = [])
    (hspec : ∀ ds : List (DataW H), ds.length = fn.params.toList.length → s.fn H ds = { results := [.lit (.bool true)], args := ds })
    (law : ∀ as, DatL C.prog fn.params.toList as → CallOk C.prog f as (.v (.bool true))) :
    ReturnsInHanded {} C os f .any (s.pre6 enc C.prog fn conds false) (s.post enc C.prog fn false true false false) := by
  refine returnsInHanded_of_change (C := C) own started noInit hfn witness ?_
  intro W base args ds gs before hval hW _ _
  have hW' := hW
  obtain ⟨p, q, hA, hV, rfl, _, _⟩ := hW
  rw [hvars] at hV
  obtain ⟨rfl, rfl⟩ := trodVars_none hV
  obtain ⟨as, h1, h2⟩ := trod_args hA hp (fun j t v ht hv => hval j t v (by simpa using ht) (by simpa using hv))
  refine ((law as h2).2 W (fun b => b < W.heap.size) args (fun _ h => h) h1).mono fun e W' ⟨y, S, he, hf, _, ho⟩ => ?_
  simp only [Own] at ho
  obtain ⟨rfl, _⟩ := ho
  have bel := below_of_frm hf
  refine ⟨_, he, ds, [], p ++ [], [], p, [], hW', ?_, ?_, ?_, bel.frame _, fun h => by cases h⟩
  · rw [List.append_nil, hspec ds (trodAll_len hA), hres]
    exact trodAll_mk1 ⟨1, by simp [DataW.trod, Value.cells, hb]⟩
  · rw [List.append_nil, hspec ds (trodAll_len hA)]
    exact trodAll_below hl bel hA hr
  · rw [List.append_nil, hspec ds (trodAll_len hA), hvars]
    simp [DataW.TrodVars]

end Go.Proofs.Ytehfjhenilkofaa.Ax
