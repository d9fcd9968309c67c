/-
  Contracts: slices.DeleteFunc over ints: the row is handed over, what is kept comes back. No condition.
-/
import Derived.Test.YtmeokgedldnohaaDoorCG86
import Derived.Ground.SlgfProg
import Derived.Shelf.SlicesE.DeleteFunc
namespace Go.Proofs
shelf_lay_g SlLaysH.n10 Slgf 10 at Tryd 80 as Tryd.laysDelF
end Go.Proofs
namespace Go.Proofs.YtmeokgedldnohaaDoor.Ax
open Go Go.RowKit Go.Sort
set_option linter.unusedSimpArgs false

/-- What a closure is asked: it says p x wherever its captured values read so. -/
def SaysOf (g : FuncId) (caps : List AV) (p : Int → Bool) : Prop :=
  ∀ (w : World) (F : Nat → Prop) (cv : Array Value) (x : Int), (∀ b, F b → b < w.heap.size) → RepL w F caps cv.toList → FnGives Tryd.prog g cv #[.int .i64 x] (.bool (p x)) w

theorem delF_ok {g : FuncId} {caps : List AV} (p : Int → Bool) (eg : ∀ args w, (callFunc g args).run Tryd.prog w = .ok (.enter g args) w) (hg : SaysOf g caps p) (xs : List Int) :
    MovOk Tryd.prog 80 [ints false xs, .fn g caps] [0] (ints false (xs.filter fun x => !p x)) := by
  refine ⟨⟨_, Tryd.func80, by kernel_rfl, by kernel_rfl⟩, fun w F S vals hF hS hlen hargs hown => ?_⟩
  have h1 := hargs 1 _ (by simp) rfl
  obtain ⟨y1, e1, h1⟩ := h1
  simp only [Rep] at h1
  obtain ⟨cv, rfl, hcv⟩ := h1
  simp only [List.map_cons, List.map_nil, OwnL, List.getD_cons_zero] at hown
  obtain ⟨y0, ys0, S1, S2, e0, hS1, _, _, hown, _⟩ := hown
  have e0' : vals.getD 0 undef = y0 := by
    have := congrArg (fun l : List Value => l.head?) e0
    simpa using this
  obtain ⟨ad, len, cap, hy, l1, l2, l3, l4⟩ := Excl.of_own hown
  rcases l4 with ⟨_, hnl, _⟩ | ⟨b, o, cs, T, rfl, _, hb, hh, hfit, hrow⟩
  · simp at hnl
  have hlx : len = xs.length := by simpa using l1
  subst hlx
  have hvals : vals = #[.slice (some ⟨b, o, none⟩) xs.toArray.size cap, .func (.func g) #[] cv] := by
    apply Array.ext'
    have hsz : vals.toList.length = 2 := by simpa using hlen
    match hv : vals.toList, hsz with
    | [a0, a1], _ =>
      have g0 : vals[0]? = some a0 := by rw [← Array.getElem?_toList, hv]; rfl
      have g1 : vals[1]? = some a1 := by rw [← Array.getElem?_toList, hv]; rfl
      rw [g1] at e1; obtain rfl := Option.some.inj e1
      rw [Array.getD_eq_getD_getElem?, g0] at e0'
      simp only [Option.getD_some] at e0'
      rw [e0', hy]; simp
  subst hvals
  have hH := holds_of hh hrow
  have hSb := hS b (hS1 b hb)
  have hFl := hF.1
  have hp : PredAt Tryd.prog g cv (Value.int .i64) p w := fun W x hbl =>
    hg W F cv x (fun c hc => Nat.lt_of_lt_of_le (hFl c hc) hbl.size) (RepL.agree (fun _ h => h) (fun c hc => hbl.block c (hFl c hc)) _ _ hcv)
  have hpo : PredOver Tryd.prog g cv (Value.int .i64) p b o xs.toArray.size w := fun n os dk x _ =>
    hg _ F cv x (fun c hc => by
        have := hFl c hc
        have e : (putRow (Value.int .i64) (Sort.ahead w n) b o dk).heap.size = w.heap.size := by rw [size_putRow]; rfl
        show c < ((putRow (Value.int .i64) (Sort.ahead w n) b o dk).heap ++ os).size
        rw [Array.size_append]; omega)
      (RepL.agree (fun _ h => h) (fun c hc => by
        have e : (putRow (Value.int .i64) (Sort.ahead w n) b o dk).heap.size = w.heap.size := by rw [size_putRow]; rfl
        have hcb : c ≠ b := fun e => hSb.2 (e ▸ hc)
        rw [show (sortWorld (Value.int .i64) w b o n dk os).heap[c]? = (putRow (Value.int .i64) (Sort.ahead w n) b o dk).heap[c]? from heap_grow_old _ os (by rw [e]; exact hFl c hc)]
        exact putRow_heap hcb) _ _ hcv)
  refine (AnyE.slices_DeleteFunc Tryd.laysDelF (Value.int .i64) (fun _ => rfl) p g cv eg 0 (fun w => by kernel_rfl) b o cap xs.toArray w hp hpo hH (by have := Nat.le_trans l2 l3; simpa [maxLen] using this) (by simpa using l2)).mono fun e w' h => ?_
  obtain ⟨rfl, q, rfl⟩ := h
  have hl : (xs.filter fun x => !p x).length ≤ xs.length := List.length_filter_le _ _
  have := put_mov (S := S) (q := q) (ys := xs.filter fun x => !p x) (zs := List.replicate (xs.toArray.size - (xs.filter fun x => !p x).length) 0) (hS1 b hb) (fun c hc => (hS c hc).1) hh (by simpa using hfit) hH (by simp; omega) (by simpa using l2) l3
  obtain ⟨S', k1, k2, k3⟩ := this
  exact ⟨_, S', rfl, k1, k2, k3⟩

end Go.Proofs.YtmeokgedldnohaaDoor.Ax
