/-
  A part of a slice, of a string. No condition.
-/
import Derived.Test.YtehfjhenilkofaaAxMore
namespace Go.Proofs.Ytehfjhenilkofaa.Ax
open Go Go.RowKit
section
variable {P : Program} {C : Ctx} {o : Oper} {a : Act} {w : World} {U : Ld} {w0 : World} {st : ASt} {E : Env}

theorem ev_bnd (hs : SR U w0 st E a w) {x : Option Operand} {d n : Nat} (h : bndOf st.slots d x = some n) : (x = none ∧ n = d) ∨ ∃ y k, x = some y ∧ a.eval y = .int k n := by
  cases x with
  | none => simp [bndOf] at h; exact .inl ⟨rfl, h.symm⟩
  | some y =>
    simp only [bndOf] at h
    obtain ⟨k, hk⟩ := ev_int hs h
    exact .inr ⟨y, k, rfl, hk⟩

/-- The slice over elements l .. h of a slice. -/
def partOf (ad : Option Addr) (cap sz l h : Nat) : Value := .slice (if cap = l then ad else ad.map (·.add (l * sz))) (h - l) (cap - l)

theorem run_part {t : TypeId} {ti te : TI} {el : TypeId} {x : Operand} {lo hi : Option Operand} (ho : o.op = .slice t x lo hi none) (ht : TOk P t ti) (hd : ti.desc = .slice el) (hte : TOk P el te)
    {ad : Option Addr} {len cap l h : Nat} (hx : a.eval x = .slice ad len cap) (hl : (lo = none ∧ l = 0) ∨ ∃ y k, lo = some y ∧ a.eval y = .int k l) (hh : (hi = none ∧ h = len) ∨ ∃ y k, hi = some y ∧ a.eval y = .int k h)
    (h1 : l ≤ h) (h2 : h ≤ len) (h3 : len ≤ cap) : (execOp a.eval o).run P w = .ok (.value (partOf ad cap te.size l h)) w := by
  have hu := Go.run_underlying (P := P) ht.desc
  rw [hd] at hu
  have hsz := run_size (P := P) (w := w) hte
  have e1 : (l : Int) ≤ h := by omega
  have e2 : (h : Int) ≤ cap := by omega
  rcases hl with ⟨rfl, rfl⟩ | ⟨y, k, rfl, hy⟩ <;> rcases hh with ⟨rfl, rfl⟩ | ⟨z, k', rfl, hz⟩
  · simp [execOp, ho, Instr.sliceAt, hu, hx, Instr.slice, Instr.sliceBounds, hsz, partOf]
  · simp [execOp, ho, Instr.sliceAt, hu, hx, Instr.slice, Instr.sliceBounds, hsz, partOf, hz, run_sliceBound, e2]
  · simp [execOp, ho, Instr.sliceAt, hu, hx, Instr.slice, Instr.sliceBounds, hsz, partOf, hy, run_sliceBound, e1]
  · simp [execOp, ho, Instr.sliceAt, hu, hx, Instr.slice, Instr.sliceBounds, hsz, partOf, hy, hz, run_sliceBound, e1, e2]

theorem add_zero_addr (x : Addr) : x.add 0 = x := by simp [Addr.add]

/-- A part of a part. -/
theorem ViewOf.part {hv v : Value} {sz lo n l h : Nat} {ad : Option Addr} {len cap : Nat} (hvw : ViewOf hv sz lo n v) (hx : v = .slice ad len cap) (h1 : l ≤ h) (h2 : h ≤ n)
    (hcap : ∀ b o hl hc, hv = .slice (some ⟨b, o, none⟩) hl hc → lo + n ≤ hc) (hnil : hv = .slice none 0 0 → n = 0) : ViewOf hv sz (lo + l) (h - l) (partOf ad cap sz l h) := by
  subst hx
  rcases hvw with ⟨e1, e2⟩ | ⟨rfl, e2, x, c, e3⟩ | ⟨b, o, hl, hc, o', e1, e2, e3⟩
  · simp only [Value.slice.injEq] at e2
    obtain ⟨rfl, rfl, rfl⟩ := e2
    have := hnil e1
    obtain rfl : l = 0 := by omega
    obtain rfl : h = 0 := by omega
    exact .inl ⟨e1, by simp [partOf]⟩
  · obtain rfl : l = 0 := by omega
    obtain rfl : h = 0 := by omega
    refine .inr (.inl ⟨rfl, ?_, x, c, e3⟩)
    rw [e3] at e2 ⊢
    simp only [Value.slice.injEq] at e2
    obtain ⟨rfl, rfl, rfl⟩ := e2
    simp [partOf, add_zero_addr]
  · simp only [Value.slice.injEq] at e2
    obtain ⟨rfl, rfl, rfl⟩ := e2
    have hle := hcap b o hl hc e1
    have hmul : (lo + l) * sz = lo * sz + l * sz := Nat.add_mul _ _ _
    refine .inr (.inr ⟨b, o, hl, hc, if hc - lo = l then o' else o' + l * sz, e1, ?_, ?_⟩)
    · simp only [partOf]
      split
      · rw [Nat.sub_sub]
      · rw [Nat.sub_sub]; simp [add_addr]
    · split
      · rename_i e
        by_cases hl0 : lo + l = 0
        · left
          have : lo = 0 := by omega
          have hl' : l = 0 := by omega
          subst this; subst hl'
          rcases e3 with e3 | e3
          · simpa using e3
          · exact (e3.2.1 rfl).elim
        · right
          refine ⟨by omega, hl0, ?_⟩
          rcases e3 with e3 | e3
          · omega
          · have := e3.2.2; omega
      · rename_i e
        rcases e3 with e3 | e3
        · left; omega
        · omega

theorem goes_slice (hC : C.Ok P) (hs : SR U w0 st E a w) {t : TypeId} {x : Operand} {lo hi mx : Option Operand} (ho : o.op = .slice t x lo hi mx) {out : Out} (h : aop C (.slice t x lo hi mx) st.slots st.toks = some out) : Goes P o a w U w0 out := by
  cases mx with
  | some m => simp [aop] at h
  | none =>
    simp only [aop] at h
    split at h
    · rename_i ti hti
      have ht := hC.T t ti hti
      split at h
      · rename_i el nl sz es hd hx
        split at h
        · rename_i te l hh hte hlo hhi
          split at h
          · rename_i hcond
            obtain ⟨hsz, h1, h2⟩ := hcond
            simp only [Option.some.injEq] at h; subst h
            have hxv := hs.ev x
            rw [hx] at hxv
            simp only [SRep] at hxv
            have hr := hxv
            simp only [Rep] at hr
            obtain ⟨ad, len, cap, hy, g1, g2, g3, g4⟩ := hr
            rw [← g1] at hhi h2
            have hrun := run_part (w := w) ho ht hd (hC.T _ _ hte) hy (ev_bnd hs hlo) (ev_bnd hs hhi) h1 h2 g2
            refine goes_pure (y := partOf ad cap te.size l hh) hs hrun ?_
            simp only [SRep]
            have hvw : ViewOf (a.eval x) sz 0 len (a.eval x) := by
              rw [hy]
              rcases g4 with ⟨rfl, _, rfl, rfl⟩ | ⟨b, o', rfl, _, _⟩ | ⟨⟨z, rfl⟩, _, he⟩
              · exact .inl ⟨rfl, rfl⟩
              · exact .inr (.inr ⟨b, o', len, cap, o', rfl, by simp, .inl (by omega)⟩)
              · have : len = 0 := by rw [g1, he]; rfl
                subst this
                exact .inr (.inl ⟨rfl, rfl, z, cap, rfl⟩)
            have := hvw.part hy h1 h2 (fun b o' hl hc e => by rw [hy] at e; simp only [Value.slice.injEq] at e; omega) (fun e => by rw [hy] at e; simp only [Value.slice.injEq] at e; omega)
            rw [hsz]
            rw [Nat.zero_add] at this
            exact hxv.view this (by omega)
          · simp at h
        · simp at h
      · rename_i el k p lo0 n hd hx
        split at h
        · rename_i te l hh tk hte hlo hhi htk
          split at h
          · rename_i nl sz es hg
            split at h
            · rename_i hcond
              obtain ⟨hsz, h1, h2, h3⟩ := hcond
              simp only [Option.some.injEq] at h; subst h
              have hxv := hs.ev x
              rw [hx] at hxv
              simp only [SRep] at hxv
              obtain ⟨hv, q1, q2⟩ := hxv.2 tk nl sz es htk hg h3
              obtain ⟨hv', k1, k2⟩ := (hs.tokOk k tk htk).follow hg
              have : hv = hv' := by have := k1 w (Agree.refl _ _); rw [q1] at this; exact Option.some.inj this
              subst this
              have hr := k2.rep
              simp only [Rep] at hr
              obtain ⟨ad0, len0, cap0, hy0, g1, g2, g3, _⟩ := hr
              obtain ⟨ad, cap, hy⟩ : ∃ ad cap, a.eval x = .slice ad n cap ∧ n ≤ cap := by
                rcases q2 with ⟨e1, e2⟩ | ⟨rfl, e2, z, c, e3⟩ | ⟨b, o1, hl, hc, o2, e1, e2, e3⟩
                · rw [e1] at hy0
                  simp only [Value.slice.injEq] at hy0
                  exact ⟨none, 0, by rw [e2, show n = 0 by omega], by omega⟩
                · exact ⟨some z, c, by rw [e2, e3], by omega⟩
                · rw [e1] at hy0
                  simp only [Value.slice.injEq] at hy0
                  exact ⟨_, _, e2, by omega⟩
              obtain ⟨hy, hnc⟩ := hy
              have hrun := run_part (w := w) ho ht hd (hC.T _ _ hte) hy (ev_bnd hs hlo) (ev_bnd hs hhi) h1 h2 hnc
              refine goes_pure (y := partOf ad cap te.size l hh) hs hrun ?_
              simp only [SRep]
              refine ⟨hxv.1, fun tk' nl' sz' es' c1 c2 c3 => ?_⟩
              rw [htk] at c1; obtain rfl := Option.some.inj c1
              rw [hg] at c2; simp only [AV.sl.injEq] at c2; obtain ⟨rfl, rfl, rfl⟩ := c2
              refine ⟨hv, q1, ?_⟩
              rw [hsz]
              exact q2.part hy h1 h2 (fun b o' hl hc e => by rw [hy0] at e; simp only [Value.slice.injEq] at e; omega) (fun e => by rw [hy0] at e; simp only [Value.slice.injEq] at e; omega)
            · simp at h
          · simp at h
        · simp at h
      · rename_i s hd hx
        split at h
        · rename_i l hh hlo hhi
          split at h
          · rename_i hcond
            obtain ⟨h1, h2⟩ := hcond
            simp only [Option.some.injEq] at h; subst h
            have hy := SRep_v (hs.ev x) hx
            refine goes_pure (y := .string (s.extract l hh)) hs ?_ (by simp [SRep, Value.oneCell'])
            have hu := Go.run_underlying (P := P) ht.desc
            rw [hd] at hu
            have e1 : (l : Int) ≤ hh := by omega
            have e2 : (hh : Int) ≤ s.size := by omega
            rcases ev_bnd hs hlo with ⟨rfl, rfl⟩ | ⟨y, k, rfl, hyv⟩ <;> rcases ev_bnd hs hhi with ⟨rfl, rfl⟩ | ⟨z, k', rfl, hz⟩
            · simp [execOp, ho, Instr.sliceAt, hu, hy, Instr.slice, Instr.sliceBounds]
            · simp [execOp, ho, Instr.sliceAt, hu, hy, Instr.slice, Instr.sliceBounds, hz, run_sliceBound, e2]
            · simp [execOp, ho, Instr.sliceAt, hu, hy, Instr.slice, Instr.sliceBounds, hyv, run_sliceBound, e1]
            · simp [execOp, ho, Instr.sliceAt, hu, hy, Instr.slice, Instr.sliceBounds, hyv, hz, run_sliceBound, e1, e2]
          · simp at h
        · simp at h
      · simp at h
    · simp at h

end
end Go.Proofs.Ytehfjhenilkofaa.Ax
