/-
 'copy' within rows of numbers; conversions; the bytes of a string; a slice held against nil. No condition.
-/
import Derived.Test.YtompijgfpeibnaaGreatDoorCK2
namespace Go.Proofs.YtompijgfpeibnaaGreatDoor.Ax
open Go Go.RowKit
section
variable {P : Program} {C : Ctx} {o : Oper} {a : Act} {w : World} {U : Ld} {w0 : World} {st : ASt} {E : Env}
theorem SR.turnN {w' : World} {slots : List AV} {toks : List Tok} (h : SR U w0 ⟨slots, toks⟩ E a w) {k : Nat} {tk : Tok} {d' nl : Bool} {sz : Nat} {es es' : List AV} (htk : toks[k]? = some tk) (hrow : tk.row = .sl nl sz es) (hlen : es'.length = es.length)
  (hfr : Frm (fun b => E.S k b) w w') (hx : Excl w' d' E.F (E.S k) nl sz es' (E.hd k)) : ∃ E', E'.F = E.F ∧ SR U w0 ⟨slots.map (killN k), toks.set k ⟨d', .sl nl sz es'⟩⟩ E' a w' := by
 have hlt : k < toks.length := (List.getElem?_eq_some_iff.1 htk).1
 have hother : ∀ t, t ≠ k → ∀ b, E.S t b → w'.heap[b]? = w.heap[b]? := fun t ht b hb => hfr.block b (h.slt t b hb).1 (h.sep t k b ht hb)
 have hFs : ∀ b, E.F b → w'.heap[b]? = w.heap[b]? := fun b hb => hfr.block b (h.flt b hb) fun hk => (h.slt k b hk).2.1 hb
 have hfol : ∀ t tk2 p nl2 sz2 es2, t ≠ k → toks[t]? = some tk2 → getAt tk2.row p = .sl nl2 sz2 es2 → ∀ v, follow w tk2.row (E.hd t) p = some v → follow w' tk2.row (E.hd t) p = some v := by
  intro t tk2 p nl2 sz2 es2 hne h1 h2 v hv
  rcases h.tokOk t tk2 h1 with hj | ⟨nl0, sz0, es0, e1, e2⟩
  ·rw [hj] at h2; cases p <;> simp [getAt] at h2
  ·rw [e1] at h2 hv ⊢
   obtain ⟨v', g1, _⟩ := follow_ok p _ _ nl2 sz2 es2 e2.own h2
   have : v = v' := by have := g1 w (Agree.refl _ _); rw [hv] at this; exact Option.some.inj this
   subst this
   exact g1 w' fun b hb => hb.elim (hFs b) (hother t hne b)
 obtain ⟨E', e1, _, _, e4⟩ := h.setTok (slots' := slots.map (killN k)) (tk' := ⟨d', .sl nl sz es'⟩) htk (E.hd k) (E.S k) hfr (fun b hb => .inl hb) (.inr ⟨nl, sz, es', rfl, hx⟩) (by simp) fun E' q1 q2 q3 q4 i x hi => by
  rw [List.getElem?_map, Option.map_eq_some_iff] at hi
  obtain ⟨x0, hx0, rfl⟩ := hi
  refine SRep.chgN (E := E) (E' := E') (toks := toks) hFs (fun b hb => by rw [q1]; exact hb) (fun t p lo n y hn hr => ?_) (fun t p i' j y hn hr => ?_) x0 _ (h.slot i x0 hx0)
  ·refine ⟨by simpa using hr.1, fun tk2 nl2 sz2 es2 k1 k2 k3 => ?_⟩
   by_cases hk : t = k
   ·subst hk
    have hp : p = [] := by
     by_cases hp : p = []
     ·exact hp
     ·exact (hn ⟨rfl, hp⟩).elim
    subst hp
    rw [List.getElem?_set_self hlt] at k1
    obtain rfl := Option.some.inj k1
    simp only [getAt, AV.sl.injEq] at k2
    obtain ⟨rfl, rfl, rfl⟩ := k2
    obtain ⟨hv, g1, g2⟩ := hr.2 tk nl sz es htk (by simp [getAt, hrow]) (by omega)
    simp only [follow, Option.some.injEq] at g1
    exact ⟨hv, by simp only [follow]; rw [q2, g1], g2⟩
   ·rw [List.getElem?_set_ne (fun h => hk h.symm)] at k1
    obtain ⟨hv, g1, g2⟩ := hr.2 tk2 nl2 sz2 es2 k1 k2 k3
    exact ⟨hv, by rw [q3 t hk]; exact hfol t tk2 p nl2 sz2 es2 hk k1 k2 hv g1, g2⟩
  ·refine ⟨by simpa using hr.1, fun tk2 nl2 sz2 es2 k1 k2 k3 => ?_⟩
   by_cases hk : t = k
   ·subst hk
    have hp : p = [] := by
     by_cases hp : p = []
     ·exact hp
     ·exact (hn ⟨rfl, hp⟩).elim
    subst hp
    rw [List.getElem?_set_self hlt] at k1
    obtain rfl := Option.some.inj k1
    simp only [getAt, AV.sl.injEq] at k2
    obtain ⟨rfl, rfl, rfl⟩ := k2
    obtain ⟨b, o', hl, hc, g1, g2⟩ := hr.2 tk nl sz es htk (by simp [getAt, hrow]) (by omega)
    simp only [follow, Option.some.injEq] at g1
    exact ⟨b, o', hl, hc, by simp only [follow]; rw [q2, g1], g2⟩
   ·rw [List.getElem?_set_ne (fun h => hk h.symm)] at k1
    obtain ⟨b, o', hl, hc, g1, g2⟩ := hr.2 tk2 nl2 sz2 es2 k1 k2 k3
    exact ⟨b, o', hl, hc, by rw [q3 t hk]; exact hfol t tk2 p nl2 sz2 es2 hk k1 k2 _ g1, g2⟩
 exact ⟨E', e1, e4⟩
theorem Own.scalRow {d : Bool} {F S : Nat → Prop} {b sz : Nat} {o' : Nat} {es : List AV} (h : OwnRow w d F S b sz o' es) (hs : es.all Ax.scal = true) {d' : Bool} {F' S' : Nat → Prop} : OwnRow w d' F' S' b sz o' es :=
 OwnRow.scal_of (fun i e he => by
  obtain ⟨x, k1, k2, k3, k4⟩ := OwnRow.get h i e he
  exact ⟨x, _, k1.rep, k2, k3, k4⟩) hs
theorem RepRow.scalRow {F : Nat → Prop} {b sz : Nat} {o' : Nat} {es : List AV} (h : RepRow w F b sz o' es) (hs : es.all scal = true) {d' : Bool} {F' S' : Nat → Prop} : OwnRow w d' F' S' b sz o' es :=
 OwnRow.scal_of (fun i e he => by
  obtain ⟨x, k1, k2, k3, _, k4⟩ := RepRow.get h i e he
  exact ⟨x, _, k1, k2, k3, k4⟩) hs
theorem goes_copy (hC : C.Ok P) (hs : SR U w0 st E a w) {args : Array Operand} {ts : Array TypeId} (ho : o.op = .call { callee := .builtin .copy, args := args, argTypes := ts }) {out : Out}
  (h : aop C (.call { callee := .builtin .copy, args := args, argTypes := ts }) st.slots st.toks = some out) : Goes P o a w U w0 out := by
 simp only [aop] at h
 split at h
 rotate_left
 ·simp at h
 rename_i x y t t2 hargs hts
 split at h
 rotate_left
 ·simp at h
 rename_i ti k lo n nl2 sz' ys hti hxe hye
 split at h
 rotate_left
 ·simp at h
 rename_i el tk hd htk
 split at h
 rotate_left
 ·simp at h
 rename_i te nl sz es hte hrow
 split at h
 rotate_left
 ·simp at h
 rename_i hcond
 obtain ⟨rfl, rfl, hpos, hle, hse, hsy⟩ := hcond
 change es.all scal = true at hse
 change ys.all scal = true at hsy
 simp only [Option.some.injEq] at h; subst h
 have ha : args = #[x, y] := by cases args; simp_all
 have hts' : ts = #[t, t2] := by cases ts; simp_all
 subst ha
 subst hts'
 have hu := (hC.T t ti hti).desc
 rw [hd] at hu
 have hte' := hC.T _ te hte
 obtain ⟨i, hi, hi1, hi2, hi3⟩ := hte'.info
 have hxv := hs.ev x
 rw [hxe] at hxv
 simp only [SRep] at hxv
 obtain ⟨hv, g1, g2⟩ := hxv.2 tk nl te.size es htk (by simp [getAt, hrow]) hle
 simp only [follow, Option.some.injEq] at g1
 subst g1
 have hexc : Excl w tk.deep E.F (E.S k) nl te.size es (E.hd k) := by
  rcases hs.tokOk k tk htk with hj | ⟨nl', sz', es', e1, e2⟩
  ·rw [hrow] at hj; simp at hj
  ·rw [hrow] at e1; simp only [AV.sl.injEq] at e1; obtain ⟨rfl, rfl, rfl⟩ := e1; exact e2
 have hyv := SRep.res hs.tokOk _ _ (hs.ev y)
 rw [hye] at hyv
 simp only [Rep] at hyv
 obtain ⟨ad2, len2, cap2, hvy, q1, q2, q3, q4⟩ := hyv
 generalize hm : min ys.length n = m
 have hmy : m ≤ ys.length := by omega
 have hmn : m ≤ n := by omega
 -- the cells that are copied
 obtain ⟨news, hnl, hone, hnc, hsrc⟩ : ∃ news : List Value, news.length = m * te.size ∧ (∀ v ∈ news, v.oneCell' = true) ∧ (m = 0 ∨ ∃ b2 o2, ad2 = some ⟨b2, o2, none⟩ ∧ ∀ j v, news[j]? = some v → w.cell? ⟨b2, o2 + j, none⟩ = some v) ∧
   (m = 0 ∨ ∃ b2 o2, ad2 = some ⟨b2, o2, none⟩ ∧ OwnRow w tk.deep (fun _ => False) (fun _ => False) b2 te.size o2 (ys.take m)) := by
  by_cases h0 : m = 0
  ·exact ⟨[], by simp [h0], by simp, .inl h0, .inl h0⟩
  ·rcases q4 with ⟨_, _, q4, _⟩ | ⟨b2, o2, rfl, _, q4⟩ | ⟨_, _, rfl⟩
   ·omega
   ·have hr := OwnRow.take m (RepRow.scalRow (d' := tk.deep) (F' := fun _ => False) (S' := fun _ => False) q4 hsy)
    have hfl : ((ys.take m).all fun e => flat e.cells) = true := by
     rw [List.all_eq_true] at hsy ⊢
     exact fun e he => flat_scal (hsy e (List.mem_of_mem_take he))
    obtain ⟨l, l1, l2, l3⟩ := hr.list hfl
    refine ⟨l, by rw [l1, List.length_take]; congr 1; omega, l3, .inr ⟨b2, o2, rfl, l2⟩, .inr ⟨b2, o2, rfl, hr⟩⟩
   ·simp at hm; omega
 have hfirst : (Builtin.firstCells te.size m (.slice ad2 len2 cap2)).run P w = .ok news.toArray w := by
  rcases hnc with rfl | ⟨b2, o2, rfl, hnc⟩
  ·have : news = [] := List.eq_nil_of_length_eq_zero (by simpa using hnl)
   subst this
   cases ad2 with
   | none => simp [Builtin.firstCells]
   | some a2 => exact run_firstCells_some w te.size 0 a2 len2 cap2 [] (by simp) (by simp)
  ·exact run_firstCells_some w te.size m ⟨b2, o2, none⟩ len2 cap2 news hnl (fun j v hj => by rw [add_addr]; exact hnc j v hj)
 intro hd0 next hn
 have hdst : ∃ ad c, a.eval x = .slice ad n c := by
  rcases g2 with ⟨q, q'⟩ | ⟨rfl, q, x0, c, q'⟩ | ⟨b, o1, hl, hc, o2, _, q, _⟩
  ·obtain ⟨_, _, _, hh, h1, h2, _⟩ := hexc
   rw [q] at hh; simp only [Value.slice.injEq] at hh
   obtain ⟨_, rfl, rfl⟩ := hh
   have hn0 : n = 0 := by omega
   exact ⟨none, 0, by rw [q', hn0]⟩
  ·exact ⟨_, _, by rw [q, q']⟩
  ·exact ⟨_, _, q⟩
 obtain ⟨ad, c, hvx⟩ := hdst
 have hrun : ∀ w', (match ad with | some ad => storeCells ad news | none => pure ()).run P w = .ok () w' → (execOp a.eval o).run P w = .ok (.value (.int .i64 (m : Int))) w' := by
  intro w' hst
  have hmin : Nat.min len2 n = m := by rw [q1]; exact hm
  have hb : (Builtin.copy_ #[t, t2] o.type #[.slice ad n c, .slice ad2 len2 cap2]).run P w = .ok (.int .i64 (m : Int)) w' := by
   have hsz := run_size (P := P) (w := w) hte'
   cases ad with
   | none =>
    simp only [Sem.run_pure] at hst
    cases hst
    simp [Builtin.copy_, run_underlying hu, Builtin.lenOf, hmin, hsz, hfirst, goInt]
   | some ad =>
    simp only at hst
    simp [Builtin.copy_, run_underlying hu, Builtin.lenOf, hmin, hsz, hfirst, goInt, hst]
  simp only [execOp, ho, resolve, invoke, builtin, Sem.run_bind, Sem.run_pure, Result.andThen_ok, List.map_toArray, List.map_cons, List.map_nil, hvx, hvy, hb]
 have hesl : (es.take lo ++ ys.take m ++ es.drop (lo + m)).length = es.length := by simp; omega
 by_cases h0 : m = 0
 ·have hnews : news = [] := List.eq_nil_of_length_eq_zero (by rw [hnl, h0]; simp)
  have hes' : es.take lo ++ ys.take m ++ es.drop (lo + m) = es := by rw [h0]; simp
  obtain ⟨E', _, e4⟩ := hs.turnN (slots := st.slots) (toks := st.toks) (d' := tk.deep) (w' := w) (es' := es.take lo ++ ys.take m ++ es.drop (lo + m)) htk hrow hesl (Frm.refl _ _) (by rw [hes']; exact hexc)
  refine wp_val (y := .int .i64 (m : Int)) (w' := w) (hrun w ?_) (hn E' _ _ (SR.put e4 o.dst hd0 (by simp [SRep, Value.oneCell'])))
  subst hnews
  cases ad with
  | none => rfl
  | some ad => rfl
 ·obtain ⟨b, o1, hl, hc, o2, hh, hvx', ho2⟩ : ∃ b o hl hc o', E.hd k = .slice (some ⟨b, o, none⟩) hl hc ∧ a.eval x = .slice (some ⟨b, o', none⟩) n (hc - lo) ∧ (o' = o + lo * te.size ∨ (hc = lo ∧ lo ≠ 0 ∧ o' ≤ o + lo * te.size)) := by
   rcases g2 with ⟨q, q'⟩ | ⟨rfl, _⟩ | h
   ·obtain ⟨_, _, _, hh, h1, h2, _⟩ := hexc
    rw [q] at hh; simp only [Value.slice.injEq] at hh
    omega
   ·omega
   ·exact h
  obtain ⟨ad0, len0, cap0, hh', h1, h2, h3, h4⟩ := hexc
  rw [hh] at hh'
  simp only [Value.slice.injEq] at hh'
  obtain ⟨rfl, rfl, rfl⟩ := hh'
  rcases h4 with ⟨h4, _⟩ | ⟨b', o', cs, T, hb', hnlf, hS, hcs, hfit, hrowO⟩
  ·simp at h4
  simp only [Option.some.injEq, Addr.mk.injEq, and_true] at hb'
  obtain ⟨rfl, rfl⟩ := hb'
  have ho2' : o2 = o1 + lo * te.size := ho2.resolve_right (fun h => by omega)
  subst ho2'
  have had : ad = some ⟨b, o1 + lo * te.size, none⟩ := by
   rw [hvx'] at hvx; simp only [Value.slice.injEq] at hvx; exact hvx.1.symm
  subst had
  have hmul : lo * te.size + m * te.size ≤ hc * te.size := by rw [← Nat.add_mul]; exact Nat.mul_le_mul_right _ (by omega)
  have hfit' : o1 + lo * te.size + news.length ≤ cs.size := by rw [hnl]; omega
  have hst := run_storeCells_at (P := P) b (o1 + lo * te.size) T news 0 cs w hcs (by simpa using hfit') hone
  simp only [Nat.add_zero] at hst
  generalize hw' : w.setRow b (cs.toList.take (o1 + lo * te.size) ++ news ++ cs.toList.drop (o1 + lo * te.size + news.length)).toArray = w' at hst
  have hcell : ∀ off, w'.cell? ⟨b, off, none⟩ = if o1 + lo * te.size ≤ off ∧ off < o1 + lo * te.size + news.length then news[off - (o1 + lo * te.size)]? else w.cell? ⟨b, off, none⟩ := fun off => by
   rw [← hw']; exact cell_setRow hcs hfit'
  have hfr : Frm (fun z => E.S k z) w w' := by
   rw [← hw']
   exact ⟨rfl, rfl, rfl, by simp [World.setRow], fun z _ hz => setRow_other w b z _ fun e => hz (e ▸ hS)⟩
  have hself : ∃ cs' : Array Value, w'.heap[b]? = some (.cells cs' T (0, 0)) ∧ cs'.size = cs.size := by
   rw [← hw']
   refine ⟨_, setRow_heap w b cs _ T (0, 0) hcs, ?_⟩
   simp only [List.size_toArray, List.length_append, List.length_take, List.length_drop, Array.length_toList]
   omega
  obtain ⟨cs', hcs', hcsz⟩ := hself
  have hsub : ∀ {l : List AV}, (∀ e ∈ l, e ∈ es ∨ e ∈ ys) → l.all scal = true := fun hl => by
   rw [List.all_eq_true] at hse hsy ⊢
   exact fun e he => (hl e he).elim (hse e) (hsy e)
  have hno : ∀ {off}, ¬ (o1 + lo * te.size ≤ off ∧ off < o1 + lo * te.size + m * te.size) → ∀ v, w.cell? ⟨b, off, none⟩ = some v → w'.cell? ⟨b, off, none⟩ = some v := fun hoff v hv => by
   rw [hcell, if_neg (by rw [hnl]; exact hoff)]; exact hv
  have hlow : lo ≤ es.length := by omega
  have hA : OwnRow w' tk.deep (fun _ => False) (fun _ => False) b te.size o1 (es.take lo) :=
   OwnRow.move (w := w) (b := b) (o := o1) (fun _ h => h.elim) (fun _ h => h.elim) (OwnRow.take lo (Own.scalRow hrowO hse)) fun j v hj hv => by
    rw [List.length_take, Nat.min_eq_left hlow] at hj
    exact hno (by omega) v hv
  have hB : OwnRow w' tk.deep (fun _ => False) (fun _ => False) b te.size (o1 + lo * te.size) (ys.take m) := by
   rcases hsrc with h | ⟨b2, o2, hb2, hr⟩
   ·exact (h0 h).elim
   ·rcases hnc with h | ⟨b3, o3, hb3, hnc⟩
    ·exact (h0 h).elim
    rw [hb2] at hb3
    simp only [Option.some.injEq, Addr.mk.injEq, and_true] at hb3
    obtain ⟨rfl, rfl⟩ := hb3
    refine OwnRow.move (w := w) (b := b2) (o := o2) (fun _ h => h.elim) (fun _ h => h.elim) hr fun j v hj hv => ?_
    rw [List.length_take, Nat.min_eq_left hmy, ← hnl] at hj
    rw [hcell, if_pos ⟨by omega, by omega⟩]
    have := hnc j _ (List.getElem?_eq_getElem hj)
    rw [hv] at this
    rw [show o1 + lo * te.size + j - (o1 + lo * te.size) = j by omega, List.getElem?_eq_getElem hj]
    exact this.symm
  have hCC : OwnRow w' tk.deep (fun _ => False) (fun _ => False) b te.size (o1 + (lo + m) * te.size) (es.drop (lo + m)) :=
   OwnRow.move (w := w) (b := b) (o := o1 + (lo + m) * te.size) (fun _ h => h.elim) (fun _ h => h.elim) (OwnRow.drop (lo + m) (Own.scalRow hrowO hse)) fun j v _ hv => by
    have e : (lo + m) * te.size = lo * te.size + m * te.size := Nat.add_mul _ _ _
    exact hno (by omega) v hv
  have hall : OwnRow w' tk.deep (fun _ => False) (fun _ => False) b te.size o1 (es.take lo ++ ys.take m ++ es.drop (lo + m)) := by
   refine OwnRow.app (S1 := fun _ => False) (S2 := fun _ => False) (OwnRow.app (S1 := fun _ => False) (S2 := fun _ => False) hA ?_ (fun _ h => h) (fun _ h => h) (fun _ h => h.elim)) ?_ (fun _ h => h) (fun _ h => h) (fun _ h => h.elim)
   ·rw [List.length_take, Nat.min_eq_left hlow]; exact hB
   ·rw [List.length_append, List.length_take, List.length_take, Nat.min_eq_left hlow, Nat.min_eq_left hmy]; exact hCC
  have hexc' : Excl w' tk.deep E.F (E.S k) nl te.size (es.take lo ++ ys.take m ++ es.drop (lo + m)) (E.hd k) :=
   ⟨_, hl, hc, hh, by rw [hesl]; exact h1, h2, h3, .inr ⟨b, o1, cs', T, rfl, hnlf, hS, hcs', by omega, Own.scalRow hall (hsub fun e he => by
    rcases List.mem_append.1 he with he | he
    ·rcases List.mem_append.1 he with he | he
     ·exact .inl (List.mem_of_mem_take he)
     ·exact .inr (List.mem_of_mem_take he)
    ·exact .inl (List.mem_of_mem_drop he))⟩⟩
  obtain ⟨E', _, e4⟩ := hs.turnN (slots := st.slots) (toks := st.toks) (d' := tk.deep) (w' := w') (es' := es.take lo ++ ys.take m ++ es.drop (lo + m)) htk hrow hesl hfr hexc'
  exact wp_val (y := .int .i64 (m : Int)) (w' := w') (hrun w' hst) (hn E' _ _ (SR.put e4 o.dst hd0 (by simp [SRep, Value.oneCell'])))
theorem push_bytes : ∀ (ns : List Int) (r : ByteArray), ns.foldl (fun r n => r.push (UInt8.ofNat n.toNat)) r = ⟨r.data ++ (ns.map fun n => UInt8.ofNat n.toNat).toArray⟩
 | [], r => by cases r; simp
 | n :: ns, r => by
  rw [List.foldl_cons, push_bytes ns]
  cases r
  simp [ByteArray.push]
theorem bytesOf_ok : ∀ {es : List AV} {bs : List UInt8}, bytesOf es = some bs → ∃ ns : List Int, es = ns.map (fun n => .v (.int .u8 n)) ∧ bs = ns.map fun n => UInt8.ofNat n.toNat
 | [], bs, h => by simp only [bytesOf, Option.some.injEq] at h; subst h; exact ⟨[], rfl, rfl⟩
 | c :: cs, bs, h => by
  unfold bytesOf at h
  split at h
  ·rename_i e; simp at e
  ·rename_i n cs' e
   simp only [List.cons.injEq] at e
   obtain ⟨rfl, rfl⟩ := e
   split at h
   ·rename_i bs' hb
    simp only [Option.some.injEq] at h; subst h
    obtain ⟨ns, rfl, rfl⟩ := bytesOf_ok hb
    exact ⟨n :: ns, rfl, rfl⟩
   ·simp at h
  ·simp at h
theorem goes_convert (hC : C.Ok P) (hs : SR U w0 st E a w) {s d : TypeId} {x : Operand} (ho : o.op = .convert s d x) {out : Out} (h : aop C (.convert s d x) st.slots st.toks = some out) : Goes P o a w U w0 out := by
 simp only [aop] at h
 split at h
 rotate_left
 ·simp at h
 rename_i ts td hts htd
 have hus := run_underlying (P := P) (w := w) (hC.T _ _ hts).desc
 have hud := run_underlying (P := P) (w := w) (hC.T _ _ htd).desc
 have hres := SRep.res hs.tokOk _ _ (hs.ev x)
 split at h
 ·rename_i k k' n hk hx
  simp only [Option.some.injEq] at h; subst h
  rw [hx] at hres
  simp only [Rep] at hres
  rw [hk] at hud
  refine goes_pure (y := .int k (k.wrap n)) hs ?_ (by simp [SRep, Value.oneCell'])
  simp [execOp, ho, convert, hus, hud, hres.1, Conv.intToInt]
 ·rename_i el nl sz es hk1 hk2 hx
  split at h
  rotate_left
  ·simp at h
  rename_i te bs hte hbs
  split at h
  rotate_left
  ·simp at h
  rename_i hk3
  split at h
  rotate_left
  ·simp at h
  rename_i hsz
  subst hsz
  simp only [Option.some.injEq] at h; subst h
  rw [hx] at hres
  rw [hk1] at hus
  rw [hk2] at hud
  have hue := run_underlying (P := P) (w := w) (hC.T _ _ hte).desc
  rw [hk3] at hue
  obtain ⟨ns, rfl, rfl⟩ := bytesOf_ok hbs
  simp only [Rep] at hres
  obtain ⟨ad, len, cap, hy, h1, _, _, h4⟩ := hres
  simp only [List.length_map] at h1
  have hload : ∀ ad' : Addr, ad = some ad' → (Go.loadCells ad' len).run P w = Result.ok (ns.map (Value.int .u8)).toArray w := by
   intro ad' had
   have hl : len = (ns.map (Value.int .u8)).length := by simpa using h1
   rcases h4 with ⟨h4, _⟩ | ⟨b, o', h4, _, hr⟩ | ⟨_, _, h4⟩
   ·rw [h4] at had; simp at had
   ·rw [h4] at had
    obtain rfl := Option.some.inj had
    rw [hl]
    refine run_loadCells_list w ⟨b, o', none⟩ _ fun j v hj => ?_
    rw [add_addr]
    rw [List.getElem?_map, Option.map_eq_some_iff] at hj
    obtain ⟨n, hn, rfl⟩ := hj
    obtain ⟨z, k1, _, _, _, k5⟩ := RepRow.get hr j (.v (.int .u8 n)) (by rw [List.getElem?_map, hn]; rfl)
    simp only [Rep] at k1
    rw [k1.1] at k5
    simpa using k5 0 _ rfl
   ·have : ns = [] := by simpa using h4
    subst this
    simp at h1; subst h1
    exact run_loadCells_list w ad' [] (by simp)
  refine goes_pure (y := .string ⟨(ns.map fun n => UInt8.ofNat n.toNat).toArray⟩) hs ?_ (by simp [SRep, Value.oneCell'])
  cases had : ad with
  | none =>
   have hns : ns = [] := by
    rcases h4 with ⟨_, _, h4, _⟩ | ⟨b, o', h4, _⟩ | ⟨⟨_, h4⟩, _⟩
    ·exact List.length_eq_zero_iff.1 (by omega)
    ·rw [had] at h4; simp at h4
    ·rw [had] at h4; simp at h4
   subst hns
   rw [had] at hy
   simp [execOp, ho, convert, hus, hud, hue, hy, Conv.bytesToString]
   rfl
  | some ad' =>
   have := run_bytesToString (P := P) w ad' len cap ns (hload ad' had)
   rw [push_bytes] at this
   rw [had] at hy
   have e0 : (ByteArray.empty.data ++ (ns.map fun n => UInt8.ofNat n.toNat).toArray) = (ns.map fun n => UInt8.ofNat n.toNat).toArray := by
    rw [show ByteArray.empty.data = #[] from rfl]; simp
   rw [e0] at this
   simp only [execOp, ho, convert, Sem.run_bind, hus, hud, hue, hy, Result.andThen_ok, this]
   rfl
 ·rename_i b hk1 hk2 hx
  simp only [Option.some.injEq] at h; subst h
  rw [hx] at hres
  simp only [Rep] at hres
  rw [hk1] at hus
  rw [hk2] at hud
  refine goes_pure (y := .string b) hs ?_ (by simp [SRep, Value.oneCell'])
  simp [execOp, ho, convert, hus, hud, hres.1]
 ·simp at h
theorem goes_index (hC : C.Ok P) (hs : SR U w0 st E a w) {t : TypeId} {x ix : Operand} (ho : o.op = .index t x ix) {out : Out} (h : aop C (.index t x ix) st.slots st.toks = some out) : Goes P o a w U w0 out := by
 simp only [aop] at h
 split at h
 rotate_left
 ·simp at h
 rename_i ti s i hti hx hi
 split at h
 rotate_left
 ·simp at h
 rename_i b hd hb
 simp only [Option.some.injEq] at h; subst h
 have hu := run_underlying (P := P) (w := w) (hC.T _ _ hti).desc
 rw [hd] at hu
 have ex := SRep_v (hs.ev x) hx
 obtain ⟨k, ei⟩ := ev_int hs hi
 refine goes_pure (y := .int .u8 (b.toNat : Int)) hs ?_ (by simp [SRep, Value.oneCell'])
 simp [execOp, ho, Instr.index, asIntOf, ex, ei, hu, hb]
theorem goes_lenS (hs : SR U w0 st E a w) {x : Operand} {ts : Array TypeId} (ho : o.op = .call { callee := .builtin .len, args := #[x], argTypes := ts }) {t : TypeId} (hts : ts = #[t]) (hu : P.underlying t = some .string) {s : ByteArray}
  (h : ev st.slots x = .v (.string s)) : Goes P o a w U w0 ⟨.v (.int .i64 (s.size : Int)), st.slots, st.toks⟩ := by
 have ex := SRep_v (hs.ev x) h
 refine goes_pure (y := .int .i64 (s.size : Int)) hs ?_ (by simp [SRep, Value.oneCell'])
 subst hts
 simp [execOp, ho, resolve, invoke, builtin, Builtin.len_, Go.run_underlying hu, ex, goInt]
theorem goes_cap (hC : C.Ok P) (hs : SR U w0 st E a w) {args : Array Operand} {ts : Array TypeId} (ho : o.op = .call { callee := .builtin .cap, args := args, argTypes := ts }) {out : Out}
  (h : aop C (.call { callee := .builtin .cap, args := args, argTypes := ts }) st.slots st.toks = some out) : Goes P o a w U w0 out := by
 simp only [aop] at h
 split at h
 rotate_left
 ·simp at h
 rename_i x t hargs hts
 split at h
 rotate_left
 ·simp at h
 rename_i ti sz hti hx
 split at h
 rotate_left
 ·simp at h
 rename_i el hd
 simp only [Option.some.injEq] at h; subst h
 have ha : args = #[x] := by cases args; simp_all
 have hts' : ts = #[t] := by cases ts; simp_all
 subst ha
 subst hts'
 have hu := run_underlying (P := P) (w := w) (hC.T _ _ hti).desc
 rw [hd] at hu
 have hxv := hs.ev x
 rw [hx] at hxv
 simp only [SRep, Rep] at hxv
 obtain ⟨a1, l1, c1, hxe, _, _, _, hxk⟩ := hxv
 have hc : c1 = 0 := by
  rcases hxk with h | ⟨_, _, _, h, _⟩ | ⟨_, h, _⟩
  ·exact h.2.2.2
  ·simp at h
  ·simp at h
 subst hc
 refine goes_pure (y := .int .i64 0) hs ?_ (by simp [SRep, Value.oneCell'])
 simp [execOp, ho, resolve, invoke, builtin, Builtin.cap_, hu, hxe, goInt]
end
open Go Go.RowKit
section
variable {toks toks' : List Tok}
theorem appX_congr {sz : Nat} (x : AV) (h : ∀ t ∈ refs x, toks'[t]? = toks[t]?) : appX sz toks' x = appX sz toks x := by
 cases x <;> simp only [appX]
 rename_i t p lo n
 rw [h t (by simp [refs])]
theorem appY_congr {sz : Nat} (x : AV) (h : ∀ t ∈ refs x, toks'[t]? = toks[t]?) : appY sz toks' x = appY sz toks x := by
 cases x <;> simp only [appY]
 rename_i t p lo n
 rw [h t (by simp [refs])]
end
theorem appX_refs {sz : Nat} {toks : List Tok} {x : AV} {q : List AV × List Nat × Bool × Bool} (h : appX sz toks x = some q) : ∀ t ∈ q.2.1, t ∈ refs x := by
 cases x <;> simp only [appX] at h
 all_goals first
  | (simp at h; done)
  | ((repeat' split at h) <;> first | (simp at h; done) | (simp only [Option.some.injEq] at h; subst h; simp [refs]))
theorem appY_refs {sz : Nat} {toks : List Tok} {x : AV} {q : List AV × List Nat × Bool} (h : appY sz toks x = some q) : ∀ t ∈ q.2.1, t ∈ refs x := by
 cases x <;> simp only [appY] at h
 all_goals first
  | (simp at h; done)
  | ((repeat' split at h) <;> first | (simp at h; done) | (simp only [Option.some.injEq] at h; subst h; simp [refs]))
mutual
def inRange (n : Nat) : AV → Prop
 | .agg cs => inRangeL n cs
 | .tup cs => inRangeL n cs
 | .fn _ cs => inRangeL n cs
 | .ref t _ _ _ => t < n
 | .ptr t _ _ _ => t < n
 | _ => True
def inRangeL (n : Nat) : List AV → Prop
 | [] => True
 | c :: cs => inRange n c ∧ inRangeL n cs
end
mutual
theorem SRep.inRange {w : World} {E : Env} {toks : List Tok} : ∀ (x : AV) (y : Value), SRep w E toks x y → Ax.inRange toks.length x
 | .v _, _, _ => by simp [Ax.inRange]
 | .agg cs, y, k => by simp only [SRep, Ax.inRange] at k ⊢; obtain ⟨ys, rfl, k⟩ := k; exact SRepL.inRange cs _ k
 | .tup cs, y, k => by simp only [SRep, Ax.inRange] at k ⊢; obtain ⟨ys, rfl, k⟩ := k; exact SRepL.inRange cs _ k
 | .sl nl sz es, y, _ => by simp [Ax.inRange]
 | .fp e j, y, _ => by simp [Ax.inRange]
 | .fn f cs, y, k => by simp only [SRep, Ax.inRange] at k ⊢; obtain ⟨ys, rfl, k⟩ := k; exact SRepL.inRange cs _ k
 | .ref t p lo n, y, k => by simp only [SRep, Ax.inRange] at k ⊢; exact k.1
 | .ptr t p i j, y, k => by simp only [SRep, Ax.inRange] at k ⊢; exact k.1
 | .junk, _, _ => by simp [Ax.inRange]
theorem SRepL.inRange {w : World} {E : Env} {toks : List Tok} : ∀ (x : List AV) (y : List Value), SRepL w E toks x y → Ax.inRangeL toks.length x
 | [], _, _ => by simp [Ax.inRangeL]
 | c :: cs, y, k => by
  simp only [SRepL, Ax.inRangeL] at k ⊢
  obtain ⟨y, ys, rfl, k1, k2⟩ := k
  exact ⟨SRep.inRange c y k1, SRepL.inRange cs ys k2⟩
end
mutual
theorem inRange_refs {n : Nat} : ∀ (x : AV), inRange n x → ∀ t ∈ refs x, t < n
 | .v _, _, t, ht => by simp [refs] at ht
 | .agg cs, h, t, ht => by simp only [inRange] at h; exact inRangeL_refs cs h t (by simpa [refs] using ht)
 | .tup cs, h, t, ht => by simp only [inRange] at h; exact inRangeL_refs cs h t (by simpa [refs] using ht)
 | .sl _ _ _, _, t, ht => by simp [refs] at ht
 | .fp _ _, _, t, ht => by simp [refs] at ht
 | .fn _ cs, h, t, ht => by simp only [inRange] at h; exact inRangeL_refs cs h t (by simpa [refs] using ht)
 | .ref _ _ _ _, h, t, ht => by simp only [inRange] at h; simp [refs] at ht; omega
 | .ptr _ _ _ _, h, t, ht => by simp only [inRange] at h; simp [refs] at ht; omega
 | .junk, _, t, ht => by simp [refs] at ht
theorem inRangeL_refs {n : Nat} : ∀ (cs : List AV), inRangeL n cs → ∀ t ∈ refsL cs, t < n
 | [], _, t, ht => by simp [refsL] at ht
 | c :: cs, h, t, ht => by
  simp only [inRangeL] at h
  simp only [refsL, List.mem_append] at ht
  exact ht.elim (inRange_refs c h.1 t) (inRangeL_refs cs h.2 t)
end
mutual
theorem kill_id (k : Nat) : ∀ (x : AV), k ∉ refs x → kill k x = x
 | .v _, _ => rfl
 | .agg cs, h => by simp only [kill]; rw [killL_id k cs (by simpa [refs] using h)]
 | .tup cs, h => by simp only [kill]; rw [killL_id k cs (by simpa [refs] using h)]
 | .sl _ _ _, _ => rfl
 | .fp _ _, _ => rfl
 | .fn _ cs, h => by simp only [kill]; rw [killL_id k cs (by simpa [refs] using h)]
 | .ref t p lo n, h => by
  have : t ≠ k := by simp [refs] at h; exact fun e => h e.symm
  simp [kill, this]
 | .ptr t p i j, h => by
  have : t ≠ k := by simp [refs] at h; exact fun e => h e.symm
  simp [kill, this]
 | .junk, _ => rfl
theorem killL_id (k : Nat) : ∀ (cs : List AV), k ∉ refsL cs → killL k cs = cs
 | [], _ => rfl
 | c :: cs, h => by
  simp only [refsL, List.mem_append, not_or] at h
  simp only [killL]; rw [kill_id k c h.1, killL_id k cs h.2]
end
mutual
theorem killN_id' (k : Nat) : ∀ (x : AV), k ∉ refs x → killN k x = x
 | .v _, _ => rfl
 | .agg cs, h => by simp only [killN]; rw [killNL_id' k cs (by simpa [refs] using h)]
 | .tup cs, h => by simp only [killN]; rw [killNL_id' k cs (by simpa [refs] using h)]
 | .sl _ _ _, _ => rfl
 | .fp _ _, _ => rfl
 | .fn _ cs, h => by simp only [killN]; rw [killNL_id' k cs (by simpa [refs] using h)]
 | .ref t p lo n, h => by
  have : t ≠ k := by simp [refs] at h; exact fun e => h e.symm
  simp [killN, this]
 | .ptr t p i j, h => by
  have : t ≠ k := by simp [refs] at h; exact fun e => h e.symm
  simp [killN, this]
 | .junk, _ => rfl
theorem killNL_id' (k : Nat) : ∀ (cs : List AV), k ∉ refsL cs → killNL k cs = cs
 | [], _ => rfl
 | c :: cs, h => by
  simp only [refsL, List.mem_append, not_or] at h
  simp only [killNL]; rw [killN_id' k c h.1, killNL_id' k cs h.2]
end
mutual
theorem killN_refs (k : Nat) : ∀ (x : AV), ∀ t ∈ refs (killN k x), t ∈ refs x
 | .v _, t, h => by simp [killN, refs] at h
 | .agg cs, t, h => by simp only [killN, refs] at h ⊢; exact killNL_refs k cs t h
 | .tup cs, t, h => by simp only [killN, refs] at h ⊢; exact killNL_refs k cs t h
 | .sl _ _ _, t, h => by simp [killN, refs] at h
 | .fp _ _, t, h => by simp [killN, refs] at h
 | .fn _ cs, t, h => by simp only [killN, refs] at h ⊢; exact killNL_refs k cs t h
 | .ref t p lo n, t', h => by
  simp only [killN] at h
  split at h
  ·simp [refs] at h
  ·exact h
 | .ptr t p i j, t', h => by
  simp only [killN] at h
  split at h
  ·simp [refs] at h
  ·exact h
 | .junk, t, h => by simp [killN, refs] at h
theorem killNL_refs (k : Nat) : ∀ (cs : List AV), ∀ t ∈ refsL (killNL k cs), t ∈ refsL cs
 | [], t, h => by simp [killNL, refsL] at h
 | c :: cs, t, h => by
  simp only [killNL, refsL, List.mem_append] at h ⊢
  exact h.imp (killN_refs k c t) (killNL_refs k cs t)
end
theorem drops_snoc {tk : Tok} : ∀ {L : List Nat} {slots : List AV} {toks : List Tok}, (∀ t ∈ L, t < toks.length) → drops slots (toks ++ [tk]) L = ((drops slots toks L).1, (drops slots toks L).2 ++ [tk])
 | [], _, _, _ => rfl
 | t :: L, slots, toks, h => by
  simp only [drops]
  rw [List.set_append_left t _ (h t (by simp))]
  exact drops_snoc fun t' ht' => by simpa using h t' (by simp [ht'])
theorem upX_ok {sz : Nat} {toks : List Tok} {x : AV} {es : List AV} {k : Nat} {tk' : Tok} {nl : Bool} (h : upX sz toks x = some (es, k, tk', nl)) :
  ∃ q p tk sz', x = .ref k (q :: p) 0 es.length ∧ toks[k]? = some tk ∧ tk.deep = true ∧ getAt tk.row (q :: p) = .sl nl sz' es ∧ (sz' = sz ∨ (nl = true ∧ es = [])) ∧ tk' = ⟨true, setAt tk.row (q :: p) .junk⟩ := by
 cases x with
 | ref t p lo n =>
  simp only [upX] at h
  split at h
  ·rename_i q p' tk htk
   split at h
   ·rename_i nl' sz' es' hg
    split at h
    ·rename_i hc
     simp only [Option.some.injEq, Prod.mk.injEq] at h
     obtain ⟨rfl, rfl, rfl, rfl⟩ := h
     exact ⟨q, p', tk, sz', by rw [hc.1], htk, hc.2.2, hg, hc.2.1, rfl⟩
    ·simp at h
   ·simp at h
  ·simp at h
 | _ => simp [upX] at h
section
variable {P : Program} {C : Ctx} {o : Oper} {a : Act} {w : World} {U : Ld} {w0 : World} {st : ASt} {E : Env}
theorem goes_appU (hC : C.Ok P) (hs : SR U w0 st E a w) {args : Array Operand} {ts : Array TypeId} (ho : o.op = .call { callee := .builtin .append, args := args, argTypes := ts }) {out : Out}
  (h : appU C { callee := .builtin .append, args := args, argTypes := ts } st.slots st.toks = some out) : Goes P o a w U w0 out := by
 simp only [appU] at h
 split at h
 rotate_left
 ·simp at h
 rename_i x y t t' hargs hts
 split at h
 rotate_left
 ·simp at h
 rename_i htt
 subst htt
 split at h
 rotate_left
 ·simp at h
 rename_i ti hti
 split at h
 rotate_left
 ·simp at h
 rename_i el hd
 split at h
 rotate_left
 ·simp at h
 rename_i te hte
 split at h
 rotate_left
 ·simp at h
 rename_i es k tk' nl ys uy dy hX hY
 split at h
 rotate_left
 ·simp at h
 rename_i hc
 obtain ⟨hk, hnd, hpos, h63, hby⟩ := hc
 simp only [Option.some.injEq] at h
 subst h
 obtain ⟨q, p, tk, sz', hx, htk, hdeep, hg, hz, rfl⟩ := upX_ok hX
 obtain ⟨i, rfl⟩ : ∃ i, x = .tmp i := by
  cases x with
  | tmp i => exact ⟨i, rfl⟩
  | const c =>
   exfalso
   simp only [ev, ofV] at hx
   split at hx
   ·simp at hx
   ·unfold ofV1 at hx
    split at hx
    ·simp at hx
    ·split at hx <;> simp at hx
  | func f => simp [ev] at hx
  | global g => simp [ev] at hx
 have hxi : st.slots[i]? = some (.ref k (q :: p) 0 es.length) := by
  simp only [ev, List.getD_eq_getElem?_getD] at hx
  cases hh : st.slots[i]? with
  | none => rw [hh] at hx; simp at hx
  | some z => rw [hh] at hx; simp at hx; rw [hx]
 obtain ⟨E', hs'⟩ := hs.uproot (szn := te.size) hxi htk hdeep hg (by simp) rfl hz
 have hkl : k < st.toks.length := (List.getElem?_eq_some_iff.1 htk).1
 have hrng : ∀ z, ∀ t ∈ refs (ev st.slots z), t < st.toks.length := fun z => inRange_refs _ (SRep.inRange _ _ (hs.ev z))
 have huy : ∀ t ∈ uy, t < st.toks.length := fun t ht => hrng y t (appY_refs hY t ht)
 have hyi : y ≠ .tmp i := fun e => by
  subst e
  rw [show ev st.slots (.tmp i) = .ref k (q :: p) 0 es.length from hx] at hk
  simp [refs] at hk
 have hil : i < st.slots.length := (List.getElem?_eq_some_iff.1 hxi).1
 have hey : ev ((st.slots.map (killN k)).set i (.ref st.toks.length [] 0 es.length)) y = ev st.slots y := by
  cases y with
  | tmp j =>
   have hj : j ≠ i := fun e => hyi (by rw [e])
   simp only [ev, List.getD_eq_getElem?_getD] at hk ⊢
   rw [List.getElem?_set_ne (fun e => hj e.symm), List.getElem?_map]
   cases hh : st.slots[j]? with
   | none => rfl
   | some z => rw [hh] at hk; simp at hk ⊢; exact killN_id' k z hk
  | const c => rfl
  | func f => rfl
  | global g => rfl
 have hex : ev ((st.slots.map (killN k)).set i (.ref st.toks.length [] 0 es.length)) (.tmp i) = .ref st.toks.length [] 0 es.length := by
  simp only [ev, List.getD_eq_getElem?_getD]
  rw [List.getElem?_set_self (by simpa using hil)]; rfl
 have hget : (st.toks.set k ⟨true, setAt tk.row (q :: p) .junk⟩ ++ [⟨true, .sl nl te.size es⟩])[st.toks.length]? = some ⟨true, .sl nl te.size es⟩ := by
  rw [List.getElem?_append_right (by simp)]; simp
 have hX' : appX te.size (st.toks.set k ⟨true, setAt tk.row (q :: p) .junk⟩ ++ [⟨true, .sl nl te.size es⟩]) (.ref st.toks.length [] 0 es.length) = some (es, [st.toks.length], true, nl) := by
  simp only [appX, hget, and_self, if_true]
 have hY' : appY te.size (st.toks.set k ⟨true, setAt tk.row (q :: p) .junk⟩ ++ [⟨true, .sl nl te.size es⟩]) (ev st.slots y) = some (ys, uy, dy) := by
  rw [← hY]
  refine appY_congr _ fun t ht => ?_
  have htl := hrng y t ht
  rw [List.getElem?_append_left (by simpa using htl), List.getElem?_set_ne (fun e => by subst e; exact hk ht)]
 have hO : appO C { callee := .builtin .append, args := args, argTypes := ts } ((st.slots.map (killN k)).set i (.ref st.toks.length [] 0 es.length)) (st.toks.set k ⟨true, setAt tk.row (q :: p) .junk⟩ ++ [⟨true, .sl nl te.size es⟩]) =
   some ⟨.ref (st.toks.length + 1) [] 0 (es.length + ys.length), (drops (st.slots.map (killN k)) (st.toks.set k ⟨true, setAt tk.row (q :: p) .junk⟩) uy).1, (drops (st.slots.map (killN k)) (st.toks.set k ⟨true, setAt tk.row (q :: p) .junk⟩) uy).2 ++ [⟨true, .junk⟩, ⟨dy, .sl (nl && ys.isEmpty) te.size (es ++ ys)⟩]⟩ := by
  have hnd' : ([st.toks.length] ++ uy).Nodup := by
   rw [List.singleton_append, List.nodup_cons]
   exact ⟨fun h => Nat.lt_irrefl _ (huy _ h), hnd⟩
  have hsl : ((st.slots.map (killN k)).set i (.ref st.toks.length [] 0 es.length)).map (kill st.toks.length) = st.slots.map (killN k) := by
   refine List.ext_getElem? fun j => ?_
   rw [List.getElem?_map]
   by_cases e : j = i
   ·subst e
    rw [List.getElem?_set_self (by simpa using hil), List.getElem?_map, hxi]
    simp [kill, killN]
   ·rw [List.getElem?_set_ne (fun h => e h.symm), List.getElem?_map]
    cases hh : st.slots[j]? with
    | none => rfl
    | some z =>
     simp only [Option.map_some, Option.some.injEq]
     refine kill_id _ _ fun h => ?_
     have h2 := killN_refs k z _ h
     have := hrng (.tmp j) st.toks.length (by simp only [ev, List.getD_eq_getElem?_getD, hh]; exact h2)
     omega
  have htl : (st.toks.set k ⟨true, setAt tk.row (q :: p) .junk⟩ ++ [(⟨true, .sl nl te.size es⟩ : Tok)]).set st.toks.length ⟨true, .junk⟩ = st.toks.set k ⟨true, setAt tk.row (q :: p) .junk⟩ ++ [⟨true, .junk⟩] := by
   rw [List.set_append_right _ _ (by simp)]; simp
  simp only [appO, hargs, hts, if_true, hti, hd, hte, hex, hey, hX', hY', if_pos (show ([st.toks.length] ++ uy).Nodup ∧ 0 < te.size ∧ es.length + ys.length ≤ 4611686018427387904 ∧ (es.length + ys.length) * te.bytes ≤ 140737488355328 from ⟨hnd', hpos, h63, hby⟩)]
  simp only [List.singleton_append, drops, hsl, htl]
  rw [drops_snoc (fun t ht => by simpa using huy t ht)]
  simp
 exact goes_append hC hs' ho hO
theorem goes_appendA (hC : C.Ok P) (hs : SR U w0 st E a w) {args : Array Operand} {ts : Array TypeId} (ho : o.op = .call { callee := .builtin .append, args := args, argTypes := ts }) {out : Out}
  (h : aop C (.call { callee := .builtin .append, args := args, argTypes := ts }) st.slots st.toks = some out) : Goes P o a w U w0 out := by
 simp only [aop] at h
 rcases alt_eq h with h | h
 ·exact goes_append hC hs ho h
 ·exact goes_appU hC hs ho h
end
open Go Go.RowKit
section
variable {P : Program} {C : Ctx} {o : Oper} {a : Act} {w : World} {U : Ld} {w0 : World} {st : ASt} {E : Env}
theorem aop_ok (hC : C.Ok P) (hs : SR U w0 st E a w) {out : Out} (h : aop C o.op st.slots st.toks = some out) : Goes P o a w U w0 out := by
 generalize hop : o.op = op at h
 cases op with
 | move x => simp only [aop, Option.some.injEq] at h; subst h; exact goes_move hs (.inl hop)
 | assign x => simp only [aop, Option.some.injEq] at h; subst h; exact goes_move hs (.inr hop)
 | pick c x y => exact goes_pick hs hop h
 | alloc t => exact goes_alloc hC hs hop h
 | box t x => exact goes_box hs hop h
 | load t x => exact goes_load hC hs hop h
 | store t ad x => exact goes_store hC hs hop (goes_storeP hC hs hop) h
 | binOp op t x y t' => exact goes_binOp hC hs hop h
 | fieldAddr t x f => exact goes_fieldAddr hC hs hop h
 | field t x f => exact goes_field hC hs hop h
 | extract x i => exact goes_extract hs hop h
 | buildSlice t len parts => exact goes_buildSlice hC hs hop h
 | slice t x lo hi mx => exact goes_slice hC hs hop h
 | makeSlice t l c => exact goes_makeSlice hC hs hop h
 | build t parts => exact goes_build hC hs hop h
 | unOp op t x => exact goes_unOp hs hop h
 | makeFunc f first captured =>
  cases f with
  | func f => exact goes_makeFunc hs hop h
  | _ => simp [aop] at h
 | indexAddr t x ix => exact goes_indexAddr hC hs hop h
 | convert s d x => exact goes_convert hC hs hop h
 | index t x ix => exact goes_index hC hs hop h
 | call c =>
  obtain ⟨callee, args, ts⟩ := c
  cases callee with
  | value f => exact goes_call hC hs hop h
  | builtin b =>
   cases b with
   | len =>
    simp only [aop] at h
    split at h
    ·rename_i x t hx ht
     split at h
     ·rename_i ti hti
      split at h
      ·rename_i el hd
       simp only [Option.map_eq_some_iff] at h
       obtain ⟨n, hn, rfl⟩ := h
       have hu := (hC.T t ti hti).desc
       rw [hd] at hu
       have ha : args = #[x] := by cases args; simp_all
       have hts : ts = #[t] := by cases ts; simp_all
       subst ha
       exact goes_len hs hop hts hu hn
      ·rename_i hd
       split at h
       ·rename_i s hxs
        simp only [Option.some.injEq] at h; subst h
        have hu := (hC.T t ti hti).desc
        rw [hd] at hu
        have ha : args = #[x] := by cases args; simp_all
        have hts : ts = #[t] := by cases ts; simp_all
        subst ha
        exact goes_lenS hs hop hts hu hxs
       ·simp at h
      ·simp at h
     ·simp at h
    ·simp at h
   | append => exact goes_appendA hC hs hop h
   | cap => exact goes_cap hC hs hop h
   | copy => exact goes_copy hC hs hop h
   | max =>
    simp only [aop] at h
    split at h
    ·rename_i x y hx
     split at h
     ·rename_i k m k' n hm hn
      simp only [Option.some.injEq] at h; subst h
      have ha : args = #[x, y] := by cases args; simp_all
      subst ha
      exact goes_max hs hop hm hn
     ·simp at h
    ·simp at h
   | min =>
    simp only [aop] at h
    split at h
    ·rename_i x y hx
     split at h
     ·rename_i k m k' n hm hn
      simp only [Option.some.injEq] at h; subst h
      have ha : args = #[x, y] := by cases args; simp_all
      subst ha
      exact goes_min hs hop hm hn
     ·simp at h
    ·simp at h
   | _ => simp [aop] at h
  | _ => simp [aop] at h
 | _ => simp [aop] at h
theorem wanted_ok {ops : Array Oper} (hs : SR U w0 st E a w) {b : Bool} (h : guardOk ops.toList st.slots o = some b) : Region.wanted o (yielded ops a.tmps) = b := by
 unfold guardOk at h
 unfold Region.wanted
 split at h
 ·simp at h; simp_all
 ·rename_i j want hg
  rw [hg]
  simp only []
  split at h
  ·rename_i o' ho'
   split at h
   ·rename_i d hd
    split at h
    ·rename_i c hc
     simp only [Option.some.injEq] at h
     have ho'' : ops[j]? = some o' := by simpa using ho'
     have hlt : d < st.slots.length := by
      rcases Nat.lt_or_ge d st.slots.length with h | h
      ·exact h
      ·rw [List.getD_eq_getElem?_getD, List.getElem?_eq_none h] at hc; simp at hc
     have hsl : st.slots[d]? = some (.v (.bool c)) := by
      rw [List.getD_eq_getElem?_getD, List.getElem?_eq_getElem hlt] at hc
      rw [List.getElem?_eq_getElem hlt]; simpa using hc
     have := hs.slot d _ hsl
     simp only [SRep] at this
     have hlt' : d < a.tmps.size := by rw [hs.size]; exact hlt
     have ht : a.tmps[d]? = some (.bool c) := by
      rw [Array.getD_eq_getD_getElem?, Array.getElem?_eq_getElem hlt'] at this
      rw [Array.getElem?_eq_getElem hlt']; simpa using this.1
     have hy : yielded ops a.tmps j = some c := by simp [yielded, ho'', hd, ht]
     rw [hy, ← h]; simp
    ·rename_i vs hc
     simp only [Option.some.injEq] at h
     have ho'' : ops[j]? = some o' := by simpa using ho'
     have hlt : d < st.slots.length := by
      rcases Nat.lt_or_ge d st.slots.length with h | h
      ·exact h
      ·rw [List.getD_eq_getElem?_getD, List.getElem?_eq_none h] at hc; simp at hc
     have hsl : st.slots[d]? = some (.tup vs) := by
      rw [List.getD_eq_getElem?_getD, List.getElem?_eq_getElem hlt] at hc
      rw [List.getElem?_eq_getElem hlt]; simpa using hc
     have := hs.slot d _ hsl
     simp only [SRep] at this
     obtain ⟨ys, this, _⟩ := this
     have hlt' : d < a.tmps.size := by rw [hs.size]; exact hlt
     have ht : a.tmps[d]? = some (.tuple ys) := by
      rw [Array.getD_eq_getD_getElem?, Array.getElem?_eq_getElem hlt'] at this
      rw [Array.getElem?_eq_getElem hlt']; simpa using this
     have hy : yielded ops a.tmps j = none := by simp [yielded, ho'', hd, ht]
     rw [hy, ← h]; simp
    ·simp at h
   ·simp at h
  ·simp at h
theorem rstep_ok (hC : C.Ok P) {ops : Array Oper} {i : Nat} (hi : ops[i]? = some o) (hd : ∀ e, o.dst = some e → e ∉ U.idx) (hs : SR U w0 st E a w) {st' : ASt} (h : rstep C ops.toList o st = some st') {K : Act → World → Prop} {Q : Exit → Act → World → Prop} (ro : Option Nat)
  (hn : ∀ E' a' w', SR U w0 st' E' a' w' → K a' w') : wpOpIn (fen ro) 0 P ops Q i K a w := by
 unfold rstep at h
 unfold wpOpIn
 simp only [hi]
 split at h
 ·rename_i g hg
  rw [wanted_ok hs hg]
  cases g with
  | true =>
   simp only [if_true] at h ⊢
   simp only [Option.map_eq_some_iff] at h
   obtain ⟨r, hr, rfl⟩ := h
   exact (aop_ok hC hs hr hd K hn).wpIn ro
  | false =>
   simp only [Bool.false_eq_true, if_false] at h ⊢
   simp only [Option.some.injEq] at h
   subst h
   refine ⟨fun _ _ => trivial, ?_⟩
   exact hn E _ _ (SR.put (slots := st.slots) (toks := st.toks) hs o.dst hd (x := .tup []) (y := undef) (by simp [SRep, SRepL, undef]))
 ·simp at h
theorem rrun_ok (hC : C.Ok P) {ops : Array Oper} (hds : ∀ (j : Nat) (oj : Oper), ops[j]? = some oj → ∀ e, oj.dst = some e → e ∉ U.idx) {Q : Exit → Act → World → Prop} (ro : Option Nat) {fin : ASt} (hQ : ∀ E' a' w', SR U w0 fin E' a' w' → Q .normal a' w') : ∀ (l : List Oper) (k : Nat) (st : ASt) (E : Env) (a : Act) (w : World), (∀ j, l[j]? = ops[k + j]?) →
  SR U w0 st E a w → rrun C ops.toList l st = some fin → wpOpsIn (fen ro) 0 P ops Q (List.range' k l.length) a w
 | [], _, st, E, a, w, _, hs, h => by
  simp only [rrun, Option.some.injEq] at h
  subst h
  simpa [wpOpsIn] using hQ E a w hs
 | o :: l, k, st, E, a, w, hl, hs, h => by
  simp only [rrun] at h
  split at h
  ·rename_i st' hst
   have hi : ops[k]? = some o := by have := hl 0; simp at this; exact this.symm
   simp only [List.length_cons, List.range'_succ]
   rw [wpOpsIn_cons]
   refine rstep_ok hC hi (hds k o hi) hs hst ro fun E' a' w' hs' => ?_
   exact rrun_ok hC hds ro hQ l (k + 1) st' E' a' w' (fun j => by have := hl (j + 1); simp at this; rw [this]; congr 1; omega) hs' h
  ·simp at h
end
open Go Go.RowKit
def kl (k : Bool × Nat) (x : AV) : AV := if k.1 then kill k.2 x else killN k.2 x
def kls : List (Bool × Nat) → List AV → List AV
 | [], s => s
 | k :: ks, s => kls ks (s.map (kl k))
def sets : List (Nat × Tok) → List Tok → List Tok
 | [], s => s
 | k :: ks, s => sets ks (s.set k.1 k.2)
theorem kls_app : ∀ {a b : List (Bool × Nat)} {s : List AV}, kls (a ++ b) s = kls b (kls a s)
 | [], _, _ => rfl
 | k :: a, b, s => by simp only [List.cons_append, kls]; exact kls_app
theorem sets_app : ∀ {a b : List (Nat × Tok)} {s : List Tok}, sets (a ++ b) s = sets b (sets a s)
 | [], _, _ => rfl
 | k :: a, b, s => by simp only [List.cons_append, sets]; exact sets_app
theorem sets_len : ∀ {ks : List (Nat × Tok)} {s : List Tok}, (sets ks s).length = s.length
 | [], _ => rfl
 | k :: ks, s => by simp only [sets]; rw [sets_len]; simp
theorem sets_get : ∀ {ks : List (Nat × Tok)} {s : List Tok} {t : Nat}, (∀ k ∈ ks, k.1 ≠ t) → (sets ks s)[t]? = s[t]?
 | [], _, _, _ => rfl
 | k :: ks, s, t, h => by
  simp only [sets]
  rw [sets_get (fun k hk => h k (by simp [hk])), List.getElem?_set_ne (h k (by simp))]
theorem drops_eq : ∀ (L : List Nat) (slots : List AV) (toks : List Tok), drops slots toks L = (kls (L.map fun t => (true, t)) slots, sets (L.map fun t => (t, ⟨true, .junk⟩)) toks)
 | [], _, _ => rfl
 | t :: L, slots, toks => by
  simp only [drops, List.map_cons, kls, sets]
  rw [drops_eq L]
  rfl
mutual
theorem kl_id (k : Bool × Nat) : ∀ (x : AV), k.2 ∉ refs x → kl k x = x
 | .v _, _ => by unfold kl; split <;> rfl
 | .agg cs, h => by
  have := klL_id k cs (by simpa [refs] using h)
  unfold kl at this ⊢
  split <;> simp_all [kill, killN]
 | .tup cs, h => by
  have := klL_id k cs (by simpa [refs] using h)
  unfold kl at this ⊢
  split <;> simp_all [kill, killN]
 | .sl _ _ _, _ => by unfold kl; split <;> rfl
 | .fp _ _, _ => by unfold kl; split <;> rfl
 | .fn _ cs, h => by
  have := klL_id k cs (by simpa [refs] using h)
  unfold kl at this ⊢
  split <;> simp_all [kill, killN]
 | .ref t p lo n, h => by
  have : t ≠ k.2 := by simp [refs] at h; exact fun e => h e.symm
  unfold kl; split <;> simp [kill, killN, this]
 | .ptr t p i j, h => by
  have : t ≠ k.2 := by simp [refs] at h; exact fun e => h e.symm
  unfold kl; split <;> simp [kill, killN, this]
 | .junk, _ => by unfold kl; split <;> rfl
theorem klL_id (k : Bool × Nat) : ∀ (cs : List AV), k.2 ∉ refsL cs → (if k.1 then killL k.2 cs else killNL k.2 cs) = cs
 | [], _ => by split <;> rfl
 | c :: cs, h => by
  simp only [refsL, List.mem_append, not_or] at h
  have h1 := kl_id k c h.1
  have h2 := klL_id k cs h.2
  unfold kl at h1
  split <;> simp_all [killL, killNL]
end
mutual
def jk : AV → Bool
 | .agg cs => jkL cs
 | .tup cs => jkL cs
 | .fn _ cs => jkL cs
 | .junk => true
 | _ => false
def jkL : List AV → Bool
 | [] => false
 | c :: cs => jk c || jkL cs
end
mutual
theorem kl_jk (k : Bool × Nat) : ∀ (x : AV), jk (kl k x) = false → kl k x = x
 | .v _, _ => by unfold kl; split <;> rfl
 | .agg cs, h => by
  have := klL_jk k cs
  unfold kl at h ⊢
  split <;> simp_all [kill, killN, jk]
 | .tup cs, h => by
  have := klL_jk k cs
  unfold kl at h ⊢
  split <;> simp_all [kill, killN, jk]
 | .sl _ _ _, _ => by unfold kl; split <;> rfl
 | .fp _ _, _ => by unfold kl; split <;> rfl
 | .fn _ cs, h => by
  have := klL_jk k cs
  unfold kl at h ⊢
  split <;> simp_all [kill, killN, jk]
 | .ref t p lo n, h => by
  unfold kl at h ⊢
  split
  ·rename_i hk
   simp only [kill, hk, if_true] at h ⊢
   split
   ·rename_i e; rw [if_pos e] at h; simp [jk] at h
   ·rfl
  ·rename_i hk
   simp only [killN, hk] at h ⊢
   split
   ·rename_i e; rw [if_neg (by simp), if_pos e] at h; simp [jk] at h
   ·rfl
 | .ptr t p i j, h => by
  unfold kl at h ⊢
  split
  ·rename_i hk
   simp only [kill, hk, if_true] at h ⊢
   split
   ·rename_i e; rw [if_pos e] at h; simp [jk] at h
   ·rfl
  ·rename_i hk
   simp only [killN, hk] at h ⊢
   split
   ·rename_i e; rw [if_neg (by simp), if_pos e] at h; simp [jk] at h
   ·rfl
 | .junk, _ => by unfold kl; split <;> rfl
theorem klL_jk (k : Bool × Nat) : ∀ (cs : List AV), jkL (if k.1 then killL k.2 cs else killNL k.2 cs) = false → (if k.1 then killL k.2 cs else killNL k.2 cs) = cs
 | [], _ => by split <;> rfl
 | c :: cs, h => by
  have h1 := kl_jk k c
  have h2 := klL_jk k cs
  unfold kl at h1
  split <;> simp_all [killL, killNL, jkL]
end
mutual
theorem kl_comm (k k' : Bool × Nat) : ∀ (x : AV), kl k (kl k' x) = kl k' (kl k x)
 | .v _ => by unfold kl; split <;> split <;> rfl
 | .agg cs => by
  have := klL_comm k k' cs
  unfold kl
  split <;> split <;> simp_all [kill, killN]
 | .tup cs => by
  have := klL_comm k k' cs
  unfold kl
  split <;> split <;> simp_all [kill, killN]
 | .sl _ _ _ => by unfold kl; split <;> split <;> rfl
 | .fp _ _ => by unfold kl; split <;> split <;> rfl
 | .fn _ cs => by
  have := klL_comm k k' cs
  unfold kl
  split <;> split <;> simp_all [kill, killN]
 | .ref t p lo n => by
  unfold kl
  by_cases h1 : t = k.2 <;> by_cases h2 : t = k'.2 <;> by_cases hp : p = [] <;> (split <;> split <;> simp_all [kill, killN])
 | .ptr t p i j => by
  unfold kl
  by_cases h1 : t = k.2 <;> by_cases h2 : t = k'.2 <;> by_cases hp : p = [] <;> (split <;> split <;> simp_all [kill, killN])
 | .junk => by unfold kl; split <;> split <;> rfl
theorem klL_comm (k k' : Bool × Nat) : ∀ (cs : List AV), (if k.1 then killL k.2 (if k'.1 then killL k'.2 cs else killNL k'.2 cs) else killNL k.2 (if k'.1 then killL k'.2 cs else killNL k'.2 cs)) = (if k'.1 then killL k'.2 (if k.1 then killL k.2 cs else killNL k.2 cs) else killNL k'.2 (if k.1 then killL k.2 cs else killNL k.2 cs))
 | [] => by split <;> split <;> rfl
 | c :: cs => by
  have h1 := kl_comm k k' c
  have h2 := klL_comm k k' cs
  unfold kl at h1
  split <;> split <;> simp_all [killL, killNL]
end
mutual
theorem kl_refs (k : Bool × Nat) : ∀ (x : AV), ∀ t ∈ refs (kl k x), t ∈ refs x
 | .v _, t, h => by unfold kl at h; split at h <;> simp [kill, killN, refs] at h
 | .agg cs, t, h => by
  have := klL_refs k cs t
  unfold kl at h
  split at h <;> simp_all [kill, killN, refs]
 | .tup cs, t, h => by
  have := klL_refs k cs t
  unfold kl at h
  split at h <;> simp_all [kill, killN, refs]
 | .sl _ _ _, t, h => by unfold kl at h; split at h <;> simp [kill, killN, refs] at h
 | .fp _ _, t, h => by unfold kl at h; split at h <;> simp [kill, killN, refs] at h
 | .fn _ cs, t, h => by
  have := klL_refs k cs t
  unfold kl at h
  split at h <;> simp_all [kill, killN, refs]
 | .ref t' p lo n, t, h => by
  unfold kl at h
  split at h
  ·simp only [kill] at h; split at h
   ·simp [refs] at h
   ·exact h
  ·simp only [killN] at h; split at h
   ·simp [refs] at h
   ·exact h
 | .ptr t' p i j, t, h => by
  unfold kl at h
  split at h
  ·simp only [kill] at h; split at h
   ·simp [refs] at h
   ·exact h
  ·simp only [killN] at h; split at h
   ·simp [refs] at h
   ·exact h
 | .junk, t, h => by unfold kl at h; split at h <;> simp [kill, killN, refs] at h
theorem klL_refs (k : Bool × Nat) : ∀ (cs : List AV), ∀ t ∈ refsL (if k.1 then killL k.2 cs else killNL k.2 cs), t ∈ refsL cs
 | [], t, h => by split at h <;> simp [killL, killNL, refsL] at h
 | c :: cs, t, h => by
  have h1 := kl_refs k c t
  have h2 := klL_refs k cs t
  unfold kl at h1
  split at h <;> simp_all [killL, killNL, refsL] <;> exact h.imp h1 h2
end
section
variable {toks toks' : List Tok}
mutual
theorem res_congr : ∀ (x : AV), (∀ t ∈ refs x, toks'[t]? = toks[t]?) → res toks' x = res toks x
 | .v _, _ => rfl
 | .agg cs, h => by simp only [res]; rw [resL_congr cs (by simpa [refs] using h)]
 | .tup cs, h => by simp only [res]; rw [resL_congr cs (by simpa [refs] using h)]
 | .sl _ _ _, _ => rfl
 | .fp _ _, _ => rfl
 | .fn _ cs, h => by simp only [res]; rw [resL_congr cs (by simpa [refs] using h)]
 | .ref t p lo n, h => by simp only [res]; rw [h t (by simp [refs])]
 | .ptr t p i j, h => by simp only [res]; rw [h t (by simp [refs])]
 | .junk, _ => rfl
theorem resL_congr : ∀ (cs : List AV), (∀ t ∈ refsL cs, toks'[t]? = toks[t]?) → resL toks' cs = resL toks cs
 | [], _ => rfl
 | c :: cs, h => by
  simp only [resL]
  rw [res_congr c fun t ht => h t (by simp [refsL, ht]), resL_congr cs fun t ht => h t (by simp [refsL, ht])]
end
theorem lenAV_congr (x : AV) (h : ∀ t ∈ refs x, toks'[t]? = toks[t]?) : lenAV toks' x = lenAV toks x := by
 cases x <;> simp only [lenAV]
 rename_i t p lo n
 rw [h t (by simp [refs])]
theorem nilAV_congr (x : AV) (h : ∀ t ∈ refs x, toks'[t]? = toks[t]?) : nilAV toks' x = nilAV toks x := by
 cases x <;> simp only [nilAV]
 rename_i t p lo n
 rw [h t (by simp [refs])]
theorem partOk_congr (x : AV) (h : ∀ t ∈ refs x, toks'[t]? = toks[t]?) : partOk toks' x = partOk toks x := by
 unfold partOk; rw [lenAV_congr x h]
theorem wholeB_congr {t : Nat} {cs : List AV} (h : toks'[t]? = toks[t]?) : wholeB toks' t cs = wholeB toks t cs := by unfold wholeB; rw [h]
mutual
theorem ownR_congr : ∀ (x : AV), (∀ t ∈ refs x, toks'[t]? = toks[t]?) → ownR toks' x = ownR toks x
 | .v _, _ => rfl
 | .agg cs, h => by
  simp only [refs] at h
  simp only [ownR]
  rw [ownRL_congr cs h]
  congr 1
  funext q
  simp only [ownA]
  split
  ·rfl
  ·split
   ·rename_i t l hl
    rw [wholeB_congr (h t (by rw [hl]; simp))]
   ·rfl
 | .tup _, _ => rfl
 | .sl _ _ _, _ => rfl
 | .fp _ _, _ => rfl
 | .fn _ _, _ => rfl
 | .ref t p lo n, h => by simp only [ownR, ownV]; rw [h t (by simp [refs])]
 | .ptr _ _ _ _, _ => rfl
 | .junk, _ => rfl
theorem ownRL_congr : ∀ (cs : List AV), (∀ t ∈ refsL cs, toks'[t]? = toks[t]?) → ownRL toks' cs = ownRL toks cs
 | [], _ => rfl
 | c :: cs, h => by
  simp only [ownRL]
  rw [ownR_congr c fun t ht => h t (by simp [refsL, ht]), ownRL_congr cs fun t ht => h t (by simp [refsL, ht])]
end
end
mutual
theorem ownR_refs {toks : List Tok} : ∀ (x : AV) (q : AV × List Nat), ownR toks x = some q → ∀ t ∈ q.2, t ∈ refs x
 | .v _, q, h => by simp only [ownR, Option.some.injEq] at h; subst h; simp
 | .sl _ _ _, q, h => by
  simp only [ownR] at h
  split at h
  ·simp only [Option.some.injEq] at h; subst h; simp
  ·simp at h
 | .ref t p lo n, q, h => by
  simp only [ownR] at h
  have h0 := alt_eq h
  clear h
  rcases h0 with h | h
  ·(repeat' split at h) <;> first | (simp at h; done) | (simp only [Option.some.injEq] at h; subst h; simp [refs])
  ·unfold ownV at h
   (repeat' split at h) <;> first | (simp at h; done) | (simp only [Option.some.injEq] at h; subst h; simp [refs])
 | .agg cs, q, h => by
  simp only [ownR, Option.bind_eq_some_iff] at h
  obtain ⟨q', hq', h⟩ := h
  simp only [ownA] at h
  simp only [refs]
  split at h
  ·simp only [Option.some.injEq] at h; subst h
   exact ownRL_refs cs q' hq'
  ·split at h
   ·rename_i t l hl
    split at h
    ·simp only [Option.some.injEq] at h; subst h
     intro t' ht'
     simp only [List.mem_singleton] at ht'
     rw [hl, ht']; simp
    ·simp at h
   ·simp at h
 | .tup _, _, h => by simp [ownR] at h
 | .fp _ _, _, h => by simp [ownR] at h
 | .fn _ _, _, h => by simp [ownR] at h
 | .ptr _ _ _ _, _, h => by simp [ownR] at h
 | .junk, _, h => by simp [ownR] at h
theorem ownRL_refs {toks : List Tok} : ∀ (x : List AV) (q : List AV × List Nat), ownRL toks x = some q → ∀ t ∈ q.2, t ∈ refsL x
 | [], q, h => by simp only [ownRL, Option.some.injEq] at h; subst h; simp
 | c :: cs, q, h => by
  simp only [ownRL] at h
  split at h
  ·rename_i q1 q2 h1 h2
   simp only [Option.some.injEq] at h; subst h
   intro t ht
   simp only [refsL, List.mem_append]
   rcases List.mem_append.1 ht with ht | ht
   ·exact .inl (ownR_refs c q1 h1 t ht)
   ·exact .inr (ownRL_refs cs q2 h2 t ht)
  ·simp at h
end
mutual
theorem intern_loc : ∀ (r : AV) (toks : List Tok), ∃ m, (intern toks r).2 = toks ++ m ∧ (∀ t ∈ refs (intern toks r).1, toks.length ≤ t ∧ t < toks.length + m.length) ∧ ∀ toks' : List Tok, toks'.length = toks.length → intern toks' r = ((intern toks r).1, toks' ++ m)
 | .v _, toks => ⟨[], by simp [intern], by simp [intern, refs], by simp [intern]⟩
 | .junk, toks => ⟨[], by simp [intern], by simp [intern, refs], by simp [intern]⟩
 | .fp _ _, toks => ⟨[], by simp [intern], by simp [intern, refs], by simp [intern]⟩
 | .fn _ _, toks => ⟨[], by simp [intern], by simp [intern, refs], by simp [intern]⟩
 | .ref _ _ _ _, toks => ⟨[], by simp [intern], by simp [intern, refs], by simp [intern]⟩
 | .ptr _ _ _ _, toks => ⟨[], by simp [intern], by simp [intern, refs], by simp [intern]⟩
 | .sl nl sz es, toks => ⟨[⟨true, .sl nl sz es⟩], by simp [intern], by simp [intern, refs], fun toks' h => by simp [intern, h]⟩
 | .tup vs, toks => by
  obtain ⟨m, h1, h2, h3⟩ := internL_loc vs toks
  exact ⟨m, by simpa [intern] using h1, by simpa [intern, refs] using h2, fun toks' h => by simp only [intern]; rw [h3 toks' h]⟩
 | .agg vs, toks => by
  obtain ⟨m, h1, h2, h3⟩ := internL_loc vs toks
  exact ⟨m, by simpa [intern] using h1, by simpa [intern, refs] using h2, fun toks' h => by simp only [intern]; rw [h3 toks' h]⟩
theorem internL_loc : ∀ (r : List AV) (toks : List Tok), ∃ m, (internL toks r).2 = toks ++ m ∧ (∀ t ∈ refsL (internL toks r).1, toks.length ≤ t ∧ t < toks.length + m.length) ∧ ∀ toks' : List Tok, toks'.length = toks.length → internL toks' r = ((internL toks r).1, toks' ++ m)
 | [], toks => ⟨[], by simp [internL], by simp [internL, refsL], by simp [internL]⟩
 | c :: cs, toks => by
  obtain ⟨m1, h1, h2, h3⟩ := intern_loc c toks
  obtain ⟨m2, g1, g2, g3⟩ := internL_loc cs (intern toks c).2
  refine ⟨m1 ++ m2, by simp only [internL]; rw [g1, h1, List.append_assoc], fun t ht => ?_, fun toks' h => ?_⟩
  ·simp only [internL, refsL, List.mem_append] at ht
   rw [h1] at g2
   simp only [List.length_append] at g2 ⊢
   rcases ht with ht | ht
   ·have := h2 t ht; omega
   ·rw [h1] at ht; have := g2 t ht; omega
  ·simp only [internL]
   rw [h3 toks' h]
   simp only []
   rw [g3 (toks' ++ m1) (by rw [h1]; simp [h]), List.append_assoc]
end
mutual
def pureA : AV → Prop
 | .agg cs => pureL cs
 | .tup cs => pureL cs
 | .sl _ _ es => pureL es
 | .fp e _ => pureA e
 | .fn _ cs => pureL cs
 | .ref _ _ _ _ => False
 | .ptr _ _ _ _ => False
 | _ => True
def pureL : List AV → Prop
 | [] => True
 | c :: cs => pureA c ∧ pureL cs
end
mutual
def okA : AV → Prop
 | .agg cs => okL cs
 | .tup cs => okL cs
 | .sl _ _ es => pureL es
 | .fp e _ => pureA e
 | .fn _ cs => okL cs
 | _ => True
def okL : List AV → Prop
 | [] => True
 | c :: cs => okA c ∧ okL cs
end
mutual
theorem pure_refs : ∀ (x : AV), pureA x → refs x = []
 | .v _, _ => rfl
 | .agg cs, h => by simp only [pureA] at h; simp only [refs]; exact pureL_refs cs h
 | .tup cs, h => by simp only [pureA] at h; simp only [refs]; exact pureL_refs cs h
 | .sl _ _ _, _ => rfl
 | .fp _ _, _ => rfl
 | .fn _ cs, h => by simp only [pureA] at h; simp only [refs]; exact pureL_refs cs h
 | .ref _ _ _ _, h => by simp [pureA] at h
 | .ptr _ _ _ _, h => by simp [pureA] at h
 | .junk, _ => rfl
theorem pureL_refs : ∀ (cs : List AV), pureL cs → refsL cs = []
 | [], _ => rfl
 | c :: cs, h => by simp only [pureL] at h; simp [refsL, pure_refs c h.1, pureL_refs cs h.2]
end
theorem pureL_get : ∀ {cs : List AV} {i : Nat} {c : AV}, pureL cs → cs[i]? = some c → pureA c
 | [], _, _, _, h => by simp at h
 | c :: cs, 0, c', h, hi => by simp only [pureL] at h; simp at hi; subst hi; exact h.1
 | c :: cs, i + 1, c', h, hi => by simp only [pureL] at h; exact pureL_get h.2 (by simpa using hi)
theorem pureA_cell {e : AV} {j : Nat} {c : AV} (h : pureA e) (hj : e.cells[j]? = some c) : pureA c := by
 cases e with
 | agg cs => simp only [pureA] at h; exact pureL_get h (by simpa [AV.cells] using hj)
 | _ =>
  simp only [AV.cells] at hj
  cases j with
  | zero => simp at hj; subst hj; exact h
  | succ j => simp at hj
theorem pureA_getAt : ∀ (p : List (Nat × Nat)) {a : AV}, pureA a → pureA (getAt a p)
 | [], a, h => by simpa [getAt] using h
 | (i, j) :: p, a, h => by
  cases a with
  | sl nl sz es =>
   simp only [getAt]
   simp only [pureA] at h
   split
   ·rename_i e he
    split
    ·rename_i c hc
     exact pureA_getAt p (pureA_cell (pureL_get h he) hc)
    ·simp [pureA]
   ·simp [pureA]
  | _ => simp [getAt, pureA]
section
variable {w : World} {F : Nat → Prop}
mutual
theorem Rep.pure : ∀ (x : AV) (y : Value), Rep w F x y → pureA x
 | .v _, _, _ => by simp [pureA]
 | .agg cs, y, k => by simp only [Rep] at k; obtain ⟨ys, rfl, k⟩ := k; simp only [pureA]; exact RepL.pure cs _ k
 | .tup cs, y, k => by simp only [Rep] at k; obtain ⟨ys, rfl, k⟩ := k; simp only [pureA]; exact RepL.pure cs _ k
 | .sl nl sz es, y, k => by
  simp only [Rep] at k
  obtain ⟨a, len, cap, rfl, h1, h2, h3, k⟩ := k
  simp only [pureA]
  rcases k with ⟨_, _, h, _⟩ | ⟨b, o, _, _, k⟩ | ⟨_, _, rfl⟩
  ·rw [List.length_eq_zero_iff.1 (show es.length = 0 by omega)]; simp [pureL]
  ·exact RepRow.pure b sz o es k
  ·simp [pureL]
 | .fp e j, y, k => by simp only [Rep] at k; obtain ⟨b, o, x, rfl, k1, _⟩ := k; simp only [pureA]; exact Rep.pure e x k1
 | .fn f cs, y, k => by simp only [Rep] at k; obtain ⟨ys, rfl, k⟩ := k; simp only [pureA]; exact RepL.pure cs _ k
 | .ref _ _ _ _, _, k => by simp [Rep] at k
 | .ptr _ _ _ _, _, k => by simp [Rep] at k
 | .junk, _, _ => by simp [pureA]
theorem RepL.pure : ∀ (x : List AV) (y : List Value), RepL w F x y → pureL x
 | [], _, _ => by simp [pureL]
 | c :: cs, y, k => by
  simp only [RepL] at k
  obtain ⟨y, ys, rfl, k1, k2⟩ := k
  simp only [pureL]; exact ⟨Rep.pure c y k1, RepL.pure cs ys k2⟩
theorem RepRow.pure (b sz : Nat) : ∀ (o : Nat) (es : List AV), RepRow w F b sz o es → pureL es
 | _, [], _ => by simp [pureL]
 | o, e :: es, k => by
  simp only [RepRow] at k
  obtain ⟨⟨x, k1, _⟩, k2⟩ := k
  simp only [pureL]; exact ⟨Rep.pure e x k1, RepRow.pure b sz (o + sz) es k2⟩
end
mutual
theorem SRep.okA {E : Env} {toks : List Tok} : ∀ (x : AV) (y : Value), SRep w E toks x y → Ax.okA x
 | .v _, _, _ => by simp [Ax.okA]
 | .agg cs, y, k => by simp only [SRep] at k; obtain ⟨ys, rfl, k⟩ := k; simp only [Ax.okA]; exact SRepL.okL cs _ k
 | .tup cs, y, k => by simp only [SRep] at k; obtain ⟨ys, rfl, k⟩ := k; simp only [Ax.okA]; exact SRepL.okL cs _ k
 | .sl nl sz es, y, k => by simp only [SRep] at k; have := Rep.pure _ _ k; simpa only [Ax.okA, pureA] using this
 | .fp e j, y, k => by simp only [SRep] at k; have := Rep.pure _ _ k; simpa only [Ax.okA, pureA] using this
 | .fn f cs, y, k => by simp only [SRep] at k; obtain ⟨ys, rfl, k⟩ := k; simp only [Ax.okA]; exact SRepL.okL cs _ k
 | .ref _ _ _ _, _, k => by simp [Ax.okA]
 | .ptr _ _ _ _, _, k => by simp [Ax.okA]
 | .junk, _, _ => by simp [Ax.okA]
theorem SRepL.okL {E : Env} {toks : List Tok} : ∀ (x : List AV) (y : List Value), SRepL w E toks x y → Ax.okL x
 | [], _, _ => by simp [Ax.okL]
 | c :: cs, y, k => by
  simp only [SRepL] at k
  obtain ⟨y, ys, rfl, k1, k2⟩ := k
  simp only [Ax.okL]; exact ⟨SRep.okA c y k1, SRepL.okL cs ys k2⟩
end
end
theorem ofV_refs (x : Value) : refs (ofV x) = [] := by
 have h1 : ∀ x, refs (ofV1 x) = [] := fun x => by unfold ofV1; split; rfl; split <;> rfl
 unfold ofV
 split
 ·rename_i cs
  simp only [refs]
  have : ∀ l : List Value, refsL (l.map ofV1) = [] := by
   intro l; induction l with
   | nil => rfl
   | cons c cs ih => simp [refsL, h1, ih]
  exact this _
 ·exact h1 _
theorem refsL_map_mem {l : List Operand} {slots : List AV} {y : Operand} (hy : y ∈ l) : ∀ t ∈ refs (ev slots y), t ∈ refsL (l.map (ev slots)) :=
 fun t ht => refsL_mem' _ _ (List.mem_map.2 ⟨y, hy, rfl⟩) t ht
where
 refsL_mem' : ∀ (l : List AV) (x : AV), x ∈ l → ∀ t ∈ refs x, t ∈ refsL l
 | c :: cs, x, h, t, ht => by
  simp only [refsL, List.mem_append]
  rcases List.mem_cons.1 h with rfl | h
  ·exact .inl ht
  ·exact .inr (refsL_mem' cs x h t ht)
open Go Go.RowKit
def wrs : Op → Bool
 | .move _ => false
 | .assign _ => false
 | .pick _ _ _ => false
 | .binOp _ _ _ _ _ => false
 | .unOp _ _ _ => false
 | .convert _ _ _ => false
 | .index _ _ _ => false
 | .indexAddr _ _ _ => false
 | .load _ _ => false
 | .makeFunc _ _ _ => false
 | .fieldAddr _ _ _ => false
 | .extract _ _ => false
 | .field _ _ _ => false
 | .slice _ _ _ _ _ => false
 | .build _ _ => false
 | .makeSlice _ _ _ => false
 | .alloc _ => false
 | .call c => (match c.callee with
  | .builtin .len => false
  | .builtin .max => false
  | .builtin .cap => false
  | .builtin .min => false
  | .value _ => false
  | _ => true)
 | _ => true
theorem refsL_take {t : Nat} : ∀ {cs : List AV} {n : Nat}, t ∈ refsL (cs.take n) → t ∈ refsL cs
 | [], n, h => by simpa using h
 | c :: cs, 0, h => by simp [refsL] at h
 | c :: cs, n + 1, h => by
  simp only [List.take_succ_cons, refsL, List.mem_append] at h ⊢
  exact h.imp id refsL_take
theorem refsL_drop {t : Nat} : ∀ {cs : List AV} {n : Nat}, t ∈ refsL (cs.drop n) → t ∈ refsL cs
 | [], n, h => by simpa using h
 | c :: cs, 0, h => by simpa using h
 | c :: cs, n + 1, h => by
  simp only [List.drop_succ_cons] at h
  simp only [refsL, List.mem_append]
  exact .inr (refsL_drop h)
def opR (slots : List AV) (op : Op) : List Nat := refsL (op.operands.toList.map (ev slots))
def Loc (C : Ctx) (op : Op) (slots : List AV) (toks : List Tok) (r : Out) : Prop :=
 ∃ (ks : List (Bool × Nat)) (ss : List (Nat × Tok)) (m : List Tok), r.slots = kls ks slots ∧ r.toks = sets ss toks ++ m ∧ (∀ k ∈ ks, k.2 ∈ opR slots op) ∧ (∀ s ∈ ss, s.1 ∈ opR slots op) ∧
  (wrs op = false → (∀ f a, C.M f a = none) → (∀ f a, C.V f a = none) → ks = [] ∧ ss = []) ∧ (∀ t ∈ refs r.val, t ∈ opR slots op ∨ (toks.length ≤ t ∧ t < toks.length + m.length)) ∧
  ∀ slots' (toks' : List Tok), (∀ y ∈ op.operands.toList, ev slots' y = ev slots y) → toks'.length = toks.length → (∀ t ∈ opR slots op, toks'[t]? = toks[t]?) → aop C op slots' toks' = some ⟨r.val, kls ks slots', sets ss toks' ++ m⟩
section
variable {C : Ctx} {slots : List AV} {toks : List Tok} {r : Out}
theorem loc_pure {op : Op} (h : aop C op slots toks = some r) (hsl : r.slots = slots ∧ r.toks = toks) (hv : ∀ t ∈ refs r.val, t ∈ opR slots op)
  (key : ∀ slots' (toks' : List Tok), (∀ y ∈ op.operands.toList, ev slots' y = ev slots y) → (∀ t ∈ opR slots op, toks'[t]? = toks[t]?) → aop C op slots' toks' = (aop C op slots toks).map fun r => ⟨r.val, slots', toks'⟩) : Loc C op slots toks r :=
 ⟨[], [], [], by simpa [kls] using hsl.1, by simpa [sets] using hsl.2, by simp, by simp, fun _ _ _ => ⟨rfl, rfl⟩, fun t ht => .inl (hv t ht), fun slots' toks' h1 _ h3 => by rw [key slots' toks' h1 h3, h]; simp [kls, sets]⟩
theorem loc_new {op : Op} {m : List Tok} (hsl : r.slots = slots ∧ r.toks = toks ++ m) (hv : ∀ t ∈ refs r.val, t ∈ opR slots op ∨ (toks.length ≤ t ∧ t < toks.length + m.length))
  (key : ∀ slots' (toks' : List Tok), (∀ y ∈ op.operands.toList, ev slots' y = ev slots y) → toks'.length = toks.length → (∀ t ∈ opR slots op, toks'[t]? = toks[t]?) → aop C op slots' toks' = some ⟨r.val, slots', toks' ++ m⟩) : Loc C op slots toks r :=
 ⟨[], [], m, by simpa [kls] using hsl.1, by simpa [sets] using hsl.2, by simp, by simp, fun _ _ _ => ⟨rfl, rfl⟩, hv, fun slots' toks' h1 h2 h3 => by rw [key slots' toks' h1 h2 h3]; simp [kls, sets]⟩
theorem refsL_get {cs : List AV} {i : Nat} {c : AV} (h : cs[i]? = some c) : ∀ t ∈ refs c, t ∈ refsL cs :=
 fun t ht => refsL_map_mem.refsL_mem' cs c (List.mem_of_getElem? h) t ht
theorem loadCell_refs {t : Nat} {p : List (Nat × Nat)} {i j : Nat} {c : AV} (hc : pureA c) : ∀ x ∈ refs (loadCell t p i j c), x = t := by
 intro x hx
 cases c with
 | sl nl sz es => simpa [loadCell, refs] using hx
 | v x => simp [loadCell, refs] at hx
 | fp e k => simp [loadCell, refs] at hx
 | fn f cs => rw [loadCell, pure_refs _ hc] at hx; simp at hx
 | _ => simp [loadCell, refs] at hx
theorem pureL_drop : ∀ {j : Nat} {cs : List AV}, pureL cs → pureL (cs.drop j)
 | 0, _, h => by simpa using h
 | j + 1, [], h => by simpa using h
 | j + 1, c :: cs, h => by simp only [pureL] at h; simpa using pureL_drop (j := j) h.2
theorem pureL_take : ∀ {j : Nat} {cs : List AV}, pureL cs → pureL (cs.take j)
 | 0, _, _ => by simp [pureL]
 | j + 1, [], h => by simpa using h
 | j + 1, c :: cs, h => by simp only [pureL] at h; simp only [List.take_succ_cons, pureL]; exact ⟨h.1, pureL_take h.2⟩
theorem loadCells_refs {t : Nat} {p : List (Nat × Nat)} {i : Nat} : ∀ {j : Nat} {cs : List AV}, pureL cs → ∀ x ∈ refsL (loadCells t p i j cs), x = t
 | _, [], _, x, hx => by simp [loadCells, refsL] at hx
 | j, c :: cs, h, x, hx => by
  simp only [pureL] at h
  simp only [loadCells, refsL, List.mem_append] at hx
  exact hx.elim (loadCell_refs h.1 x) (loadCells_refs h.2 x)
theorem bld_refs {fields : List Field} {S : Nat → Prop} : ∀ {ps : List (Nat × AV)} {cells cs : List AV}, bld C fields ps cells = some cs → (∀ t ∈ refsL cells, S t) → (∀ p ∈ ps, ∀ t ∈ refs p.2, S t) → ∀ t ∈ refsL cs, S t
 | [], cells, cs, h, hc, _, t, ht => by simp only [bld, Option.some.injEq] at h; subst h; exact hc t ht
 | (i, x) :: rest, cells, cs, h, hc, hp, t, ht => by
  simp only [bld] at h
  split at h
  ·split at h
   ·split at h
    ·have happ : ∀ {a b : List AV} t, t ∈ refsL (a ++ b) ↔ t ∈ refsL a ∨ t ∈ refsL b := fun {a b} t => by rw [refsL_app, List.mem_append]
     have hsub : ∀ {a b : List AV}, (∀ y ∈ a, y ∈ b) → ∀ t ∈ refsL a, t ∈ refsL b := by
      intro a b hab t ht
      obtain ⟨y, hy, hty⟩ : ∃ y ∈ a, t ∈ refs y := by
       clear hab
       induction a with
       | nil => simp [refsL] at ht
       | cons c cs ih =>
        simp only [refsL, List.mem_append] at ht
        rcases ht with ht | ht
        ·exact ⟨c, by simp, ht⟩
        ·obtain ⟨y, hy, h⟩ := ih ht; exact ⟨y, by simp [hy], h⟩
      exact refsL_map_mem.refsL_mem' b y (hab y hy) t hty
     refine bld_refs h (fun t ht => ?_) (fun p hp' => hp p (by simp [hp'])) t ht
     rw [happ, happ] at ht
     rcases ht with (ht | ht) | ht
     ·exact hc t (hsub (fun y hy => List.mem_of_mem_take hy) t ht)
     ·refine hp (i, x) (by simp) t ?_
      cases x with
      | agg cs => simpa [AV.cells, refs] using ht
      | _ => simpa [AV.cells, refsL] using ht
     ·exact hc t (hsub (fun y hy => List.mem_of_mem_drop hy) t ht)
    ·simp at h
   ·simp at h
  ·simp at h
theorem appO_loc {args : Array Operand} {ts : Array TypeId} (h : appO C { callee := .builtin .append, args := args, argTypes := ts } slots toks = some r) : Loc C (.call { callee := .builtin .append, args := args, argTypes := ts }) slots toks r := by
 have hmem : ∀ x ∈ args.toList, x ∈ (Op.call { callee := .builtin .append, args := args, argTypes := ts }).operands.toList := fun x hx => by simp [Op.operands, Call.operands]; simpa using hx
 simp only [appO] at h
 split at h
 rotate_left
 ·simp at h
 rename_i x y t t' hx ht
 split at h
 rotate_left
 ·rename_i htt
  have hxm := hmem x (by rw [hx]; simp)
  have hym := hmem y (by rw [hx]; simp)
  split at h
  rotate_left
  ·simp at h
  rename_i ti ti' sz n hti hti' hxe hye
  split at h
  rotate_left
  ·simp at h
  rename_i el k hd hd'
  split at h
  rotate_left
  ·simp at h
  rename_i te hte
  split at h
  rotate_left
  ·simp at h
  rename_i hc
  simp only [Option.some.injEq] at h; subst h
  refine ⟨[], [], _, rfl, rfl, by simp, by simp, fun _ _ _ => ⟨rfl, rfl⟩, fun t ht => .inr (by simp only [refs, List.mem_singleton] at ht; subst ht; simp), fun s k hs hl hk => ?_⟩
  simp only [aop, appO, hx, ht, if_neg htt, hti, hti', hd, hd', hte, hs x hxm, hs y hym, hxe, hye, if_pos hc, kls, sets, hl, alt_some]
 rename_i htt
 split at h
 rotate_left
 ·simp at h
 rename_i ti hti
 split at h
 rotate_left
 ·simp at h
 rename_i el hd
 split at h
 rotate_left
 ·simp at h
 rename_i te hte
 split at h
 rotate_left
 ·simp at h
 rename_i es ux dx nl ys uy dy hX hY
 split at h
 rotate_left
 ·simp at h
 rename_i hc
 simp only [Option.some.injEq] at h; subst h
 have hxm := hmem x (by rw [hx]; simp)
 have hym := hmem y (by rw [hx]; simp)
 have hqr : ∀ t0 ∈ ux ++ uy, t0 ∈ opR slots (.call { callee := .builtin .append, args := args, argTypes := ts }) := fun t0 ht0 => by
  rcases List.mem_append.1 ht0 with h | h
  ·exact refsL_map_mem hxm t0 (appX_refs hX t0 h)
  ·exact refsL_map_mem hym t0 (appY_refs hY t0 h)
 rw [drops_eq]
 refine ⟨(ux ++ uy).map fun t => (true, t), (ux ++ uy).map fun t => (t, ⟨true, .junk⟩), _, rfl, rfl, fun k hk => ?_, fun k hk => ?_, by simp [wrs], fun t ht => .inr (by simp only [refs, List.mem_singleton] at ht; subst ht; simp), fun s k hs hl hk => ?_⟩
 ·obtain ⟨t, ht, rfl⟩ := List.mem_map.1 hk; exact hqr t ht
 ·obtain ⟨t, ht, rfl⟩ := List.mem_map.1 hk; exact hqr t ht
 ·simp only [aop, appO, hx, ht, if_pos htt, hti, hd, hte, hs x hxm, hs y hym]
  rw [appX_congr _ (fun t ht => hk t (refsL_map_mem hxm t ht)), appY_congr _ (fun t ht => hk t (refsL_map_mem hym t ht)), hX, hY]
  simp only [if_pos hc, drops_eq, hl, alt_some]
theorem appU_loc {args : Array Operand} {ts : Array TypeId} (h : appU C { callee := .builtin .append, args := args, argTypes := ts } slots toks = some r) : Loc C (.call { callee := .builtin .append, args := args, argTypes := ts }) slots toks r := by
 have hmem : ∀ x ∈ args.toList, x ∈ (Op.call { callee := .builtin .append, args := args, argTypes := ts }).operands.toList := fun x hx => by simp [Op.operands, Call.operands]; simpa using hx
 simp only [appU] at h
 split at h
 rotate_left
 ·simp at h
 rename_i x y t t' hx ht
 split at h
 rotate_left
 ·simp at h
 rename_i htt
 subst htt
 split at h
 rotate_left
 ·simp at h
 rename_i ti hti
 split at h
 rotate_left
 ·simp at h
 rename_i el hd
 split at h
 rotate_left
 ·simp at h
 rename_i te hte
 split at h
 rotate_left
 ·simp at h
 rename_i es k tk' nl ys uy dy hX hY
 split at h
 rotate_left
 ·simp at h
 rename_i hc
 simp only [Option.some.injEq] at h; subst h
 have hxm := hmem x (by rw [hx]; simp)
 have hym := hmem y (by rw [hx]; simp)
 have hX0 := upX_ok hX
 obtain ⟨q, p, tk, sz', hxe, htk, _⟩ := hX0
 have hkR : k ∈ opR slots (.call { callee := .builtin .append, args := args, argTypes := ts }) := refsL_map_mem hxm k (by rw [hxe]; simp [refs])
 have hqr : ∀ t0 ∈ uy, t0 ∈ opR slots (.call { callee := .builtin .append, args := args, argTypes := ts }) := fun t0 ht0 => refsL_map_mem hym t0 (appY_refs hY t0 ht0)
 have hupc : ∀ toks' : List Tok, toks'[k]? = toks[k]? → upX te.size toks' (ev slots x) = upX te.size toks (ev slots x) := fun toks' hk' => by
  rw [hxe]; simp only [upX, hk']
 rw [drops_eq]
 refine ⟨(false, k) :: uy.map fun t => (true, t), (k, tk') :: uy.map fun t => (t, ⟨true, .junk⟩), _, rfl, rfl, fun k' hk' => ?_, fun k' hk' => ?_, by simp [wrs], fun t ht => .inr (by simp only [refs, List.mem_singleton] at ht; subst ht; simp), fun s k' hs hl hk' => ?_⟩
 ·rcases List.mem_cons.1 hk' with rfl | hk'
  ·exact hkR
  ·obtain ⟨t, ht, rfl⟩ := List.mem_map.1 hk'; exact hqr t ht
 ·rcases List.mem_cons.1 hk' with rfl | hk'
  ·exact hkR
  ·obtain ⟨t, ht, rfl⟩ := List.mem_map.1 hk'; exact hqr t ht
 ·have h0 : appO C { callee := .builtin .append, args := args, argTypes := ts } s k' = none := by
   simp only [appO, hx, ht, if_true, hti, hd, hte, hs x hxm, hxe, appX]
  simp only [aop, h0, alt_none, appU, hx, ht, if_true, hti, hd, hte, hs x hxm, hs y hym]
  rw [hupc k' (hk' k hkR), hX, appY_congr _ (fun t ht => hk' t (refsL_map_mem hym t ht)), hY]
  simp only [if_pos hc, drops_eq, hl, kls, sets]
  rfl
theorem aop_loc {op : Op} (hok : ∀ y ∈ op.operands.toList, okA (ev slots y)) (htk : ∀ (t : Nat) (tk : Tok), toks[t]? = some tk → pureA tk.row) (h : aop C op slots toks = some r) : Loc C op slots toks r := by
 have h0 := h
 cases op with
 | move x => simp only [aop, Option.some.injEq] at h; subst h; exact loc_pure h0 ⟨rfl, rfl⟩ (fun t ht => by simpa [opR, Op.operands, refsL] using ht) fun s k hs hk => by simp only [aop, hs x (by simp [Op.operands])]; rfl
 | assign x => simp only [aop, Option.some.injEq] at h; subst h; exact loc_pure h0 ⟨rfl, rfl⟩ (fun t ht => by simpa [opR, Op.operands, refsL] using ht) fun s k hs hk => by simp only [aop, hs x (by simp [Op.operands])]; rfl
 | pick c x y =>
  simp only [aop] at h
  split at h
  ·rename_i t ht
   simp only [Option.some.injEq] at h; subst h
   refine loc_pure h0 ⟨rfl, rfl⟩ (fun t' ht' => ?_) fun s k hs hk => by simp only [aop, hs c (by simp [Op.operands]), hs x (by simp [Op.operands]), hs y (by simp [Op.operands]), ht]; rfl
   have : t' ∈ refs (ev slots x) ∨ t' ∈ refs (ev slots y) := by
    simp only [pickAV] at ht'
    split at ht'
    ·simp [refs] at ht'
    ·cases t <;> simp at ht' <;> simp [ht']
   simp only [opR, Op.operands, List.map_cons, refsL, List.mem_append]
   rcases this with h | h <;> simp [h]
  ·simp at h
 | binOp op t x y t' =>
  have hsl : r.slots = slots ∧ r.toks = toks ∧ refs r.val = [] := by
   simp only [aop] at h
   (repeat' split at h) <;> first | (simp at h; done) | (simp only [Option.some.injEq] at h; subst h; exact ⟨rfl, rfl, rfl⟩)
  refine loc_pure h0 ⟨hsl.1, hsl.2.1⟩ (by rw [hsl.2.2]; simp) fun s k hs hk => ?_
  have hn : nilAV k (ev slots x) = nilAV toks (ev slots x) := nilAV_congr _ fun t ht => hk t (refsL_map_mem (y := x) (by simp [Op.operands]) t ht)
  simp only [aop, hs x (by simp [Op.operands]), hs y (by simp [Op.operands]), hn]
  clear hn hsl h0
  generalize nilAV toks (ev slots x) = q
  (repeat' split) <;> simp_all
 | convert sT dT x =>
  have hsl : r.slots = slots ∧ r.toks = toks ∧ refs r.val = [] := by
   simp only [aop] at h
   (repeat' split at h) <;> first | (simp at h; done) | (simp only [Option.some.injEq] at h; subst h; exact ⟨rfl, rfl, rfl⟩)
  refine loc_pure h0 ⟨hsl.1, hsl.2.1⟩ (by rw [hsl.2.2]; simp) fun s k hs hk => ?_
  have hn : res k (ev slots x) = res toks (ev slots x) := res_congr _ fun t ht => hk t (refsL_map_mem (y := x) (by simp [Op.operands]) t ht)
  simp only [aop, hs x (by simp [Op.operands]), hn]
  (repeat' split) <;> simp_all
 | index t x ix =>
  have hsl : r.slots = slots ∧ r.toks = toks ∧ refs r.val = [] := by
   simp only [aop] at h
   (repeat' split at h) <;> first | (simp at h; done) | (simp only [Option.some.injEq] at h; subst h; exact ⟨rfl, rfl, rfl⟩)
  refine loc_pure h0 ⟨hsl.1, hsl.2.1⟩ (by rw [hsl.2.2]; simp) fun s k hs hk => ?_
  simp only [aop, hs x (by simp [Op.operands]), hs ix (by simp [Op.operands])]
  (repeat' split) <;> simp_all
 | unOp op t x =>
  have hsl : r.slots = slots ∧ r.toks = toks ∧ refs r.val = [] := by
   simp only [aop] at h
   split at h
   ·simp only [Option.map_eq_some_iff] at h; obtain ⟨z, _, rfl⟩ := h; exact ⟨rfl, rfl, rfl⟩
   ·simp at h
  refine loc_pure h0 ⟨hsl.1, hsl.2.1⟩ (by rw [hsl.2.2]; simp) fun s k hs hk => ?_
  simp only [aop, hs x (by simp [Op.operands])]
  split <;> simp [Function.comp_def]
 | alloc t =>
  simp only [aop] at h
  split at h
  ·rename_i ti hti
   simp only [Option.some.injEq] at h; subst h
   refine loc_new ⟨rfl, rfl⟩ (fun t ht => .inr (by simp only [refs, List.mem_singleton] at ht; subst ht; simp)) fun s k hs hl hk => ?_
   simp only [aop, hti, hl]
  ·simp at h
 | box t x =>
  simp only [aop] at h
  split at h
  ·rename_i ti hti
   split at h
   ·rename_i hf
    simp only [Option.some.injEq] at h; subst h
    refine loc_new ⟨rfl, rfl⟩ (fun t ht => .inr (by simp only [refs, List.mem_singleton] at ht; subst ht; simp)) fun s k hs hl hk => ?_
    simp only [aop, hti, hl, hs x (by simp [Op.operands]), if_pos hf]
   ·rename_i hf
    split at h
    ·rename_i q hq
     split at h
     ·rename_i hc
      simp only [Option.some.injEq] at h; subst h
      rw [drops_eq]
      have eR : refs (ev slots x) = opR slots (.box t x) := by simp [opR, Op.operands, refsL]
      have hqr := ownR_refs _ q hq
      rw [eR] at hqr
      refine ⟨q.2.map fun t => (true, t), q.2.map fun t => (t, ⟨true, .junk⟩), _, rfl, rfl, fun k hk => ?_, fun k hk => ?_, by simp [wrs], fun t ht => .inr (by simp only [refs, List.mem_singleton] at ht; subst ht; simp), fun s k hs hl hk => ?_⟩
      ·obtain ⟨t, ht, rfl⟩ := List.mem_map.1 hk; exact hqr t ht
      ·obtain ⟨t, ht, rfl⟩ := List.mem_map.1 hk; exact hqr t ht
      ·simp only [aop, hti, hs x (by simp [Op.operands]), if_neg hf]
       rw [ownR_congr _ (fun t ht => hk t (by rw [← eR]; exact ht)), hq]
       simp only [if_pos hc, drops_eq, hl]
     ·simp at h
    ·simp at h
  ·simp at h
 | indexAddr t x ix =>
  have hsl : r.slots = slots ∧ r.toks = toks ∧ ∀ t ∈ refs r.val, t ∈ refs (ev slots x) := by
   simp only [aop] at h
   (repeat' split at h) <;> first | (simp at h; done) | (simp only [Option.some.injEq] at h; subst h; refine ⟨rfl, rfl, ?_⟩; simp_all [refs])
  refine loc_pure h0 ⟨hsl.1, hsl.2.1⟩ (fun t ht => refsL_map_mem (y := x) (by simp [Op.operands]) t (hsl.2.2 t ht)) fun s k hs hk => ?_
  have hx : ∀ t ∈ refs (ev slots x), k[t]? = toks[t]? := fun t ht => hk t (refsL_map_mem (y := x) (by simp [Op.operands]) t ht)
  simp only [aop, hs x (by simp [Op.operands]), hs ix (by simp [Op.operands])]
  split
  ·split
   ·(repeat' split) <;> simp_all
   ·rename_i el k' p lo n hd hke
    rw [hke] at hx
    rw [hx k' (by simp [refs])]
    (repeat' split) <;> simp_all
   ·rename_i n el k' p q j hd hke
    rw [hke] at hx
    rw [hx k' (by simp [refs])]
    (repeat' split) <;> simp_all
   ·simp
  ·simp
 | load t x =>
  have hxo := hok x (by simp [Op.operands])
  have hsl : r.slots = slots ∧ r.toks = toks ∧ ∀ t ∈ refs r.val, t ∈ refs (ev slots x) := by
   simp only [aop] at h
   split at h
   ·split at h
    ·rename_i e j hx
     rw [hx] at hxo
     simp only [okA] at hxo
     split at h
     ·split at h
      ·split at h
       ·simp only [Option.some.injEq] at h; subst h
        refine ⟨rfl, rfl, fun t ht => ?_⟩
        simp only [pureA] at hxo
        rw [refs, pureL_refs _ hxo] at ht; simp at ht
       ·split at h
        ·simp only [Option.some.injEq] at h; subst h
         refine ⟨rfl, rfl, fun t ht => ?_⟩
         simp only [pureA] at hxo
         rw [refs, pureL_refs _ (pureL_take (pureL_drop hxo))] at ht; simp at ht
        ·simp at h
      ·simp at h
     ·split at h
      ·rename_i c hc
       simp only [Option.some.injEq] at h; subst h
       refine ⟨rfl, rfl, fun t ht => ?_⟩
       simp only [] at ht
       rw [pure_refs _ (pureA_cell hxo hc)] at ht; simp at ht
      ·simp at h
    ·rename_i k p i j hx
     split at h
     ·rename_i tk htk'
      split at h
      ·rename_i nl sz es hg
       have hpr := pureA_getAt p (htk _ _ htk')
       rw [hg] at hpr
       simp only [pureA] at hpr
       split at h
       ·rename_i e he
        have hpe := pureL_get hpr he
        split at h
        ·split at h
         ·rename_i cs
          split at h
          ·simp only [Option.some.injEq] at h; subst h
           refine ⟨rfl, rfl, fun t ht => ?_⟩
           simp only [pureA] at hpe
           simp only [refs] at ht
           have := loadCells_refs hpe t ht
           rw [hx]; simp [refs, this]
          ·split at h
           ·simp only [Option.some.injEq] at h; subst h
            refine ⟨rfl, rfl, fun t ht => ?_⟩
            simp only [pureA] at hpe
            simp only [refs] at ht
            have := loadCells_refs (pureL_take (pureL_drop hpe)) t ht
            rw [hx]; simp [refs, this]
           ·simp at h
         ·simp at h
        ·split at h
         ·rename_i c hc
          simp only [Option.some.injEq] at h; subst h
          refine ⟨rfl, rfl, fun t ht => ?_⟩
          have := loadCell_refs (pureA_cell hpe hc) t ht
          rw [hx]; simp [refs, this]
         ·simp at h
       ·simp at h
      ·simp at h
     ·simp at h
    ·simp at h
   ·simp at h
  refine loc_pure h0 ⟨hsl.1, hsl.2.1⟩ (fun t ht => refsL_map_mem (y := x) (by simp [Op.operands]) t (hsl.2.2 t ht)) fun s k hs hk => ?_
  have hx : ∀ t ∈ refs (ev slots x), k[t]? = toks[t]? := fun t ht => hk t (refsL_map_mem (y := x) (by simp [Op.operands]) t ht)
  simp only [aop, hs x (by simp [Op.operands])]
  split
  ·split
   ·(repeat' split) <;> simp_all
   ·rename_i k' p i j hke
    rw [hke] at hx
    rw [hx k' (by simp [refs])]
    (repeat' split) <;> simp_all
   ·simp
  ·simp
 | fieldAddr t x f =>
  have hsl : r.slots = slots ∧ r.toks = toks ∧ ∀ t ∈ refs r.val, t ∈ refs (ev slots x) := by
   simp only [aop] at h
   (repeat' split at h) <;> first | (simp at h; done) | (simp only [Option.some.injEq] at h; subst h; refine ⟨rfl, rfl, ?_⟩; simp_all [refs])
  refine loc_pure h0 ⟨hsl.1, hsl.2.1⟩ (fun t ht => refsL_map_mem (y := x) (by simp [Op.operands]) t (hsl.2.2 t ht)) fun s k hs hk => ?_
  have hx : ∀ t ∈ refs (ev slots x), k[t]? = toks[t]? := fun t ht => hk t (refsL_map_mem (y := x) (by simp [Op.operands]) t ht)
  simp only [aop, hs x (by simp [Op.operands])]
  split
  ·split
   ·split
    ·split
     ·split
      ·split
       ·rename_i k' p i j hke
        rw [hke] at hx
        rw [hx k' (by simp [refs])]
        (repeat' split) <;> simp_all
       ·simp
       ·simp
      ·simp
     ·simp
    ·simp
   ·simp
  ·simp
 | field t x f =>
  have hsl : r.slots = slots ∧ r.toks = toks ∧ ∀ t ∈ refs r.val, t ∈ refs (ev slots x) := by
   simp only [aop] at h
   split at h
   rotate_left
   ·simp at h
   split at h
   rotate_left
   ·simp at h
   split at h
   rotate_left
   ·simp at h
   split at h
   rotate_left
   ·simp at h
   split at h
   rotate_left
   ·simp at h
   rename_i cs hx
   split at h
   ·split at h
    ·simp only [Option.some.injEq] at h; subst h
     refine ⟨rfl, rfl, fun t ht => ?_⟩
     rw [hx]
     simp only [refs] at ht ⊢
     exact refsL_drop (refsL_take ht)
    ·simp at h
   ·split at h
    ·rename_i c hc
     simp only [Option.some.injEq] at h; subst h
     refine ⟨rfl, rfl, fun t ht => ?_⟩
     rw [hx]
     simp only [refs]
     exact refsL_get hc t ht
    ·simp at h
  refine loc_pure h0 ⟨hsl.1, hsl.2.1⟩ (fun t ht => refsL_map_mem (y := x) (by simp [Op.operands]) t (hsl.2.2 t ht)) fun s k hs hk => ?_
  simp only [aop, hs x (by simp [Op.operands])]
  (repeat' split) <;> simp_all
 | extract x i =>
  simp only [aop] at h
  split at h
  ·rename_i vs hx
   split at h
   ·rename_i v hv
    simp only [Option.some.injEq] at h; subst h
    refine loc_pure h0 ⟨rfl, rfl⟩ (fun t ht => refsL_map_mem (y := x) (by simp [Op.operands]) t (by rw [hx]; simp only [refs]; exact refsL_get hv t ht)) fun s k hs hk => ?_
    simp only [aop, hs x (by simp [Op.operands]), hx, hv]; rfl
   ·simp at h
  ·simp at h
 | slice t x lo hi mx =>
  cases mx with
  | some m => simp [aop] at h
  | none =>
   have hsl : r.slots = slots ∧ r.toks = toks ∧ ∀ t ∈ refs r.val, t ∈ refs (ev slots x) := by
    simp only [aop] at h
    (repeat' split at h) <;> first | (simp at h; done) | (simp only [Option.some.injEq] at h; subst h; refine ⟨rfl, rfl, ?_⟩; simp_all [refs])
   refine loc_pure h0 ⟨hsl.1, hsl.2.1⟩ (fun t ht => refsL_map_mem (y := x) (by simp [Op.operands]) t (hsl.2.2 t ht)) fun s k hs hk => ?_
   have hx : ∀ t ∈ refs (ev slots x), k[t]? = toks[t]? := fun t ht => hk t (refsL_map_mem (y := x) (by simp [Op.operands]) t ht)
   have e1 : ∀ d, bndOf s d lo = bndOf slots d lo := fun d => by
    cases lo with
    | none => rfl
    | some y => simp only [bndOf]; rw [hs y (by simp [Op.operands])]
   have e2 : ∀ d, bndOf s d hi = bndOf slots d hi := fun d => by
    cases hi with
    | none => rfl
    | some y => simp only [bndOf]; rw [hs y (by simp [Op.operands])]
   simp only [aop, hs x (by simp [Op.operands]), e1, e2]
   split
   ·split
    ·(repeat' split) <;> simp_all
    ·rename_i el k' p lo0 n hd hke
     rw [hke] at hx
     rw [hx k' (by simp [refs])]
     (repeat' split) <;> simp_all
    ·(repeat' split) <;> simp_all
    ·simp
   ·simp
 | makeSlice t l c =>
  simp only [aop] at h
  split at h
  ·rename_i ti n n' h1 h2 h3
   split at h
   ·rename_i el hd
    split at h
    ·rename_i te hte
     split at h
     ·rename_i hc
      simp only [Option.some.injEq] at h; subst h
      refine loc_new ⟨rfl, rfl⟩ (fun t ht => .inr (by simp only [refs, List.mem_singleton] at ht; subst ht; simp)) fun s k hs hl hk => ?_
      simp only [aop, hs l (by simp [Op.operands]), hs c (by simp [Op.operands]), h1, h2, h3, hd, hte, if_pos hc, hl]
     ·simp at h
    ·simp at h
   ·simp at h
  ·simp at h
 | build t parts =>
  have e0 : ∀ y : Operand, (∃ p ∈ parts.toList, y = p.2) → y ∈ (Op.build t parts).operands.toList := fun y ⟨p, hp, e⟩ => by simp only [Op.operands]; exact List.mem_map.2 ⟨p, hp, e.symm⟩
  have hsl : r.slots = slots ∧ r.toks = toks ∧ ∀ x ∈ refs r.val, x ∈ opR slots (.build t parts) := by
   simp only [aop] at h
   split at h
   ·split at h
    ·split at h
     ·simp at h
     ·simp only [Option.map_eq_some_iff] at h
      obtain ⟨cs, hcs, rfl⟩ := h
      refine ⟨rfl, rfl, fun x hx => ?_⟩
      simp only [refs] at hx
      refine bld_refs (S := fun x => x ∈ opR slots (.build t parts)) hcs (fun t' ht' => ?_) (fun p hp t' ht' => ?_) x hx
      ·have hz : ∀ v, refsL (ofV v).cells = [] := fun v => by
        have := ofV_refs v
        cases hz : ofV v with
        | agg cs => rw [hz] at this; simpa [AV.cells, refs] using this
        | _ => rw [hz] at this; simpa [AV.cells, refsL] using this
       rw [hz] at ht'; simp at ht'
      ·obtain ⟨p', hp', rfl⟩ := List.mem_map.1 hp
       exact refsL_map_mem (y := p'.2) (e0 _ ⟨p', hp', rfl⟩) t' ht'
    ·simp at h
   ·simp at h
  refine loc_pure h0 ⟨hsl.1, hsl.2.1⟩ hsl.2.2 fun s k hs hk => ?_
  have e1 : (parts.toList.map fun p => (p.1, ev s p.2)) = parts.toList.map fun p => (p.1, ev slots p.2) := List.map_congr_left fun p hp => by rw [hs p.2 (e0 _ ⟨p, hp, rfl⟩)]
  have e2 : (parts.toList.all fun p => partOk k (ev s p.2)) = parts.toList.all fun p => partOk toks (ev slots p.2) := by
   have key : ∀ p ∈ parts.toList, partOk k (ev s p.2) = partOk toks (ev slots p.2) := fun p hp => by
    rw [hs p.2 (e0 _ ⟨p, hp, rfl⟩)]
    exact partOk_congr _ fun t ht => hk t (refsL_map_mem (y := p.2) (e0 _ ⟨p, hp, rfl⟩) t ht)
   rw [Bool.eq_iff_iff, List.all_eq_true, List.all_eq_true]
   exact ⟨fun h p hp => by rw [← key p hp]; exact h p hp, fun h p hp => by rw [key p hp]; exact h p hp⟩
  simp only [aop, e1, e2]
  (repeat' split) <;> simp [Function.comp_def]
 | buildSlice t len parts =>
  have e0 : ∀ y : Operand, (∃ p ∈ parts.toList, y = p.2) → y ∈ (Op.buildSlice t len parts).operands.toList := fun y ⟨p, hp, e⟩ => by simp only [Op.operands]; exact List.mem_map.2 ⟨p, hp, e.symm⟩
  have e1 : ∀ s, (∀ y ∈ (Op.buildSlice t len parts).operands.toList, ev s y = ev slots y) → (parts.toList.map fun p => ev s p.2) = parts.toList.map fun p => ev slots p.2 := fun s hs =>
   List.map_congr_left fun p hp => hs p.2 (e0 _ ⟨p, hp, rfl⟩)
  have eR : refsL (parts.toList.map fun p => ev slots p.2) = opR slots (.buildSlice t len parts) := by
   unfold opR; simp only [Op.operands, List.map_map]; rfl
  simp only [aop] at h
  split at h
  rotate_left
  ·simp at h
  rename_i ti hti
  split at h
  rotate_left
  ·simp at h
  rename_i el hd
  split at h
  rotate_left
  ·simp at h
  rename_i te hte
  split at h
  rotate_left
  ·simp at h
  rename_i hcond
  split at h
  ·rename_i q hq
   split at h
   ·rename_i hc
    simp only [Option.some.injEq] at h; subst h
    rw [drops_eq]
    have hqr := ownRL_refs _ q hq
    rw [eR] at hqr
    refine ⟨q.2.map fun t => (true, t), q.2.map fun t => (t, ⟨true, .junk⟩), _, rfl, rfl, fun k hk => ?_, fun k hk => ?_, by simp [wrs], fun t ht => .inr (by simp only [refs, List.mem_singleton] at ht; subst ht; simp), fun s k hs hl hk => ?_⟩
    ·obtain ⟨t, ht, rfl⟩ := List.mem_map.1 hk; exact hqr t ht
    ·obtain ⟨t, ht, rfl⟩ := List.mem_map.1 hk; exact hqr t ht
    ·simp only [aop, hti, hd, hte, if_pos hcond, e1 s hs]
     rw [ownRL_congr _ (fun t ht => hk t (by rw [← eR]; exact ht)), hq]
     simp only [if_pos hc, drops_eq, hl]
   ·simp at h
  ·rename_i hq
   split at h
   ·rename_i hc
    simp only [Option.some.injEq] at h; subst h
    refine ⟨[], [], _, rfl, rfl, by simp, by simp, fun _ _ _ => ⟨rfl, rfl⟩, fun t ht => .inr (by simp only [refs, List.mem_singleton] at ht; subst ht; simp), fun s k hs hl hk => ?_⟩
    have e1' : ((parts.toList.map fun p => ev s p.2).all fun v => frz v && decide (v.cells.length = te.size)) = true := by rw [e1 s hs]; exact hc
    simp only [aop, hti, hd, hte, if_pos hcond, e1 s hs]
    rw [ownRL_congr _ (fun t ht => hk t (by rw [← eR]; exact ht)), hq]
    simp only [if_pos hc, kls, sets, hl]
   ·rename_i hc0
    split at h
    rotate_left
    ·simp at h
    rename_i hc
    simp only [Option.some.injEq] at h; subst h
    rw [drops_eq, eR]
    refine ⟨(opR slots (.buildSlice t len parts)).map fun t => (true, t), (opR slots (.buildSlice t len parts)).map fun t => (t, ⟨true, .junk⟩), _, rfl, rfl, fun k hk => ?_, fun k hk => ?_, by simp [wrs], fun t ht => .inr (by simp only [refs, List.mem_singleton] at ht; subst ht; simp), fun s k hs hl hk => ?_⟩
    ·obtain ⟨t, ht, rfl⟩ := List.mem_map.1 hk; exact ht
    ·obtain ⟨t, ht, rfl⟩ := List.mem_map.1 hk; exact ht
    ·simp only [aop, hti, hd, hte, if_pos hcond, e1 s hs]
     rw [ownRL_congr _ (fun t ht => hk t (by rw [← eR]; exact ht)), resL_congr _ (fun t ht => hk t (by rw [← eR]; exact ht)), hq]
     simp only [if_neg hc0, if_pos hc, drops_eq, eR, hl]
 | makeFunc f first captured =>
  cases f with
  | func f =>
   simp only [aop] at h
   split at h
   ·rename_i hf
    simp only [Option.some.injEq] at h; subst h
    refine loc_pure h0 ⟨rfl, rfl⟩ (fun t ht => ?_) fun s k hs hk => ?_
    ·simp only [refs] at ht
     have : first = #[] := by simpa using hf
     subst this
     simpa [opR, Op.operands] using ht
    ·simp only [aop, if_pos hf]
     have : captured.toList.map (ev s) = captured.toList.map (ev slots) := List.map_congr_left fun x hx => hs x (by simp [Op.operands]; right; simpa using hx)
     rw [this]; rfl
   ·simp at h
  | _ => simp [aop] at h
 | store t a x =>
  have hxm : x ∈ (Op.store t a x).operands.toList := by simp [Op.operands]
  have ham : a ∈ (Op.store t a x).operands.toList := by simp [Op.operands]
  simp only [aop] at h
  split at h
  rotate_left
  ·simp at h
  rename_i ti hti
  split at h
  ·rename_i k i j hpt
   have hkR : k ∈ opR slots (.store t a x) := refsL_map_mem ham k (by rw [hpt]; simp [refs])
   split at h
   rotate_left
   ·simp at h
   rename_i tk htk'
   split at h
   rotate_left
   ·simp at h
   rename_i nl sz es hrow
   split at h
   rotate_left
   ·simp at h
   rename_i e he
   split at h
   ·rename_i hc
    simp only [Option.some.injEq] at h; subst h
    refine ⟨[], [(k, _)], [], rfl, by simp only [sets, List.append_nil]; rfl, by simp, by simpa using hkR, by simp [wrs], by simp [refs], fun s k' hs hl hk => ?_⟩
    simp only [aop, hti, hs a ham, hs x hxm, hpt, hk k hkR, htk', hrow, he, if_pos hc, kls, sets, List.append_nil]
   ·rename_i hc
    split at h
    ·rename_i hc2
     simp only [Option.some.injEq] at h; subst h
     refine ⟨[(false, k)], [(k, _)], [], by simp only [kls]; rfl, by simp only [sets, List.append_nil]; rfl, by simpa using hkR, by simpa using hkR, by simp [wrs], by simp [refs], fun s k' hs hl hk => ?_⟩
     simp only [aop, hti, hs a ham, hs x hxm, hpt, hk k hkR, htk', hrow, he, if_neg hc, if_pos hc2, kls, sets, List.append_nil]
     rfl
    ·rename_i hc2
     split at h
     ·rename_i q hq
      split at h
      ·rename_i hc3
       simp only [Option.some.injEq] at h; subst h
       have hqr : ∀ t' ∈ q.2, t' ∈ opR slots (.store t a x) := fun t' ht' => refsL_map_mem hxm t' (ownR_refs _ q hq t' ht')
       refine ⟨(q.2.map fun t => (true, t)) ++ [(false, k)], (q.2.map fun t => (t, ⟨true, .junk⟩)) ++ [(k, _)], [], by rw [kls_app, drops_eq]; simp only [kls]; rfl, by rw [sets_app, drops_eq]; simp only [sets, List.append_nil]; rfl, fun k' hk' => ?_, fun k' hk' => ?_, by simp [wrs], by simp [refs], fun s k' hs hl hk => ?_⟩
       ·rcases List.mem_append.1 hk' with h | h
        ·obtain ⟨t', ht', rfl⟩ := List.mem_map.1 h; exact hqr t' ht'
        ·simp at h; subst h; exact hkR
       ·rcases List.mem_append.1 hk' with h | h
        ·obtain ⟨t', ht', rfl⟩ := List.mem_map.1 h; exact hqr t' ht'
        ·simp at h; subst h; exact hkR
       ·simp only [aop, hti, hs a ham, hs x hxm, hpt, hk k hkR, htk', hrow, he, if_neg hc, if_neg hc2]
        rw [ownR_congr _ (fun t' ht' => hk t' (refsL_map_mem hxm t' ht')), hq]
        simp only [if_pos hc3, kls_app, sets_app, drops_eq, kls, sets, List.append_nil]
        rfl
      ·simp at h
     ·simp at h
  ·rename_i k p i j hnp hpt
   have hkR : k ∈ opR slots (.store t a x) := refsL_map_mem ham k (by rw [hpt]; simp [refs])
   split at h
   rotate_left
   ·simp at h
   rename_i tk htk'
   split at h
   rotate_left
   ·simp at h
   rename_i nl sz es hg
   split at h
   rotate_left
   ·simp at h
   rename_i e he
   split at h
   ·rename_i hc
    simp only [Option.some.injEq] at h; subst h
    refine ⟨[(false, k)], [(k, _)], [], by simp only [kls]; rfl, by simp only [sets, List.append_nil]; rfl, by simpa using hkR, by simpa using hkR, by simp [wrs], by simp [refs], fun s k' hs hl hk => ?_⟩
    cases p with
    | nil => exact (hnp rfl).elim
    | cons p0 p =>
     simp only [aop, hti, hs a ham, hs x hxm, hpt, hk k hkR, htk', hg, he, if_pos hc, kls, sets, List.append_nil]
     rfl
   ·simp at h
  ·simp at h
 | call c =>
  obtain ⟨callee, args, ts⟩ := c
  cases callee with
  | builtin b =>
   have hmem : ∀ x ∈ args.toList, x ∈ (Op.call { callee := .builtin b, args := args, argTypes := ts }).operands.toList := fun x hx => by simp [Op.operands, Call.operands]; simpa using hx
   cases b with
   | len =>
    simp only [aop] at h
    split at h
    ·rename_i x t hx ht
     split at h
     ·rename_i ti hti
      split at h
      ·rename_i el hd
       simp only [Option.map_eq_some_iff] at h
       obtain ⟨n, hn, rfl⟩ := h
       have hxm := hmem x (by rw [hx]; simp)
       refine loc_pure h0 ⟨rfl, rfl⟩ (by simp [refs]) fun s k hs hk => ?_
       simp only [aop, hx, ht, hti, hd, hs x hxm]
       rw [lenAV_congr _ (fun t ht => hk t (refsL_map_mem hxm t ht))]
       simp [Function.comp_def]
      ·rename_i hd
       split at h
       ·rename_i sv hxs
        simp only [Option.some.injEq] at h; subst h
        have hxm := hmem x (by rw [hx]; simp)
        refine loc_pure h0 ⟨rfl, rfl⟩ (by simp [refs]) fun s k hs hk => ?_
        simp only [aop, hx, ht, hti, hd, hs x hxm, hxs]
        rfl
       ·simp at h
      ·simp at h
     ·simp at h
    ·simp at h
   | max =>
    simp only [aop] at h
    split at h
    ·rename_i x y hx
     split at h
     ·rename_i k a k' b h1 h2
      simp only [Option.some.injEq] at h; subst h
      refine loc_pure h0 ⟨rfl, rfl⟩ (by simp [refs]) fun s k hs hk => ?_
      simp only [aop, hx, hs x (hmem x (by rw [hx]; simp)), hs y (hmem y (by rw [hx]; simp)), h1, h2]; rfl
     ·simp at h
    ·simp at h
   | min =>
    simp only [aop] at h
    split at h
    ·rename_i x y hx
     split at h
     ·rename_i k a k' b h1 h2
      simp only [Option.some.injEq] at h; subst h
      refine loc_pure h0 ⟨rfl, rfl⟩ (by simp [refs]) fun s k hs hk => ?_
      simp only [aop, hx, hs x (hmem x (by rw [hx]; simp)), hs y (hmem y (by rw [hx]; simp)), h1, h2]; rfl
     ·simp at h
    ·simp at h
   | cap =>
    simp only [aop] at h
    split at h
    rotate_left
    ·simp at h
    rename_i x t hx ht
    split at h
    rotate_left
    ·simp at h
    rename_i ti sz hti hxe
    split at h
    rotate_left
    ·simp at h
    rename_i el hd
    simp only [Option.some.injEq] at h; subst h
    refine loc_pure h0 ⟨rfl, rfl⟩ (by simp [refs]) fun s k hs hk => ?_
    simp only [aop, hx, ht, hti, hd, hs x (hmem x (by rw [hx]; simp)), hxe]; rfl
   | copy =>
    simp only [aop] at h
    split at h
    rotate_left
    ·simp at h
    rename_i x y t t2 hx ht
    split at h
    rotate_left
    ·simp at h
    rename_i ti k lo n nl2 sz' ys hti hxe hye
    split at h
    rotate_left
    ·simp at h
    rename_i el tk hd htk'
    split at h
    rotate_left
    ·simp at h
    rename_i te nl sz es hte hrow
    split at h
    rotate_left
    ·simp at h
    rename_i hc
    simp only [Option.some.injEq] at h; subst h
    have hxm := hmem x (by rw [hx]; simp)
    have hym := hmem y (by rw [hx]; simp)
    have hkR : k ∈ opR slots (.call { callee := .builtin .copy, args := args, argTypes := ts }) := refsL_map_mem hxm k (by rw [hxe]; simp [refs])
    refine ⟨[(false, k)], [(k, _)], [], by simp only [kls]; rfl, by simp only [sets, List.append_nil]; rfl, by simpa using hkR, by simpa using hkR, by simp [wrs], by simp [refs], fun s k' hs hl hk => ?_⟩
    have hyk : res k' (ev slots y) = res toks (ev slots y) := res_congr _ fun t ht => hk t (refsL_map_mem hym t ht)
    simp only [aop, hx, ht, hti, hd, hte, hs x hxm, hs y hym, hxe, hyk, hye, hk k hkR, htk', hrow, if_pos hc, kls, sets, List.append_nil]
    rfl
   | append =>
    simp only [aop] at h
    rcases alt_eq h with h | h
    ·exact appO_loc h
    ·exact appU_loc h
   | _ => simp [aop] at h
  | value f =>
   have hfm : f ∈ (Op.call { callee := .value f, args := args, argTypes := ts }).operands.toList := by simp [Op.operands, Call.operands]
   have hmem : ∀ x ∈ args.toList, x ∈ (Op.call { callee := .value f, args := args, argTypes := ts }).operands.toList := fun x hx => by simp [Op.operands, Call.operands]; right; simpa using hx
   simp only [aop] at h
   split at h
   rotate_left
   ·simp at h
   rename_i g caps hf
   have hcR : ∀ t ∈ refsL caps, t ∈ opR slots (.call { callee := .value f, args := args, argTypes := ts }) := fun t ht => refsL_map_mem hfm t (by rw [hf]; simpa [refs] using ht)
   have eA : ∀ s (k : List Tok), (∀ y ∈ (Op.call { callee := .value f, args := args, argTypes := ts }).operands.toList, ev s y = ev slots y) → (∀ t ∈ opR slots (.call { callee := .value f, args := args, argTypes := ts }), k[t]? = toks[t]?) →
     args.toList.map (fun x => res k (ev s x)) ++ resL k caps = args.toList.map (fun x => res toks (ev slots x)) ++ resL toks caps := fun s k hs hk => by
    rw [resL_congr caps fun t ht => hk t (hcR t ht)]
    congr 1
    refine List.map_congr_left fun x hx => ?_
    rw [hs x (hmem x hx)]
    exact res_congr _ fun t ht => hk t (refsL_map_mem (hmem x hx) t ht)
   have eB : ∀ s, (∀ y ∈ (Op.call { callee := .value f, args := args, argTypes := ts }).operands.toList, ev s y = ev slots y) → args.toList.map (ev s) = args.toList.map (ev slots) := fun s hs =>
    List.map_congr_left fun x hx => hs x (hmem x hx)
   split at h
   ·rename_i z hz
    simp only [Option.some.injEq] at h; subst h
    obtain ⟨m, g1, g2, g3⟩ := intern_loc z toks
    refine loc_new (m := m) ⟨rfl, g1⟩ (fun t ht => .inr (g2 t ht)) fun s k hs hl hk => ?_
    simp only [aop, hs f hfm, hf, eA s k hs hk, hz, g3 k hl]
   ·rename_i hz
    have h1 := alt_eq h
    have hargR : ∀ (i : Nat) (x : AV), (args.toList.map (ev slots))[i]? = some x → ∀ t ∈ refs x, t ∈ opR slots (.call { callee := .value f, args := args, argTypes := ts }) := fun i x hi t ht => by
     rw [List.getElem?_map, Option.map_eq_some_iff] at hi
     obtain ⟨y, hy, rfl⟩ := hi
     exact refsL_map_mem (hmem y (List.mem_of_getElem? hy)) t ht
    cases hM : mutCall slots toks (args.toList.map (ev slots)) caps (C.M g (args.toList.map (fun x => res toks (ev slots x)) ++ resL toks caps)) with
    | some r' =>
     have hr : r' = r := by rw [hM, alt_some] at h; exact Option.some.inj h
     subst hr
     cases hMM : C.M g (args.toList.map (fun x => res toks (ev slots x)) ++ resL toks caps) with
     | none => rw [hMM] at hM; simp [mutCall] at hM
     | some q =>
      obtain ⟨pos, rr, row'⟩ := q
      have hM0 := hM
      rw [hMM] at hM
      simp only [mutCall] at hM
      split at hM
      ·rename_i t p lo n nl' sz' es' hav
       have htR := hargR pos _ hav t (by simp [refs])
       split at hM
       ·rename_i tk htk'
        split at hM
        ·rename_i nl sz es hg
         split at hM
         ·rename_i hc
          simp only [Option.some.injEq] at hM
          obtain ⟨m, g1, g2, g3⟩ := intern_loc rr (toks.set t ⟨true, setAt tk.row p (.sl nl sz es')⟩)
          subst hM
          refine ⟨[(false, t)], [(t, ⟨true, setAt tk.row p (.sl nl sz es')⟩)], m, by simp only [kls]; rfl, by simp only [sets]; exact g1, by simpa using htR, by simpa using htR, fun _ hno _ => by rw [hno] at hMM; simp at hMM, fun t' ht' => .inr (by simpa using g2 t' ht'), fun s k hs hl hk => ?_⟩
          simp only [aop, hs f hfm, hf, eA s k hs hk, eB s hs, hz, hMM, mutCall, hav, hk t htR, htk', hg, if_pos hc, alt_some, kls, sets]
          rw [g3 (k.set t _) (by simp [hl])]
          rfl
         ·simp at hM
        ·simp at hM
       ·simp at hM
      ·rename_i sz sz' hav
       split at hM
       ·rename_i hsz
        simp only [Option.some.injEq] at hM
        obtain ⟨m, g1, g2, g3⟩ := intern_loc rr toks
        subst hM
        refine loc_new (m := m) ⟨rfl, g1⟩ (fun t ht => .inr (g2 t ht)) fun s k hs hl hk => ?_
        simp only [aop, hs f hfm, hf, eA s k hs hk, eB s hs, hz, hMM, mutCall, hav, if_pos hsz, alt_some, g3 k hl]
       ·simp at hM
      ·simp at hM
    | none =>
     rw [hM, alt_none] at h
     have hM' : ∀ s (k : List Tok), (∀ t ∈ opR slots (.call { callee := .value f, args := args, argTypes := ts }), k[t]? = toks[t]?) → mutCall s k (args.toList.map (ev slots)) caps (C.M g (args.toList.map (fun x => res toks (ev slots x)) ++ resL toks caps)) = none := by
      intro s k hk
      cases hMM : C.M g (args.toList.map (fun x => res toks (ev slots x)) ++ resL toks caps) with
      | none => rfl
      | some q0 =>
       obtain ⟨pos, rr0, row'⟩ := q0
       rw [hMM] at hM
       simp only [mutCall] at hM ⊢
       split
       ·rename_i t p lo n nl' sz' es' hav
        have htR := hargR pos _ hav t (by simp [refs])
        simp only [hav] at hM
        rw [hk t htR]
        split
        ·rename_i tk htk'
         simp only [htk'] at hM
         split
         ·rename_i nl sz es hg
          simp only [hg] at hM
          split
          ·rename_i hc0
           rw [if_pos hc0] at hM; simp at hM
          ·rfl
         ·rfl
        ·rfl
       ·rename_i sz sz' hav
        simp only [hav] at hM
        split
        ·rename_i hsz; rw [if_pos hsz] at hM; simp at hM
        ·rfl
       ·rfl
     have hmvR : ∀ (mv : List Nat), ∀ t ∈ refsL (mv.map fun i => (args.toList.map (ev slots)).getD i .junk), t ∈ opR slots (.call { callee := .value f, args := args, argTypes := ts }) := by
      intro mv t ht
      have : ∀ (l : List Nat), t ∈ refsL (l.map fun i => (args.toList.map (ev slots)).getD i .junk) → ∃ (i : Nat) (x : AV), (args.toList.map (ev slots))[i]? = some x ∧ t ∈ refs x := by
       intro l
       induction l with
       | nil => intro h; simp [refsL] at h
       | cons i l ih =>
        intro h
        simp only [List.map_cons, refsL, List.mem_append] at h
        rcases h with h | h
        ·rw [List.getD_eq_getElem?_getD] at h
         cases hi : (args.toList.map (ev slots))[i]? with
         | none => rw [hi] at h; simp [refs] at h
         | some x => rw [hi] at h; exact ⟨i, x, hi, h⟩
        ·exact ih h
      obtain ⟨i, x, hi, hx⟩ := this mv ht
      exact hargR i x hi t hx
     cases hVV : movCall slots toks (args.toList.map (ev slots)) caps (C.V g (args.toList.map (fun x => res toks (ev slots x)) ++ resL toks caps)) with
     | some r' =>
      have hr : r' = r := by rw [hVV, alt_some] at h; exact Option.some.inj h
      subst hr
      rw [hVV, alt_some] at h
      clear h
      have h := hVV
      cases hV : C.V g (args.toList.map (fun x => res toks (ev slots x)) ++ resL toks caps) with
      | none => rw [hV] at h; simp [movCall] at h
      | some q =>
       obtain ⟨mv, rr⟩ := q
       rw [hV] at h
       simp only [movCall] at h
       split at h
       ·rename_i q hq
        split at h
        ·rename_i hc
         simp only [Option.some.injEq] at h
         have hqr : ∀ t ∈ q.2, t ∈ opR slots (.call { callee := .value f, args := args, argTypes := ts }) := fun t ht => hmvR mv t (ownRL_refs _ q hq t ht)
         rw [drops_eq] at h
         obtain ⟨m, g1, g2, g3⟩ := intern_loc rr (sets (q.2.map fun t => (t, ⟨true, .junk⟩)) toks)
         subst h
         refine ⟨q.2.map fun t => (true, t), q.2.map fun t => (t, ⟨true, .junk⟩), m, rfl, g1, fun k hk => ?_, fun k hk => ?_, fun _ _ hno => by rw [hno] at hV; simp at hV, fun t ht => .inr (by simpa [sets_len] using g2 t ht), fun s k hs hl hk => ?_⟩
         ·obtain ⟨t, ht, rfl⟩ := List.mem_map.1 hk; exact hqr t ht
         ·obtain ⟨t, ht, rfl⟩ := List.mem_map.1 hk; exact hqr t ht
         ·simp only [aop, hs f hfm, hf, eA s k hs hk, eB s hs, hz, hV, hM' s k hk, alt_none, movCall]
          rw [ownRL_congr _ (fun t ht => hk t (hmvR mv t ht)), hq]
          simp only [if_pos hc, drops_eq, alt_some]
          rw [g3 (sets _ k) (by simp [sets_len, hl])]
        ·simp at h
       ·simp at h
     | none =>
      rw [hVV, alt_none] at h
      cases hH : C.H g (args.toList.map (fun x => res toks (ev slots x)) ++ resL toks caps) with
      | none => rw [hH] at h; simp [frzCall] at h
      | some q =>
       obtain ⟨sh, rr⟩ := q
       have hV' : ∀ s (k : List Tok), (∀ t ∈ opR slots (.call { callee := .value f, args := args, argTypes := ts }), k[t]? = toks[t]?) → movCall s k (args.toList.map (ev slots)) caps (C.V g (args.toList.map (fun x => res toks (ev slots x)) ++ resL toks caps)) = none := by
        intro s k hk
        cases hV : C.V g (args.toList.map (fun x => res toks (ev slots x)) ++ resL toks caps) with
        | none => rfl
        | some q =>
         obtain ⟨mv, rr⟩ := q
         rw [hV] at hVV
         simp only [movCall] at hVV ⊢
         rw [ownRL_congr _ (fun t ht => hk t (hmvR mv t ht))]
         split
         ·rename_i q hq
          simp only [hq] at hVV
          split
          ·rename_i hc; rw [if_pos hc] at hVV; simp at hVV
          ·rfl
         ·rfl
       rw [hH] at h
       simp only [frzCall] at h
       split at h
       ·rename_i hc
        simp only [Option.some.injEq] at h; subst h
        refine loc_pure h0 ⟨rfl, rfl⟩ (fun t ht => ?_) fun s k hs hk => ?_
        ·simp only [hc.2] at ht; simp at ht
        ·simp only [aop, hs f hfm, hf, eA s k hs hk, eB s hs, hz, hM' s k hk, hM, hV' s k hk, hVV, hH, alt_none, frzCall, if_pos hc]; rfl
       ·simp at h
  | _ => simp [aop] at h
 | _ => simp [aop] at h
end
open Go Go.RowKit
mutual
theorem ren_refs {f : Nat → Nat} : ∀ (x : AV), ∀ t ∈ refs (ren f x), ∃ t0 ∈ refs x, t = f t0
 | .v _, t, ht => by simp [ren, refs] at ht
 | .agg cs, t, ht => by simpa [ren, refs] using renL_refs cs t (by simpa [ren, refs] using ht)
 | .tup cs, t, ht => by simpa [ren, refs] using renL_refs cs t (by simpa [ren, refs] using ht)
 | .sl _ _ _, t, ht => by simp [ren, refs] at ht
 | .fp _ _, t, ht => by simp [ren, refs] at ht
 | .fn _ cs, t, ht => by simpa [ren, refs] using renL_refs cs t (by simpa [ren, refs] using ht)
 | .ref t' _ _ _, t, ht => by simp [ren, refs] at ht; exact ⟨t', by simp [refs], ht⟩
 | .ptr t' _ _ _, t, ht => by simp [ren, refs] at ht; exact ⟨t', by simp [refs], ht⟩
 | .junk, t, ht => by simp [ren, refs] at ht
theorem renL_refs {f : Nat → Nat} : ∀ (cs : List AV), ∀ t ∈ refsL (renL f cs), ∃ t0 ∈ refsL cs, t = f t0
 | [], t, ht => by simp [renL, refsL] at ht
 | c :: cs, t, ht => by
  simp only [renL, refsL, List.mem_append] at ht ⊢
  rcases ht with ht | ht
  ·obtain ⟨t0, h1, h2⟩ := ren_refs c t ht; exact ⟨t0, .inl h1, h2⟩
  ·obtain ⟨t0, h1, h2⟩ := renL_refs cs t ht; exact ⟨t0, .inr h1, h2⟩
end
mutual
theorem ren_id {f : Nat → Nat} : ∀ (x : AV), (∀ t ∈ refs x, f t = t) → ren f x = x
 | .v _, _ => rfl
 | .agg cs, h => by simp only [ren]; rw [renL_id cs (by simpa [refs] using h)]
 | .tup cs, h => by simp only [ren]; rw [renL_id cs (by simpa [refs] using h)]
 | .sl _ _ _, _ => rfl
 | .fp _ _, _ => rfl
 | .fn _ cs, h => by simp only [ren]; rw [renL_id cs (by simpa [refs] using h)]
 | .ref t _ _ _, h => by simp only [ren]; rw [h t (by simp [refs])]
 | .ptr t _ _ _, h => by simp only [ren]; rw [h t (by simp [refs])]
 | .junk, _ => rfl
theorem renL_id {f : Nat → Nat} : ∀ (cs : List AV), (∀ t ∈ refsL cs, f t = t) → renL f cs = cs
 | [], _ => rfl
 | c :: cs, h => by simp only [renL]; rw [ren_id c fun t ht => h t (by simp [refsL, ht]), renL_id cs fun t ht => h t (by simp [refsL, ht])]
end
def shf (L off t : Nat) : Nat := if L ≤ t then off + (t - L) else t
def nums : Nat → List Tok → List (Nat × Tok)
 | _, [] => []
 | o, t :: m => (o, t) :: nums (o + 1) m
theorem nums_mem : ∀ {o : Nat} {m : List Tok} {k : Nat × Tok}, k ∈ nums o m → o ≤ k.1 ∧ k.1 < o + m.length
 | _, [], _, h => by simp [nums] at h
 | o, t :: m, k, h => by
  simp only [nums, List.mem_cons] at h
  rcases h with rfl | h
  ·simp
  ·have := nums_mem h; simp; omega
theorem nums_get : ∀ {o : Nat} {m : List Tok} {s : List Tok} {j : Nat}, j < m.length → o + m.length ≤ s.length → (sets (nums o m) s)[o + j]? = m[j]?
 | _, [], _, _, h, _ => by simp at h
 | o, t :: m, s, 0, _, hl => by
  simp only [nums, sets]
  rw [sets_get (fun k hk => by have := nums_mem hk; simp at this ⊢; omega)]
  simp at hl ⊢
  rw [List.getElem?_set_self (by omega)]
 | o, t :: m, s, j + 1, h, hl => by
  simp only [nums, sets]
  have := nums_get (o := o + 1) (m := m) (s := s.set o t) (j := j) (by simpa using h) (by simp at hl ⊢; omega)
  rw [show o + (j + 1) = o + 1 + j by omega, this]; simp
def outDr (L off c : Nat) (d : Option Nat) : Option Out → Option ASt
 | some r => (match c with
  | 0 => if r.toks.length = L then some ⟨putD r.slots d r.val, r.toks⟩ else none
  | c + 1 => if (r.toks.drop L).length ≤ c + 1 then some ⟨putD r.slots d (ren (shf L off) r.val), sets (nums off (r.toks.drop L)) (r.toks.take L)⟩ else none)
 | none => none
def rstepD (C : Ctx) (ops : List Oper) (L off c : Nat) (o : Oper) (st : ASt) : Option ASt :=
 match guardOk ops st.slots o with
 | some g => if g then outDr L off c o.dst (aop C o.op st.slots st.toks) else some ⟨putD st.slots o.dst (.tup []), st.toks⟩
 | none => none
def stR (slots : List AV) (op : Op) : Option Bool → Option (List Nat)
 | some true => if jkL (op.operands.toList.map (ev slots)) then none else some (opR slots op)
 | some false => some []
 | none => none
def needs (i : Nat) : List (Nat × Nat) → Bool
 | [] => false
 | (x, y) :: l => x == i || y == i || needs i l
def chk (tr : List (Option (List Nat))) (i : Nat) (R : Option (List Nat)) : List (Nat × Nat) → Bool
 | [] => true
 |(x, j) :: l => (if j = i then (match tr.getD x none, R with
  | some a, some b => !meets a b
  | _, _ => false) else true) && chk tr i R l
def rrunD (C : Ctx) (ops : List Oper) (d : RD) (L : Nat) : List Oper → Nat → Nat → List Nat → List (Option (List Nat)) → ASt → Option ASt
 | [], _, _, _, _, st => some st
 | o :: l, i, off, cs, tr, st => match rstepD (if d.wr.contains i then C else noM C) ops L off (cs.headD 0) o st with
  | some st' => if needs i d.prs then (if chk tr i (stR st.slots o.op (guardOk ops st.slots o)) d.prs then rrunD C ops d L l (i + 1) (off + cs.headD 0) cs.tail (tr ++ [stR st.slots o.op (guardOk ops st.slots o)]) st' else none)
    else rrunD C ops d L l (i + 1) (off + cs.headD 0) cs.tail (tr ++ [none]) st'
  | none => none
def rdraw (C : Ctx) (ops : List Oper) (d : RD) (st : ASt) : Option ASt :=
 rrunD C ops d (st.toks.length + d.cs.sum) ops 0 st.toks.length d.cs [] ⟨st.slots, st.toks ++ List.replicate d.cs.sum ⟨true, .junk⟩⟩
theorem getD_putD {slots : List AV} {d i : Nat} {x : AV} (h : i ≠ d) : (putD slots (some d) x).getD i .junk = slots.getD i .junk := by
 simp [putD, List.getD_eq_getElem?_getD, List.getElem?_set_ne (Ne.symm h)]
theorem ev_putD {slots : List AV} {dst : Option Nat} {x : AV} {y : Operand} (h : ∀ d, dst = some d → y ≠ .tmp d) : ev (putD slots dst x) y = ev slots y := by
 cases dst with
 | none => rfl
 | some d =>
  cases y with
  | tmp t => exact getD_putD fun e => h d rfl (by rw [e])
  | _ => rfl
theorem putD_comm {slots : List AV} {d d' : Option Nat} (x x' : AV) (h : ∀ e, d = some e → d' ≠ some e) : putD (putD slots d x) d' x' = putD (putD slots d' x') d x := by
 cases d with
 | none => rfl
 | some e =>
  cases d' with
  | none => rfl
  | some e' => exact List.set_comm _ _ fun h' => h e rfl (by rw [h'])
theorem mem_looks {ops : Array Oper} {o : Oper} {t : Nat} (h : Operand.tmp t ∈ o.op.operands.toList) : t ∈ o.looksAt ops := by
 unfold Oper.looksAt
 exact List.mem_append_left _ (List.mem_filterMap.2 ⟨_, h, rfl⟩)
theorem getD_putD_ne {slots : List AV} {dst : Option Nat} {x : AV} {i : Nat} (h : dst ≠ some i) : (putD slots dst x).getD i .junk = slots.getD i .junk := by
 cases dst with
 | none => rfl
 | some d => exact getD_putD fun e => h (by rw [e])
theorem kl_junk {k : Bool × Nat} : kl k .junk = .junk := by unfold kl; split <;> rfl
theorem kls_getD : ∀ {ks : List (Bool × Nat)} {s : List AV} {i : Nat}, (kls ks s).getD i .junk = ks.foldl (fun x k => kl k x) (s.getD i .junk)
 | [], _, _ => rfl
 | k :: ks, s, i => by
  simp only [kls, List.foldl_cons]
  rw [kls_getD]
  congr 1
  rw [List.getD_eq_getElem?_getD, List.getElem?_map, List.getD_eq_getElem?_getD]
  cases s[i]? with
  | none => simp [kl_junk]
  | some x => rfl
def klf (ks : List (Bool × Nat)) (x : AV) : AV := ks.foldl (fun x k => kl k x) x
theorem klf_id {ks : List (Bool × Nat)} : ∀ {x : AV}, (∀ k ∈ ks, k.2 ∉ refs x) → klf ks x = x := by
 induction ks with
 | nil => intro x _; rfl
 | cons k ks ih =>
  intro x h
  simp only [klf, List.foldl_cons]
  rw [kl_id k x (h k (by simp))]
  exact ih fun k' hk => h k' (by simp [hk])
theorem klf_refs {ks : List (Bool × Nat)} : ∀ {x : AV}, ∀ t ∈ refs (klf ks x), t ∈ refs x := by
 induction ks with
 | nil => intro x t h; exact h
 | cons k ks ih =>
  intro x t h
  simp only [klf, List.foldl_cons] at h
  exact kl_refs k x t (ih t h)
theorem ev_kls {ks : List (Bool × Nat)} {s : List AV} (y : Operand) : ev (kls ks s) y = klf ks (ev s y) := by
 cases y with
 | tmp t => exact kls_getD
 | const c =>
  show ofV c = klf ks (ofV c)
  exact (klf_id (by rw [ofV_refs]; simp)).symm
 | func f =>
  show AV.fn f [] = klf ks (AV.fn f [])
  exact (klf_id (by simp [refs, refsL])).symm
 | global g =>
  show AV.junk = klf ks AV.junk
  exact (klf_id (by simp [refs])).symm
theorem kls_putD {d : Option Nat} {v : AV} : ∀ {ks : List (Bool × Nat)} {s : List AV}, kls ks (putD s d v) = putD (kls ks s) d (klf ks v)
 | [], _ => rfl
 | k :: ks, s => by
  simp only [kls]
  have : (putD s d v).map (kl k) = putD (s.map (kl k)) d (kl k v) := by
   cases d with
   | none => rfl
   | some d => simp [putD, List.map_set]
  rw [this, kls_putD]; rfl
theorem kls_map_comm {k : Bool × Nat} : ∀ {ks : List (Bool × Nat)} {s : List AV}, kls ks (s.map (kl k)) = (kls ks s).map (kl k)
 | [], _ => rfl
 | k' :: ks, s => by
  simp only [kls]
  rw [show (s.map (kl k)).map (kl k') = (s.map (kl k')).map (kl k) from by simp only [List.map_map]; exact List.map_congr_left fun x _ => kl_comm k' k x, kls_map_comm]
theorem kls_comm : ∀ {a b : List (Bool × Nat)} {s : List AV}, kls a (kls b s) = kls b (kls a s)
 | [], _, _ => rfl
 | k :: a, b, s => by simp only [kls]; rw [← kls_map_comm, kls_comm]
theorem set_sets {k : Nat × Tok} : ∀ {b : List (Nat × Tok)} {s : List Tok}, (∀ x ∈ b, x.1 ≠ k.1) → sets b (s.set k.1 k.2) = (sets b s).set k.1 k.2
 | [], _, _ => rfl
 | x :: b, s, h => by
  simp only [sets]
  rw [List.set_comm _ _ (fun e => h x (by simp) e.symm), set_sets fun y hy => h y (by simp [hy])]
theorem sets_comm : ∀ {a b : List (Nat × Tok)} {s : List Tok}, (∀ x ∈ a, ∀ y ∈ b, x.1 ≠ y.1) → sets a (sets b s) = sets b (sets a s)
 | [], _, _, _ => rfl
 | k :: a, b, s, h => by
  simp only [sets]
  rw [← set_sets fun x hx e => h k (by simp) x hx e.symm, sets_comm fun x hx => h x (by simp [hx])]
theorem kl_bool {k : Bool × Nat} {x : AV} {b : Bool} : kl k x = .v (.bool b) ↔ x = .v (.bool b) := by
 unfold kl
 cases x <;> split <;> simp only [kill, killN] <;> first | rfl | (split <;> simp) | simp
theorem kl_tup {k : Bool × Nat} {x : AV} : (∃ vs, kl k x = .tup vs) ↔ ∃ vs, x = .tup vs := by
 unfold kl
 cases x <;> split <;> simp only [kill, killN] <;> first | rfl | (split <;> simp) | simp
def gv : AV → Option (Option Bool)
 | .v (.bool b) => some (some b)
 | .tup _ => some none
 | _ => none
theorem gv_kl {k : Bool × Nat} {x : AV} : gv (kl k x) = gv x := by
 have h1 := fun b => kl_bool (k := k) (x := x) (b := b)
 have h2 := kl_tup (k := k) (x := x)
 generalize kl k x = y at *
 unfold gv
 split
 ·rename_i b; rw [(h1 b).1 rfl]
 ·rename_i vs; obtain ⟨vs', rfl⟩ := h2.1 ⟨vs, rfl⟩; rfl
 ·rename_i hn1 hn2
  split
  ·rename_i b; exact (hn1 b ((h1 b).2 rfl)).elim
  ·rename_i vs; obtain ⟨vs', h⟩ := h2.2 ⟨vs, rfl⟩; exact (hn2 vs' h).elim
  ·rfl
theorem gv_klf {ks : List (Bool × Nat)} : ∀ {x : AV}, gv (klf ks x) = gv x := by
 induction ks with
 | nil => intro x; rfl
 | cons k ks ih => intro x; simp only [klf, List.foldl_cons]; exact ih.trans gv_kl
theorem guardOk_gv {ops : List Oper} {slots slots' : List AV} {o : Oper} (h : ∀ j want o' d, o.guard = some (j, want) → ops[j]? = some o' → o'.dst = some d → gv (slots'.getD d .junk) = gv (slots.getD d .junk)) : guardOk ops slots' o = guardOk ops slots o := by
 have key : ∀ (x : AV) (want : Bool), (match x with | .v (.bool b) => some (b == want) | .tup _ => some false | _ => none) = (match gv x with | some (some b) => some (b == want) | some none => some false | none => none) := fun x want => by
  unfold gv; split <;> first | rfl | (split <;> simp_all)
 unfold guardOk
 split
 ·rfl
 ·rename_i j want hg
  split
  ·rename_i o' ho'
   split
   ·rename_i d hd
    exact (key (slots'.getD d .junk) want).trans ((congrArg (fun z : Option (Option Bool) => match z with | some (some b) => some (b == want) | some none => some false | none => none) (h j want o' d hg ho' hd)).trans (key (slots.getD d .junk) want).symm)
   ·rfl
  ·rfl
def wrt (d : RD) (i : Nat) (o : Oper) : Bool := wrs o.op || d.wr.contains i
section
variable {C : Ctx} {ops : Array Oper} {d : RD} {base L : Nat} {Rs : Nat → Option (List Nat)}
def offI (base : Nat) (d : RD) (i : Nat) : Nat := base + (d.cs.take i).sum
def ownN (base : Nat) (d : RD) (i t : Nat) : Prop := offI base d i ≤ t ∧ t < offI base d i + d.cs.getD i 0
theorem sum_take : ∀ (cs : List Nat) (i : Nat), (cs.take (i + 1)).sum = (cs.take i).sum + cs.getD i 0
 | [], i => by simp
 | c :: cs, 0 => by simp
 | c :: cs, i + 1 => by
  simp only [List.take_succ_cons, List.sum_cons, List.getD_cons_succ]
  rw [sum_take cs i]; omega
theorem sum_take_le : ∀ (cs : List Nat) {i j : Nat}, i ≤ j → (cs.take i).sum ≤ (cs.take j).sum := by
 intro cs i j h
 induction j with
 | zero =>
      have : i = 0 := by omega
      subst this; exact Nat.le_refl _
 | succ j ih =>
  by_cases e : i = j + 1
  ·subst e; exact Nat.le_refl _
  ·have := ih (by omega); rw [sum_take]; omega
theorem sum_take_all (cs : List Nat) (i : Nat) : (cs.take i).sum ≤ cs.sum := by
 induction cs generalizing i with
 | nil => simp
 | cons c cs ih =>
  cases i with
  | zero => simp
  | succ i => simp only [List.take_succ_cons, List.sum_cons]; have := ih i; omega
theorem own_disj {i j t : Nat} (h : i ≠ j) (hi : ownN base d i t) (hj : ownN base d j t) : False := by
 unfold ownN offI at hi hj
 have h1 := sum_take d.cs i
 have h2 := sum_take d.cs j
 rcases Nat.lt_or_gt_of_ne h with h | h
 ·have := sum_take_le d.cs (show i + 1 ≤ j by omega); omega
 ·have := sum_take_le d.cs (show j + 1 ≤ i by omega); omega
theorem own_lt {i t : Nat} (hL : L = base + d.cs.sum) (h : ownN base d i t) : base ≤ t ∧ t < L := by
 unfold ownN offI at h
 have h1 := sum_take d.cs i
 have := sum_take_all d.cs (i + 1)
 omega
def stepI (C : Ctx) (ops : Array Oper) (d : RD) (base L : Nat) (Rs : Nat → Option (List Nat)) (i : Nat) (st st' : ASt) : Prop :=
 ∃ o, ops[i]? = some o ∧ rstepD (if d.wr.contains i then C else noM C) ops.toList L (offI base d i) (d.cs.getD i 0) o st = some st' ∧ (needs i d.prs = true → stR st.slots o.op (guardOk ops.toList st.slots o) = Rs i)
def runI (C : Ctx) (ops : Array Oper) (d : RD) (base L : Nat) (Rs : Nat → Option (List Nat)) : List Nat → ASt → ASt → Prop
 | [], st, fin => st = fin
 | i :: l, st, fin => ∃ st', stepI C ops d base L Rs i st st' ∧ runI C ops d base L Rs l st' fin
structure Fine (L : Nat) (st : ASt) : Prop where
 len : st.toks.length = L
 ok : ∀ y, okA (ev st.slots y)
 pure : ∀ (t : Nat) (tk : Tok), st.toks[t]? = some tk → pureA tk.row
 rng : ∀ y, ∀ t ∈ refs (ev st.slots y), t < L
theorem stepI_eff {i : Nat} {st st' : ASt} (hL : L = base + d.cs.sum) (hf : Fine L st) (h : stepI C ops d base L Rs i st st') : ∃ (o : Oper) (g : Bool) (v : AV) (ks : List (Bool × Nat)) (ss : List (Nat × Tok)),
  ops[i]? = some o ∧ guardOk ops.toList st.slots o = some g ∧ st' = ⟨putD (kls ks st.slots) o.dst v, sets ss st.toks⟩ ∧ (∀ k ∈ ks, g = true ∧ k.2 ∈ opR st.slots o.op) ∧ (∀ s ∈ ss, (g = true ∧ s.1 ∈ opR st.slots o.op) ∨ ownN base d i s.1) ∧
  (wrt d i o = false → ks = [] ∧ ∀ s ∈ ss, ownN base d i s.1) ∧ (∀ t ∈ refs v, (g = true ∧ t ∈ opR st.slots o.op) ∨ ownN base d i t) ∧ (needs i d.prs = true → stR st.slots o.op (some g) = Rs i) ∧
  ∀ slots' (toks' : List Tok), (g = true → ∀ y ∈ o.op.operands.toList, ev slots' y = ev st.slots y) → guardOk ops.toList slots' o = some g → toks'.length = L → (g = true → ∀ t ∈ opR st.slots o.op, toks'[t]? = st.toks[t]?) →
   stepI C ops d base L Rs i ⟨slots', toks'⟩ ⟨putD (kls ks slots') o.dst v, sets ss toks'⟩ := by
 obtain ⟨o, ho, hst, hR⟩ := h
 unfold rstepD at hst
 split at hst
 rotate_left
 ·simp at hst
 rename_i g hg
 rw [hg] at hR
 cases g with
 | false =>
  simp only [Bool.false_eq_true, if_false, Option.some.injEq] at hst
  subst hst
  refine ⟨o, false, .tup [], [], [], ho, hg, by simp [kls, sets], by simp, by simp, fun _ => ⟨rfl, by simp⟩, by simp [refs, refsL], hR, fun slots' toks' _ h2 h3 _ => ⟨o, ho, ?_, fun hn => ?_⟩⟩
  ·unfold rstepD
   simp only [h2]; simp [kls, sets]
  ·rw [h2]; exact hR hn
 | true =>
  simp only [if_true] at hst
  cases hr : aop (if d.wr.contains i then C else noM C) o.op st.slots st.toks with
  | none => rw [hr] at hst; simp [outDr] at hst
  | some r =>
   rw [hr] at hst
   obtain ⟨ks, ss, m, e1, e2, e3, e4, e5, e6, e7⟩ := aop_loc (fun y _ => hf.ok y) hf.pure hr
   have hrl : (sets ss st.toks).length = L := by rw [sets_len]; exact hf.len
   have hRl : ∀ t ∈ opR st.slots o.op, t < L := by
    intro t ht
    have : ∀ l : List Operand, t ∈ refsL (l.map (ev st.slots)) → t < L := by
     intro l
     induction l with
     | nil => intro h; simp [refsL] at h
     | cons y l ih =>
      intro h
      simp only [List.map_cons, refsL, List.mem_append] at h
      exact h.elim (hf.rng y t) ih
    exact this _ ht
   have hwr : wrt d i o = false → ks = [] ∧ ss = [] := fun hw => by
    simp only [wrt, Bool.or_eq_false_iff] at hw
    exact e5 hw.1 (fun f a => by rw [hw.2]; rfl) (fun f a => by rw [hw.2]; rfl)
   have hRs : ∀ slots' : List AV, (∀ y ∈ o.op.operands.toList, ev slots' y = ev st.slots y) → stR slots' o.op (some true) = stR st.slots o.op (some true) := fun slots' hs => by
    have : o.op.operands.toList.map (ev slots') = o.op.operands.toList.map (ev st.slots) := List.map_congr_left hs
    simp only [stR, opR, this]
   cases hc : d.cs.getD i 0 with
   | zero =>
    rw [hc] at hst
    simp only [outDr] at hst
    split at hst
    ·rename_i hlen
     simp only [Option.some.injEq] at hst
     subst hst
     have hm : m = [] := List.length_eq_zero_iff.1 (by rw [e2] at hlen; simp at hlen; omega)
     subst hm
     simp only [List.append_nil] at e2 e7
     refine ⟨o, true, r.val, ks, ss, ho, hg, by rw [e1, e2], fun k hk => ⟨rfl, e3 k hk⟩, fun s hs => .inl ⟨rfl, e4 s hs⟩, fun hw => ⟨(hwr hw).1, by rw [(hwr hw).2]; simp⟩, fun t ht => .inl ⟨rfl, (e6 t ht).resolve_right (by simp)⟩, hR, fun slots' toks' h1 h2 h3 h4 => ⟨o, ho, ?_, fun hn => ?_⟩⟩
     ·unfold rstepD
      simp only [h2, if_true]
      rw [e7 slots' toks' (h1 rfl) (by rw [h3, hf.len]) (h4 rfl), hc]
      simp [outDr, sets_len, h3]
     ·rw [h2]; exact (hRs slots' (h1 rfl)).trans (hR hn)
    ·simp at hst
   | succ c =>
    rw [hc] at hst
    simp only [outDr] at hst
    split at hst
    ·rename_i hlen
     simp only [Option.some.injEq] at hst
     subst hst
     have hd1 : r.toks.drop L = m := by rw [e2, List.drop_append_of_le_length (by omega), List.drop_of_length_le (by omega), List.nil_append]
     have hd2 : r.toks.take L = sets ss st.toks := by rw [e2, List.take_append_of_le_length (by omega), List.take_of_length_le (by omega)]
     rw [hd1] at hlen
     have hown : ∀ t, offI base d i ≤ t → t < offI base d i + m.length → ownN base d i t := fun t h1 h2 => ⟨h1, by rw [hc]; omega⟩
     refine ⟨o, true, ren (shf L (offI base d i)) r.val, ks, ss ++ nums (offI base d i) m, ho, hg, by rw [e1, hd1, hd2, sets_app], fun k hk => ⟨rfl, e3 k hk⟩, fun s hs => ?_, fun hw => ⟨(hwr hw).1, fun s hs => ?_⟩, fun t ht => ?_, hR, fun slots' toks' h1 h2 h3 h4 => ⟨o, ho, ?_, fun hn => ?_⟩⟩
     ·rcases List.mem_append.1 hs with hs | hs
      ·exact .inl ⟨rfl, e4 s hs⟩
      ·have := nums_mem hs; exact .inr (hown _ this.1 this.2)
     ·rw [(hwr hw).2, List.nil_append] at hs
      have := nums_mem hs; exact hown _ this.1 this.2
     ·obtain ⟨t0, h0, rfl⟩ := ren_refs _ t ht
      rcases e6 t0 h0 with h | h
      ·left
       refine ⟨rfl, ?_⟩
       unfold shf; rw [if_neg (by have := hRl t0 h; omega)]; exact h
      ·right
       rw [hf.len] at h
       unfold shf; rw [if_pos h.1]
       exact hown _ (by omega) (by omega)
     ·unfold rstepD
      simp only [h2, if_true]
      rw [e7 slots' toks' (h1 rfl) (by rw [h3, hf.len]) (h4 rfl), hc]
      have k1 : (sets ss toks' ++ m).drop L = m := by rw [List.drop_append_of_le_length (by rw [sets_len]; omega), List.drop_of_length_le (by rw [sets_len]; omega), List.nil_append]
      have k2 : (sets ss toks' ++ m).take L = sets ss toks' := by rw [List.take_append_of_le_length (by rw [sets_len]; omega), List.take_of_length_le (by rw [sets_len]; omega)]
      simp only [outDr, k1, k2, if_pos hlen, sets_app]
     ·rw [h2]; exact (hRs slots' (h1 rfl)).trans (hR hn)
    ·simp at hst
def Inv (base : Nat) (d : RD) (D : Nat → Prop) (st : ASt) : Prop := ∀ y, ∀ t ∈ refs (ev st.slots y), t < base ∨ ∃ j, D j ∧ ownN base d j t
theorem opR_ev {slots : List AV} {op : Op} {t : Nat} (h : t ∈ opR slots op) : ∃ y ∈ op.operands.toList, t ∈ refs (ev slots y) := by
 have : ∀ l : List Operand, t ∈ refsL (l.map (ev slots)) → ∃ y ∈ l, t ∈ refs (ev slots y) := by
  intro l
  induction l with
  | nil => intro h; simp [refsL] at h
  | cons y l ih =>
   intro h
   simp only [List.map_cons, refsL, List.mem_append] at h
   rcases h with h | h
   ·exact ⟨y, by simp, h⟩
   ·obtain ⟨z, hz, h⟩ := ih h; exact ⟨z, by simp [hz], h⟩
 exact this _ h
theorem stepI_inv {i : Nat} {st st' : ASt} {D : Nat → Prop} (hL : L = base + d.cs.sum) (hf : Fine L st) (hI : Inv base d D st) (h : stepI C ops d base L Rs i st st') : Inv base d (fun j => D j ∨ j = i) st' := by
 obtain ⟨o, g, v, ks, ss, _, _, rfl, _, _, _, e6, _, _⟩ := stepI_eff hL hf h
 have hold : ∀ y, ∀ t ∈ refs (ev (kls ks st.slots) y), t < base ∨ ∃ j, (D j ∨ j = i) ∧ ownN base d j t := fun y t ht => by
  rw [ev_kls] at ht
  rcases hI y t (klf_refs t ht) with h | ⟨j, h1, h2⟩
  ·exact .inl h
  ·exact .inr ⟨j, .inl h1, h2⟩
 have hv : ∀ t ∈ refs v, t < base ∨ ∃ j, (D j ∨ j = i) ∧ ownN base d j t := fun t ht => by
  rcases e6 t ht with ⟨_, h⟩ | h
  ·obtain ⟨y, _, hy⟩ := opR_ev h
   rcases hI y t hy with h | ⟨j, h1, h2⟩
   ·exact .inl h
   ·exact .inr ⟨j, .inl h1, h2⟩
  ·exact .inr ⟨i, .inr rfl, h⟩
 intro y t ht
 cases hd : o.dst with
 | none => rw [hd] at ht; exact hold y t ht
 | some d0 =>
  rw [hd] at ht
  cases y with
  | tmp t' =>
   simp only [ev, putD] at ht
   by_cases e : t' = d0
   ·subst e
    rw [List.getD_eq_getElem?_getD] at ht
    by_cases hlt : t' < (kls ks st.slots).length
    ·rw [List.getElem?_set_self hlt] at ht; exact hv t ht
    ·rw [List.getElem?_eq_none (by simpa using hlt)] at ht; simp [refs] at ht
   ·have := getD_putD (slots := kls ks st.slots) (x := v) e
    simp only [putD] at this
    rw [this] at ht
    exact hold (.tmp t') t ht
  | const c => exact hold (.const c) t ht
  | func f => exact hold (.func f) t ht
  | global g => exact hold (.global g) t ht
def mvO (o : Oper) : Bool := match o.op with
 | .move _ => true
 | .assign _ => true
 | _ => false
theorem move_step {i : Nat} {o : Oper} {y : Operand} {st : ASt} {g : Bool} (ho : ops[i]? = some o) (hop : o.op = .move y ∨ o.op = .assign y) (hn : needs i d.prs = false) (hl : st.toks.length = L) (hr : ∀ t ∈ refs (ev st.slots y), t < L)
  (hg : guardOk ops.toList st.slots o = some g) : stepI C ops d base L Rs i st ⟨putD st.slots o.dst (if g then ev st.slots y else .tup []), st.toks⟩ := by
 refine ⟨o, ho, ?_, fun h => by rw [hn] at h; simp at h⟩
 unfold rstepD
 simp only [hg]
 cases g with
 | false => simp
 | true =>
  have ha : aop (if d.wr.contains i then C else noM C) o.op st.slots st.toks = some ⟨ev st.slots y, st.slots, st.toks⟩ := by
   rcases hop with h | h <;> rw [h] <;> rfl
  simp only [if_true, ha]
  cases hc : d.cs.getD i 0 with
  | zero => simp [outDr, hl]
  | succ c =>
   have e1 : st.toks.drop L = [] := List.drop_of_length_le (by omega)
   have e2 : st.toks.take L = st.toks := List.take_of_length_le (by omega)
   have e3 : ren (shf L (offI base d i)) (ev st.slots y) = ev st.slots y := ren_id _ fun t ht => by unfold shf; rw [if_neg (by have := hr t ht; omega)]
   simp only [outDr, e1, e2, e3, nums, sets]
   simp
theorem move_inv {i : Nat} {o : Oper} {y : Operand} {st st' : ASt} (ho : ops[i]? = some o) (hop : o.op = .move y ∨ o.op = .assign y) (hn : needs i d.prs = false) (hl : st.toks.length = L) (hr : ∀ t ∈ refs (ev st.slots y), t < L)
  (h : stepI C ops d base L Rs i st st') : ∃ g, guardOk ops.toList st.slots o = some g ∧ st' = ⟨putD st.slots o.dst (if g then ev st.slots y else .tup []), st.toks⟩ := by
 obtain ⟨o', ho', hst, _⟩ := h
 rw [ho] at ho'; obtain rfl := Option.some.inj ho'
 cases hg : guardOk ops.toList st.slots o with
 | none => unfold rstepD at hst; rw [hg] at hst; simp at hst
 | some g =>
  obtain ⟨o'', ho'', hst', _⟩ := move_step (C := C) (Rs := Rs) (base := base) ho hop hn hl hr hg
  rw [ho] at ho''; obtain rfl := Option.some.inj ho''
  rw [hst] at hst'
  exact ⟨g, rfl, Option.some.inj hst'⟩
theorem mvO_op {o : Oper} (h : mvO o = true) : ∃ y, (o.op = .move y ∨ o.op = .assign y) ∧ o.op.operands.toList = [y] := by
 unfold mvO at h
 split at h
 ·rename_i y hy; exact ⟨y, .inl hy, by rw [hy]; rfl⟩
 ·rename_i y hy; exact ⟨y, .inr hy, by rw [hy]; rfl⟩
 ·simp at h
theorem stepI_swap {x i : Nat} {st s1 s2 : ASt} {D : Nat → Prop} {ox oi : Oper} (hL : L = base + d.cs.sum) (hf : Fine L st) (hf1 : Fine L s1) (hI : Inv base d D st) (hx : ¬ D x) (hi : ¬ D i) (hne : x ≠ i) (hox : ops[x]? = some ox) (hoi : ops[i]? = some oi)
  (hap : ox.apart ops oi = true) (hp : (wrt d x ox || wrt d i oi) = true → (mvO ox = true ∧ needs x d.prs = false) ∨ (mvO oi = true ∧ needs i d.prs = false) ∨ (needs x d.prs = true ∧ needs i d.prs = true ∧ ∃ a b, Rs x = some a ∧ Rs i = some b ∧ meets a b = false))
  (h1 : stepI C ops d base L Rs x st s1) (h2 : stepI C ops d base L Rs i s1 s2) : ∃ s1', stepI C ops d base L Rs i st s1' ∧ stepI C ops d base L Rs x s1' s2 := by
 obtain ⟨q1, q2, q3⟩ := Oper.apart_spec hap
 obtain ⟨ox', gx, vx, kx, sx, hox', hgx, rfl, x1, x2, x3, x4, x5, x6⟩ := stepI_eff hL hf h1
 rw [hox] at hox'; obtain rfl := Option.some.inj hox'
 obtain ⟨oi', gi, vi, ki, si, hoi', hgi, rfl, i1, i2, i3, i4, i5, i6⟩ := stepI_eff hL hf1 h2
 rw [hoi] at hoi'; obtain rfl := Option.some.inj hoi'
 simp only at hgi i1 i2 i3 i4 i5 i6
 -- what the later one looks at, ahead of the earlier one
 have evx : ∀ (s : List AV) v, ∀ y ∈ oi.op.operands.toList, ev (putD s ox.dst v) y = ev s y := fun s v y hy => ev_putD fun d0 hd0 e => q1 d0 hd0 (mem_looks (e ▸ hy))
 have evi : ∀ (s : List AV) v, ∀ y ∈ ox.op.operands.toList, ev (putD s oi.dst v) y = ev s y := fun s v y hy => ev_putD fun d0 hd0 e => q3 d0 hd0 (mem_looks (e ▸ hy))
 have gslot : ∀ {o : Oper} {j : Nat} {want : Bool} {o' : Oper} {d0 : Nat}, o.guard = some (j, want) → ops.toList[j]? = some o' → o'.dst = some d0 → d0 ∈ o.looksAt ops := fun {o j want o' d0} hg ho' hd => by
  unfold Oper.looksAt
  refine List.mem_append_right _ ?_
  have ho'' : ops[j]? = some o' := by simpa using ho'
  rw [hg]; simp [ho'', hd]
 have gx0 : ∀ v, guardOk ops.toList (putD (kls kx st.slots) ox.dst v) oi = guardOk ops.toList st.slots oi := fun v => guardOk_gv fun j want o' d0 hg ho' hd => by
  rw [getD_putD_ne fun e => q1 d0 e (gslot hg ho' hd), kls_getD]; exact gv_klf
 have gi0' : ∀ ks v, guardOk ops.toList (putD (kls ks st.slots) oi.dst v) ox = guardOk ops.toList st.slots ox := fun ks v => guardOk_gv fun j want o' d0 hg ho' hd => by
  rw [getD_putD_ne fun e => q3 d0 e (gslot hg ho' hd), kls_getD]; exact gv_klf
 have gi0 : ∀ v, guardOk ops.toList (putD (kls ki st.slots) oi.dst v) ox = guardOk ops.toList st.slots ox := gi0' ki
 by_cases hmx : mvO ox = true ∧ needs x d.prs = false
 ·obtain ⟨y, hop, hys⟩ := mvO_op hmx.1
  obtain ⟨g, hg, e⟩ := move_inv hox hop hmx.2 hf.len (hf.rng y) h1
  have hsl := congrArg ASt.slots e
  have htk := congrArg ASt.toks e
  simp only at hsl htk
  have hs1' := i6 st.slots st.toks (fun _ z hz => by rw [hsl, evx _ _ z hz]) (by rw [← gx0 vx]; exact hgi) hf.len (fun _ t _ => by rw [htk])
  have hyv : ev (putD (kls ki st.slots) oi.dst vi) y = klf ki (ev st.slots y) := by rw [evi _ _ y (by rw [hys]; simp), ev_kls]
  refine ⟨_, hs1', ?_⟩
  have hst := move_step (C := C) (Rs := Rs) (base := base) (st := ⟨putD (kls ki st.slots) oi.dst vi, sets si st.toks⟩) (g := g) hox hop hmx.2 (by simp only [sets_len]; exact hf.len) (fun t ht => by rw [hyv] at ht; exact hf.rng y t (klf_refs t ht)) (by rw [gi0]; exact hg)
  have e1 : (⟨putD (kls ki (putD (kls kx st.slots) ox.dst vx)) oi.dst vi, sets si (sets sx st.toks)⟩ : ASt) = ⟨putD (putD (kls ki st.slots) oi.dst vi) ox.dst (if g then ev (putD (kls ki st.slots) oi.dst vi) y else .tup []), sets si st.toks⟩ := by
   have hv : klf ki (if g = true then ev st.slots y else .tup []) = if g = true then klf ki (ev st.slots y) else .tup [] := by
    split
    ·rfl
    ·exact klf_id fun k _ h => by simp [refs, refsL] at h
   rw [hsl, htk, hyv, kls_putD, hv, putD_comm _ _ fun e he he' => q2 e he he']
  rw [e1]; exact hst
 by_cases hmi : mvO oi = true ∧ needs i d.prs = false
 ·obtain ⟨y, hop, hys⟩ := mvO_op hmi.1
  obtain ⟨g, hg, e⟩ := move_inv hoi hop hmi.2 hf1.len (hf1.rng y) h2
  have hyv : ev (putD (kls kx st.slots) ox.dst vx) y = klf kx (ev st.slots y) := by rw [evx _ _ y (by rw [hys]; simp), ev_kls]
  have hs1' := move_step (C := C) (Rs := Rs) (base := base) (st := st) (g := g) hoi hop hmi.2 hf.len (hf.rng y) (by rw [← gx0 vx]; exact hg)
  refine ⟨_, hs1', ?_⟩
  have hst := x6 (putD st.slots oi.dst (if g then ev st.slots y else .tup [])) st.toks (fun _ z hz => evi _ _ z hz) (by rw [show putD st.slots oi.dst (if g then ev st.slots y else .tup []) = putD (kls [] st.slots) oi.dst (if g then ev st.slots y else .tup []) from rfl, gi0']; exact hgx) hf.len (fun _ t _ => rfl)
  rw [e]
  have hv : klf kx (if g = true then ev st.slots y else .tup []) = if g = true then klf kx (ev st.slots y) else .tup [] := by
   split
   ·rfl
   ·exact klf_id fun k _ h => by simp [refs, refsL] at h
  simp only [hyv]
  rw [kls_putD, hv, putD_comm _ _ fun e he he' => q2 e he' he] at hst
  exact hst
 rw [gx0] at hgi
 -- the rows of the two do not meet, if one of them turns any
 have hdis : wrt d x ox = true ∨ wrt d i oi = true → ∃ a b, stR st.slots ox.op (some gx) = some a ∧ stR (putD (kls kx st.slots) ox.dst vx) oi.op (some gi) = some b ∧ ∀ t ∈ a, t ∉ b := fun hw => by
  obtain ⟨n1, n2, a, b, r1, r2, r3⟩ := ((hp (by simpa using hw)).resolve_left hmx).resolve_left hmi
  exact ⟨a, b, (x5 n1).trans r1, (i5 n2).trans r2, meets_no r3⟩
 have hopx : (putD (kls kx st.slots) ox.dst vx) = putD (kls kx st.slots) ox.dst vx := rfl
 have hevi : gi = true → ∀ y ∈ oi.op.operands.toList, ev st.slots y = ev (putD (kls kx st.slots) ox.dst vx) y := fun hgt y hy => by
  rw [evx _ _ y hy, ev_kls]
  cases hw : wrt d x ox with
  | false => rw [(x3 hw).1]; rfl
  | true =>
   obtain ⟨a, b, r1, r2, r3⟩ := hdis (.inl hw)
   subst hgt
   simp only [stR] at r2
   split at r2
   ·simp at r2
   ·rename_i hj
    have hjy : jk (klf kx (ev st.slots y)) = false := by
     have hmem : ev (putD (kls kx st.slots) ox.dst vx) y ∈ oi.op.operands.toList.map (ev (putD (kls kx st.slots) ox.dst vx)) := List.mem_map.2 ⟨y, hy, rfl⟩
     have : ∀ l : List AV, jkL l = false → ∀ z ∈ l, jk z = false := by
      intro l
      induction l with
      | nil => intro _ z hz; simp at hz
      | cons c cs ih =>
       intro h z hz
       simp only [jkL, Bool.or_eq_false_iff] at h
       rcases List.mem_cons.1 hz with rfl | hz
       ·exact h.1
       ·exact ih h.2 z hz
     have := this _ (by simpa using hj) _ hmem
     rw [evx _ _ y hy, ev_kls] at this
     exact this
    have : ∀ (ks : List (Bool × Nat)) (z : AV), jk (klf ks z) = false → klf ks z = z := by
     intro ks
     induction ks with
     | nil => intro z _; rfl
     | cons k ks ih =>
      intro z h
      simp only [klf, List.foldl_cons] at h ⊢
      have e := ih (kl k z) h
      simp only [klf] at e
      rw [e] at h ⊢
      exact kl_jk k z h
    exact (this kx _ hjy).symm
 have hRi : gi = true → opR (putD (kls kx st.slots) ox.dst vx) oi.op = opR st.slots oi.op := fun hgt => by
  unfold opR; congr 1
  exact List.map_congr_left fun y hy => (hevi hgt y hy).symm
 have hno : ∀ {o : Oper} {t j : Nat}, t ∈ opR st.slots o.op → ¬ D j → ¬ ownN base d j t := fun {o t j} ht hj ho => by
  obtain ⟨y, _, hy⟩ := opR_ev ht
  rcases hI y t hy with h | ⟨j', h1, h2⟩
  ·have := (own_lt hL ho).1; omega
  ·by_cases e : j' = j
   ·subst e; exact hj h1
   ·exact own_disj e h2 ho
 have hab : gx = true → gi = true → (wrt d x ox = true ∨ wrt d i oi = true) → ∀ t ∈ opR st.slots ox.op, t ∉ opR st.slots oi.op := fun g1 g2 hw t ht ht' => by
  obtain ⟨a, b, r1, r2, r3⟩ := hdis hw
  subst g1; subst g2
  simp only [stR] at r1 r2
  split at r1
  ·simp at r1
  ·split at r2
   ·simp at r2
   ·simp only [Option.some.injEq] at r1 r2
    rw [← r1, ← r2, hRi rfl] at r3
    exact r3 t ht ht'
 -- the later one first
 have hs1' := i6 st.slots st.toks hevi hgi hf.len (fun hgt t ht => by
  rw [hRi hgt] at ht
  symm
  refine sets_get fun k hk e => ?_
  rcases x2 k hk with ⟨g1, h⟩ | h
  ·cases hw : wrt d x ox with
   | false => exact hno ht hx (e ▸ (x3 hw).2 k hk)
   | true => exact hab g1 hgt (.inl hw) k.1 h (e ▸ ht)
  ·exact hno ht hx (e ▸ h))
 refine ⟨_, hs1', ?_⟩
 have hevx : gx = true → ∀ y ∈ ox.op.operands.toList, ev (putD (kls ki st.slots) oi.dst vi) y = ev st.slots y := fun hgt y hy => by
  rw [evi _ _ y hy, ev_kls]
  refine klf_id fun k hk ht => ?_
  obtain ⟨g2, h⟩ := i1 k hk
  rw [hRi g2] at h
  cases hw : wrt d i oi with
  | false => rw [(i3 hw).1] at hk; simp at hk
  | true => exact hab hgt g2 (.inr hw) k.2 (refsL_map_mem hy k.2 ht) h
 have hs2 := x6 (putD (kls ki st.slots) oi.dst vi) (sets si st.toks) hevx (by rw [gi0]; exact hgx) (by rw [sets_len]; exact hf.len) (fun hgt t ht => by
  refine sets_get fun k hk e => ?_
  rcases i2 k hk with ⟨g2, h⟩ | h
  ·rw [hRi g2] at h
   cases hw : wrt d i oi with
   | false => exact hno ht hi (e ▸ (i3 hw).2 k hk)
   | true => exact hab hgt g2 (.inr hw) k.1 (e ▸ ht) h
  ·exact hno ht hi (e ▸ h))
 -- the two ends are the same
 have hkx : klf kx vi = vi := klf_id fun k hk ht => by
  obtain ⟨g1, h⟩ := x1 k hk
  rcases i4 k.2 ht with ⟨g2, h'⟩ | h'
  ·rw [hRi g2] at h'
   cases hw : wrt d x ox with
   | false => rw [(x3 hw).1] at hk; simp at hk
   | true => exact hab g1 g2 (.inl hw) k.2 h h'
  ·exact hno h hi h'
 have hki : klf ki vx = vx := klf_id fun k hk ht => by
  obtain ⟨g2, h⟩ := i1 k hk
  rw [hRi g2] at h
  rcases x4 k.2 ht with ⟨g1, h'⟩ | h'
  ·cases hw : wrt d i oi with
   | false => rw [(i3 hw).1] at hk; simp at hk
   | true => exact hab g1 g2 (.inr hw) k.2 h' h
  ·exact hno h hx h'
 have e1 : putD (kls kx (putD (kls ki st.slots) oi.dst vi)) ox.dst vx = putD (kls ki (putD (kls kx st.slots) ox.dst vx)) oi.dst vi := by
  rw [kls_putD, kls_putD, hkx, hki, kls_comm]
  exact putD_comm _ _ fun e he he' => q2 e he' he
 have e2 : sets sx (sets si st.toks) = sets si (sets sx st.toks) := sets_comm fun a ha b hb e => by
  rcases x2 a ha with ⟨g1, h⟩ | h <;> rcases i2 b hb with ⟨g2, h'⟩ | h'
  ·rw [hRi g2] at h'
   cases hw : wrt d x ox with
   | false => exact hno h' hx (e ▸ (x3 hw).2 a ha)
   | true => exact hab g1 g2 (.inl hw) a.1 h (e ▸ h')
  ·exact hno h hi (e ▸ h')
  ·rw [hRi g2] at h'; exact hno h' hx (e ▸ h)
  ·exact own_disj hne h (e ▸ h')
 rw [← e1, ← e2]; exact hs2
end
open Go Go.RowKit
section
variable {w : World} {E E' : Env} {toks toks' : List Tok} {f : Nat → Nat}
mutual
theorem SRep.ren (hF : E'.F = E.F) : ∀ (x : AV) (y : Value), SRep w E toks x y → (∀ t ∈ refs x, t < toks.length → toks'[f t]? = toks[t]? ∧ E'.hd (f t) = E.hd t) → SRep w E' toks' (Ax.ren f x) y
 | .v _, _, k, _ => by simpa [SRep, Ax.ren] using k
 | .agg cs, y, k, h => by simp only [SRep, Ax.ren] at k ⊢; obtain ⟨ys, rfl, k⟩ := k; exact ⟨ys, rfl, SRepL.ren hF cs _ k (by simpa [refs] using h)⟩
 | .tup cs, y, k, h => by simp only [SRep, Ax.ren] at k ⊢; obtain ⟨ys, rfl, k⟩ := k; exact ⟨ys, rfl, SRepL.ren hF cs _ k (by simpa [refs] using h)⟩
 | .sl nl sz es, y, k, _ => by simp only [SRep, Ax.ren] at k ⊢; rw [hF]; exact k
 | .fp e j, y, k, _ => by simp only [SRep, Ax.ren] at k ⊢; rw [hF]; exact k
 | .fn g cs, y, k, h => by simp only [SRep, Ax.ren] at k ⊢; obtain ⟨ys, rfl, k⟩ := k; exact ⟨ys, rfl, SRepL.ren hF cs _ k (by simpa [refs] using h)⟩
 | .ref t p lo n, y, k, h => by
  simp only [SRep, Ax.ren] at k ⊢
  obtain ⟨h1, h2⟩ := h t (by simp [refs]) k.1
  have hlt : f t < toks'.length := by
   rw [List.getElem?_eq_getElem k.1] at h1
   exact (List.getElem?_eq_some_iff.1 h1).1
  refine ⟨hlt, fun tk nl sz es g1 g2 g3 => ?_⟩
  rw [h1] at g1
  rw [h2]
  exact k.2 tk nl sz es g1 g2 g3
 | .ptr t p i j, y, k, h => by
  simp only [SRep, Ax.ren] at k ⊢
  obtain ⟨h1, h2⟩ := h t (by simp [refs]) k.1
  have hlt : f t < toks'.length := by
   rw [List.getElem?_eq_getElem k.1] at h1
   exact (List.getElem?_eq_some_iff.1 h1).1
  refine ⟨hlt, fun tk nl sz es g1 g2 g3 => ?_⟩
  rw [h1] at g1
  rw [h2]
  exact k.2 tk nl sz es g1 g2 g3
 | .junk, _, _, _ => by simp [SRep, Ax.ren]
theorem SRepL.ren (hF : E'.F = E.F) : ∀ (x : List AV) (y : List Value), SRepL w E toks x y → (∀ t ∈ refsL x, t < toks.length → toks'[f t]? = toks[t]? ∧ E'.hd (f t) = E.hd t) → SRepL w E' toks' (Ax.renL f x) y
 | [], _, k, _ => by simpa [SRepL, Ax.renL] using k
 | c :: cs, y, k, h => by
  simp only [SRepL, Ax.renL] at k ⊢
  obtain ⟨y, ys, rfl, k1, k2⟩ := k
  exact ⟨y, ys, rfl, SRep.ren hF c y k1 (fun t ht => h t (by simp [refsL, ht])), SRepL.ren hF cs ys k2 (fun t ht => h t (by simp [refsL, ht]))⟩
end
end
theorem renL_map' (f : Nat → Nat) : ∀ (l : List AV), renL f l = l.map (ren f)
 | [] => rfl
 | c :: cs => by simp [renL, renL_map' f cs]
section
variable {P : Program} {a : Act} {w : World} {U : Ld} {w0 : World} {E : Env}
theorem SR.rename {slots : List AV} {toks toks' : List Tok} {f g : Nat → Nat} (hs : SR U w0 ⟨slots, toks⟩ E a w)
  (h1 : ∀ (i : Nat) (x : AV), slots[i]? = some x → ∀ t ∈ refs x, t < toks.length → toks'[f t]? = toks[t]? ∧ g (f t) = t)
  (h2 : ∀ (t : Nat) (tk : Tok), toks'[t]? = some tk → toks[g t]? = some tk) (h3 : ∀ t t', t < toks'.length → t' < toks'.length → g t = g t' → t = t') :
  ∃ E' : Env, SR U w0 ⟨renL f slots, toks'⟩ E' a w := by
 let E' : Env := { F := E.F, hd := fun t => E.hd (g t), S := fun t b => t < toks'.length ∧ E.S (g t) b }
 refine ⟨E', hs.defers, by simpa [renL_map'] using hs.size, fun i x hi => ?_, hs.flt, fun t tk ht => ?_, fun t b hb => hs.slt (g t) b hb.2, fun t t' b hne hb hb' => ?_, hs.frame, hs.pin⟩
 ·simp only [renL_map', List.getElem?_map, Option.map_eq_some_iff] at hi
  obtain ⟨x0, hx0, rfl⟩ := hi
  refine SRep.ren (E := E) (E' := E') (toks := toks) rfl x0 _ (hs.slot i x0 hx0) fun t ht hlt => ?_
  obtain ⟨k1, k2⟩ := h1 i x0 hx0 t ht hlt
  exact ⟨k1, by show E.hd (g (f t)) = E.hd t; rw [k2]⟩
 ·have hg := h2 t tk ht
  rcases hs.tok (g t) tk hg with h | ⟨nl, sz, es, k1, k2⟩
  ·exact .inl h
  ·exact .inr ⟨nl, sz, es, k1, k2.weak (fun _ h => h) (fun b hb => ⟨(List.getElem?_eq_some_iff.1 ht).1, hb⟩) (Agree.refl _ _)⟩
 ·exact hs.sep (g t) (g t') b (fun e => hne (h3 t t' hb.1 hb'.1 e)) hb.2 hb'.2
theorem SR.padA {slots : List AV} {toks : List Tok} (n : Nat) (hs : SR U w0 ⟨slots, toks⟩ E a w) : ∃ E' : Env, SR U w0 ⟨slots, toks ++ List.replicate n ⟨true, .junk⟩⟩ E' a w ∧ ∀ b, allB E' b → allB E b := by
 induction n with
 | zero => exact ⟨E, by simpa using hs, fun _ h => h⟩
 | succ n ih =>
  obtain ⟨E1, h1, h0⟩ := ih
  obtain ⟨E2, _, _, _, h3, h2⟩ := h1.newTok ⟨true, .junk⟩ undef (fun _ => False) (fun _ h => h.elim) (.inl rfl)
  refine ⟨E2, ?_, fun b hb => (h3 b hb).elim (h0 b) False.elim⟩
  rw [List.replicate_succ', ← List.append_assoc]
  exact h2
theorem SR.inRange {st : ASt} (hs : SR U w0 st E a w) (y : Operand) : Ax.inRange st.toks.length (Ax.ev st.slots y) := SRep.inRange _ _ (hs.ev y)
theorem SR.fine {st : ASt} {L : Nat} (hs : SR U w0 st E a w) (hl : st.toks.length = L) : Fine L st :=
 ⟨hl, fun y => SRep.okA _ _ (hs.ev y), fun t tk ht => by
  rcases hs.tok t tk ht with h | ⟨nl, sz, es, k1, k2⟩
  ·rw [h]; simp [pureA]
  ·rw [k1]; exact Rep.pure _ _ (Own.rep _ _ k2.own), fun y t ht => by rw [← hl]; exact inRange_refs _ (hs.inRange y) t ht⟩
variable {C : Ctx} {ops : Array Oper} {d : RD} {base L : Nat} {Rs : Nat → Option (List Nat)}
def Stp (P : Program) (ops : Array Oper) (o : Oper) (K : Act → World → Prop) (a : Act) (w : World) : Prop :=
 if Region.wanted o (yielded ops a.tmps) then Does P o a w K else K (a.put o.dst undef) w
theorem Stp.some {o : Oper} {K : Act → World → Prop} (h : Stp P ops o K a w) : ∃ a' w', K a' w' := by
 unfold Stp at h
 split at h
 ·exact h.some
 ·exact ⟨_, _, h⟩
theorem stepI_stpG {U1 : Ld} {w01 : World} {i : Nat} {st st' : ASt} (hL : L = base + d.cs.sum) (hl : st.toks.length = L) (hI : ∀ y, ∀ t ∈ refs (ev st.slots y), ¬ ownN base d i t) (hs : SR U w0 st E a w)
  (hgf : ∀ o, ops[i]? = some o → guardOk ops.toList st.slots o = some false → ∃ E1, SR U1 w01 ⟨putD st.slots o.dst (.tup []), st.toks⟩ E1 (a.put o.dst undef) w)
  (hgo : ∀ o, ops[i]? = some o → guardOk ops.toList st.slots o = some true → ∀ r, aop (if d.wr.contains i then C else noM C) o.op st.slots st.toks = some r → ∀ K : Act → World → Prop, (∀ E' a' w', SR U1 w01 ⟨putD r.slots o.dst r.val, r.toks⟩ E' a' w' → K a' w') → Does P o a w K)
  (h : stepI C ops d base L Rs i st st') {K : Act → World → Prop} (hn : ∀ E' a' w', SR U1 w01 st' E' a' w' → K a' w') : ∃ o, ops[i]? = some o ∧ Stp P ops o K a w := by
 have hf := hs.fine hl
 obtain ⟨o, ho, hst, _⟩ := h
 unfold rstepD at hst
 split at hst
 rotate_left
 ·simp at hst
 rename_i gd hg
 refine ⟨o, ho, ?_⟩
 unfold Stp
 rw [wanted_ok hs hg]
 cases gd with
 | false =>
  simp only [Bool.false_eq_true, if_false] at hst ⊢
  simp only [Option.some.injEq] at hst
  subst hst
  obtain ⟨E1, h1⟩ := hgf o ho hg
  exact hn E1 _ _ h1
 | true =>
  simp only [if_true] at hst ⊢
  cases hr : aop (if d.wr.contains i then C else noM C) o.op st.slots st.toks with
  | none => rw [hr] at hst; simp [outDr] at hst
  | some r =>
   rw [hr] at hst
   refine hgo o ho hg r hr K fun E' a' w' hs' => ?_
   cases hc : d.cs.getD i 0 with
   | zero =>
    rw [hc] at hst
    simp only [outDr] at hst
    split at hst
    ·simp only [Option.some.injEq] at hst; subst hst; exact hn E' a' w' hs'
    ·simp at hst
   | succ c =>
    rw [hc] at hst
    simp only [outDr] at hst
    split at hst
    rotate_left
    ·simp at hst
    rename_i hlen
    simp only [Option.some.injEq] at hst
    obtain ⟨ks, ss, m, e1, e2, e3, e4, e5, e6, e7⟩ := aop_loc (fun y _ => hf.ok y) hf.pure hr
    have hrl : (sets ss st.toks).length = L := by rw [sets_len]; exact hl
    have hd1 : r.toks.drop L = m := by rw [e2, List.drop_append_of_le_length (by omega), List.drop_of_length_le (by omega), List.nil_append]
    have hd2 : r.toks.take L = sets ss st.toks := by rw [e2, List.take_append_of_le_length (by omega), List.take_of_length_le (by omega)]
    rw [hd1] at hlen hst
    rw [hd2] at hst
    generalize hoff : offI base d i = off at *
    have hown : ∀ t, off ≤ t → t < off + m.length → ownN base d i t := fun t h1 h2 => ⟨by rw [hoff]; exact h1, by rw [hoff, hc]; omega⟩
    have hoL : off + m.length ≤ L := by
     by_cases hm : m.length = 0
     ·have := sum_take_all d.cs i; unfold offI at hoff; omega
     ·have := (own_lt hL (hown (off + m.length - 1) (by omega) (by omega))).2; omega
    have hold : ∀ y, ∀ t ∈ refs (ev st.slots y), t < L ∧ ¬ (off ≤ t ∧ t < off + m.length) := fun y t ht => ⟨hf.rng y t ht, fun h => hI y t ht (hown t h.1 h.2)⟩
    have hslot : ∀ (j : Nat) (x : AV), (kls ks st.slots)[j]? = some x → ∀ t ∈ refs x, t < L ∧ ¬ (off ≤ t ∧ t < off + m.length) := fun j x hj t ht => by
     have : x = ev (kls ks st.slots) (.tmp j) := by simp [ev, List.getD_eq_getElem?_getD, hj]
     rw [this, ev_kls] at ht
     exact hold (.tmp j) t (klf_refs t ht)
    have hval : ∀ t ∈ refs r.val, (t < L ∧ ¬ (off ≤ t ∧ t < off + m.length)) ∨ (L ≤ t ∧ t < L + m.length) := fun t ht => by
     rcases e6 t ht with h | h
     ·obtain ⟨y, _, hy⟩ := opR_ev h; exact .inl (hold y t hy)
     ·rw [hl] at h; exact .inr h
    have hmem : ∀ (j : Nat) (x : AV), (putD r.slots o.dst r.val)[j]? = some x → ∀ t ∈ refs x, (t < L ∧ ¬ (off ≤ t ∧ t < off + m.length)) ∨ (L ≤ t ∧ t < L + m.length) := fun j x hj t ht => by
     rw [e1] at hj
     cases hdst : o.dst with
     | none => rw [hdst] at hj; exact .inl (hslot j x hj t ht)
     | some d0 =>
      rw [hdst] at hj
      simp only [putD] at hj
      by_cases e : j = d0
      ·subst e
       by_cases hlt : j < (kls ks st.slots).length
       ·rw [List.getElem?_set_self hlt] at hj; obtain rfl := Option.some.inj hj; exact hval t ht
       ·rw [List.getElem?_eq_none (by simpa using hlt)] at hj; simp at hj
      ·rw [List.getElem?_set_ne (fun h => e h.symm)] at hj; exact .inl (hslot j x hj t ht)
    have hlk : ∀ t, t < L → r.toks[t]? = (sets ss st.toks)[t]? := fun t ht => by rw [e2, List.getElem?_append_left (by omega)]
    have hlk2 : ∀ j, r.toks[L + j]? = m[j]? := fun j => by rw [e2, List.getElem?_append_right (by omega)]; congr 1; omega
    obtain ⟨E'', hs''⟩ := hs'.rename (toks' := sets (nums off m) (sets ss st.toks)) (f := shf L off) (g := fun t => if off ≤ t ∧ t < off + m.length then L + (t - off) else t)
     (fun j x hj t ht hlt => by
      rcases hmem j x hj t ht with ⟨h1, h2⟩ | ⟨h1, h2⟩
      ·have e : shf L off t = t := by unfold shf; rw [if_neg (by omega)]
       rw [e, if_neg h2, hlk t h1]
       exact ⟨sets_get fun k hk e => h2 (by have := nums_mem hk; omega), rfl⟩
      ·have e : shf L off t = off + (t - L) := by unfold shf; rw [if_pos h1]
       rw [e, if_pos (by omega), nums_get (by omega) (by rw [hrl]; exact hoL)]
       refine ⟨?_, by omega⟩
       have := hlk2 (t - L)
       rw [show L + (t - L) = t by omega] at this
       exact this.symm)
     (fun t tk ht => by
      have htL : t < L := by have := (List.getElem?_eq_some_iff.1 ht).1; rw [sets_len, hrl] at this; exact this
      show r.toks[if off ≤ t ∧ t < off + m.length then L + (t - off) else t]? = some tk
      split
      ·rename_i h
       rw [show t = off + (t - off) by omega, nums_get (by omega) (by rw [hrl]; exact hoL)] at ht
       rw [hlk2]; exact ht
      ·rename_i h
       rw [hlk t htL]
       rw [sets_get fun k hk e => h (by have := nums_mem hk; omega)] at ht
       exact ht)
     (fun t t' ht ht' e => by
      rw [sets_len, hrl] at ht ht'
      split at e <;> split at e <;> omega)
    refine hn E'' a' w' ?_
    rw [← hst]
    have hid : ∀ l : List AV, (∀ (j : Nat) (x : AV), l[j]? = some x → ∀ t ∈ refs x, t < L) → renL (shf L off) l = l := fun l hl => by
     rw [renL_map']
     conv => rhs; rw [← List.map_id l]
     refine List.map_congr_left fun x hx => ?_
     obtain ⟨j, hj⟩ := List.mem_iff_getElem?.1 hx
     exact ren_id x fun t ht => by unfold shf; rw [if_neg (by have := hl j x hj t ht; omega)]
    have : renL (shf L off) (putD r.slots o.dst r.val) = putD r.slots o.dst (ren (shf L off) r.val) := by
     rw [e1]
     have hk := hid (kls ks st.slots) fun j x hj t ht => (hslot j x hj t ht).1
     cases o.dst with
     | none => exact hk
     | some d0 => simp only [putD]; rw [renL_map', List.map_set, ← renL_map', hk]
    rw [← this]; exact hs''
theorem stepI_stp (hC : C.Ok P) {i : Nat} {st st' : ASt} (hL : L = base + d.cs.sum) (hl : st.toks.length = L) (hI : ∀ y, ∀ t ∈ refs (ev st.slots y), ¬ ownN base d i t) (hds : ∀ o, ops[i]? = some o → ∀ e, o.dst = some e → e ∉ U.idx) (hs : SR U w0 st E a w)
  (h : stepI C ops d base L Rs i st st') {K : Act → World → Prop} (hn : ∀ E' a' w', SR U w0 st' E' a' w' → K a' w') : ∃ o, ops[i]? = some o ∧ Stp P ops o K a w := by
 have hC' : (if d.wr.contains i then C else noM C).Ok P := by split; exact hC; exact noM_ok hC
 exact stepI_stpG hL hl hI hs (fun o ho _ => ⟨E, SR.put (slots := st.slots) (toks := st.toks) hs o.dst (hds o ho) (x := .tup []) (y := undef) (by simp [SRep, SRepL, undef])⟩) (fun o ho _ r hr K hK => aop_ok hC' hs hr (hds o ho) K hK) h hn
theorem stp_wp {i : Nat} {o : Oper} {K : Act → World → Prop} {Q : Exit → Act → World → Prop} (hst : Stp P ops o K a w) (ho : ops[i]? = some o) (ro : Option Nat) : wpOpIn (fen ro) 0 P ops Q i K a w := by
 unfold Stp at hst
 unfold wpOpIn
 simp only [ho]
 split at hst
 ·rename_i hw; rw [if_pos hw]; exact hst.wpIn ro
 ·rename_i hw; rw [if_neg hw]; exact ⟨fun _ _ => trivial, hst⟩
theorem Inv.not_own {D : Nat → Prop} {st : ASt} {i : Nat} (hL : L = base + d.cs.sum) (h : Inv base d D st) (hi : ¬ D i) : ∀ y, ∀ t ∈ refs (ev st.slots y), ¬ ownN base d i t := fun y t ht ho => by
 rcases h y t ht with h | ⟨j, h1, h2⟩
 ·have := (own_lt hL ho).1; omega
 ·by_cases e : j = i
  ·subst e; exact hi h1
  ·exact own_disj e h2 ho
structure Keeps (P : Program) (C : Ctx) (ops : Array Oper) (d : RD) (base L : Nat) (Rs : Nat → Option (List Nat)) (R : (Nat → Prop) → ASt → Act → World → Prop) : Prop where
 fine : ∀ {D : Nat → Prop} {st : ASt} {a : Act} {w : World}, R D st a w → st.toks.length = L → Fine L st
 step : ∀ {D : Nat → Prop} {i : Nat} {st st' : ASt} {a : Act} {w : World}, R D st a w → st.toks.length = L → Inv base d D st → ¬ D i → stepI C ops d base L Rs i st st' →
  ∀ {K : Act → World → Prop}, (∀ a' w', R (fun j => D j ∨ j = i) st' a' w' → K a' w') → ∃ o, ops[i]? = some o ∧ Stp P ops o K a w
section
variable {R : (Nat → Prop) → ASt → Act → World → Prop}
theorem stepI_len {i : Nat} {st st' : ASt} (hL : L = base + d.cs.sum) (hf : Fine L st) (hl : st.toks.length = L) (h : stepI C ops d base L Rs i st st') : st'.toks.length = L := by
 obtain ⟨_, _, _, _, _, _, _, e, _⟩ := stepI_eff hL hf h
 rw [e]; simpa [sets_len] using hl
theorem runI_front (hK : Keeps P C ops d base L Rs R) (hL : L = base + d.cs.sum) {i : Nat} {oi : Oper} (hoi : ops[i]? = some oi) {fin : ASt} :
  ∀ (r1 r2 : List Nat) (D : Nat → Prop) (st : ASt), st.toks.length = L → (∃ a w, R D st a w) → Inv base d D st → ¬ D i → i ∉ r1 → r1.Nodup → (∀ x ∈ r1, ¬ D x) →
   (∀ x ∈ r1, ∃ ox, ops[x]? = some ox ∧ ox.apart ops oi = true ∧ ((wrt d x ox || wrt d i oi) = true → (mvO ox = true ∧ needs x d.prs = false) ∨ (mvO oi = true ∧ needs i d.prs = false) ∨ (needs x d.prs = true ∧ needs i d.prs = true ∧ ∃ a b, Rs x = some a ∧ Rs i = some b ∧ meets a b = false))) →
   runI C ops d base L Rs (r1 ++ i :: r2) st fin → ∃ st', stepI C ops d base L Rs i st st' ∧ runI C ops d base L Rs (r1 ++ r2) st' fin
 | [], r2, D, st, _, _, _, _, _, _, _, _, h => h
 | x :: r1, r2, D, st, hl, hg, hI, hDi, hni, hnd, hDx, hok, h => by
  obtain ⟨s1, h1, h2⟩ := h
  rw [List.nodup_cons] at hnd
  simp only [List.mem_cons, not_or] at hni
  have hx := hDx x (by simp)
  obtain ⟨a, w, hR⟩ := hg
  have hf := hK.fine hR hl
  have hl1 := stepI_len hL hf hl h1
  have hg1 : ∃ a w, R (fun j => D j ∨ j = x) s1 a w := by
   obtain ⟨_, _, hst⟩ := hK.step hR hl hI hx h1 (K := fun a' w' => R (fun j => D j ∨ j = x) s1 a' w') fun _ _ h => h
   exact hst.some
  have hI1 := stepI_inv hL hf hI h1
  obtain ⟨s2, h3, h4⟩ := runI_front hK hL hoi r1 r2 (fun j => D j ∨ j = x) s1 hl1 hg1 hI1 (fun h => h.elim hDi hni.1) hni.2 hnd.2 (fun y hy h => h.elim (hDx y (by simp [hy])) fun e => hnd.1 (e ▸ hy)) (fun y hy => hok y (by simp [hy])) h2
  obtain ⟨ox, k1, k2, k3⟩ := hok x (by simp)
  obtain ⟨a1, w1, hR1⟩ := hg1
  obtain ⟨s1', g1, g2⟩ := stepI_swap hL hf (hK.fine hR1 hl1) hI hx hDi (fun e => hni.1 e.symm) k1 hoi k2 k3 h1 h3
  exact ⟨s1', g1, s2, g2, h4⟩
end
def edgeB (o : Oper) (x : Nat) : Bool := o.after.any fun e => Region.binds .any e && e.on == x
def ancs : List Oper → List Nat → List Nat
 | [], acc => acc
 | o :: rest, acc => ancs rest (acc ++ [o.after.toList.foldl (fun s e => if Region.binds .any e then s ||| 2 ^ e.on ||| acc.getD e.on 0 else s) 0])
def drawOk (ops : Array Oper) (d : RD) : Bool :=
 (List.range ops.size).all fun i => match ops[i]? with
  | some o => (o.after.all fun e => !Region.binds .any e || decide (e.on < i)) && (List.range i).all fun x => ((ancs ops.toList []).getD i 0).testBit x || (match ops[x]? with
   | some ox => ox.apart ops o && (!(wrt d x ox || wrt d i o) || ((mvO ox && !needs x d.prs) || (mvO o && !needs i d.prs)) || d.prs.contains (x, i))
   | none => false)
  | none => false
theorem testBit_fold {x : Nat} (acc : List Nat) : ∀ (l : List Edge) (s : Nat), (l.foldl (fun s e => if Region.binds .any e then s ||| 2 ^ e.on ||| acc.getD e.on 0 else s) s).testBit x = true →
  s.testBit x = true ∨ ∃ e ∈ l, Region.binds .any e = true ∧ (x = e.on ∨ (acc.getD e.on 0).testBit x = true)
 | [], s, h => .inl h
 | e :: l, s, h => by
  simp only [List.foldl_cons] at h
  rcases testBit_fold acc l _ h with h | ⟨e', h1, h2⟩
  ·split at h
   ·rename_i hb
    rw [Nat.testBit_or, Nat.testBit_or, Bool.or_eq_true, Bool.or_eq_true] at h
    rcases h with (h | h) | h
    ·exact .inl h
    ·refine .inr ⟨e, by simp, hb, .inl ?_⟩
     rw [Nat.testBit_two_pow] at h
     exact (show e.on = x by simpa using h).symm
    ·exact .inr ⟨e, by simp, hb, .inr h⟩
   ·exact .inl h
  ·exact .inr ⟨e', by simp [h1], h2⟩
theorem ancs_ok {D : Nat → Prop} {ops : List Oper} (hD : ∀ j oj, ops[j]? = some oj → D j → ∀ e ∈ oj.after, Region.binds .any e = true → D e.on) :
  ∀ (rest : List Oper) (acc : List Nat), (∀ j, rest[j]? = ops[acc.length + j]?) →
   (∀ i oi x, i < acc.length → ops[i]? = some oi → (∀ e ∈ oi.after, Region.binds .any e = true → D e.on) → (acc.getD i 0).testBit x = true → D x) →
   ∀ i oi x, ops[i]? = some oi → (∀ e ∈ oi.after, Region.binds .any e = true → D e.on) → ((ancs rest acc).getD i 0).testBit x = true → D x
 | [], acc, hr, hacc, i, oi, x, hi, hall, hb => by
  simp only [ancs] at hb
  refine hacc i oi x ?_ hi hall hb
  rcases Nat.lt_or_ge i acc.length with h | h
  ·exact h
  ·rw [List.getD_eq_getElem?_getD, List.getElem?_eq_none h] at hb; simp at hb
 | o :: rest, acc, hr, hacc, i, oi, x, hi, hall, hb => by
  simp only [ancs] at hb
  refine ancs_ok hD rest _ (fun j => ?_) (fun i' oi' x' hi' ho' hall' hb' => ?_) i oi x hi hall hb
  ·have := hr (j + 1); simp at this; rw [this]; simp; congr 1; omega
  ·by_cases hlt : i' < acc.length
   ·rw [List.getD_eq_getElem?_getD, List.getElem?_append_left hlt, ← List.getD_eq_getElem?_getD] at hb'
    exact hacc i' oi' x' hlt ho' hall' hb'
   ·have he : i' = acc.length := by simp at hi'; omega
    subst he
    have h0 := hr 0; simp at h0
    rw [ho'] at h0
    obtain rfl := Option.some.inj h0
    rw [List.getD_eq_getElem?_getD, List.getElem?_append_right (Nat.le_refl _)] at hb'
    simp at hb'
    rcases testBit_fold acc o.after.toList 0 (by simpa using hb') with h | ⟨e, h1, h2, h3⟩
    ·simp at h
    ·have hde := hall' e (by simpa using h1) h2
     rcases h3 with h3 | h3
     ·rw [h3]; exact hde
     ·have hlt' : e.on < acc.length := by
       rcases Nat.lt_or_ge e.on acc.length with h | h
       ·exact h
       ·rw [List.getD_eq_getElem?_getD, List.getElem?_eq_none h] at h3; simp at h3
      cases hoe : ops[e.on]? with
      | none =>
       have := hr 0
       have hl1 : acc.length < ops.length := (List.getElem?_eq_some_iff.1 ho').1
       have := List.getElem?_eq_none_iff.1 hoe
       omega
      | some oe => exact hacc e.on oe x' hlt' hoe (hD e.on oe hoe hde) h3
theorem needs_mem {x i : Nat} : ∀ {prs : List (Nat × Nat)}, (x, i) ∈ prs → needs x prs = true ∧ needs i prs = true
 | [], h => by simp at h
 | (y, j) :: l, h => by
  simp only [needs, Bool.or_eq_true, beq_iff_eq]
  rcases List.mem_cons.1 h with h | h
  ·simp only [Prod.mk.injEq] at h; exact ⟨.inl (.inl h.1.symm), .inl (.inr h.2.symm)⟩
  ·exact ⟨.inr (needs_mem h).1, .inr (needs_mem h).2⟩
theorem wpAny_ok {R : (Nat → Prop) → ASt → Act → World → Prop} (hK : Keeps P C ops d base L Rs R) (hL : L = base + d.cs.sum) (hok : drawOk ops d = true)
  (hRs : ∀ x i, (x, i) ∈ d.prs → i < ops.size → ∃ a b, Rs x = some a ∧ Rs i = some b ∧ meets a b = false) {fin : ASt} {Q : Exit → Act → World → Prop} (ro : Option Nat) (hQ : ∀ D a' w', (∀ j, j < ops.size → D j) → R D fin a' w' → Q .normal a' w') :
  ∀ (fuel : Nat) (listed : Array Bool) (st : ASt) (a : Act) (w : World), listed.size = ops.size →
   (∀ j oj, ops[j]? = some oj → listed.getD j false = true → ∀ e ∈ oj.after, Region.binds .any e = true → listed.getD e.on false = true) →
   ((List.range ops.size).filter fun i => !listed.getD i true).length ≤ fuel → st.toks.length = L → Inv base d (fun j => listed.getD j false = true) st → R (fun j => listed.getD j false = true) st a w → runI C ops d base L Rs ((List.range ops.size).filter fun i => !listed.getD i true) st fin →
   wpAnyIn (fen ro) 0 P .any ops Q fuel listed a w := by
 have hok' : ∀ i o, ops[i]? = some o → (∀ e ∈ o.after, Region.binds .any e = true → e.on < i) ∧ ∀ x, x < i → ((ancs ops.toList []).getD i 0).testBit x = true ∨ ∃ ox, ops[x]? = some ox ∧ ox.apart ops o = true ∧ ((wrt d x ox || wrt d i o) = true → (mvO ox = true ∧ needs x d.prs = false) ∨ (mvO o = true ∧ needs i d.prs = false) ∨ (x, i) ∈ d.prs) := by
  intro i o hi
  have hlt : i < ops.size := (Array.getElem?_eq_some_iff.1 hi).1
  simp only [drawOk, List.all_eq_true, List.mem_range] at hok
  have := hok i hlt
  rw [hi] at this
  simp only [Bool.and_eq_true, List.all_eq_true, List.mem_range, Array.all_eq_true_iff_forall_mem, Bool.or_eq_true, Bool.not_eq_true', decide_eq_true_eq] at this
  refine ⟨fun e he hb => (this.1 e he).resolve_left (by simp [hb]), fun x hx => (this.2 x hx).imp id fun h => ?_⟩
  split at h
  ·rename_i ox hox
   simp only [Bool.and_eq_true, Bool.or_eq_true, Bool.not_eq_true'] at h
   exact ⟨ox, hox, h.1, fun hw => by
    rcases h.2 with (h2 | (h2 | h2)) | h2
    ·rw [h2] at hw; simp at hw
    ·exact .inl h2
    ·exact .inr (.inl h2)
    ·exact .inr (.inr (by simpa using h2))⟩
  ·simp at h
 -- the first that is not listed is ready
 have hfirst : ∀ (listed : Array Bool), listed.size = ops.size → Region.ready .any ops listed = [] → ((List.range ops.size).filter fun i => !listed.getD i true) = [] := by
  intro listed hsz hr
  have key : ∀ n i, i < n → i < ops.size → listed.getD i true = true := by
   intro n
   induction n with
   | zero => intro i h; omega
   | succ n ih =>
    intro i hi hlt
    rcases Classical.em (listed.getD i true = true) with h | h
    ·exact h
    ·exfalso
     have hi' : i ∈ Region.ready .any ops listed := by
      rw [mem_ready]
      refine ⟨by simpa using h, ops[i], Array.getElem?_eq_getElem hlt, fun e he hb => ?_⟩
      have hon := (hok' i ops[i] (Array.getElem?_eq_getElem hlt)).1 e he hb
      have := ih e.on (by omega) (by omega)
      rw [Array.getD_eq_getD_getElem?] at this ⊢
      rw [Array.getElem?_eq_getElem (by omega)] at this ⊢
      simpa using this
     rw [hr] at hi'; simp at hi'
  rw [List.filter_eq_nil_iff]
  intro i hi
  rw [List.mem_range] at hi
  simp [key (i + 1) i (by omega) hi]
 have hdone : ∀ (listed : Array Bool), listed.size = ops.size → ((List.range ops.size).filter fun i => !listed.getD i true) = [] → ∀ j, j < ops.size → listed.getD j false = true := fun listed hsz hnil j hj => by
  rw [List.filter_eq_nil_iff] at hnil
  have := hnil j (List.mem_range.2 hj)
  rw [Array.getD_eq_getD_getElem?, Array.getElem?_eq_getElem (by omega)] at this ⊢
  simpa using this
 intro fuel
 induction fuel with
 | zero =>
  intro listed st a w hsz hcl hlen hl hI hs h
  have hnil : ((List.range ops.size).filter fun i => !listed.getD i true) = [] := List.length_eq_zero_iff.1 (by omega)
  rw [hnil] at h
  simp only [runI] at h
  subst h
  refine ⟨?_, hQ _ a w (hdone listed hsz hnil) hs⟩
  have : ∀ i, i ∉ Region.ready .any ops listed := by
   intro i hi
   rw [mem_ready] at hi
   obtain ⟨h0, o, ho, _⟩ := hi
   have hlt : i < ops.size := (Array.getElem?_eq_some_iff.1 ho).1
   have : i ∈ ((List.range ops.size).filter fun i => !listed.getD i true) := List.mem_filter.2 ⟨List.mem_range.2 hlt, by rw [h0]; rfl⟩
   rw [hnil] at this; simp at this
  exact List.eq_nil_iff_forall_not_mem.2 this
 | succ fuel ih =>
  intro listed st a w hsz hcl hlen hl hI hs h
  refine ⟨fun hr => ?_, fun i hi => ?_⟩
  ·have hnil := hfirst listed hsz hr
   rw [hnil] at h
   simp only [runI] at h
   subst h
   exact hQ _ a w (hdone listed hsz hnil) hs
  ·rw [mem_ready] at hi
   obtain ⟨h0, o, ho, hpred⟩ := hi
   have hlt : i < ops.size := (Array.getElem?_eq_some_iff.1 ho).1
   have hmem : i ∈ (List.range ops.size).filter fun i => !listed.getD i true := List.mem_filter.2 ⟨List.mem_range.2 hlt, by rw [h0]; rfl⟩
   obtain ⟨r1, r2, hrs⟩ := List.append_of_mem hmem
   have hsorted : ((List.range ops.size).filter fun i => !listed.getD i true).Pairwise (· < ·) := List.Pairwise.filter _ List.pairwise_lt_range
   have hnd : ((List.range ops.size).filter fun i => !listed.getD i true).Nodup := List.Pairwise.imp (fun h => Nat.ne_of_lt h) hsorted
   rw [hrs] at hsorted hnd
   have hlt1 : ∀ x ∈ r1, x < i := fun x hx => (List.pairwise_append.1 hsorted).2.2 x hx i (by simp)
   have hun : ∀ x ∈ r1, listed.getD x true = false := fun x hx => by
    have : x ∈ (List.range ops.size).filter fun i => !listed.getD i true := by rw [hrs]; simp [hx]
    rw [List.mem_filter] at this
    simpa using this.2
   have hunD : ∀ x, listed.getD x true = false → ¬ listed.getD x false = true := fun x hx h => by
    rw [Array.getD_eq_getD_getElem?] at hx h
    cases hh : listed[x]? with
    | none => rw [hh] at hx; simp at hx
    | some b => rw [hh] at hx h; simp at hx h; rw [hx] at h; simp at h
   rw [hrs] at h
   have hnd' := hnd
   rw [List.nodup_append] at hnd'
   have hir1 : i ∉ r1 := fun hx => hnd'.2.2 i hx i (by simp) rfl
   obtain ⟨st', g1, g2⟩ := runI_front hK hL ho r1 r2 (fun j => listed.getD j false = true) st hl ⟨a, w, hs⟩ hI (hunD i (by simpa using h0)) hir1 hnd'.1 (fun x hx => hunD x (hun x hx)) (fun x hx => by
    rcases (hok' i o ho).2 x (hlt1 x hx) with hb | ⟨ox, k1, k2, k3⟩
    ·exfalso
     have hD := ancs_ok (D := fun j => listed.getD j false = true) (ops := ops.toList) (fun j oj hj hd e he hb => hcl j oj (by simpa using hj) hd e he hb) ops.toList [] (fun j => by simp) (fun _ _ _ h => by simp at h) i o x (by simpa using ho) hpred hb
     have hx1 := hun x hx
     have hxl : x < listed.size := by rw [hsz]; have := hlt1 x hx; omega
     rw [Array.getD_eq_getD_getElem?, Array.getElem?_eq_getElem hxl] at hD hx1
     simp at hD hx1
     rw [hD] at hx1; simp at hx1
    ·refine ⟨ox, k1, k2, fun hw => ?_⟩
     rcases k3 hw with h | h | h
     ·exact .inl h
     ·exact .inr (.inl h)
     obtain ⟨n1, n2⟩ := needs_mem h
     exact .inr (.inr ⟨n1, n2, hRs x i h hlt⟩)) h
   have hDi : ¬ listed.getD i false = true := hunD i (by simpa using h0)
   have hf := hK.fine hs hl
   have hl' := stepI_len hL hf hl g1
   have hDD : ∀ j, (listed.getD j false = true ∨ j = i) → (listed.setIfInBounds i true).getD j false = true := fun j hj => by
    by_cases e : j = i
    ·subst e; simp [Array.getD_eq_getD_getElem?, hsz, hlt]
    ·rw [getD_set_ne false (fun h => e h.symm)]; exact hj.resolve_right e
   have hDe : (fun j => listed.getD j false = true ∨ j = i) = fun j => (listed.setIfInBounds i true).getD j false = true := funext fun j => propext ⟨hDD j, fun hj => by
    by_cases e : j = i
    ·exact .inr e
    ·rw [getD_set_ne false (fun h => e h.symm)] at hj; exact .inl hj⟩
   have hI' := stepI_inv hL hf hI g1
   have hset : ((List.range ops.size).filter fun j => !(listed.setIfInBounds i true).getD j true) = r1 ++ r2 := by
    have : ((List.range ops.size).filter fun j => !(listed.setIfInBounds i true).getD j true) = ((List.range ops.size).filter fun j => !listed.getD j true).filter fun j => j != i := by
     rw [List.filter_filter]
     apply List.filter_congr
     intro j hj
     rw [List.mem_range] at hj
     by_cases hji : j = i
     ·subst hji
      have : (listed.setIfInBounds j true).getD j true = true := by simp [Array.getD_eq_getD_getElem?, hsz, hj]
      rw [this]; simp
     ·have := getD_set_ne (listed := listed) (i := i) (j := j) true (fun h => hji h.symm)
      rw [this]; simp [hji]
    rw [this, hrs, List.filter_append, List.filter_cons]
    have hni : ∀ x ∈ r1 ++ r2, x ≠ i := by
     intro x hx e
     subst e
     rw [List.nodup_append] at hnd
     rcases List.mem_append.1 hx with hx | hx
     ·exact hnd.2.2 x hx x (by simp) rfl
     ·have := hnd.2.1; rw [List.nodup_cons] at this; exact this.1 hx
    simp only [bne_self_eq_false, Bool.false_eq_true, if_false]
    rw [← List.filter_append, List.filter_eq_self]
    intro x hx; simpa using hni x hx
   have hex : ∃ o, ops[i]? = some o ∧ Stp P ops o (wpAnyIn (fen ro) 0 P .any ops Q fuel (listed.setIfInBounds i true)) a w := hK.step hs hl hI hDi g1 fun a' w' hs' => by
    rw [hDe] at hs'
    refine ih (listed.setIfInBounds i true) st' a' w' (by simpa using hsz) (fun j oj hj hd e he hb => ?_) ?_ hl' (fun y t ht => (hI' y t ht).imp id fun ⟨j, h1, h2⟩ => ⟨j, hDD j h1, h2⟩) hs' (by rw [hset]; exact g2)
    ·by_cases hji : j = i
     ·subst hji
      rw [ho] at hj; obtain rfl := Option.some.inj hj
      exact getD_set_true (hpred e he hb)
     ·rw [getD_set_ne false (fun h => hji h.symm)] at hd
      exact getD_set_true (hcl j oj hj hd e he hb)
    ·rw [hset]; rw [hrs] at hlen; simp at hlen ⊢; omega
   obtain ⟨o', ho', hst⟩ := hex
   rw [ho] at ho'
   obtain rfl := Option.some.inj ho'
   exact stp_wp hst ho ro
theorem getD_drop0 (cs : List Nat) (i : Nat) : (cs.drop i).headD 0 = cs.getD i 0 := by
 rw [List.headD_eq_head?_getD, List.head?_drop, List.getD_eq_getElem?_getD]
theorem chk_ok {tr : List (Option (List Nat))} {i : Nat} {R : Option (List Nat)} : ∀ {prs : List (Nat × Nat)}, chk tr i R prs = true → ∀ x, (x, i) ∈ prs → ∃ a b, tr.getD x none = some a ∧ R = some b ∧ meets a b = false
 | [], _, x, h => by simp at h
 | (y, j) :: l, hc, x, h => by
  simp only [chk, Bool.and_eq_true] at hc
  rcases List.mem_cons.1 h with h | h
  ·simp only [Prod.mk.injEq] at h
   obtain ⟨rfl, rfl⟩ := h
   have := hc.1
   simp only [if_true] at this
   split at this
   ·rename_i a b h1; exact ⟨a, b, h1, rfl, by simpa using this⟩
   ·simp at this
  ·exact chk_ok hc.2 x h
theorem rrunD_runI {base : Nat} : ∀ (l : List Oper) (i : Nat) (tr : List (Option (List Nat))) (st fin : ASt), (∀ j, l[j]? = ops[i + j]?) → tr.length = i → rrunD C ops.toList d L l i (offI base d i) (d.cs.drop i) tr st = some fin →
  ∃ trf : List (Option (List Nat)), (∀ k, k < i → trf.getD k none = tr.getD k none) ∧ runI C ops d base L (fun k => trf.getD k none) (List.range' i l.length) st fin ∧
   ∀ x j, (x, j) ∈ d.prs → i ≤ j → j < i + l.length → ∃ a b, trf.getD x none = some a ∧ trf.getD j none = some b ∧ meets a b = false
 | [], i, tr, st, fin, _, _, h => by
  simp only [rrunD, Option.some.injEq] at h
  exact ⟨tr, fun _ _ => rfl, by simpa [runI] using h, fun x j _ h1 h2 => by simp at h2; omega⟩
 | o :: l, i, tr, st, fin, hl, htr, h => by
  have hi : ops[i]? = some o := by have := hl 0; simp at this; exact this.symm
  have hl' : ∀ j, l[j]? = ops[i + 1 + j]? := fun j => by have := hl (j + 1); simp at this; rw [this]; congr 1; omega
  simp only [rrunD, getD_drop0] at h
  split at h
  rotate_left
  ·simp at h
  rename_i st' hst
  have hoff : offI base d i + d.cs.getD i 0 = offI base d (i + 1) := by unfold offI; rw [sum_take]; omega
  rw [List.tail_drop, hoff] at h
  have hcons : List.range' i (o :: l).length = i :: List.range' (i + 1) l.length := by rw [List.length_cons, List.range'_succ]
  split at h
  ·rename_i hn
   split at h
   rotate_left
   ·simp at h
   rename_i hchk
   obtain ⟨trf, h1, h2, h3⟩ := rrunD_runI l (i + 1) _ st' fin hl' (by simp [htr]) h
   have hri : trf.getD i none = stR st.slots o.op (guardOk ops.toList st.slots o) := by
    rw [h1 i (by omega), List.getD_eq_getElem?_getD, List.getElem?_append_right (by omega), htr]; simp
   have hrk : ∀ k, k < i → trf.getD k none = tr.getD k none := fun k hk => by
    rw [h1 k (by omega), List.getD_eq_getElem?_getD, List.getElem?_append_left (by omega), List.getD_eq_getElem?_getD]
   refine ⟨trf, hrk, ?_, fun x j hx hj1 hj2 => ?_⟩
   ·rw [hcons]
    exact ⟨st', ⟨o, hi, hst, fun _ => hri.symm⟩, h2⟩
   ·by_cases e : j = i
    ·subst e
     obtain ⟨a, b, k1, k2, k3⟩ := chk_ok hchk x hx
     refine ⟨a, b, ?_, by rw [hri]; exact k2, k3⟩
     have hxl : x < tr.length := by
      rcases Nat.lt_or_ge x tr.length with h | h
      ·exact h
      ·rw [List.getD_eq_getElem?_getD, List.getElem?_eq_none h] at k1; simp at k1
     rw [hrk x (by omega)]; exact k1
    ·exact h3 x j hx (by omega) (by simp at hj2; omega)
  ·rename_i hn
   obtain ⟨trf, h1, h2, h3⟩ := rrunD_runI l (i + 1) _ st' fin hl' (by simp [htr]) h
   have hrk : ∀ k, k < i → trf.getD k none = tr.getD k none := fun k hk => by
    rw [h1 k (by omega), List.getD_eq_getElem?_getD, List.getElem?_append_left (by omega), List.getD_eq_getElem?_getD]
   refine ⟨trf, hrk, ?_, fun x j hx hj1 hj2 => ?_⟩
   ·rw [hcons]
    exact ⟨st', ⟨o, hi, hst, fun hn' => (hn hn').elim⟩, h2⟩
   ·by_cases e : j = i
    ·subst e; exact (hn (needs_mem hx).2).elim
    ·exact h3 x j hx (by omega) (by simp at hj2; omega)
theorem frm_drew (w : World) : Frm (fun _ => False) w { w with drawn := w.drawn + 1 } := ⟨rfl, rfl, rfl, Nat.le_refl _, fun _ _ _ => rfl⟩
theorem draw_okR {R : (Nat → Prop) → ASt → Act → World → Prop} {st fin : ASt} (hK : ∀ Rs, Keeps P C ops d st.toks.length (st.toks.length + d.cs.sum) Rs R) (hok : drawOk ops d = true)
  (hR : R (fun _ => False) ⟨st.slots, st.toks ++ List.replicate d.cs.sum ⟨true, .junk⟩⟩ a w) (hin : ∀ y, ∀ t ∈ refs (ev st.slots y), t < st.toks.length) (h : rdraw C ops.toList d st = some fin) {Q : Exit → Act → World → Prop} (ro : Option Nat)
  (hQ : ∀ D a' w', (∀ j, j < ops.size → D j) → R D fin a' w' → Q .normal a' w') : wpAnyIn (fen ro) 0 P .any ops Q ops.size (Array.replicate ops.size false) a w := by
 unfold rdraw at h
 obtain ⟨trf, _, h2, h3⟩ := rrunD_runI (C := C) (ops := ops) (d := d) (L := st.toks.length + d.cs.sum) (base := st.toks.length) ops.toList 0 [] _ fin (fun j => by simp) rfl (by simpa [offI] using h)
 have hfil : ((List.range ops.size).filter fun i => !(Array.replicate ops.size false).getD i true) = List.range ops.size := by
  rw [List.filter_eq_self]
  intro i hi
  rw [List.mem_range] at hi
  simp [Array.getD_eq_getD_getElem?, hi]
 have hno : ∀ j, ¬ (Array.replicate ops.size false).getD j false = true := fun j hd => by
  rw [Array.getD_eq_getD_getElem?] at hd
  simp [Array.getElem?_replicate] at hd
  split at hd <;> simp at hd
 have hD : (fun j => (Array.replicate ops.size false).getD j false = true) = fun _ => False := funext fun j => propext ⟨hno j, fun h => h.elim⟩
 refine wpAny_ok (C := C) (d := d) (base := st.toks.length) (L := st.toks.length + d.cs.sum) (Rs := fun k => trf.getD k none) (hK _) rfl hok (fun x i hx hi => h3 x i hx (by omega) (by simpa using hi)) ro hQ ops.size _ ⟨st.slots, st.toks ++ List.replicate d.cs.sum ⟨true, .junk⟩⟩ a _ (by simp) (fun j oj _ hd => (hno j hd).elim) (by rw [hfil]; simp) (by simp) (fun y t ht => .inl (hin y t ht)) (by rw [hD]; exact hR) ?_
 rw [hfil, List.range_eq_range']
 simpa using h2
theorem draw_ok (hC : C.Ok P) {st fin : ASt} (hds : ∀ (j : Nat) (oj : Oper), ops[j]? = some oj → ∀ e, oj.dst = some e → e ∉ U.idx) (hok : drawOk ops d = true) (hs : SR U w0 st E a w) (h : rdraw C ops.toList d st = some fin) {Q : Exit → Act → World → Prop} (ro : Option Nat) (hQ : ∀ E' a' w', SR U w0 fin E' a' w' → Q .normal a' w') :
  wpAnyIn (fen ro) 0 P .any ops Q ops.size (Array.replicate ops.size false) a { w with drawn := w.drawn + 1 } := by
 obtain ⟨E1, hs1, _⟩ := (hs.grow (frm_drew w)).padA d.cs.sum
 exact draw_okR (R := fun _ st a w => ∃ E, SR U w0 st E a w) (fun Rs => ⟨fun ⟨_, h⟩ hl => h.fine hl, fun ⟨E, h⟩ hl hI hD hst K hK => stepI_stp hC rfl hl (hI.not_own rfl hD) (hds _) h hst fun E' a' w' h' => hK a' w' ⟨E', h'⟩⟩) hok ⟨E1, hs1⟩ (fun y t ht => inRange_refs _ (hs.inRange y) t ht) h ro fun _ a' w' _ ⟨E', h'⟩ => hQ E' a' w' h'
end
open Go Go.RowKit
def codeOk (dt : List (Nat × RD)) (L : List Nat) : Code → Bool
 | .region id ops draw => (!draw || drawOk ops (dtGet dt id)) && ops.all fun o => match o.dst with | some d => !L.contains d | none => true
 | .seq x y => codeOk dt L x && codeOk dt L y
 | .cond _ x y => codeOk dt L x && codeOk dt L y
 | .block _ x => codeOk dt L x
 | .loop x => codeOk dt L x
 | .rangeFunc _ _ x y => codeOk dt L x && codeOk dt L y
 | .scope x => codeOk dt L x
 | _ => true
def Tr (P : Program) (U : Ld) (w0 : World) (c : Code) (st : ASt) (Q : Exit → ASt → Prop) : Prop :=
 codeOk U.dt U.idx c = true → ∀ (E : Env) (a : Act) (w : World), SR U w0 st E a w → ∀ K : Exit → Act → World → Prop, (∀ e st' E' a' w', Q e st' → SR U w0 st' E' a' w' → K e a' w') → c.wpIn (fen U.ro) 0 P K a w
def Le (U : Ld) (w0 : World) (st st' : ASt) : Prop := ∀ E a w, SR U w0 st E a w → ∃ E', SR U w0 st' E' a w
section
variable {P : Program} {C : Ctx} {U : Ld} {w0 : World} {st : ASt} {Q : Exit → ASt → Prop}
theorem Tr.weak {c : Code} {Q' : Exit → ASt → Prop} (h : Tr P U w0 c st Q) (hq : ∀ e s, Q e s → Q' e s) : Tr P U w0 c st Q' :=
 fun hc E a w hs K hK => h hc E a w hs K fun e s E' a' w' q => hK e s E' a' w' (hq e s q)
theorem Tr.pre {c : Code} {st' : ASt} (h : Tr P U w0 c st' Q) (hl : Le U w0 st st') : Tr P U w0 c st Q :=
 fun hc E a w hs K hK => by obtain ⟨E', hs'⟩ := hl E a w hs; exact h hc E' a w hs' K hK
theorem tr_skip (h : Q .normal st) : Tr P U w0 .skip st Q := fun _ E a w hs _ hK => wpIn_skip (hK _ _ E a w h hs)
theorem tr_exit {id : Nat} (h : Q (.exit id) st) : Tr P U w0 (.exit id) st Q := fun _ E a w hs _ hK => wpIn_exit (hK _ _ E a w h hs)
theorem tr_ret (h : Q .ret st) : Tr P U w0 .ret st Q := fun _ E a w hs _ hK => wpIn_ret (hK _ _ E a w h hs)
def andThen (N : ASt → Prop) (Q : Exit → ASt → Prop) : Exit → ASt → Prop
 | .normal, s => N s
 | e, s => Q e s
theorem tr_seq {x y : Code} (h : Tr P U w0 x st (andThen (fun s => Tr P U w0 y s Q) Q)) : Tr P U w0 (.seq x y) st Q := by
 intro hc E a w hs K hK
 simp only [codeOk, Bool.and_eq_true] at hc
 refine wpIn_seq (h hc.1 E a w hs _ fun e s E' a' w' hq hs' => ?_)
 cases e with
 | normal => exact hq hc.2 E' a' w' hs' K hK
 | _ => exact hK _ _ E' a' w' hq hs'
theorem tr_cond {c : Operand} {x y : Code} {t : Bool} (he : ev st.slots c = .v (.bool t)) (hx : t = true → Tr P U w0 x st Q) (hy : t = false → Tr P U w0 y st Q) : Tr P U w0 (.cond c x y) st Q := by
 intro hc E a w hs K hK
 simp only [codeOk, Bool.and_eq_true] at hc
 have := SRep_v (hs.ev c) he
 exact wpIn_cond_split this (fun ht => hx ht hc.1 E a w hs K hK) (fun ht => hy ht hc.2 E a w hs K hK)
def inBlock (id : Nat) (Q : Exit → ASt → Prop) : Exit → ASt → Prop
 | .exit id', s => if id' = id then Q .normal s else Q (.exit id') s
 | e, s => Q e s
theorem tr_block {id : Nat} {c : Code} (h : Tr P U w0 c st (inBlock id Q)) : Tr P U w0 (.block id c) st Q := by
 intro hc E a w hs K hK
 simp only [codeOk] at hc
 refine wpIn_block (h hc E a w hs _ fun e s E' a' w' hq hs' => ?_)
 cases e with
 | exit id' =>
  simp only [inBlock, Exit.inBlock] at hq ⊢
  split
  ·rename_i h; rw [if_pos h] at hq; exact hK _ _ E' a' w' hq hs'
  ·rename_i h; rw [if_neg h] at hq; exact hK _ _ E' a' w' hq hs'
 | _ => exact hK _ _ E' a' w' hq hs'
def slotsLe : List AV → List AV → Prop
 | [], [] => True
 | a :: al, b :: bs => (b = .junk ∨ a = b) ∧ slotsLe al bs
 | _, _ => False
def sub (s s' : ASt) : Prop := s'.toks = s.toks ∧ slotsLe s.slots s'.slots
theorem slotsLe_get : ∀ {l l' : List AV}, slotsLe l l' → l'.length = l.length ∧ ∀ (i : Nat) (x : AV), l'[i]? = some x → x = .junk ∨ l[i]? = some x
 | [], [], _ => ⟨rfl, fun i x h => by simp at h⟩
 | a :: al, b :: bs, h => by
  obtain ⟨h1, h2⟩ := h
  obtain ⟨g1, g2⟩ := slotsLe_get h2
  refine ⟨by simp [g1], fun i x hx => ?_⟩
  cases i with
  | zero =>
   simp at hx; subst hx
   rcases h1 with h1 | h1
   ·exact .inl h1
   ·exact .inr (by simp [h1])
  | succ i => simpa using g2 i x (by simpa using hx)
 | [], _ :: _, h => h.elim
 | _ :: _, [], h => h.elim
theorem le_sub {s s' : ASt} (h : sub s s') : Le U w0 s s' := by
 intro E a w hs
 obtain ⟨h1, h2⟩ := h
 obtain ⟨g1, g2⟩ := slotsLe_get h2
 refine ⟨E, hs.defers, by rw [g1]; exact hs.size, fun i x hi => ?_, hs.flt, by rw [h1]; exact hs.tok, hs.slt, hs.sep, hs.frame, hs.pin⟩
 rw [h1]
 rcases g2 i x hi with rfl | hx
 ·simp [SRep]
 ·exact hs.slot i x hx
theorem tr_loop {c : Code} {α : Type} (I : α → ASt) (μ : α → Nat) (x0 : α) (h0 : Le U w0 st (I x0))
  (hstep : ∀ x, Tr P U w0 c (I x) (andThen (fun s => ∃ y, Le U w0 s (I y) ∧ μ y < μ x) Q)) : Tr P U w0 (.loop c) st Q := by
 refine Tr.pre (st' := I x0) ?_ h0
 intro hc E a w hs K hK
 simp only [codeOk] at hc
 have key : ∀ (n : Nat) (x : α), μ x < n → ∀ (E : Env) (a : Act) (w : World), SR U w0 (I x) E a w → Code.roundsIn (fen U.ro) 0 P c K n a w := by
  intro n
  induction n with
  | zero => intro x h; omega
  | succ n ih =>
   intro x hx E a w hs
   simp only [Code.roundsIn]
   refine hstep x hc E a w hs _ fun e s E' a' w' hq hs' => ?_
   cases e with
   | normal =>
    obtain ⟨y, hsy, hy⟩ := hq
    obtain ⟨E'', hs''⟩ := hsy E' a' w' hs'
    exact ih y (by omega) E'' a' w' hs''
   | _ => exact hK _ _ E' a' w' hq hs'
 exact wpIn_loop_rounds (μ x0 + 1) (key _ x0 (Nat.lt_succ_self _) E a w hs)
def regrun (C : Ctx) (dt : List (Nat × RD)) (id : Nat) (ops : List Oper) : Bool → ASt → Option ASt
 | false, st => rrun C ops ops st
 | true, st => rdraw C ops (dtGet dt id) st
theorem regrun_false {dt : List (Nat × RD)} {id : Nat} {ops : List Oper} {st : ASt} : regrun C dt id ops false st = rrun C ops ops st := rfl
theorem regrun_true {dt : List (Nat × RD)} {id : Nat} {ops : List Oper} {st : ASt} : regrun C dt id ops true st = rdraw C ops (dtGet dt id) st := rfl
theorem tr_region (hC : C.Ok P) (hm : P.follows .mixedOrders = true) {id : Nat} {ops : Array Oper} {draw : Bool} {fin : ASt} (h : regrun C U.dt id ops.toList draw st = some fin) (hq : Q .normal fin) : Tr P U w0 (.region id ops draw) st Q := by
 intro hc E a w hs K hK
 simp only [codeOk, Bool.and_eq_true] at hc
 have hds : ∀ (j : Nat) (oj : Oper), ops[j]? = some oj → ∀ e, oj.dst = some e → e ∉ U.idx := by
  intro j oj hj e he
  have := (Array.all_eq_true_iff_forall_mem.1 hc.2) oj (Array.mem_of_getElem? hj)
  rw [he] at this
  simpa using this
 replace hc := hc.1
 cases draw with
 | false =>
  rw [regrun_false] at h
  refine wpIn_region ?_
  have := rrun_ok hC hds (Q := K) (ops := ops) U.ro (fun E' a' w' hs' => hK _ _ E' a' w' hq hs') ops.toList 0 st E a w (fun j => by simp) hs h
  rw [List.range_eq_range']
  simpa using this
 | true =>
  rw [regrun_true] at h
  simp only [Bool.not_true, Bool.false_or] at hc
  exact wpIn_region_any hm (draw_ok hC hds hc hs h U.ro fun E' a' w' hs' => hK _ _ E' a' w' hq hs')
end
open Go Go.RowKit
def once : List Nat → List Nat → List Nat
 | acc, [] => acc
 | acc, t :: l => if acc.contains t then once acc l else once (acc ++ [t]) l
def place : List Nat → Nat → Nat
 | [], _ => 0
 | t :: l, x => if t = x then 0 else place l x + 1
def keep (live : List Bool) (slots : List AV) : List AV :=
 match live, slots with
 | _, [] => []
 | [], _ :: ss => .junk :: keep [] ss
 | b :: bs, s :: ss => (if b then s else .junk) :: keep bs ss
def clean (live : List Bool) (st : ASt) : ASt :=
 let sl := keep live st.slots
 let p := once [] (refsL sl)
 ⟨renL (place p) sl, p.map fun t => st.toks.getD t ⟨true, .junk⟩⟩
theorem once_mem : ∀ (l acc : List Nat) (t : Nat), t ∈ once acc l ↔ t ∈ acc ∨ t ∈ l
 | [], acc, t => by simp [once]
 | x :: l, acc, t => by
  simp only [once]
  split
  ·rename_i h
   rw [once_mem l acc t]
   have : x ∈ acc := by simpa using h
   constructor
   ·rintro (h | h)
    ·exact .inl h
    ·exact .inr (by simp [h])
   ·rintro (h | h)
    ·exact .inl h
    ·rcases List.mem_cons.1 h with rfl | h
     ·exact .inl this
     ·exact .inr h
  ·rw [once_mem l (acc ++ [x]) t]; simp [or_assoc]
theorem once_nodup : ∀ (l acc : List Nat), acc.Nodup → (once acc l).Nodup
 | [], acc, h => by simpa [once] using h
 | x :: l, acc, h => by
  simp only [once]
  split
  ·exact once_nodup l acc h
  ·rename_i hn
   refine once_nodup l _ ?_
   rw [List.nodup_append]
   refine ⟨h, by simp, ?_⟩
   intro a ha b hb e
   simp at hb; subst hb; subst e
   simp at hn; exact hn ha
theorem place_ok : ∀ (p : List Nat) (t : Nat), t ∈ p → p[place p t]? = some t
 | [], t, h => by simp at h
 | x :: p, t, h => by
  simp only [place]
  split
  ·rename_i e; subst e; simp
  ·rename_i hne
   rcases List.mem_cons.1 h with rfl | h
   ·exact (hne rfl).elim
   ·simpa using place_ok p t h
theorem keep_get : ∀ (live : List Bool) (slots : List AV) (i : Nat) (x : AV), (keep live slots)[i]? = some x → x = .junk ∨ slots[i]? = some x
 | _, [], i, x, h => by simp [keep] at h
 | [], s :: ss, i, x, h => by
  simp only [keep] at h
  cases i with
  | zero => simp at h; exact .inl h.symm
  | succ i => simpa using keep_get [] ss i x (by simpa using h)
 | b :: bs, s :: ss, i, x, h => by
  simp only [keep] at h
  cases i with
  | zero =>
   simp at h
   cases b with
   | true => simp at h; exact .inr (by simp [h])
   | false => simp at h; exact .inl h.symm
  | succ i => simpa using keep_get bs ss i x (by simpa using h)
theorem keep_len : ∀ (live : List Bool) (slots : List AV), (keep live slots).length = slots.length
 | _, [] => by simp [keep]
 | [], s :: ss => by simp [keep, keep_len [] ss]
 | b :: bs, s :: ss => by simp [keep, keep_len bs ss]
theorem renL_map (f : Nat → Nat) : ∀ (l : List AV), renL f l = l.map (ren f)
 | [] => rfl
 | c :: cs => by simp [renL, renL_map f cs]
theorem refsL_mem : ∀ (l : List AV) (x : AV), x ∈ l → ∀ t ∈ refs x, t ∈ refsL l
 | c :: cs, x, h, t, ht => by
  simp only [refsL, List.mem_append]
  rcases List.mem_cons.1 h with rfl | h
  ·exact .inl ht
  ·exact .inr (refsL_mem cs x h t ht)
theorem le_clean {U : Ld} {w0 : World} {st : ASt} (live : List Bool) : Le U w0 st (clean live st) := by
 intro E a w hs
 let sl := keep live st.slots
 let p := once [] (refsL sl)
 have hp : p.Nodup := once_nodup _ _ List.nodup_nil
 let E' : Env := { F := E.F, hd := fun i => E.hd (p.getD i 0), S := fun i b => ∃ t, p[i]? = some t ∧ E.S t b }
 refine ⟨E', hs.defers, ?_, fun i x hi => ?_, hs.flt, fun i tk hi => ?_, fun i b hb => ?_, fun i i' b hne hb hb' => ?_, hs.frame, hs.pin⟩
 ·simp [clean, renL_map, keep_len, hs.size]
 ·simp only [clean, renL_map, List.getElem?_map, Option.map_eq_some_iff] at hi
  obtain ⟨x0, hx0, rfl⟩ := hi
  have hmem : x0 ∈ sl := List.mem_of_getElem? hx0
  rcases keep_get live st.slots i x0 hx0 with rfl | h0
  ·simp [ren, SRep]
  ·refine SRep.ren (E := E) (E' := E') (toks := st.toks) rfl x0 _ (hs.slot i x0 h0) fun t ht hlt => ?_
   have htp : t ∈ p := (once_mem _ _ _).2 (.inr (refsL_mem sl x0 hmem t ht))
   have hpl := place_ok p t htp
   refine ⟨?_, ?_⟩
   ·show (p.map fun t => st.toks.getD t ⟨true, .junk⟩)[place p t]? = _
    rw [List.getElem?_map, hpl]
    simp [List.getD_eq_getElem?_getD, List.getElem?_eq_getElem hlt]
   ·show E.hd (p.getD (place p t) 0) = E.hd t
    rw [List.getD_eq_getElem?_getD, hpl]; rfl
 ·change (p.map fun t => st.toks.getD t ⟨true, .junk⟩)[i]? = some tk at hi
  rw [List.getElem?_map, Option.map_eq_some_iff] at hi
  obtain ⟨t, ht, rfl⟩ := hi
  by_cases hlt : t < st.toks.length
  ·have htk : st.toks[t]? = some (st.toks.getD t ⟨true, .junk⟩) := by simp [List.getD_eq_getElem?_getD, List.getElem?_eq_getElem hlt]
   rcases hs.tok t _ htk with h | ⟨nl, sz, es, h1, h2⟩
   ·exact .inl h
   ·refine .inr ⟨nl, sz, es, h1, ?_⟩
    have e1 : E'.hd i = E.hd t := by show E.hd (p.getD i 0) = E.hd t; rw [List.getD_eq_getElem?_getD, ht]; rfl
    rw [e1]
    exact h2.weak (fun _ h => h) (fun b hb => ⟨t, ht, hb⟩) (Agree.refl _ _)
  ·exact .inl (by rw [List.getD_eq_getElem?_getD, List.getElem?_eq_none (by omega)]; rfl)
 ·obtain ⟨t, _, hb⟩ := hb
  exact hs.slt t b hb
 ·obtain ⟨t, ht, hb⟩ := hb
  obtain ⟨t', ht', hb'⟩ := hb'
  refine hs.sep t t' b (fun e => ?_) hb hb'
  subst e
  exact hne ((List.getElem?_inj (List.getElem?_eq_some_iff.1 ht).1 hp).1 (ht.trans ht'.symm))
def awp (P : Program) (C : Ctx) (live : List Bool) (U : Ld) (w0 : World) : Code → ASt → (Exit → ASt → Prop) → Prop
 | .skip, st, Q => Q .normal st
 | .region id ops draw, st, Q => ∃ fin, regrun C U.dt id ops.toList draw st = some fin ∧ Q .normal (clean live fin)
 | .seq x y, st, Q => awp P C live U w0 x st (andThen (fun s => awp P C live U w0 y s Q) Q)
 | .cond c x y, st, Q => ∃ t, ev st.slots c = .v (.bool t) ∧ (t = true → awp P C live U w0 x st Q) ∧ (t = false → awp P C live U w0 y st Q)
 | .block id x, st, Q => awp P C live U w0 x st (inBlock id Q)
 | .exit id, st, Q => Q (.exit id) st
 | .ret, st, Q => Q .ret st
 | c, st, Q => Tr P U w0 c st Q
theorem andThen_mono {N N' : ASt → Prop} {Q : Exit → ASt → Prop} (h : ∀ s, N s → N' s) : ∀ e s, andThen N Q e s → andThen N' Q e s
 | .normal, s, k => h s k
 | .exit _, _, k => k
 | .goto _, _, k => k
 | .ret, _, k => k
 | .panic _, _, k => k
 | .outgrown, _, k => k
theorem tr_awp {P : Program} {C : Ctx} {live : List Bool} {U : Ld} {w0 : World} (hC : C.Ok P) (hm : P.follows .mixedOrders = true) : ∀ (c : Code) (st : ASt) (Q : Exit → ASt → Prop), awp P C live U w0 c st Q → Tr P U w0 c st Q
 | .skip, st, Q, h => tr_skip h
 | .region id ops draw, st, Q, h => by
  obtain ⟨fin, h1, h2⟩ := h
  intro hc E a w hs K hK
  refine tr_region (Q := fun e s => e = .normal ∧ s = fin) hC hm h1 ⟨rfl, rfl⟩ hc E a w hs K fun e s E' a' w' hq hs' => ?_
  obtain ⟨rfl, rfl⟩ := hq
  obtain ⟨E'', hs''⟩ := le_clean live E' a' w' hs'
  exact hK _ _ E'' a' w' h2 hs''
 | .seq x y, st, Q, h => tr_seq ((tr_awp hC hm x st _ h).weak (andThen_mono fun s hs => tr_awp hC hm y s Q hs))
 | .cond c x y, st, Q, h => by
  obtain ⟨t, h1, h2, h3⟩ := h
  exact tr_cond h1 (fun ht => tr_awp hC hm x st Q (h2 ht)) (fun ht => tr_awp hC hm y st Q (h3 ht))
 | .block id x, st, Q, h => tr_block (tr_awp hC hm x st _ h)
 | .exit id, st, Q, h => tr_exit h
 | .ret, st, Q, h => tr_ret h
 | .loop _, _, _, h => h
 | .rangeFunc _ _ _ _, _, _, h => h
 | .scope _, _, _, h => h
 | .label _, _, _, h => h
 | .goto _, _, _, h => h
 | .refuse _, _, _, h => h
section
variable {P : Program} {C : Ctx} {live : List Bool} {U : Ld} {w0 : World}
def contS (P : Program) (C : Ctx) (live : List Bool) (U : Ld) (w0 : World) (y : Code) (Q : Exit → ASt → Prop) : Exit → ASt → Prop := andThen (fun s => awp P C live U w0 y s Q) Q
def regS (live : List Bool) (Q : Exit → ASt → Prop) : Option ASt → Prop
 | some fin => Q .normal (clean live fin)
 | none => False
def condS (P : Program) (C : Ctx) (live : List Bool) (U : Ld) (w0 : World) (x y : Code) (st : ASt) (Q : Exit → ASt → Prop) : AV → Prop
 | .v (.bool t) => (t = true → awp P C live U w0 x st Q) ∧ (t = false → awp P C live U w0 y st Q)
 | _ => False
theorem awp_skip {st : ASt} {Q : Exit → ASt → Prop} : awp P C live U w0 .skip st Q = Q .normal st := rfl
theorem awp_seq {x y : Code} {st : ASt} {Q : Exit → ASt → Prop} : awp P C live U w0 (.seq x y) st Q = awp P C live U w0 x st (contS P C live U w0 y Q) := rfl
theorem awp_block {id : Nat} {x : Code} {st : ASt} {Q : Exit → ASt → Prop} : awp P C live U w0 (.block id x) st Q = awp P C live U w0 x st (inBlock id Q) := rfl
theorem awp_exit {id : Nat} {st : ASt} {Q : Exit → ASt → Prop} : awp P C live U w0 (.exit id) st Q = Q (.exit id) st := rfl
theorem awp_ret {st : ASt} {Q : Exit → ASt → Prop} : awp P C live U w0 .ret st Q = Q .ret st := rfl
theorem awp_loop {x : Code} {st : ASt} {Q : Exit → ASt → Prop} : awp P C live U w0 (.loop x) st Q = Tr P U w0 (.loop x) st Q := rfl
theorem awp_rangeF {g : Operand} {ps : Array Tmp} {x y : Code} {st : ASt} {Q : Exit → ASt → Prop} : awp P C live U w0 (.rangeFunc g ps x y) st Q = Tr P U w0 (.rangeFunc g ps x y) st Q := rfl
theorem awp_region {id : Nat} {ops : Array Oper} {dr : Bool} {st : ASt} {Q : Exit → ASt → Prop} : awp P C live U w0 (.region id ops dr) st Q = regS live Q (regrun C U.dt id ops.toList dr st) := by
 apply propext
 simp only [awp]
 constructor
 ·rintro ⟨fin, h1, h2⟩; rw [h1]; exact h2
 ·intro h
  cases hr : regrun C U.dt id ops.toList dr st with
  | none => rw [hr] at h; exact h.elim
  | some fin => rw [hr] at h; exact ⟨fin, rfl, h⟩
theorem awp_cond {c : Operand} {x y : Code} {st : ASt} {Q : Exit → ASt → Prop} : awp P C live U w0 (.cond c x y) st Q = condS P C live U w0 x y st Q (ev st.slots c) := by
 apply propext
 simp only [awp]
 constructor
 ·rintro ⟨t, h1, h2⟩; rw [h1]; exact h2
 ·intro h
  generalize hv : ev st.slots c = v at h
  unfold condS at h
  split at h
  ·exact ⟨_, rfl, h⟩
  ·exact h.elim
theorem contS_normal {y : Code} {s : ASt} {Q : Exit → ASt → Prop} : contS P C live U w0 y Q .normal s = awp P C live U w0 y s Q := rfl
theorem contS_exit {y : Code} {id : Nat} {s : ASt} {Q : Exit → ASt → Prop} : contS P C live U w0 y Q (.exit id) s = Q (.exit id) s := rfl
theorem contS_ret {y : Code} {s : ASt} {Q : Exit → ASt → Prop} : contS P C live U w0 y Q .ret s = Q .ret s := rfl
theorem inB_normal {id : Nat} {s : ASt} {Q : Exit → ASt → Prop} : inBlock id Q .normal s = Q .normal s := rfl
theorem inB_exit {id id' : Nat} {s : ASt} {Q : Exit → ASt → Prop} : inBlock id Q (.exit id') s = if id' = id then Q .normal s else Q (.exit id') s := rfl
theorem inB_ret {id : Nat} {s : ASt} {Q : Exit → ASt → Prop} : inBlock id Q .ret s = Q .ret s := rfl
theorem Le.trans {s1 s2 s3 : ASt} (h : Le U w0 s1 s2) (h' : Le U w0 s2 s3) : Le U w0 s1 s3 := fun E a w hs => by
 obtain ⟨E', hs'⟩ := h E a w hs
 exact h' E' a w hs'
theorem regS_some {Q : Exit → ASt → Prop} {s : ASt} : regS live Q (some s) = Q .normal (clean live s) := rfl
theorem condS_bool {x y : Code} {st : ASt} {Q : Exit → ASt → Prop} {t : Bool} : condS P C live U w0 x y st Q (.v (.bool t)) = ((t = true → awp P C live U w0 x st Q) ∧ (t = false → awp P C live U w0 y st Q)) := rfl
def bindS (f : ASt → Option ASt) : Option ASt → Option ASt
 | some s => f s
 | none => none
theorem bindS_some {f : ASt → Option ASt} {s : ASt} : bindS f (some s) = f s := rfl
theorem rrun_nil {ops : List Oper} {st : ASt} : rrun C ops [] st = some st := rfl
theorem rrun_cons {ops : List Oper} {o : Oper} {l : List Oper} {st : ASt} : rrun C ops (o :: l) st = bindS (rrun C ops l) (rstep C ops o st) := by
 simp only [rrun]
 cases rstep C ops o st <;> rfl
def outD (d : Option Nat) : Option Out → Option ASt
 | some r => some ⟨putD r.slots d r.val, r.toks⟩
 | none => none
theorem outD_some {d : Option Nat} {x : AV} {slots : List AV} {toks : List Tok} : outD d (some ⟨x, slots, toks⟩) = some ⟨putD slots d x, toks⟩ := rfl
def stepG (y : Option ASt) (n : ASt) : Option Bool → Option ASt
 | some g => if g then y else some n
 | none => none
theorem stepG_some {y : Option ASt} {n : ASt} {g : Bool} : stepG y n (some g) = if g then y else some n := rfl
theorem rstep_eq {ops : List Oper} {o : Oper} {slots : List AV} {toks : List Tok} : rstep C ops o ⟨slots, toks⟩ = stepG (outD o.dst (aop C o.op slots toks)) ⟨putD slots o.dst (.tup []), toks⟩ (guardOk ops slots o) := by
 unfold rstep
 simp only []
 cases guardOk ops slots o with
 | none => rfl
 | some g => simp only [stepG]; cases aop C o.op slots toks <;> rfl
def contD (C : Ctx) (ops : List Oper) (d : RD) (L : Nat) (o : Oper) (l : List Oper) (i off : Nat) (cs : List Nat) (tr : List (Option (List Nat))) (slots : List AV) (st' : ASt) : Option ASt :=
 if needs i d.prs then (if chk tr i (stR slots o.op (guardOk ops slots o)) d.prs then rrunD C ops d L l (i + 1) (off + cs.headD 0) cs.tail (tr ++ [stR slots o.op (guardOk ops slots o)]) st' else none)
  else rrunD C ops d L l (i + 1) (off + cs.headD 0) cs.tail (tr ++ [none]) st'
theorem contD_eq {ops : List Oper} {prs : List (Nat × Nat)} {cs0 wr : List Nat} {L : Nat} {o : Oper} {l : List Oper} {i off : Nat} {cs : List Nat} {tr : List (Option (List Nat))} {slots : List AV} {st' : ASt} : contD C ops ⟨prs, cs0, wr⟩ L o l i off cs tr slots st' =
  if needs i prs then (if chk tr i (stR slots o.op (guardOk ops slots o)) prs then rrunD C ops ⟨prs, cs0, wr⟩ L l (i + 1) (off + cs.headD 0) cs.tail (tr ++ [stR slots o.op (guardOk ops slots o)]) st' else none)
  else rrunD C ops ⟨prs, cs0, wr⟩ L l (i + 1) (off + cs.headD 0) cs.tail (tr ++ [none]) st' := rfl
theorem rrunD_nil {ops : List Oper} {d : RD} {L i off : Nat} {cs : List Nat} {tr : List (Option (List Nat))} {st : ASt} : rrunD C ops d L [] i off cs tr st = some st := rfl
theorem rrunD_cons {ops : List Oper} {prs : List (Nat × Nat)} {cs0 wr : List Nat} {L : Nat} {o : Oper} {l : List Oper} {i off : Nat} {cs : List Nat} {tr : List (Option (List Nat))} {slots : List AV} {toks : List Tok} :
  rrunD C ops ⟨prs, cs0, wr⟩ L (o :: l) i off cs tr ⟨slots, toks⟩ = bindS (contD C ops ⟨prs, cs0, wr⟩ L o l i off cs tr slots) (rstepD (if wr.contains i then C else noM C) ops L off (cs.headD 0) o ⟨slots, toks⟩) := by
 simp only [rrunD]
 cases rstepD (if wr.contains i then C else noM C) ops L off (cs.headD 0) o ⟨slots, toks⟩ <;> rfl
theorem rdraw_eq {ops : List Oper} {prs : List (Nat × Nat)} {cs wr : List Nat} {slots : List AV} {toks : List Tok} : rdraw C ops ⟨prs, cs, wr⟩ ⟨slots, toks⟩ =
  rrunD C ops ⟨prs, cs, wr⟩ (toks.length + cs.sum) ops 0 toks.length cs [] ⟨slots, toks ++ List.replicate cs.sum ⟨true, .junk⟩⟩ := rfl
def outC (L off : Nat) (d : Option Nat) (x : AV) (slots : List AV) (toks : List Tok) : Nat → Option ASt
 | 0 => if toks.length = L then some ⟨putD slots d x, toks⟩ else none
 | c + 1 => if (toks.drop L).length ≤ c + 1 then some ⟨putD slots d (ren (shf L off) x), sets (nums off (toks.drop L)) (toks.take L)⟩ else none
theorem outC_zero {L off : Nat} {d : Option Nat} {x : AV} {slots : List AV} {toks : List Tok} : outC L off d x slots toks 0 = if toks.length = L then some ⟨putD slots d x, toks⟩ else none := rfl
theorem outC_succ {L off c : Nat} {d : Option Nat} {x : AV} {slots : List AV} {toks : List Tok} : outC L off d x slots toks (c + 1) = if (toks.drop L).length ≤ c + 1 then some ⟨putD slots d (ren (shf L off) x), sets (nums off (toks.drop L)) (toks.take L)⟩ else none := rfl
theorem outDr_some {L off c : Nat} {d : Option Nat} {x : AV} {slots : List AV} {toks : List Tok} : outDr L off c d (some ⟨x, slots, toks⟩) = outC L off d x slots toks c := by cases c <;> rfl
theorem rstepD_eq {ops : List Oper} {L off c : Nat} {o : Oper} {slots : List AV} {toks : List Tok} : rstepD C ops L off c o ⟨slots, toks⟩ = stepG (outDr L off c o.dst (aop C o.op slots toks)) ⟨putD slots o.dst (.tup []), toks⟩ (guardOk ops slots o) := by
 unfold rstepD
 simp only []
 cases guardOk ops slots o with
 | none => rfl
 | some g => simp only [stepG]
def callOut (slots : List AV) (toks : List Tok) (alt : Option Out) : Option AV → Option Out
 | some r => some ⟨(intern toks r).1, slots, (intern toks r).2⟩
 | none => alt
theorem callOut_some {slots : List AV} {toks : List Tok} {alt : Option Out} {r : AV} : callOut slots toks alt (some r) = some ⟨(intern toks r).1, slots, (intern toks r).2⟩ := rfl
theorem callOut_none {slots : List AV} {toks : List Tok} {alt : Option Out} : callOut slots toks alt none = alt := rfl
def callV (C : Ctx) (slots : List AV) (toks : List Tok) (args : List Operand) : AV → Option Out
 | .fn g caps => callOut slots toks (alt (mutCall slots toks (args.map (ev slots)) caps (C.M g (args.map (fun x => res toks (ev slots x)) ++ resL toks caps))) (alt (movCall slots toks (args.map (ev slots)) caps (C.V g (args.map (fun x => res toks (ev slots x)) ++ resL toks caps))) (frzCall slots toks (refsL (args.map (ev slots)) ++ refsL caps) (C.H g (args.map (fun x => res toks (ev slots x)) ++ resL toks caps))))) (C.G g (args.map (fun x => res toks (ev slots x)) ++ resL toks caps))
 | _ => none
theorem callV_fn {slots : List AV} {toks : List Tok} {args : List Operand} {g : FuncId} {caps : List AV} : callV C slots toks args (.fn g caps) = callOut slots toks (alt (mutCall slots toks (args.map (ev slots)) caps (C.M g (args.map (fun x => res toks (ev slots x)) ++ resL toks caps))) (alt (movCall slots toks (args.map (ev slots)) caps (C.V g (args.map (fun x => res toks (ev slots x)) ++ resL toks caps))) (frzCall slots toks (refsL (args.map (ev slots)) ++ refsL caps) (C.H g (args.map (fun x => res toks (ev slots x)) ++ resL toks caps))))) (C.G g (args.map (fun x => res toks (ev slots x)) ++ resL toks caps)) := rfl
theorem aop_call {f : Operand} {args : Array Operand} {ts : Array TypeId} {slots : List AV} {toks : List Tok} : aop C (.call ⟨.value f, args, ts⟩) slots toks = callV C slots toks args.toList (ev slots f) := by
 simp only [aop, callV]
 split
 ·rename_i g caps h
  rw [h]
  simp only []
  cases C.G g (List.map (fun x => res toks (ev slots x)) args.toList ++ resL toks caps) <;> rfl
 ·rename_i h
  cases hv : ev slots f <;> first | rfl | exact (h _ _ hv).elim
theorem frzCall_none {slots : List AV} {toks : List Tok} {l : List Nat} : frzCall slots toks l none = none := rfl
theorem frzCall_some {slots : List AV} {toks : List Tok} {l : List Nat} {sh : Bool} {r : AV} : frzCall slots toks l (some (sh, r)) = if (sh = false ∨ l = []) ∧ refs r = [] then some ⟨r, slots, toks⟩ else none := rfl
theorem movCall_none {slots : List AV} {toks : List Tok} {avs caps : List AV} : movCall slots toks avs caps none = none := rfl
theorem mutCall_none {slots : List AV} {toks : List Tok} {avs caps : List AV} : mutCall slots toks avs caps none = none := rfl
theorem take_map_all {α β : Type} {xs : List α} {f : α → β} : List.take xs.length (List.map f xs) = List.map f xs := List.take_of_length_le (by simp)
def Nxt {α : Type} (lv : List Bool) (I : α → ASt) (μ : α → Nat) (x : α) (s : ASt) : Prop := ∃ y, sub (clean lv s) (I y) ∧ μ y < μ x
def loopS {α : Type} (lv : List Bool) (I : α → ASt) (μ : α → Nat) (x : α) (Q : Exit → ASt → Prop) : Exit → ASt → Prop := andThen (Nxt lv I μ x) Q
theorem loopS_normal {α : Type} {lv : List Bool} {I : α → ASt} {μ : α → Nat} {x : α} {Q : Exit → ASt → Prop} {s : ASt} : loopS lv I μ x Q .normal s = Nxt lv I μ x s := rfl
theorem loopS_exit {α : Type} {lv : List Bool} {I : α → ASt} {μ : α → Nat} {x : α} {Q : Exit → ASt → Prop} {s : ASt} {id : Nat} : loopS lv I μ x Q (.exit id) s = Q (.exit id) s := rfl
theorem loopS_ret {α : Type} {lv : List Bool} {I : α → ASt} {μ : α → Nat} {x : α} {Q : Exit → ASt → Prop} {s : ASt} : loopS lv I μ x Q .ret s = Q .ret s := rfl
theorem awp_loop_of (hC : C.Ok P) (hm : P.follows .mixedOrders = true) (lv : List Bool) {c : Code} {st : ASt} {Q : Exit → ASt → Prop} {α : Type} (I : α → ASt) (μ : α → Nat) (x0 : α) (h0 : sub (clean lv st) (I x0))
  (hstep : ∀ x, awp P C live U w0 c (I x) (loopS lv I μ x Q)) : Tr P U w0 (.loop c) st Q :=
 tr_loop I μ x0 ((le_clean lv).trans (le_sub h0)) fun x => (tr_awp hC hm c _ _ (hstep x)).weak (andThen_mono fun s hs => by
  obtain ⟨y, h1, h2⟩ := hs
  exact ⟨y, (le_clean lv).trans (le_sub h1), h2⟩)
theorem wrapI {x : Int} (h1 : -9223372036854775808 ≤ x) (h2 : x ≤ 9223372036854775807) : IntKind.i64.wrap x = x := by
 exact Go.IntWalk.i64_in x ⟨h1, h2⟩
end
end Go.Proofs.YtompijgfpeibnaaGreatDoor.Ax
