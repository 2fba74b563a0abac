/- Flat types: a struct or an array whose cells are all whole numbers, opened at once; a slice of such structs read as a list. -/
import Derived.Deep.Slices
import Derived.OpenShut
import Derived.ChangeArms
import Derived.SizedLaws
import Derived.WideLaws
import Derived.Test.YtpimdgkofgendaaWWords
namespace Go.Proofs.Ytpimdgkofgendaa.Flat
open Go.ChangeShapes Go.WideShapes Go.RowKit Go.Proofs.YtpimdgkofgendaaW.PrintWords

/-- Cells that are whole numbers of the kinds told, each within its kind. -/
def Ints : List IntKind → List Value → Prop
  | [], [] => True
  | k :: ks, v :: vs => (∃ n, v = .int k n ∧ (Lit.int k n).wf = true) ∧ Ints ks vs
  | _, _ => False

theorem Ints.length : ∀ {ks : List IntKind} {vs : List Value}, Ints ks vs → vs.length = ks.length
  | [], [], _ => rfl
  | _ :: _, _ :: _, h => by
    have := Ints.length h.2
    simpa using this
  | [], _ :: _, h => h.elim
  | _ :: _, [], h => h.elim

theorem Ints.append : ∀ {ks : List IntKind} {vs : List Value} {ks' : List IntKind} {vs' : List Value}, Ints ks vs → Ints ks' vs' → Ints (ks ++ ks') (vs ++ vs')
  | [], [], _, _, _, h' => h'
  | _ :: _, _ :: _, _, _, h, h' => ⟨h.1, Ints.append h.2 h'⟩
  | [], _ :: _, _, _, h, _ => h.elim
  | _ :: _, [], _, _, h, _ => h.elim

theorem Ints.cons_inv {k : IntKind} {ks : List IntKind} : ∀ {cs : List Value}, Ints (k :: ks) cs → ∃ n vs, cs = .int k n :: vs ∧ (Lit.int k n).wf = true ∧ Ints ks vs
  | [], h => h.elim
  | _ :: vs, h => by
    obtain ⟨⟨n, rfl, hn⟩, hr⟩ := h
    exact ⟨n, vs, rfl, hn, hr⟩

theorem Ints.nil_inv : ∀ {cs : List Value}, Ints [] cs → cs = []
  | [], _ => rfl
  | _ :: _, h => h.elim

/-- The kinds of all cells of fields that lie one behind the other. -/
def flatAll (f : TypeId → Option (List IntKind)) (sz : TypeId → Nat) : Nat → List Field → Option (List IntKind)
  | _, [] => some []
  | o, x :: xs => if x.offset = o then (f x.type).bind fun ks => if ks.length = sz x.type then (flatAll f sz (o + ks.length) xs).map (ks ++ ·) else none else none

/-- The kinds of all cells of a type, where all of them are whole numbers. -/
def flat (P : Program) : Nat → TypeId → Option (List IntKind)
  | 0, _ => none
  | d + 1, t => match P.underlying t with
    | some (.int k) => some [k]
    | some (.struct fs) => (flatAll (flat P d) P.cellsOf 0 fs.toList).bind fun ks => if ks.length = P.cellsOf t then some ks else none
    | some (.array n e) => (flat P d e).bind fun ks => if ks.length = P.cellsOf e ∧ n * ks.length = P.cellsOf t then some (List.replicate n ks).flatten else none
    | _ => none

section
variable {H : Type} {enc : TypeId × Value → H} {P : Program} {w : World} {base : Nat} {spare : Nat → Bool} {held : Bool}

theorem flatAll_ints {f : TypeId → Option (List IntKind)} {cs : List Value} {m : Nat}
    (ih : ∀ t ks cs x, f t = some ks → DataW.trod enc P w base spare held m t cs = some x → Ints ks cs) :
    ∀ (fs : List Field) (o : Nat) (ks : List IntKind), flatAll f P.cellsOf o fs = some ks →
      (∀ fld ∈ fs, ∃ y, DataW.trod enc P w base spare held m fld.type ((cs.drop fld.offset).take (P.cellsOf fld.type)) = some y) → Ints ks ((cs.drop o).take ks.length)
  | [], o, ks, h, _ => by
    simp only [flatAll, Option.some.injEq] at h
    subst h
    simp [Ints]
  | x :: xs, o, ks, h, hf => by
    simp only [flatAll] at h
    split at h
    · rename_i ho
      obtain ⟨k1, h1, h2⟩ := Option.bind_eq_some_iff.1 h
      split at h2
      · rename_i hl
        obtain ⟨k2, h3, rfl⟩ := Option.map_eq_some_iff.1 h2
        obtain ⟨y, hy⟩ := hf x (by simp)
        have a := ih _ _ _ _ h1 hy
        have b := flatAll_ints ih xs _ _ h3 (fun fld hm => hf fld (by simp [hm]))
        rw [ho, ← hl] at a
        have e : (cs.drop o).take (k1 ++ k2).length = (cs.drop o).take k1.length ++ (cs.drop (o + k1.length)).take k2.length := by
          rw [List.length_append, List.take_add, List.drop_drop]
        rw [e]
        exact a.append b
      · cases h2
    · cases h

theorem rep_ints {ks : List IntKind} {cs : List Value} {m c n : Nat} {e : TypeId} (hc : ks.length = c)
    (ih : ∀ cs x, DataW.trod enc P w base spare held m e cs = some x → Ints ks cs)
    (h : ∀ i, i < n → ∃ y, DataW.trod enc P w base spare held m e ((cs.drop (i * c)).take c) = some y) :
    ∀ i, i ≤ n → Ints (List.replicate i ks).flatten (cs.take (i * c))
  | 0, _ => by simp [Ints]
  | i + 1, hi => by
    have a := rep_ints hc ih h i (by omega)
    obtain ⟨y, hy⟩ := h i (by omega)
    have b := ih _ _ hy
    rw [List.replicate_succ', List.flatten_append, Nat.succ_mul, List.take_add]
    simpa using a.append b

theorem trod_flat : ∀ (d : Nat) (t : TypeId) (ks : List IntKind) (fuel : Nat) (cs : List Value) (x : DataW H × List MemPlace), flat P d t = some ks → DataW.trod enc P w base spare held fuel t cs = some x → Ints ks cs
  | 0, _, _, _, _, _, h, _ => by simp [flat] at h
  | d + 1, t, ks, fuel, cs, x, h, ht => by
    simp only [flat] at h
    split at h
    · rename_i k hu
      obtain ⟨n, rfl, _, hw⟩ := DataW.trod_int hu ht
      simp only [Option.some.injEq] at h
      subst h
      exact ⟨⟨n, rfl, hw⟩, trivial⟩
    · rename_i fs hu
      obtain ⟨ks', h1, h2⟩ := Option.bind_eq_some_iff.1 h
      split at h2
      · rename_i hl
        simp only [Option.some.injEq] at h2
        subst h2
        obtain ⟨xs, m, _, _, hlen, hxl, hf⟩ := DataW.trod_struct hu ht
        have a := flatAll_ints (cs := cs) (m := m) (fun t ks cs x => trod_flat d t ks m cs x) fs.toList 0 ks' h1 (fun fld hm => by
          obtain ⟨i, hi⟩ := List.getElem?_of_mem hm
          have hi' : fs[i]? = some fld := by simpa using hi
          have := hf i fld hi'
          have hlt : i < xs.length := by
            have := (Array.getElem?_eq_some_iff.1 hi').1
            omega
          rw [List.getElem?_eq_getElem hlt] at this
          exact ⟨_, this⟩)
        rw [List.drop_zero, hl, ← hlen, List.take_length] at a
        exact a
      · cases h2
    · rename_i n e hu
      obtain ⟨ks', h1, h2⟩ := Option.bind_eq_some_iff.1 h
      split at h2
      · rename_i hl
        simp only [Option.some.injEq] at h2
        subst h2
        obtain ⟨xs, m, _, _, hlen, hxl, hf⟩ := DataW.trod_array hu ht
        have a := rep_ints (cs := cs) (n := n) hl.1 (fun cs x => trod_flat d e ks' m cs x h1) (fun i hi => by
          have := hf i hi
          rw [List.getElem?_eq_getElem (by omega)] at this
          exact ⟨_, this⟩) n (Nat.le_refl _)
        rw [show n * P.cellsOf e = cs.length by rw [hlen, ← hl.2, hl.1], List.take_length] at a
        exact a
      · cases h2
    · cases h

/-- A slice of flat elements, read as a list of whatever is made of their cells. -/
theorem open_flats {α : Type} {R : α → List Value → Prop} {OK : α → Prop} {ks : List IntKind} {c B : Nat} {d : Nat} {t e : TypeId} {a : Option Addr} {len cap : Nat} {dt : DataW H} {ps : List MemPlace} {ts : List TypeId} {ds : List (DataW H)} {j : Nat}
    (hsz : (DataW.weightsEach P ts ds).all (· ≤ reachBytes) = true) (ht : ts[j]? = some t) (hd : ds[j]? = some dt) (hu : P.underlying t = some (.slice e)) (hflat : flat P d e = some ks) (hc : P.cellsOf e = c) (hk : ks.length = c) (hB : P.bytesOf e = B)
    (hof : ∀ cs, Ints ks cs → ∃ x, R x cs ∧ OK x)
    (h : DataW.Trod enc P w base spare held t (.slice a len cap) dt ps) :
    ∃ l : List α, len = l.length ∧ ReadsRow R c w a l.length l ∧ l.length ≤ cap ∧ l.length ≤ maxLen ∧ l.length * B ≤ 140737488351232 ∧ ∀ x ∈ l, OK x := by
  obtain ⟨fuel, hf⟩ := h
  rcases Go.Deep.open_slice hu hf with ⟨hcs, _⟩ | ⟨ad, l, cp, m, n, D, Pl, hcs, hb, hl, hm, hmm, hx, hi⟩
  · simp [Value.cells] at hcs
    obtain ⟨rfl, rfl, rfl⟩ := hcs
    exact ⟨[], rfl, ⟨rfl, by simp, fun h => absurd h (by simp)⟩, by simp, by simp, by simp, by simp⟩
  · simp [Value.cells] at hcs
    obtain ⟨rfl, rfl, rfl⟩ := hcs
    rw [Prod.mk.injEq] at hx
    obtain ⟨hx, _⟩ := hx
    subst hx
    have hlm : len ≤ m := by rw [hmm]; split <;> omega
    have z := sized_slice hsz ht hd hu
    rw [hB] at z
    simp only [List.length_map, List.length_range] at z
    have z1 : len * B ≤ 140737488351232 := Nat.le_trans (Nat.mul_le_mul_right _ (by omega)) z
    have each : ∀ i, ∃ x : Option α, i < len → ∃ y cs, x = some y ∧ cs.length = c ∧ R y cs ∧ OK y ∧ ∀ q u, cs[q]? = some u → w.cell? (ad.add (i * c + q)) = some u := by
      intro i
      by_cases hil : i < len
      · obtain ⟨cs, h1, h2⟩ := hi i (by omega)
        have h3 := trod_flat _ _ _ _ _ _ hflat h2
        obtain ⟨x, hR, hOK⟩ := hof cs h3
        refine ⟨some x, fun _ => ⟨x, cs, rfl, h3.length.trans hk, hR, hOK, fun q u hq => ?_⟩⟩
        rw [hc] at h1
        obtain ⟨_, hcl, hat⟩ := World.cells?_some h1
        have hql : q < c := by
          have := (List.getElem?_eq_some_iff.1 hq).1
          omega
        have := hat q hql
        rw [hq, Go.Deep.add_add] at this
        exact this
      · exact ⟨none, fun h => absurd h hil⟩
    obtain ⟨f, hfx⟩ := Classical.axiomOfChoice each
    have key : ∀ i, i < len → ((List.range len).filterMap f)[i]? = f i := by
      have all : ∀ n, n ≤ len → ((List.range n).filterMap f).length = n ∧ ∀ i, i < n → ((List.range n).filterMap f)[i]? = f i := by
        intro n
        induction n with
        | zero => intro _; exact ⟨by simp, fun i hi => absurd hi (by omega)⟩
        | succ n ih =>
          intro hn
          obtain ⟨ih1, ih2⟩ := ih (by omega)
          obtain ⟨y, cs, hy, _⟩ := hfx n (by omega)
          rw [List.range_succ, List.filterMap_append]
          have e1 : List.filterMap f [n] = [y] := by simp [hy]
          rw [e1]
          refine ⟨by simp [ih1], fun i hi => ?_⟩
          by_cases hin : i < n
          · rw [List.getElem?_append_left (by omega)]
            exact ih2 i hin
          · obtain rfl : i = n := by omega
            rw [List.getElem?_append_right (by omega), ih1, hy]
            simp
      exact (all len (Nat.le_refl _)).2
    have hlen : ((List.range len).filterMap f).length = len := by
      have all : ∀ n, n ≤ len → ((List.range n).filterMap f).length = n := by
        intro n
        induction n with
        | zero => intro _; simp
        | succ n ih =>
          intro hn
          obtain ⟨y, cs, hy, _⟩ := hfx n (by omega)
          rw [List.range_succ, List.filterMap_append, List.length_append, ih (by omega)]
          simp [hy]
      exact all len (Nat.le_refl _)
    refine ⟨(List.range len).filterMap f, hlen.symm, ⟨rfl, ?_, fun _ => ⟨ad, rfl, fun q y hq => ?_⟩⟩, by rw [hlen]; exact hl, by rw [hlen]; exact Nat.le_trans hl hm, by rw [hlen]; exact z1, fun x hx => ?_⟩
    · rw [hlen]
      unfold maxLen at hm
      omega
    · have hql : q < len := by
        have := (List.getElem?_eq_some_iff.1 hq).1
        omega
      rw [key q hql] at hq
      obtain ⟨y', cs, hy', hcl, hR, _, hat⟩ := hfx q hql
      rw [hq, Option.some.injEq] at hy'
      subst hy'
      exact ⟨cs, hcl, hR, hat⟩
    · obtain ⟨q, hq⟩ := List.getElem?_of_mem hx
      have hql : q < len := by
        have := (List.getElem?_eq_some_iff.1 hq).1
        omega
      rw [key q hql] at hq
      obtain ⟨y', cs, hy', _, _, hOK, _⟩ := hfx q hql
      rw [hq, Option.some.injEq] at hy'
      subst hy'
      exact hOK

/-- A struct of flat cells by value. -/
theorem open_flat {r : Reach} {b0 d : Nat} {t : TypeId} {fs : Array Field} {ks : List IntKind} {v : Value} {dt : DataW H} {ps : List MemPlace} (hu : P.underlying t = some (.struct fs)) (hflat : flat P d t = some ks)
    (hv : Value.okWide P w r b0 t v) (h : DataW.Trod enc P w base spare held t v dt ps) : ∃ cs : List Value, v = .agg cs.toArray ∧ Ints ks cs := by
  obtain ⟨cs, rfl, hsz⟩ := okWide_struct hu hv
  obtain ⟨fuel, hf⟩ := h
  exact ⟨cs.toList, by simp, trod_flat _ _ _ _ _ _ hflat (by simpa [Value.cells] using hf)⟩

end
end Go.Proofs.Ytpimdgkofgendaa.Flat
