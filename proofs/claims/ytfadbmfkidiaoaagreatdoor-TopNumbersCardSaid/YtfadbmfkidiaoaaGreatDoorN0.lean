/- Wants in a slice. -/
import Derived.Test.YtfadbmfkidiaoaaGreatDoorE6
namespace Go.Proofs.YtfadbmfkidiaoaaGreatDoor
open Go.RowKit Go

abbrev Wnt := Bool × Bool × Nat
def wsC (l : List Wnt) : List Value := l.flatMap fun x => [.bool x.1, .bool x.2.1, .int .u8 (x.2.2 : Nat)]
def wAt (l : List Wnt) (i : Nat) : Wnt := l.getD i (false, false, 0)
theorem wsC_len (l : List Wnt) : (wsC l).length = l.length * 3 := by
  unfold wsC; induction l with
  | nil => rfl
  | cons _ _ ih => simp only [List.flatMap_cons, List.length_append, ih, List.length_cons, List.length_nil]; omega
theorem wsC_get (l : List Wnt) (i : Nat) (h : i < l.length) : (wsC l)[i * 3]? = some (.bool (wAt l i).1) ∧ (wsC l)[i * 3 + 1]? = some (.bool (wAt l i).2.1) ∧ (wsC l)[i * 3 + 2]? = some (.int .u8 ((wAt l i).2.2 : Nat)) := by
  induction l generalizing i with
  | nil => simp at h
  | cons p l ih =>
    cases i with
    | zero => simp [wsC, wAt]
    | succ i =>
      have := ih i (by simpa using h)
      have e1 : (i + 1) * 3 = i * 3 + 3 := by omega
      have e2 : wAt (p :: l) (i + 1) = wAt l i := by simp [wAt]
      simp only [e1, e2]
      simp only [wsC, List.flatMap_cons, List.cons_append, List.getElem?_cons_succ, List.nil_append] at this ⊢
      exact this
theorem Vw.want {w : World} {g o n c : Nat} {l : List Wnt} (h : Vw w g 24 3 (.slice (some ⟨g, o, none⟩) n c) n (wsC l)) (i : Nat) (hi : i < n) :
    w.cell? ⟨g, o + i * 3, none⟩ = some (.bool (wAt l i).1) ∧ w.cell? ⟨g, o + i * 3 + 1, none⟩ = some (.bool (wAt l i).2.1) ∧ w.cell? ⟨g, o + i * 3 + 2, none⟩ = some (.int .u8 ((wAt l i).2.2 : Nat)) := by
  cases h with
  | at_ hl hn hc hcell hty =>
    have hlen : i < l.length := by rw [wsC_len] at hl; omega
    have hg := wsC_get l i hlen
    exact ⟨hcell _ _ hg.1, by have := hcell _ _ hg.2.1; rwa [← Nat.add_assoc] at this, by have := hcell _ _ hg.2.2; rwa [← Nat.add_assoc] at this⟩

/-- wants that are read: nil, or n of them in block g -/
structure Wv (w : World) (g : Nat) (v : Value) (n : Nat) (l : List Wnt) : Prop where
  form : ∃ A c, v = .slice A n c ∧ n ≤ c
  le : n ≤ 9223372036854775807
  len : l.length = n
  at_ : ∀ i, i < n → ∃ o c, v = .slice (some ⟨g, o, none⟩) n c ∧ w.cell? ⟨g, o + i * 3, none⟩ = some (.bool (wAt l i).1) ∧ w.cell? ⟨g, o + i * 3 + 1, none⟩ = some (.bool (wAt l i).2.1) ∧ w.cell? ⟨g, o + i * 3 + 2, none⟩ = some (.int .u8 ((wAt l i).2.2 : Nat))
theorem Vw.wv {w : World} {g : Nat} {v : Value} {n : Nat} {l : List Wnt} (h : Vw w g 24 3 v n (wsC l)) : Wv w g v n l := by
  refine ⟨h.form, h.lenMax, by have := h.len; rw [wsC_len] at this; omega, fun i hi => ?_⟩
  rcases h.split with ⟨_, h0, _⟩ | ⟨o, c', h1, _⟩
  · omega
  · subst h1; exact ⟨o, c', rfl, h.want i hi⟩
theorem Wv.ext {w w' : World} {g : Nat} {v : Value} {n : Nat} {l : List Wnt} {S : List Nat} (h : Wv w g v n l) (hx : Ext S w w') (hn : g ∉ S) : Wv w' g v n l :=
  ⟨h.form, h.le, h.len, fun i hi => by obtain ⟨o, c, h1, h2, h3, h4⟩ := h.at_ i hi; exact ⟨o, c, h1, hx.cell h2 hn, hx.cell h3 hn, hx.cell h4 hn⟩⟩

end Go.Proofs.YtfadbmfkidiaoaaGreatDoor
