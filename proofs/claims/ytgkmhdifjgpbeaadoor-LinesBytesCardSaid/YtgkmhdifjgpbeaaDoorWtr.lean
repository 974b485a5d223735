/-
  The writer writes a row of trees, or throws that there is no room. Conditions: none beyond what memory holds.
-/
import Derived.Test.YtgkmhdifjgpbeaaDoorBuf
namespace Go.Proofs.YtgkmhdifjgpbeaaDoor
open Go.RowKit

/-- What is thrown with an error's number. -/
def thrown (e : Int) : List PanicEntry := [{ v := .iface 24 (.int .i64 e), recovered := false }]

theorem must_ok (e : Int) (w : World) : Calls Tryd.prog 28 #[.bool true, .int .i64 e] w fun r w' => r = .returned (.tuple #[]) ∧ w = w' := by
  go_enter Tryd.func28, Tryd.ntmps28
  go_wp2
  go_end0
  exact ⟨rfl, rfl⟩
theorem must_no (e : Int) (w : World) : Calls Tryd.prog 28 #[.bool false, .int .i64 e] w fun r w' => r = .panicked (thrown e) ∧ w = w' := by
  go_enter Tryd.func28, Tryd.ntmps28
  go_wp2
  exact ⟨rfl, rfl, rfl⟩
def MustSays (b : Bool) (e : Int) (w : World) (r : Ending) (w' : World) : Prop := r = (if b then .returned (.tuple #[]) else .panicked (thrown e)) ∧ w = w'
theorem must_any (b : Bool) (e : Int) (w : World) : Calls Tryd.prog 28 #[.bool b, .int .i64 e] w (MustSays b e w) := by
  cases b
  · exact must_no e w
  · exact must_ok e w

/-- The writer's block: its text so far. -/
def WrAt (B b : Nat) (l : List UInt8) (w : World) : Prop :=
  B ≤ b ∧ B ≤ w.heap.size ∧ ((l = [] ∧ w.heap[b]? = some (.cells #[.pointer none, .slice none 0 0] 77 (0, 0))) ∨ (l ≠ [] ∧ Lib.BuilderAt 77 5 B b (.pointer (some ⟨b, 0, none⟩)) (Lib.byteCells l) w))

theorem WrAt.is {B b : Nat} {l : List UInt8} {w : World} (h : WrAt B b l w) : Lib.IsBuilder 77 5 B b (Lib.byteCells l) w := by
  obtain ⟨hB, _, ⟨rfl, h⟩ | ⟨_, h⟩⟩ := h
  · exact .inl ⟨hB, .slice none 0 0, h, World.ownsRow_nil _ _ _ _, by simp [Value.ownBlock]⟩
  · exact .inr h
theorem WrAt.alloc {B b : Nat} {l : List UInt8} {w : World} (h : WrAt B b l w) (o : Obj) : WrAt B b l (w.alloc o) := by
  obtain ⟨hB, hs, h⟩ := h
  refine ⟨hB, by simp; omega, ?_⟩
  have hlt : ∀ c, w.heap[b]? = some c → b < w.heap.size := fun c hc => by
    rcases Nat.lt_or_ge b w.heap.size with h' | h'
    · exact h'
    · simp [Array.getElem?_eq_none h'] at hc
  rcases h with ⟨h1, h2⟩ | ⟨h1, h2, v, h3, h4, h5⟩
  · exact .inl ⟨h1, (Below.heap_alloc w o b (hlt _ h2)).trans h2⟩
  · exact .inr ⟨h1, h2, v, (Below.heap_alloc w o b (hlt _ h3)).trans h3, h4.alloc o, h5⟩

/-- What is left by a piece of the writer's work that writes more, if there is room. -/
def Wrote (B b : Nat) (l more : List UInt8) (w : World) (e : Ending) (w' : World) : Prop :=
  (Below B w w' ∧ Others w w') ∧ (if l.length + more.length ≤ 262144 then e = .returned (.tuple #[]) ∧ WrAt B b (l ++ more) w' else e = .panicked (thrown 3))

set_option maxHeartbeats 1000000 in
theorem add_any (B b : Nat) (l : List UInt8) (s : ByteArray) (w : World) (h : WrAt B b l w) (hl : l.length ≤ 262144) (hs : s.size ≤ 140737488355328) (h0 : s.size ≠ 0) :
    Calls Tryd.prog 58 #[.pointer (some ⟨b, 0, none⟩), .string s] w (Wrote B b l s.data.toList w) := by
  have h1 := Lib.hid (fun W (h : Lib.IsBuilder 77 5 B b (Lib.byteCells l) W) => len_any B b (Lib.byteCells l) W h)
  have h2 := Lib.hid (fun hx (hfit : l.length + s.size ≤ 262144) => writeString_any B b (Lib.byteCells l) s w h.is (by rw [Lib.byteCells_length]; omega) hx)
  have hlen : s.data.toList.length = s.size := by rw [Array.length_toList]; rfl
  have HL := Lib.hid hlen
  have HB := Lib.hid (Lib.byteCells_length l)
  have HI := Lib.hid h
  have hlen2 : Hid ((Lib.byteCells l).length = l.length) := HB
  clear hlen h
  by_cases hf : l.length + s.size ≤ 262144
  · go_enter Tryd.func58, Tryd.ntmps58
    go_wp2_with fail
    refine (h1.out _ HI.out.is).mono ?_
    rintro e w' ⟨rfl, rfl⟩
    rw [HB.out]
    have e1 : decide ((l.length : Int) + (s.size : Int) ≤ 262144) = true := by simp; omega
    go_wp2_with fail
    refine (must_ok _ _).mono ?_
    rintro e w' ⟨rfl, rfl⟩
    go_wp2_with fail
    refine (h2.out HI.out.2.1 hf).mono ?_
    rintro e w' ⟨rfl, hA, hB', hO'⟩
    go_wp2_with fail
    go_end0
    refine ⟨⟨hB', hO'⟩, ?_⟩
    rw [HL.out, if_pos hf]
    refine ⟨rfl, HI.out.1, Nat.le_trans HI.out.2.1 hB'.size, .inr ⟨?_, ?_⟩⟩
    · intro e
      have : s.data.toList.length = 0 := by rw [(List.append_eq_nil_iff.1 e).2]; rfl
      rw [HL.out] at this; omega
    · rw [Lib.byteCells_append]; exact hA
  · go_enter Tryd.func58, Tryd.ntmps58
    go_wp2_with fail
    refine (h1.out _ HI.out.is).mono ?_
    rintro e w' ⟨rfl, rfl⟩
    rw [HB.out]
    have e1 : decide ((l.length : Int) + (s.size : Int) ≤ 262144) = false := by simp; omega
    go_wp2_with fail
    refine (must_no _ _).mono ?_
    rintro e w' ⟨rfl, rfl⟩
    refine ⟨rfl, ⟨Below.refl _ _, Others.refl _⟩, ?_⟩
    rw [HL.out, if_neg hf]
theorem Wrote.yes {B b : Nat} {l more : List UInt8} {w w' : World} {e : Ending} (h : Wrote B b l more w e w') (hf : l.length + more.length ≤ 262144) : e = .returned (.tuple #[]) ∧ (Below B w w' ∧ Others w w') ∧ WrAt B b (l ++ more) w' := by
  obtain ⟨h1, h2⟩ := h
  rw [if_pos hf] at h2
  exact ⟨h2.1, h1, h2.2⟩
theorem Wrote.no {B b : Nat} {l more : List UInt8} {w w' : World} {e : Ending} (h : Wrote B b l more w e w') (hf : ¬ l.length + more.length ≤ 262144) : e = .panicked (thrown 3) ∧ (Below B w w' ∧ Others w w') := by
  obtain ⟨h1, h2⟩ := h
  rw [if_neg hf] at h2
  exact ⟨h2, h1⟩
theorem Wrote.stop {B b : Nat} {l more : List UInt8} {w w' : World} (h : Below B w w' ∧ Others w w') (hf : ¬ l.length + more.length ≤ 262144) : Wrote B b l more w (.panicked (thrown 3)) w' := ⟨h, by rw [if_neg hf]⟩
theorem add1_any (B b : Nat) (l : List UInt8) (c : UInt8) (w : World) (h : WrAt B b l w) (hl : l.length ≤ 262144) :
    Calls Tryd.prog 58 #[.pointer (some ⟨b, 0, none⟩), .string ⟨#[c]⟩] w (Wrote B b l [c] w) :=
  add_any B b l ⟨#[c]⟩ w h hl (by show (1 : Nat) ≤ _; omega) (by show ¬ (1 : Nat) = 0; omega)
theorem bytes_nil {s : ByteArray} (h : s.size = 0) : s.toList = [] := by
  rw [ByteArray.toList_eq]
  exact List.eq_nil_of_length_eq_zero (by rw [Array.length_toList]; exact h)
theorem bytes_some {s : ByteArray} (h : ¬ s.size = 0) : s.toList.isEmpty = false := by
  rw [ByteArray.toList_eq]
  cases hl : s.data.toList with
  | nil => exact absurd (by rw [← Array.length_toList, hl]; rfl : s.data.size = 0) h
  | cons => rfl
end Go.Proofs.YtgkmhdifjgpbeaaDoor
