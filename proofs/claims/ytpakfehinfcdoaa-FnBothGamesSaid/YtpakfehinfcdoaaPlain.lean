/- Small facts and small functions that many texts use. -/
import Derived.Test.YtpakfehinfcdoaaMark
namespace Go.Aw
abbrev W (n : Int) : Int := IntKind.i64.wrap n
def fo {α : Type} (f : α → Nat → α) (a : α) : Nat → α
  | 0 => a
  | n + 1 => f (fo f a n) n
theorem fo_congr {α : Type} {f g : α → Nat → α} {a : α} : ∀ {n : Nat}, (∀ b k, k < n → f b k = g b k) → fo f a n = fo g a n
  | 0, _ => rfl
  | n + 1, h => by rw [fo, fo, fo_congr (fun b k hk => h b k (by omega)), h _ n (by omega)]
theorem nat_wrap {k : Nat} (h : k ≤ 9223372036854775806) : IntKind.i64.wrap ((k : Int) + 1) = ((k + 1 : Nat) : Int) := by rw [w64 (by omega) (by omega)]; omega
theorem map_range_succ {α : Type} (f : Nat → α) (k : Nat) : (List.range k).map f ++ [f k] = (List.range (k + 1)).map f := by rw [List.range_succ, List.map_append]; rfl
theorem shl_one {n : Nat} (h : n ≤ 12) : shl .i64 1 n = ((2 ^ n : Nat) : Int) := by
  have : n = 0 ∨ n = 1 ∨ n = 2 ∨ n = 3 ∨ n = 4 ∨ n = 5 ∨ n = 6 ∨ n = 7 ∨ n = 8 ∨ n = 9 ∨ n = 10 ∨ n = 11 ∨ n = 12 := by omega
  rcases this with h | h | h | h | h | h | h | h | h | h | h | h | h <;> subst h <;> rfl
theorem two_pow_le {n : Nat} (h : n ≤ 12) : 2 ^ n ≤ 4096 := by
  have := Nat.pow_le_pow_right (n := 2) (by omega) h
  simpa using this
end Go.Aw
namespace Go.Aw
section
variable {P : Program}
/-- (slice, bool): nil where it is false -/
def nilOr (ok : Bool) (r : ARow) : AVal → List (Nat × ARow) → Prop := fun x h =>
  (ok = false ∧ x = .tu [.c (.slice none 0 0), .c (.bool false)] ∧ h = []) ∨ (ok = true ∧ x = .tu [.own 0, .c (.bool true)] ∧ h = [(0, r)])

theorem view_rows {f : FuncId} {args : List AVal} {ok : Bool} {e e1 : Nat} {m : List (List Int)} (h : FSpec P f args (nilOr ok (.rows e e1 true m))) :
    FSpec P f args (ex (.tu [.own 0, .c (.bool ok)]) [(0, .rows e e1 true (if ok then m else []))]) := by
  refine FSpec.view h ?_
  rintro x hr (⟨rfl, rfl, rfl⟩ | ⟨rfl, rfl, rfl⟩)
  · exact ⟨[(0, .nil)], .tu [.own 0, .c (.bool false)], [(0, .rows e e1 true [])], rfl, ⟨rfl, trivial, trivial⟩, ⟨⟨rfl, rfl, rfl⟩, rfl, trivial⟩, rfl, rfl⟩
  · exact ⟨[(0, .row 0)], .tu [.own 0, .c (.bool true)], [(0, .rows e e1 true m)], rfl, ⟨rfl, rfl, trivial⟩, ⟨⟨rfl, rfl⟩, rfl, trivial⟩, rfl, rfl⟩

theorem view_ints {f : FuncId} {args : List AVal} {ok : Bool} {e : Nat} {k : IntKind} {l : List Int} (h : FSpec P f args (nilOr ok (.ints e k l))) :
    FSpec P f args (ex (.tu [.own 0, .c (.bool ok)]) [(0, .ints e k (if ok then l else []))]) := by
  refine FSpec.view h ?_
  rintro x hr (⟨rfl, rfl, rfl⟩ | ⟨rfl, rfl, rfl⟩)
  · exact ⟨[(0, .nil)], .tu [.own 0, .c (.bool false)], [(0, .ints e k [])], rfl, ⟨rfl, trivial, trivial⟩, ⟨⟨rfl, rfl, rfl⟩, rfl, trivial⟩, rfl, rfl⟩
  · exact ⟨[(0, .row 0)], .tu [.own 0, .c (.bool true)], [(0, .ints e k l)], rfl, ⟨rfl, rfl, trivial⟩, ⟨⟨rfl, rfl⟩, rfl, trivial⟩, rfl, rfl⟩
end
theorem tot_le_mul {m : List (List Int)} {n : Nat} (h : ∀ r, r ∈ m → r.length ≤ n) : tot m ≤ m.length * n := by
  induction m with
  | nil => simp [tot]
  | cons r m ih =>
    have h1 := h r (by simp)
    have h2 := ih (fun q hq => h q (by simp [hq]))
    simp only [tot, List.length_cons, Nat.succ_mul]
    omega
end Go.Aw
namespace Go.Aw
theorem map_getD {α β : Type} {f : α → β} {l : List α} {i : Nat} {d : α} {e : β} (h : i < l.length) : (l.map f).getD i e = f (l.getD i d) := by
  simp [List.getD, h]
theorem range_getD {β : Type} {f : Nat → β} {n i : Nat} {e : β} (h : i < n) : ((List.range n).map f).getD i e = f i := by
  simp [List.getD, h]
theorem rall_succ {p : Nat → Bool} {k : Nat} (h1 : (List.range k).all p = true) (h2 : p k = true) : (List.range (k + 1)).all p = true := by
  rw [List.range_succ, List.all_append, h1]; simp [h2]
theorem rall_false {p : Nat → Bool} {k n : Nat} (h : k < n) (h2 : p k = false) : (List.range n).all p = false := by
  rw [List.all_eq_false]
  exact ⟨k, by simpa using h, by simp [h2]⟩
end Go.Aw
namespace Go.Proofs.Ytpakfehinfcdoaa
open Go.Aw
set_option maxRecDepth 100000

theorem getD_lt {α : Type} {l : List α} {d : α} {i : Nat} (h : i < l.length) : l.getD i d = l[i] := by rw [List.getD_eq_getElem?_getD, List.getElem?_eq_getElem h]; rfl

def inR (x a b : Int) : Bool := decide (a ≤ x ∧ x ≤ b)
def rowIn (r : List Int) (a b : Int) : Bool := r.all (fun x => inR x a b)
theorem all_take_succ {α : Type} {m : List α} {d : α} {p : α → Bool} {k : Nat} (h : k < m.length) (h1 : (m.take k).all p = true) (h2 : p (m.getD k d) = true) : (m.take (k + 1)).all p = true := by
  rw [List.take_succ_eq_append_getElem h, List.all_append, h1]
  rw [List.getD_eq_getElem?_getD, List.getElem?_eq_getElem h] at h2
  simpa using h2

theorem all_false {α : Type} {m : List α} {d : α} {p : α → Bool} {k : Nat} (h : k < m.length) (h2 : p (m.getD k d) = false) : m.all p = false := by
  rw [List.all_eq_false]
  exact ⟨m.getD k d, getD_mem h, by simpa using h2⟩

theorem all_end {α : Type} {m : List α} {p : α → Bool} {k : Nat} (h : ¬ k < m.length) (h1 : (m.take k).all p = true) : m.all p = true := by
  rwa [List.take_of_length_le (by omega)] at h1

theorem l1In_spec (x a b : Int) : FSpec Try.prog 50 [.c (.int .i64 x), .c (.int .i64 a), .c (.int .i64 b)] (ex (.c (.bool (inR x a b))) []) := by
  refine fspec tyOk mx Try.func50 rfl (by kernel_rfl) rfl ?_
  refine ⟨fun h => ?_, fun h => ?_⟩ <;> (conv => whnf) <;> refine ⟨?_, rfl⟩ <;> simp only [inR, decide_eq_true_eq, decide_eq_false_iff_not] at h ⊢
  · simp [h]
  · simp [show ¬ a ≤ x by omega]

theorem within_spec (x a b : Int) : FSpec Try.prog 58 [.c (.int .i64 x), .c (.int .i64 a), .c (.int .i64 b)] (ex (.c (.bool (inR x a b))) []) := by
  refine fspec tyOk mx Try.func58 rfl (by kernel_rfl) rfl ?_
  refine ⟨fun h => ?_, fun h => ?_⟩ <;> (conv => whnf) <;> refine ⟨?_, rfl⟩ <;> simp only [inR, decide_eq_true_eq, decide_eq_false_iff_not] at h ⊢
  · simp [h]
  · simp [show ¬ a ≤ x by omega]

theorem allWithin_spec (r : List Int) (a b : Int) (hl : r.length ≤ 9223372036854775807) :
    FSpec Try.prog 48 [.t (.ints .i64 r), .c (.int .i64 a), .c (.int .i64 b)] (ex (.c (.bool (rowIn r a b))) []) := by
  refine fspec tyOk mx Try.func48 rfl (by kernel_rfl) rfl ?_
  conv => whnf
  refine aloopI tyOk mx (fun k : Nat => (⟨21, [(0, .t (.ints .i64 r)), (1, .c (.int .i64 a)), (2, .c (.int .i64 b)), (9, .t (.ints .i64 r)), (10, .c (.int .i64 r.length)), (11, .c (.int .i64 (k : Int)))], [], 0⟩ : St)) (fun k => k ≤ r.length ∧ (r.take k).all (fun x => inR x a b) = true) (fun k => r.length - k)
    0 ⟨by omega, rfl⟩ none (by refine ⟨rfl, rfl, ?_, ?_⟩ <;> ((repeat' (first | exact trivial | exact rfl | refine And.intro ?_ ?_)) <;> (try ((conv => whnf); first | refine vint ?_ | refine vboo ?_ | refine rint ?_ | refine rrow ?_ | skip)) <;> (try first | omega | (simp; done) | ((repeat rw [flts_closed _ (by assumption)]); exact vws_closed _ (by assumption))))) (fun k hI => ?_)
  obtain ⟨hk, hp⟩ := hI
  refine ⟨fun h => ?_, fun h => ?_⟩
  · have hk1 : k < r.length := by simpa using h
    conv => whnf
    refine ⟨k, rfl, hk1, ?_⟩
    conv => whnf
    refine ACall.use (within_spec _ _ _) ?_
    refine ⟨fun h => ?_, fun h => ?_⟩
    · conv => whnf
      refine ⟨?_, rfl⟩
      rw [rowIn, all_false (d := 0) hk1 (by simpa using h)]
    · conv => whnf
      rw [w64 (by omega) (by omega)]
      exact ⟨k + 1, none, (by refine ⟨rfl, rfl, ?_, ?_⟩ <;> ((repeat' (first | exact trivial | exact rfl | refine And.intro ?_ ?_)) <;> (try ((conv => whnf); first | refine vint ?_ | refine vboo ?_ | refine rint ?_ | refine rrow ?_ | skip)) <;> (try first | omega | (simp; done) | ((repeat rw [flts_closed _ (by assumption)]); exact vws_closed _ (by assumption))))), ⟨by omega, all_take_succ (d := 0) hk1 hp (by simpa using h)⟩, by omega⟩
  · have hk1 : ¬ k < r.length := by simpa using h
    conv => whnf
    refine ⟨?_, rfl⟩
    rw [rowIn, all_end hk1 hp]

end Go.Proofs.Ytpakfehinfcdoaa
