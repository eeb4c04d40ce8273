/- Best plays: reference and program. -/
import Derived.Test.YtpakfehinfcdoaaGame3
namespace Go.Aw
section
variable {P : Program}
/-- (slice, int, bool): nil, 0 where it is false -/
def nilOrN (ok : Bool) (r : ARow) (v : Int) : AVal → List (Nat × ARow) → Prop := fun x h =>
  (ok = false ∧ x = .tu [.c (.slice none 0 0), .c (.int .i64 (0)), .c (.bool false)] ∧ h = []) ∨ (ok = true ∧ x = .tu [.own 0, .c (.int .i64 (v)), .c (.bool true)] ∧ h = [(0, r)])
theorem view_intsN {f : FuncId} {args : List AVal} {ok : Bool} {e : Nat} {k : IntKind} {l : List Int} {v : Int} (h : FSpec P f args (nilOrN ok (.ints e k l) v)) :
    FSpec P f args (ex (.tu [.own 0, .c (.int .i64 (if ok then v else 0)), .c (.bool ok)]) [(0, .ints e k (if ok then l else []))]) := by
  refine FSpec.view h ?_
  rintro x hr (⟨rfl, rfl, rfl⟩ | ⟨rfl, rfl, rfl⟩)
  · exact ⟨[(0, .nil)], .tu [.own 0, .c (.int .i64 (0)), .c (.bool false)], [(0, .ints e k [])], rfl, ⟨rfl, trivial, trivial⟩, ⟨⟨rfl, rfl, rfl⟩, rfl, rfl, trivial⟩, rfl, rfl⟩
  · exact ⟨[(0, .row 0)], .tu [.own 0, .c (.int .i64 (v)), .c (.bool true)], [(0, .ints e k l)], rfl, ⟨rfl, rfl, trivial⟩, ⟨⟨rfl, rfl⟩, rfl, rfl, trivial⟩, rfl, rfl⟩
end
theorem getD_bd {l : List Int} {b : Int} (hb : 0 ≤ b) (h : ∀ v, v ∈ l → 0 ≤ v ∧ v ≤ b) (i : Nat) : 0 ≤ l.getD i 0 ∧ l.getD i 0 ≤ b := by
  by_cases hi : i < l.length
  · exact h _ (by rw [List.getD_eq_getElem?_getD, List.getElem?_eq_getElem hi]; exact List.getElem_mem _)
  · rw [List.getD_eq_getElem?_getD, List.getElem?_eq_none (by omega)]; exact ⟨Int.le_refl _, hb⟩
theorem won_cases {s : List Int} {m : List (List Int)} {p : List Int} (hs : ∀ v, v ∈ s → 0 ≤ v ∧ v ≤ 99) (hm : ∀ r, r ∈ m → r.length = 4 ∧ ∀ v, v ∈ r → 0 ≤ v ∧ v ≤ 1) (nx ny i k : Nat) :
    ((m.getD (i * ny + k) []).getD (bitIx p nx i k) 0 = 0 ∧ wonAt s m p nx ny i k = 0) ∨ ((m.getD (i * ny + k) []).getD (bitIx p nx i k) 0 ≠ 0 ∧ wonAt s m p nx ny i k = s.getD (i * ny + k) 0) := by
  have h1 := getD_bd (by omega) hs (i * ny + k)
  have h2 : 0 ≤ (m.getD (i * ny + k) []).getD (bitIx p nx i k) 0 ∧ (m.getD (i * ny + k) []).getD (bitIx p nx i k) 0 ≤ 1 := by
    by_cases hi : i * ny + k < m.length
    · exact getD_bd (by omega) (hm _ (by rw [List.getD_eq_getElem?_getD, List.getElem?_eq_getElem hi]; exact List.getElem_mem _)).2 _
    · have : m.getD (i * ny + k) [] = [] := by rw [List.getD_eq_getElem?_getD, List.getElem?_eq_none (by omega)]; rfl
      rw [this]; simp
  have h3 : (m.getD (i * ny + k) []).getD (bitIx p nx i k) 0 = 0 ∨ (m.getD (i * ny + k) []).getD (bitIx p nx i k) 0 = 1 := by omega
  rcases h3 with h3 | h3
  · exact .inl ⟨h3, by rw [wonAt, h3, Int.mul_zero]; rfl⟩
  · exact .inr ⟨by omega, by rw [wonAt, h3, Int.mul_one]; exact w64 (by omega) (by omega)⟩
def totRow (s : List Int) (ny i : Nat) (a : Int) (n : Nat) : Int := fo (fun a k => W (a + s.getD (i * ny + k) 0)) a n
def totTo (s : List Int) (ny n : Nat) : Int := fo (fun a i => totRow s ny i a ny) 0 n
theorem totRow_flat (s : List Int) (ny i : Nat) : ∀ k, totRow s ny i (sumF s (i * ny)) k = sumF s (i * ny + k)
  | 0 => rfl
  | k + 1 => by
    show W (totRow s ny i (sumF s (i * ny)) k + s.getD (i * ny + k) 0) = W (sumF s (i * ny + k) + s.getD (i * ny + k) 0)
    rw [totRow_flat s ny i k]
theorem totTo_flat (s : List Int) (ny : Nat) : ∀ n, totTo s ny n = sumF s (n * ny)
  | 0 => by rw [Nat.zero_mul]; rfl
  | n + 1 => by
    show totRow s ny n (totTo s ny n) ny = _
    rw [totTo_flat s ny n, totRow_flat, Nat.succ_mul]
theorem row_cmp {s : List Int} {m : List (List Int)} {p : List Int} (hs : ∀ v, v ∈ s → 0 ≤ v ∧ v ≤ 99) (hm : ∀ r, r ∈ m → r.length = 4 ∧ ∀ v, v ∈ r → 0 ≤ v ∧ v ≤ 1) (nx ny i : Nat) {a t : Int} {l : List Int}
    (h0 : 0 ≤ a) (h1 : a ≤ t) (h2 : t ≤ 100000) (h3 : a = t ↔ l = []) : ∀ n, n ≤ 1000 → 0 ≤ scoreRow s m p nx ny i a n ∧ scoreRow s m p nx ny i a n ≤ totRow s ny i t n ∧ totRow s ny i t n ≤ t + 99 * n ∧
      (scoreRow s m p nx ny i a n = totRow s ny i t n ↔ lostRow s m p nx ny i l n = [])
  | 0, _ => by
    refine ⟨h0, h1, ?_, h3⟩
    show t ≤ t + 99 * ((0 : Nat) : Int)
    omega
  | n + 1, hn => by
    obtain ⟨i0, i1, i2, i3⟩ := row_cmp (p := p) hs hm nx ny i h0 h1 h2 h3 n (by omega)
    have hw := won_cases (p := p) hs hm nx ny i n
    have hb := getD_bd (by omega) hs (i * ny + n)
    have e1 : scoreRow s m p nx ny i a (n + 1) = scoreRow s m p nx ny i a n + wonAt s m p nx ny i n := by
      show W (scoreRow s m p nx ny i a n + wonAt s m p nx ny i n) = _
      exact w64 (by rcases hw with ⟨_, e⟩ | ⟨_, e⟩ <;> omega) (by rcases hw with ⟨_, e⟩ | ⟨_, e⟩ <;> omega)
    have e2 : totRow s ny i t (n + 1) = totRow s ny i t n + s.getD (i * ny + n) 0 := by
      show W (totRow s ny i t n + s.getD (i * ny + n) 0) = _
      exact w64 (by omega) (by omega)
    have e3 : lostRow s m p nx ny i l (n + 1) = if lostC s m p nx ny i n then lostRow s m p nx ny i l n ++ [((i * ny + n : Nat) : Int)] else lostRow s m p nx ny i l n := rfl
    rw [e1, e2, e3]
    rcases hw with ⟨hz, e⟩ | ⟨hz, e⟩
    · by_cases hpos : s.getD (i * ny + n) 0 > 0
      · have hc : lostC s m p nx ny i n = true := by rw [lostC, hz, decide_eq_true hpos]; rfl
        rw [hc, if_pos rfl]
        refine ⟨by omega, by omega, by omega, ⟨fun h => by omega, fun h => by simp at h⟩⟩
      · have hc : lostC s m p nx ny i n = false := by rw [lostC, decide_eq_false hpos]; rfl
        rw [hc, if_neg (by simp)]
        exact ⟨by omega, by omega, by omega, ⟨fun h => i3.1 (by omega), fun h => by have := i3.2 h; omega⟩⟩
    · have hc : lostC s m p nx ny i n = false := by rw [lostC, beq_eq_false_iff_ne.2 hz, Bool.and_false]
      rw [hc, if_neg (by simp)]
      exact ⟨by omega, by omega, by omega, ⟨fun h => i3.1 (by omega), fun h => by have := i3.2 h; omega⟩⟩
theorem to_cmp {s : List Int} {m : List (List Int)} {p : List Int} (hs : ∀ v, v ∈ s → 0 ≤ v ∧ v ≤ 99) (hm : ∀ r, r ∈ m → r.length = 4 ∧ ∀ v, v ∈ r → 0 ≤ v ∧ v ≤ 1) (nx ny : Nat) (hy : ny ≤ 3) : ∀ n, n ≤ 3 →
      0 ≤ scoreTo s m p nx ny n ∧ scoreTo s m p nx ny n ≤ totTo s ny n ∧ totTo s ny n ≤ 300 * n ∧ (scoreTo s m p nx ny n = totTo s ny n ↔ lostTo s m p nx ny n = [])
  | 0, _ => by simp [scoreTo, totTo, lostTo, fo]
  | n + 1, hn => by
    obtain ⟨i0, i1, i2, i3⟩ := to_cmp (p := p) hs hm nx ny hy n (by omega)
    obtain ⟨j0, j1, j2, j3⟩ := row_cmp (p := p) hs hm nx ny n i0 i1 (by omega) i3 ny (by omega)
    have e1 : scoreTo s m p nx ny (n + 1) = scoreRow s m p nx ny n (scoreTo s m p nx ny n) ny := rfl
    have e2 : totTo s ny (n + 1) = totRow s ny n (totTo s ny n) ny := rfl
    have e3 : lostTo s m p nx ny (n + 1) = lostRow s m p nx ny n (lostTo s m p nx ny n) ny := rfl
    rw [e1, e2, e3]
    exact ⟨j0, j1, by omega, j3⟩
def scF (s : List Int) (m : List (List Int)) (nx ny : Nat) (i : Nat) : Int := scoreTo s m ((playsL (nx + ny)).getD i []) nx ny nx
def bestI (s : List Int) (m : List (List Int)) (nx ny : Nat) : Nat := bIx (scF s m nx ny) (2 ^ (nx + ny) - 1)
def bestPl (s : List Int) (m : List (List Int)) (nx ny : Nat) : List Int := (playsL (nx + ny)).getD (bestI s m nx ny) []
theorem bestI_lt (s : List Int) (m : List (List Int)) (nx ny : Nat) : bestI s m nx ny < (playsL (nx + ny)).length := by
  have := bIx_le (scF s m nx ny) (2 ^ (nx + ny) - 1)
  have h2 : 0 < 2 ^ (nx + ny) := Nat.pow_pos (by omega)
  rw [playsL_len]
  unfold bestI
  omega
end Go.Aw
namespace Go.Proofs.Ytpakfehinfcdoaa
open Go.Aw
set_option maxRecDepth 100000
set_option maxHeartbeats 4000000


def bpRow (x y : Int) (s : List Int) (m : List (List Int)) : List Int := if goodG x y s m then bestPl s m x.toNat y.toNat else []
def bpVal (x y : Int) (s : List Int) (m : List (List Int)) : Int := if goodG x y s m then scF s m x.toNat y.toNat (bestI s m x.toNat y.toNat) else 0
theorem best_bits {nx ny : Nat} (s : List Int) (m : List (List Int)) (h : nx + ny ≤ 6) : (bestPl s m nx ny).length = nx + ny ∧ ∀ v, v ∈ bestPl s m nx ny → 0 ≤ v ∧ v ≤ 1 :=
  playsL_row h (bestI_lt s m nx ny)

theorem iBestPlay_spec (x y : Int) (s : List Int) (m : List (List Int)) (ks : SzI s) (km : SzM m) :
    FSpec Try.prog 9 [.ag [.c (.int .i64 (x)), .c (.int .i64 (y)), .t (.ints .i64 s), .t (.rows m)]] (ex (.tu [.own 0, .c (.int .i64 (bpVal x y s m)), .c (.bool (goodG x y s m))]) [(0, .ints 3 .i64 (bpRow x y s m))]) := by
  refine view_intsN ?_
  refine fspec tyOk mx Try.func9 rfl (by kernel_rfl) rfl ?_
  conv => whnf
  refine ACall.use (iIsGame_spec x y s m ks km) ?_
  conv => whnf
  refine ⟨fun h => ?_, fun h => ?_⟩
  · have h : goodG x y s m = false := by simpa using h
    conv => whnf
    exact .inl ⟨h, rfl, rfl⟩
  · have h : goodG x y s m = true := by simpa using h
    have hg := h
    obtain ⟨nx, ny, rfl, rfl, g1, g2, g3, g4, g5, g6, g7, g8, g9, g10⟩ := goodG_spec h
    have h4 : ∀ r, r ∈ m → r.length = 4 := fun r hr => (g10 r hr).1
    have hlen := playsL_len (nx + ny)
    have h64 := two_pow6 (n := nx + ny) (by omega)
    have hpos : 0 < 2 ^ (nx + ny) := Nat.pow_pos (by omega)
    have hsc : ∀ i, 0 ≤ scF s m nx ny i := fun i => (to_cmp (p := (playsL (nx + ny)).getD i []) g8 g10 nx ny g4 nx (by omega)).1
    conv => whnf
    refine ACall.use (plays_spec nx ny (by omega)) ?_
    conv => whnf
    refine aloopI tyOk mx (fun k : Nat => match k with
      | 0 => (⟨34, [(1, .ptr 0 0), (5, .c (.slice none 0 0)), (6, .c (.int .i64 (-1))), (17, .own 1), (18, .c (.int .i64 ((playsL (nx + ny)).length))), (19, .c (.int .i64 ((0 : Nat))))], [(0, .cells 27 [.c (.int .i64 (nx)), .c (.int .i64 (ny)), .t (.ints .i64 s), .t (.rows m)]), (1, .rows 24 3 true (playsL (nx + ny)))], 2⟩ : St)
      | k + 1 => (⟨34, [(1, .ptr 0 0), (5, .sub 1 (bIx (scF s m nx ny) k)), (6, .c (.int .i64 (scF s m nx ny (bIx (scF s m nx ny) k)))), (17, .own 1), (18, .c (.int .i64 ((playsL (nx + ny)).length))), (19, .c (.int .i64 ((k + 1 : Nat))))], [(0, .cells 27 [.c (.int .i64 (nx)), .c (.int .i64 (ny)), .t (.ints .i64 s), .t (.rows m)]), (1, .rows 24 3 true (playsL (nx + ny)))], 2⟩ : St)) (fun k => k ≤ (playsL (nx + ny)).length) (fun k => (playsL (nx + ny)).length - k) 0 (Nat.zero_le _) none (by refine ⟨rfl, rfl, ?_, ?_⟩ <;> ((repeat' (first | exact trivial | exact rfl | refine And.intro ?_ ?_)) <;> (try ((conv => whnf); first | refine vint ?_ | refine vboo ?_ | refine rint ?_ | refine rrow ?_ | skip)) <;> (try first | omega | (simp; done) | ((repeat rw [flts_closed _ (by assumption)]); exact vws_closed _ (by assumption))))) (fun k hk => ?_)
    match k, hk with
    | 0, hk =>
      refine ⟨fun h => ?_, fun h => ?_⟩
      · have h := ltT h
        obtain ⟨r1, r2⟩ := playsL_row (n := nx + ny) (x := 0) (by omega) h
        conv => whnf
        refine ⟨0, rfl, h, ?_⟩
        conv => whnf
        refine ACall.use (score_spec nx ny s m ((playsL (nx + ny)).getD 0 []) g2 g4 g5 g6 h4 r2 r1) ?_
        conv => whnf
        refine ⟨fun h6 => ?_, fun h6 => ?_⟩
        · conv => whnf
          rw [nat_wrap (by omega)]
          refine ⟨1, none, ?_, by omega, by omega⟩
          (refine ⟨rfl, rfl, ?_, ?_⟩ <;> ((repeat' (first | exact trivial | exact rfl | refine And.intro ?_ ?_)) <;> (try ((conv => whnf); first | refine vint ?_ | refine vboo ?_ | refine rint ?_ | refine rrow ?_ | skip)) <;> (try first | omega | (simp; done) | ((repeat rw [flts_closed _ (by assumption)]); exact vws_closed _ (by assumption)))))
        · have := of_decide_eq_false h6
          have := hsc 0
          unfold scF at this
          omega
      · have h := ltF h
        omega
    | k + 1, hk =>
      have hb := bIx_le (scF s m nx ny) k
      refine ⟨fun h => ?_, fun h => ?_⟩
      · have h := ltT h
        obtain ⟨r1, r2⟩ := playsL_row (n := nx + ny) (x := k + 1) (by omega) h
        conv => whnf
        refine ⟨k + 1, rfl, h, ?_⟩
        conv => whnf
        refine ACall.use (score_spec nx ny s m ((playsL (nx + ny)).getD (k + 1) []) g2 g4 g5 g6 h4 r2 r1) ?_
        conv => whnf
        refine ⟨fun h6 => ?_, fun h6 => ?_⟩
        · have e : bIx (scF s m nx ny) (k + 1) = k + 1 := if_pos (of_decide_eq_true h6)
          conv => whnf
          rw [nat_wrap (by omega)]
          refine ⟨k + 2, none, ?_, by omega, by omega⟩
          dsimp only
          rw [e]
          (refine ⟨rfl, rfl, ?_, ?_⟩ <;> ((repeat' (first | exact trivial | exact rfl | refine And.intro ?_ ?_)) <;> (try ((conv => whnf); first | refine vint ?_ | refine vboo ?_ | refine rint ?_ | refine rrow ?_ | skip)) <;> (try first | omega | (simp; done) | ((repeat rw [flts_closed _ (by assumption)]); exact vws_closed _ (by assumption)))))
        · have e : bIx (scF s m nx ny) (k + 1) = bIx (scF s m nx ny) k := if_neg (of_decide_eq_false h6)
          conv => whnf
          rw [nat_wrap (by omega)]
          refine ⟨k + 2, none, ?_, by omega, by omega⟩
          dsimp only
          rw [e]
          (refine ⟨rfl, rfl, ?_, ?_⟩ <;> ((repeat' (first | exact trivial | exact rfl | refine And.intro ?_ ?_)) <;> (try ((conv => whnf); first | refine vint ?_ | refine vboo ?_ | refine rint ?_ | refine rrow ?_ | skip)) <;> (try first | omega | (simp; done) | ((repeat rw [flts_closed _ (by assumption)]); exact vws_closed _ (by assumption)))))
      · have h := ltF h
        obtain rfl : k = 2 ^ (nx + ny) - 1 := by omega
        conv => whnf
        exact .inr ⟨hg, rfl, rfl⟩


def cntTo (f : Nat → Bool) (n : Nat) : Int := fo (fun c i => if f i then W (c + 1) else c) 0 n
def cbF (s : List Int) (m : List (List Int)) (nx ny : Nat) (i : Nat) : Bool := scF s m nx ny i == scF s m nx ny (bestI s m nx ny)
def cbVal (x y : Int) (s : List Int) (m : List (List Int)) : Int := if goodG x y s m then cntTo (cbF s m x.toNat y.toNat) (2 ^ (x.toNat + y.toNat)) else 0

end Go.Proofs.Ytpakfehinfcdoaa
