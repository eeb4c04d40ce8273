/- Scaled boxes; mixtures of an equal-sum box and noise: reference and program. -/
import Derived.Test.YtkomndcehdneaaaM2
namespace Go.Aw
def timesR (k d : Int) (r : List Int) : List Int := r.map fun v => W (Int.tdiv (W (v * k)) d)
def timesL (m : List (List Int)) (k d : Int) : List (List Int) := m.map (timesR k d)
theorem timesL_len (m : List (List Int)) (k d : Int) : (timesL m k d).length = m.length := by simp [timesL]
/-- rows of which the first have something else in them -/
def partW (g : Int → Int) (M : List (List Int)) (i n : Nat) : List (List Int) :=
  (List.range 4).map fun p => (List.range 4).map fun q => if p < i ∨ (p = i ∧ q < n) then g ((M.getD p []).getD q 0) else (M.getD p []).getD q 0
theorem partW_step (g : Int → Int) (M : List (List Int)) {i n : Nat} (hi : i < 4) (hn : n < 4) :
    (partW g M i n).set i (((partW g M i n).getD i []).set n (g (((partW g M i n).getD i []).getD n 0))) = partW g M i (n + 1) := by
  have h1 : i = 0 ∨ i = 1 ∨ i = 2 ∨ i = 3 := by omega
  have h2 : n = 0 ∨ n = 1 ∨ n = 2 ∨ n = 3 := by omega
  rcases h1 with rfl | rfl | rfl | rfl <;> rcases h2 with rfl | rfl | rfl | rfl <;> rfl
theorem partW_end (g : Int → Int) (M : List (List Int)) {i : Nat} (hi : i < 4) : partW g M i 4 = partW g M (i + 1) 0 := by
  have h1 : i = 0 ∨ i = 1 ∨ i = 2 ∨ i = 3 := by omega
  rcases h1 with rfl | rfl | rfl | rfl <;> rfl
theorem partW_len (g : Int → Int) (M : List (List Int)) (i n : Nat) : (partW g M i n).length = 4 := by simp [partW]
theorem partW_row (g : Int → Int) (M : List (List Int)) {i n p : Nat} (hp : p < 4) : ((partW g M i n).getD p []).length = 4 := by
  rw [partW, range_getD hp]; simp
theorem partW_all (g : Int → Int) (f : Nat → Nat → Nat → Nat → Int) : partW g (boxRows f 2 2) 4 0 = boxRows (fun x y a b => g (f x y a b)) 2 2 := rfl
theorem partW_zero (g : Int → Int) (f : Nat → Nat → Nat → Nat → Int) : partW g (boxRows f 2 2) 0 0 = boxRows f 2 2 := rfl
theorem boxRows_rows (f : Nat → Nat → Nat → Nat → Int) (nx ny : Nat) : ∀ r, r ∈ boxRows f nx ny → r.length = 4 := fun q hq => by
  obtain ⟨i, _, hq⟩ := List.mem_flatMap.1 hq
  obtain ⟨j, _, rfl⟩ := List.mem_map.1 hq
  simp [boxRow]
theorem boxRows_get (f : Nat → Nat → Nat → Nat → Int) {x y a b : Nat} (hx : x < 2) (hy : y < 2) (ha : a < 2) (hb : b < 2) : ((boxRows f 2 2).getD (x * 2 + y) []).getD (2 * a + b) 0 = f x y a b := by
  have h1 : x = 0 ∨ x = 1 := by omega
  have h2 : y = 0 ∨ y = 1 := by omega
  have h3 : a = 0 ∨ a = 1 := by omega
  have h4 : b = 0 ∨ b = 1 := by omega
  rcases h1 with rfl | rfl <;> rcases h2 with rfl | rfl <;> rcases h3 with rfl | rfl <;> rcases h4 with rfl | rfl <;> rfl
theorem tdiv_one (a : Int) : a.tdiv 1 = a := Int.tdiv_one a
theorem WW (a : Int) : W (W a) = W a := by
  have hb : -9223372036854775808 ≤ W a ∧ W a ≤ 9223372036854775807 := by
    show -9223372036854775808 ≤ IntKind.i64.wrap _ ∧ IntKind.i64.wrap _ ≤ _
    rw [IntKind.wrap_i64]; omega
  exact w64 hb.1 hb.2
end Go.Aw
namespace Go.Proofs.Ytkomndcehdneaaa
open Go.Aw
set_option maxRecDepth 100000
set_option maxHeartbeats 4000000

theorem l2Times_spec (x y z : Int) (m : List (List Int)) (k d : Int) (hd : d ≠ 0) (hm : m.length ≤ 1000) (hr : ∀ r, r ∈ m → r.length ≤ 1000) :
    FSpec Try.prog 164 [.ag [.c (.int .i64 (x)), .c (.int .i64 (y)), .c (.int .i64 (z)), .t (.rows m)], .c (.int .i64 (k)), .c (.int .i64 (d))] (ex (.ag [.c (.int .i64 (x)), .c (.int .i64 (y)), .c (.int .i64 (W (Int.tdiv (W (z * k)) d))), .own 0]) [(0, .rows 25 3 true (timesL m k d))]) := by
  refine fspec tyOk mx Try.func164 rfl (by kernel_rfl) rfl ?_
  conv => whnf
  refine ADraw.mid (⟨63, [(1, .c (.int .i64 (k))), (2, .c (.int .i64 (d))), (3, .ptr 0 0), (6, .ptr 1 0), (7, .ptr 3 0)], [(0, .cells 53 [.c (.int .i64 (x)), .c (.int .i64 (y)), .c (.int .i64 (z)), .t (.rows m)]), (1, .cells 53 [.c (.int .i64 (0)), .c (.int .i64 (0)), .c (.int .i64 (0)), .c (.slice none 0 0)]), (2, .rows 25 3 true []), (3, .cells 53 [.c (.int .i64 (x)), .c (.int .i64 (y)), .c (.int .i64 (W (Int.tdiv (W (z * k)) d))), .own 2])], 4⟩ : St) (ADraw.plan tyOk mx (.q 0 (.q 1 (.q 2 (.q 3 (.q 4 (.q 5 (.q 6 (.q 7 (.q 8 (.q 9 (.alt 10 (.q 11 (.last 12 (.last 13 (.done)))) (.last 12 (.last 10 (.q 11 (.last 13 (.done))))))))))))))) : Plan) (by kernel_rfl) ?_) ?_
  · conv => whnf
    repeat' (first | (refine ⟨hd, ?_⟩; conv => whnf) | (refine And.intro ?_ ?_ <;> (conv => whnf)))
    all_goals first
      | (refine ⟨[(0, .row 0), (1, .row 1), (2, .row 2), (3, .row 3)], ?_⟩; (refine ⟨rfl, rfl, ?_, ?_⟩ <;> ((repeat' (first | exact trivial | exact rfl | refine And.intro ?_ ?_)) <;> (try ((conv => whnf); first | refine vint ?_ | refine vboo ?_ | refine rint ?_ | refine rrow ?_ | skip)) <;> (try first | omega | (simp; done) | ((repeat rw [flts_closed _ (by assumption)]); exact vws_closed _ (by assumption))))); done)
      | (refine ⟨[(0, .row 0), (1, .row 1), (2, .row 3), (3, .row 2)], ?_⟩; (refine ⟨rfl, rfl, ?_, ?_⟩ <;> ((repeat' (first | exact trivial | exact rfl | refine And.intro ?_ ?_)) <;> (try ((conv => whnf); first | refine vint ?_ | refine vboo ?_ | refine rint ?_ | refine rrow ?_ | skip)) <;> (try first | omega | (simp; done) | ((repeat rw [flts_closed _ (by assumption)]); exact vws_closed _ (by assumption))))); done)
  conv => whnf
  refine aloopI tyOk mx (fun i : Nat => (⟨63, [(1, .c (.int .i64 (k))), (2, .c (.int .i64 (d))), (3, .ptr 0 0), (6, .ptr 1 0), (7, .ptr 3 0), (8, .c (.int .i64 (i)))], [(0, .cells 53 [.c (.int .i64 (x)), .c (.int .i64 (y)), .c (.int .i64 (z)), .t (.rows m)]), (1, .cells 53 [.c (.int .i64 (0)), .c (.int .i64 (0)), .c (.int .i64 (0)), .c (.slice none 0 0)]), (2, .rows 25 3 true (timesL (m.take i) k d)), (3, .cells 53 [.c (.int .i64 (x)), .c (.int .i64 (y)), .c (.int .i64 (W (Int.tdiv (W (z * k)) d))), .own 2])], 4⟩ : St)) (fun i => i ≤ m.length) (fun i => m.length - i) 0 (Nat.zero_le _) none (by refine ⟨rfl, rfl, ?_, ?_⟩ <;> ((repeat' (first | exact trivial | exact rfl | refine And.intro ?_ ?_)) <;> (try ((conv => whnf); first | refine vint ?_ | refine vboo ?_ | refine rint ?_ | refine rrow ?_ | skip)) <;> (try first | omega | (simp; done) | ((repeat rw [flts_closed _ (by assumption)]); exact vws_closed _ (by assumption))))) (fun i hi => ?_)
  have hl : (timesL (m.take i) k d).length = i := by rw [timesL_len, List.length_take]; omega
  refine ⟨fun h => ?_, fun h => ?_⟩
  · have h := ltT h
    have hjc := hr _ (getD_mem (d := []) h)
    conv => whnf
    refine aloopI tyOk mx (fun n : Nat => (⟨63, [(1, .c (.int .i64 (k))), (2, .c (.int .i64 (d))), (3, .ptr 0 0), (6, .ptr 1 0), (7, .ptr 3 0), (8, .c (.int .i64 (i))), (9, .own 4), (10, .c (.int .i64 (n)))], [(0, .cells 53 [.c (.int .i64 (x)), .c (.int .i64 (y)), .c (.int .i64 (z)), .t (.rows m)]), (1, .cells 53 [.c (.int .i64 (0)), .c (.int .i64 (0)), .c (.int .i64 (0)), .c (.slice none 0 0)]), (2, .rows 25 3 true (timesL (m.take i) k d)), (3, .cells 53 [.c (.int .i64 (x)), .c (.int .i64 (y)), .c (.int .i64 (W (Int.tdiv (W (z * k)) d))), .own 2]), (4, .ints 3 .i64 (timesR k d ((m.getD i []).take n)))], 5⟩ : St)) (fun n => n ≤ (m.getD i []).length) (fun n => (m.getD i []).length - n) 0 (Nat.zero_le _) none (by refine ⟨rfl, rfl, ?_, ?_⟩ <;> ((repeat' (first | exact trivial | exact rfl | refine And.intro ?_ ?_)) <;> (try ((conv => whnf); first | refine vint ?_ | refine vboo ?_ | refine rint ?_ | refine rrow ?_ | skip)) <;> (try first | omega | (simp; done) | ((repeat rw [flts_closed _ (by assumption)]); exact vws_closed _ (by assumption))))) (fun n hn => ?_)
    have hl2 : (timesR k d ((m.getD i []).take n)).length = n := by rw [timesR, List.length_map, List.length_take]; omega
    refine ⟨i, rfl, h, fun h2 => ?_, fun h2 => ?_⟩
    · have h2 := ltT h2
      conv => whnf
      refine ⟨i, rfl, h, n, rfl, h2, ?_⟩
      conv => whnf
      refine ⟨hd, ?_⟩
      conv => whnf
      refine ⟨by rw [hl2]; simp [room]; omega, ?_⟩
      conv => whnf
      rw [nat_wrap (by omega)]
      refine ⟨n + 1, none, ?_, by omega, by omega⟩
      (refine ⟨rfl, rfl, ?_, ?_⟩ <;> ((repeat' (first | exact trivial | exact rfl | refine And.intro ?_ ?_)) <;> (try ((conv => whnf); first | refine vint ?_ | refine vboo ?_ | refine rint ?_ | refine rrow ?_ | skip)) <;> (try first | omega | (simp; done) | ((repeat rw [flts_closed _ (by assumption)]); exact vws_closed _ (by assumption)))))
      unfold timesR
      rw [List.take_succ_eq_append_getElem h2, List.map_append, getD_lt h2]; rfl
    · have h2 := ltF h2
      obtain rfl : n = (m.getD i []).length := by omega
      conv => whnf
      refine ⟨by rw [hl]; simp [room]; omega, ?_⟩
      conv => whnf
      rw [nat_wrap (by omega)]
      refine ⟨i + 1, none, ?_, by omega, by omega⟩
      (refine ⟨rfl, rfl, ?_, ?_⟩ <;> ((repeat' (first | exact trivial | exact rfl | refine And.intro ?_ ?_)) <;> (try ((conv => whnf); first | refine vint ?_ | refine vboo ?_ | refine rint ?_ | refine rrow ?_ | skip)) <;> (try first | omega | (simp; done) | ((repeat rw [flts_closed _ (by assumption)]); exact vws_closed _ (by assumption)))))
      unfold timesL
      rw [List.take_succ_eq_append_getElem h, List.map_append, List.take_length, getD_lt h]; rfl
  · have h := ltF h
    obtain rfl : i = m.length := by omega
    conv => whnf
    exact ⟨rfl, by rw [List.take_length]⟩

def nsNum (k sh no : Int) (x y a b : Nat) : Int := W (W (sh * eqNum k x y a b) + no)
def nsM (k sh no : Int) : List (List Int) := boxRows (nsNum k sh no) 2 2
def nsW (sh no : Int) : Int := W (W (2 * sh) + W (4 * no))
def nsIn (k sh no : Int) : Bool := inR k 0 7 && inR sh 0 1000 && inR no 0 1000
def nsOk (k sh no : Int) : Bool := nsIn k sh no && goodB 2 2 (nsW sh no) (nsM k sh no)
def nsR (k sh no : Int) : List (List Int) := if nsOk k sh no then nsM k sh no else []
theorem nsM_sz (k sh no : Int) : SzM (nsM k sh no) := by
  have h1 : (nsM k sh no).length = 4 := boxRows_len _ 2 2
  have h2 := tot_le_mul (m := nsM k sh no) (n := 4) (fun q hq => by rw [boxRows_rows _ _ _ q hq]; omega)
  unfold SzM; omega

theorem nsNum_spec (k sh no : Int) (x y a b : Nat) (hx : x < 2) (hy : y < 2) (ha : a < 2) (hb : b < 2) :
    FSpec Try.prog 221 [.c (.int .i64 (x)), .c (.int .i64 (y)), .c (.int .i64 (a)), .c (.int .i64 (b)), .rp [.c (.int .i64 (sh))] 0, .rp [.c (.int .i64 (2)), .c (.int .i64 (2)), .c (.int .i64 (2)), .t (.rows (equalM k))] 0, .rp [.c (.int .i64 (no))] 0] (ex (.c (.int .i64 (nsNum k sh no x y a b))) []) := by
  have hl : (equalM k).length = 4 := boxRows_len _ 2 2
  have hr := boxRows_rows (eqNum k) 2 2 _ (getD_mem (d := []) (show x * 2 + y < (equalM k).length by omega))
  refine fspec tyOk mx Try.func221 rfl (by kernel_rfl) rfl ?_
  conv => whnf
  refine ADraw.plan tyOk mx (.q 0 (.q 1 (.q 2 (.q 3 (.q 4 (.q 5 (.q 8 (.last 6 (.q 7 (.q 9 (.q 10 (.done))))))))))) : Plan) (by kernel_rfl) ?_
  conv => whnf
  refine ACall.useR (at_spec 2 2 x y a b 2 (equalM k) (by omega) (by omega) (by show 2 * a + b < ((boxRows (eqNum k) 2 2).getD (x * 2 + y) []).length; rw [hr]; omega) (by omega)) ?_
  conv => whnf
  refine ⟨?_, rfl⟩
  rw [equalM, boxRows_get _ hx hy ha hb]; rfl

theorem NoisySum_i (k : Int) (_hk : InR k) (sh : Int) (_hs : InR sh) (no : Int) (_hn : InR no) : FSpec Try.prog 106 [.c (.int .i64 (k)), .c (.int .i64 (sh)), .c (.int .i64 (no))] (ex (.tu [.ag [.c (.int .i64 (if nsOk k sh no then 2 else 0)), .c (.int .i64 (if nsOk k sh no then 2 else 0)), .c (.int .i64 (if nsOk k sh no then nsW sh no else 0)), .own 0], .c (.bool (nsOk k sh no))]) [(0, .rows 25 3 true (nsR k sh no))]) := by
  refine view_box ?_
  refine fspec tyOk mx Try.func106 rfl (by kernel_rfl) rfl ?_
  conv => whnf
  refine ACall.use (within_spec _ _ _) ?_
  conv => whnf
  refine ⟨fun h1 => ?_, fun h1 => ?_⟩
  · have h1 : inR k 0 7 = true := by simpa using h1
    conv => whnf
    refine ACall.use (within_spec _ _ _) ?_
    conv => whnf
    refine ⟨fun h2 => ?_, fun h2 => ?_⟩
    · have h2 : inR sh 0 1000 = true := by simpa using h2
      conv => whnf
      refine ACall.use (within_spec _ _ _) ?_
      conv => whnf
      refine ⟨fun h3 => ?_, fun h3 => ?_⟩
      · have h3 : inR no 0 1000 = false := by simpa using h3
        have e : nsOk k sh no = false := by rw [nsOk, nsIn, h3]; simp
        conv => whnf
        exact .inl ⟨e, rfl, rfl⟩
      · have h3 : inR no 0 1000 = true := by simpa using h3
        have e : nsIn k sh no = true := by rw [nsIn, h1, h2, h3]; rfl
        conv => whnf
        refine ACall.use (equalSum_spec k) ?_
        conv => whnf
        refine ACall.use (newBox_spec 2 2 (nsW sh no) _ [.rp [.c (.int .i64 (sh))] 0, .rp [.c (.int .i64 (2)), .c (.int .i64 (2)), .c (.int .i64 (2)), .t (.rows (equalM k))] 0, .rp [.c (.int .i64 (no))] 0] (nsNum k sh no) (by omega) (by omega) (fun _ _ => rfl) rfl (fun i k' a b hi hk ha hb => nsNum_spec k sh no i k' a b hi hk ha hb)) ?_
        conv => whnf
        refine ACall.use (IsBox_spec 2 2 (nsW sh no) (nsM k sh no) (nsM_sz k sh no)) ?_
        conv => whnf
        refine ⟨fun h4 => ?_, fun h4 => ?_⟩
        · have h4 : goodB 2 2 (nsW sh no) (nsM k sh no) = false := by simpa using h4
          have e2 : nsOk k sh no = false := by rw [nsOk, h4, Bool.and_false]
          conv => whnf
          exact .inl ⟨e2, rfl, rfl⟩
        · have h4 : goodB 2 2 (nsW sh no) (nsM k sh no) = true := by simpa using h4
          have e2 : nsOk k sh no = true := by rw [nsOk, e, h4]; rfl
          conv => whnf
          exact .inr ⟨e2, rfl, rfl⟩
    · have h2 : inR sh 0 1000 = false := by simpa using h2
      have e : nsOk k sh no = false := by rw [nsOk, nsIn, h2]; simp
      (repeat (conv => whnf); (first | refine ⟨fun h => absurd h (by decide), fun _ => ?_⟩ | refine ⟨fun _ => ?_, fun h => absurd h (by decide)⟩)); conv => whnf
      exact .inl ⟨e, rfl, rfl⟩
  · have h1 : inR k 0 7 = false := by simpa using h1
    have e : nsOk k sh no = false := by rw [nsOk, nsIn, h1]; simp
    (repeat (conv => whnf); (first | refine ⟨fun h => absurd h (by decide), fun _ => ?_⟩ | refine ⟨fun _ => ?_, fun h => absurd h (by decide)⟩)); conv => whnf
    exact .inl ⟨e, rfl, rfl⟩
theorem l6Kind_spec (k : Int) : FSpec Try.prog 191 [.c (.int .i64 (k))] (ex (.c (.bool (inR k 0 7))) []) := by
  refine fspec tyOk mx Try.func191 rfl (by kernel_rfl) rfl ?_
  conv => whnf
  refine ACall.use (l1In_spec _ _ _) ?_
  conv => whnf
  exact ⟨rfl, rfl⟩
def tmNum (k sh : Int) (x y a b : Nat) : Int := W (Int.tdiv (W (eqNum k x y a b * sh)) 1)
theorem times_eq (k sh : Int) : timesL (equalM k) sh 1 = boxRows (tmNum k sh) 2 2 := rfl
theorem ns_end (k sh no : Int) : partW (fun v => W (v + no)) (timesL (equalM k) sh 1) 4 0 = nsM k sh no := by
  rw [times_eq, partW_all]
  unfold nsM
  congr 1
  funext x y a b
  unfold nsNum tmNum
  rw [tdiv_one, WW, Int.mul_comm]

theorem NoisySum_s (k : Int) (_hk : InR k) (sh : Int) (_hs : InR sh) (no : Int) (_hn : InR no) : FSpec Try.prog 107 [.c (.int .i64 (k)), .c (.int .i64 (sh)), .c (.int .i64 (no))] (ex (.tu [.ag [.c (.int .i64 (if nsOk k sh no then 2 else 0)), .c (.int .i64 (if nsOk k sh no then 2 else 0)), .c (.int .i64 (if nsOk k sh no then nsW sh no else 0)), .own 0], .c (.bool (nsOk k sh no))]) [(0, .rows 25 3 true (nsR k sh no))]) := by
  refine view_box ?_
  refine fspec tyOk mx Try.func107 rfl (by kernel_rfl) rfl ?_
  conv => whnf
  refine ACall.use (l6Kind_spec _) ?_
  conv => whnf
  refine ⟨fun h1 => ?_, fun h1 => ?_⟩
  · have h1 : inR k 0 7 = true := by simpa using h1
    conv => whnf
    refine ACall.use (l1In_spec _ _ _) ?_
    conv => whnf
    refine ⟨fun h2 => ?_, fun h2 => ?_⟩
    · have h2 : inR sh 0 1000 = true := by simpa using h2
      conv => whnf
      refine ACall.use (l1In_spec _ _ _) ?_
      conv => whnf
      refine ⟨fun h3 => ?_, fun h3 => ?_⟩
      · have h3 : inR no 0 1000 = true := by simpa using h3
        have e : nsIn k sh no = true := by rw [nsIn, h1, h2, h3]; rfl
        have k1 := inR_iff.1 h1
        have k2 := inR_iff.1 h2
        have k3 := inR_iff.1 h3
        conv => whnf
        refine ⟨fun h4 => ?_, fun h4 => ?_⟩
        · have h4 : W (sh + no) = 0 := by simpa using h4
          rw [show W (sh + no) = sh + no from w64 (by omega) (by omega)] at h4
          have e2 : nsOk k sh no = false := by
            have : sh = 0 := by omega
            have : no = 0 := by omega
            subst_vars
            rw [nsOk, goodB, show inR (nsW 0 0) 1 1000 = false from rfl]; simp
          conv => whnf
          exact .inl ⟨e2, rfl, rfl⟩
        · obtain ⟨kn, rfl⟩ : ∃ n : Nat, k = n := ⟨k.toNat, by omega⟩
          have hlen : (equalM kn).length = 4 := boxRows_len _ 2 2
          have hrw := boxRows_rows (eqNum kn) 2 2
          have ew : W (Int.tdiv (W (2 * sh)) 1) = W (2 * sh) := by rw [tdiv_one, WW]
          conv => whnf
          refine ACall.use (l6Sum_spec kn (by omega)) ?_
          conv => whnf
          refine ACall.use (l2Times_spec 2 2 2 (equalM kn) sh 1 (by decide) (by omega) (fun r hr => by rw [hrw r hr]; omega)) ?_
          rw [ew]
          conv => whnf
          refine aloopI tyOk mx (fun i : Nat => (⟨73, [(2, .c (.int .i64 (no))), (6, .ptr 0 0), (8, .ptr 3 0), (9, .c (.int .i64 (i)))], [(0, .cells 53 [.c (.int .i64 (0)), .c (.int .i64 (0)), .c (.int .i64 (0)), .c (.slice none 0 0)]), (2, .rows 25 3 true (partW (fun v => W (v + no)) (timesL (equalM kn) sh 1) i 0)), (3, .cells 53 [.c (.int .i64 (2)), .c (.int .i64 (2)), .c (.int .i64 (nsW sh no)), .own 2])], 4⟩ : St)) (fun i => i ≤ 4) (fun i => 4 - i) 0 (Nat.zero_le _) none (by refine ⟨rfl, rfl, ?_, ?_⟩ <;> ((repeat' (first | exact trivial | exact rfl | refine And.intro ?_ ?_)) <;> (try ((conv => whnf); first | refine vint ?_ | refine vboo ?_ | refine rint ?_ | refine rrow ?_ | skip)) <;> (try first | omega | (simp; done) | ((repeat rw [flts_closed _ (by assumption)]); exact vws_closed _ (by assumption))))) (fun i hi => ?_)
          have hl := partW_len (fun v => W (v + no)) (timesL (equalM kn) sh 1) i 0
          refine ⟨fun h => ?_, fun h => ?_⟩
          · have h : i < 4 := by have := ltT h; omega
            conv => whnf
            refine aloopI tyOk mx (fun n : Nat => (⟨73, [(2, .c (.int .i64 (no))), (6, .ptr 0 0), (8, .ptr 3 0), (9, .c (.int .i64 (i))), (10, .c (.int .i64 (n)))], [(0, .cells 53 [.c (.int .i64 (0)), .c (.int .i64 (0)), .c (.int .i64 (0)), .c (.slice none 0 0)]), (2, .rows 25 3 true (partW (fun v => W (v + no)) (timesL (equalM kn) sh 1) i n)), (3, .cells 53 [.c (.int .i64 (2)), .c (.int .i64 (2)), .c (.int .i64 (nsW sh no)), .own 2])], 4⟩ : St)) (fun n => n ≤ 4) (fun n => 4 - n) 0 (Nat.zero_le _) none (by refine ⟨rfl, rfl, ?_, ?_⟩ <;> ((repeat' (first | exact trivial | exact rfl | refine And.intro ?_ ?_)) <;> (try ((conv => whnf); first | refine vint ?_ | refine vboo ?_ | refine rint ?_ | refine rrow ?_ | skip)) <;> (try first | omega | (simp; done) | ((repeat rw [flts_closed _ (by assumption)]); exact vws_closed _ (by assumption))))) (fun n hn => ?_)
            have hl2 := partW_len (fun v => W (v + no)) (timesL (equalM kn) sh 1) i n
            have hr2 := partW_row (fun v => W (v + no)) (timesL (equalM kn) sh 1) (i := i) (n := n) h
            refine ⟨fun h5 => ?_, fun h5 => ?_⟩
            · have h5 : n < 4 := by have := of_decide_eq_true h5; omega
              refine ADraw.plan tyOk mx (.q 0 (.q 1 (.q 2 (.q 3 (.q 4 (.q 5 (.q 6 (.q 7 (.q 8 (.q 9 (.q 10 (.q 11 (.q 12 (.q 13 (.q 14 (.q 15 (.q 16 (.last 17 (.done)))))))))))))))))) : Plan) (by kernel_rfl) ?_
              conv => whnf
              repeat' (first | (refine ⟨i, rfl, by omega, ?_⟩; conv => whnf) | (refine ⟨n, rfl, by omega, ?_⟩; conv => whnf) | (refine And.intro ?_ ?_ <;> (conv => whnf)))
              all_goals
                rw [nat_wrap (by omega)]
                refine ⟨n + 1, none, ?_, by omega, by omega⟩
                (refine ⟨rfl, rfl, ?_, ?_⟩ <;> ((repeat' (first | exact trivial | exact rfl | refine And.intro ?_ ?_)) <;> (try ((conv => whnf); first | refine vint ?_ | refine vboo ?_ | refine rint ?_ | refine rrow ?_ | skip)) <;> (try first | omega | (simp; done) | ((repeat rw [flts_closed _ (by assumption)]); exact vws_closed _ (by assumption)))))
                exact partW_step (fun v => W (v + no)) _ h h5
            · have h5 : ¬ n < 4 := by have := of_decide_eq_false h5; omega
              obtain rfl : n = 4 := by omega
              conv => whnf
              rw [nat_wrap (by omega)]
              refine ⟨i + 1, none, ?_, by omega, by omega⟩
              (refine ⟨rfl, rfl, ?_, ?_⟩ <;> ((repeat' (first | exact trivial | exact rfl | refine And.intro ?_ ?_)) <;> (try ((conv => whnf); first | refine vint ?_ | refine vboo ?_ | refine rint ?_ | refine rrow ?_ | skip)) <;> (try first | omega | (simp; done) | ((repeat rw [flts_closed _ (by assumption)]); exact vws_closed _ (by assumption)))))
              exact partW_end _ _ h
          · have h : ¬ i < 4 := by have := ltF h; omega
            obtain rfl : i = 4 := by omega
            have en := ns_end kn sh no
            dsimp only at en ⊢
            rw [en]
            conv => whnf
            refine ACallS.inline tyOk mx Try.func171 rfl (by kernel_rfl) rfl ?_
            conv => whnf
            refine ACall.use (l2Box_spec 2 2 (nsW sh no) (nsM kn sh no) (nsM_sz kn sh no)) ?_
            conv => whnf
            refine ⟨fun h4 => ?_, fun h4 => ?_⟩
            · have h4 : goodB 2 2 (nsW sh no) (nsM kn sh no) = false := by simpa using h4
              have e2 : nsOk kn sh no = false := by rw [nsOk, h4, Bool.and_false]
              conv => whnf
              refine ⟨rfl, ?_⟩
              conv => whnf
              exact .inl ⟨e2, rfl, rfl⟩
            · have h4 : goodB 2 2 (nsW sh no) (nsM kn sh no) = true := by simpa using h4
              have e2 : nsOk kn sh no = true := by rw [nsOk, e, h4]; rfl
              conv => whnf
              refine ⟨rfl, ?_⟩
              conv => whnf
              exact .inr ⟨e2, rfl, rfl⟩
      · have h3 : inR no 0 1000 = false := by simpa using h3
        have e : nsOk k sh no = false := by rw [nsOk, nsIn, h3]; simp
        (repeat (conv => whnf); (first | refine ⟨fun h => absurd h (by decide), fun _ => ?_⟩ | refine ⟨fun _ => ?_, fun h => absurd h (by decide)⟩)); conv => whnf
        exact .inl ⟨e, rfl, rfl⟩
    · have h2 : inR sh 0 1000 = false := by simpa using h2
      have e : nsOk k sh no = false := by rw [nsOk, nsIn, h2]; simp
      (repeat (conv => whnf); (first | refine ⟨fun h => absurd h (by decide), fun _ => ?_⟩ | refine ⟨fun _ => ?_, fun h => absurd h (by decide)⟩)); conv => whnf
      exact .inl ⟨e, rfl, rfl⟩
  · have h1 : inR k 0 7 = false := by simpa using h1
    have e : nsOk k sh no = false := by rw [nsOk, nsIn, h1]; simp
    (repeat (conv => whnf); (first | refine ⟨fun h => absurd h (by decide), fun _ => ?_⟩ | refine ⟨fun _ => ?_, fun h => absurd h (by decide)⟩)); conv => whnf
    exact .inl ⟨e, rfl, rfl⟩
theorem NoisySum_bd (k : Int) (_hk : InR k) (sh : Int) (_hs : InR sh) (no : Int) (_hn : InR no) : (nsR k sh no).length ≤ 1048576 ∧ tot (nsR k sh no) ≤ 1048576 := by
  unfold nsR
  split
  · have := (nsM_sz k sh no).all
    omega
  · simp [tot]
end Go.Proofs.Ytkomndcehdneaaa
/- Parts of quiet boxes; even boxes: reference and program. -/
namespace Go.Proofs.Ytkomndcehdneaaa
open Go.Aw
set_option maxRecDepth 100000
set_option maxHeartbeats 4000000
def esBest (m : List (List Int)) : Nat := bIx (fun i => (esL m).getD i 0) 7
def partN (z s : Int) : Int := W (Int.tdiv (if W (s - W (2 * z)) > 0 then W (s - W (2 * z)) else 0) 2)
theorem esL_len (m : List (List Int)) : (esL m).length = 8 := by simp [esL]

theorem l1Mst_spec (a b : Int) : FSpec Try.prog 165 [.c (.int .i64 a), .c (.int .i64 b)] (ex (.c (.int .i64 (if a > b then a else b))) []) := by
  refine fspec tyOk mx Try.func165 rfl (by kernel_rfl) rfl ?_
  conv => whnf
  refine ⟨fun h => ?_, fun h => ?_⟩
  · have h := of_decide_eq_true h
    conv => whnf
    exact ⟨by rw [if_pos h], rfl⟩
  · have h := of_decide_eq_false h
    conv => whnf
    exact ⟨by rw [if_neg h], rfl⟩
theorem l6Part_spec (z : Int) (m : List (List Int)) (hm : m.length = 4) (h4 : ∀ r, r ∈ m → r.length = 4) :
    FSpec Try.prog 186 [.ag [.c (.int .i64 (2)), .c (.int .i64 (2)), .c (.int .i64 (z)), .t (.rows m)]] (ex (.tu [.c (.int .i64 (esBest m)), .c (.int .i64 (partN z ((esL m).getD (esBest m) 0)))]) []) := by
  have hl := esL_len m
  refine fspec tyOk mx Try.func186 rfl (by kernel_rfl) rfl ?_
  conv => whnf
  refine ACall.use (l6Sums_spec z m hm h4) ?_
  conv => whnf
  refine aloopI tyOk mx (fun k : Nat => (⟨36, [(1, .ptr 0 0), (4, .own 1), (5, .c (.int .i64 (bIx (fun i => (esL m).getD i 0) k))), (6, .c (.int .i64 ((k + 1 : Nat))))], [(0, .cells 53 [.c (.int .i64 (2)), .c (.int .i64 (2)), .c (.int .i64 (z)), .t (.rows m)]), (1, .ints 3 .i64 (esL m))], 2⟩ : St)) (fun k => k + 1 ≤ 8) (fun k => 8 - k) 0 (by omega) none (by refine ⟨rfl, rfl, ?_, ?_⟩ <;> ((repeat' (first | exact trivial | exact rfl | refine And.intro ?_ ?_)) <;> (try ((conv => whnf); first | refine vint ?_ | refine vboo ?_ | refine rint ?_ | refine rrow ?_ | skip)) <;> (try first | omega | (simp; done) | ((repeat rw [flts_closed _ (by assumption)]); exact vws_closed _ (by assumption))))) (fun k hk => ?_)
  have hb := bIx_le (fun i => (esL m).getD i 0) k
  refine ⟨fun h => ?_, fun h => ?_⟩
  · have h := ltT h
    refine ADraw.std tyOk mx ⟨by kernel_rfl, k + 1, rfl, h, bIx (fun i => (esL m).getD i 0) k, rfl, by omega, ?_⟩
    conv => whnf
    refine ⟨fun h6 => ?_, fun h6 => ?_⟩
    · have e : bIx (fun i => (esL m).getD i 0) (k + 1) = k + 1 := if_pos (of_decide_eq_true h6)
      conv => whnf
      rw [nat_wrap (by omega)]
      refine ⟨k + 1, none, ?_, by omega, by omega⟩
      dsimp only
      rw [e]
      (refine ⟨rfl, rfl, ?_, ?_⟩ <;> ((repeat' (first | exact trivial | exact rfl | refine And.intro ?_ ?_)) <;> (try ((conv => whnf); first | refine vint ?_ | refine vboo ?_ | refine rint ?_ | refine rrow ?_ | skip)) <;> (try first | omega | (simp; done) | ((repeat rw [flts_closed _ (by assumption)]); exact vws_closed _ (by assumption)))))
    · have e : bIx (fun i => (esL m).getD i 0) (k + 1) = bIx (fun i => (esL m).getD i 0) k := if_neg (of_decide_eq_false h6)
      conv => whnf
      rw [nat_wrap (by omega)]
      refine ⟨k + 1, none, ?_, by omega, by omega⟩
      dsimp only
      rw [e]
      (refine ⟨rfl, rfl, ?_, ?_⟩ <;> ((repeat' (first | exact trivial | exact rfl | refine And.intro ?_ ?_)) <;> (try ((conv => whnf); first | refine vint ?_ | refine vboo ?_ | refine rint ?_ | refine rrow ?_ | skip)) <;> (try first | omega | (simp; done) | ((repeat rw [flts_closed _ (by assumption)]); exact vws_closed _ (by assumption)))))
  · have h := ltF h
    obtain rfl : k = 7 := by omega
    conv => whnf
    refine ADraw.std tyOk mx ⟨by kernel_rfl, esBest m, rfl, by unfold esBest; omega, ?_⟩
    conv => whnf
    refine QCall.use (l1Mst_spec _ _) ?_
    conv => whnf
    refine ⟨by decide, ?_⟩
    conv => whnf
    exact ⟨rfl, rfl⟩
theorem tdiv2 (a : Int) : (0 ≤ a → a.tdiv 2 = a / 2) ∧ (a ≤ 0 → a.tdiv 2 = -((-a) / 2)) := by
  refine ⟨fun h => Int.tdiv_eq_ediv_of_nonneg h, fun h => ?_⟩
  have e : a.tdiv 2 = -((-a).tdiv 2) := by rw [Int.neg_tdiv, Int.neg_neg]
  rw [e, Int.tdiv_eq_ediv_of_nonneg (by omega)]
theorem part_eq (z s : Int) : (if IntKind.i64.wrap (Int.tdiv (IntKind.i64.wrap (s - IntKind.i64.wrap (2 * z))) 2) > 0 then IntKind.i64.wrap (Int.tdiv (IntKind.i64.wrap (s - IntKind.i64.wrap (2 * z))) 2) else 0) = partN z s := by
  unfold partN
  show (if IntKind.i64.wrap (Int.tdiv (W (s - W (2 * z))) 2) > 0 then IntKind.i64.wrap (Int.tdiv (W (s - W (2 * z))) 2) else 0) = _
  have hb : -9223372036854775808 ≤ W (s - W (2 * z)) ∧ W (s - W (2 * z)) ≤ 9223372036854775807 := by
    show -9223372036854775808 ≤ IntKind.i64.wrap _ ∧ IntKind.i64.wrap _ ≤ _
    rw [IntKind.wrap_i64]; omega
  generalize W (s - W (2 * z)) = a at hb ⊢
  obtain ⟨h1, h2⟩ := tdiv2 a
  by_cases h : a > 0
  · have h1 := h1 (by omega)
    have e1 : IntKind.i64.wrap (a.tdiv 2) = a.tdiv 2 := w64 (by omega) (by omega)
    rw [if_pos h, e1]
    show _ = IntKind.i64.wrap (a.tdiv 2)
    rw [e1]
    split <;> omega
  · have h2 := h2 (by omega)
    have e1 : IntKind.i64.wrap (a.tdiv 2) = a.tdiv 2 := w64 (by omega) (by omega)
    rw [if_neg h, e1]
    have : W (Int.tdiv 0 2) = 0 := rfl
    rw [this]
    split <;> omega
theorem part_spec (z : Int) (m : List (List Int)) (hm : m.length = 4) (h4 : ∀ r, r ∈ m → r.length = 4) :
    FSpec Try.prog 182 [.ag [.c (.int .i64 (2)), .c (.int .i64 (2)), .c (.int .i64 (z)), .t (.rows m)]] (ex (.tu [.c (.int .i64 (esBest m)), .c (.int .i64 (partN z ((esL m).getD (esBest m) 0)))]) []) := by
  have hl := esL_len m
  refine fspec tyOk mx Try.func182 rfl (by kernel_rfl) rfl ?_
  conv => whnf
  refine ACall.use (eightSums_spec z m hm h4) ?_
  conv => whnf
  refine aloopI tyOk mx (fun k : Nat => match k with
    | 0 => (⟨36, [(1, .ptr 0 0), (4, .c (.int .i64 ((0 : Nat)))), (5, .own 1), (10, .own 1), (11, .c (.int .i64 ((esL m).length))), (12, .c (.int .i64 ((0 : Nat))))], [(0, .cells 53 [.c (.int .i64 (2)), .c (.int .i64 (2)), .c (.int .i64 (z)), .t (.rows m)]), (1, .ints 3 .i64 (esL m))], 2⟩ : St)
    | k + 1 => (⟨36, [(1, .ptr 0 0), (4, .c (.int .i64 (bIx (fun i => (esL m).getD i 0) k))), (5, .own 1), (10, .own 1), (11, .c (.int .i64 ((esL m).length))), (12, .c (.int .i64 ((k + 1 : Nat))))], [(0, .cells 53 [.c (.int .i64 (2)), .c (.int .i64 (2)), .c (.int .i64 (z)), .t (.rows m)]), (1, .ints 3 .i64 (esL m))], 2⟩ : St)) (fun k => k ≤ 8) (fun k => 8 - k) 0 (by omega) none (by refine ⟨rfl, rfl, ?_, ?_⟩ <;> ((repeat' (first | exact trivial | exact rfl | refine And.intro ?_ ?_)) <;> (try ((conv => whnf); first | refine vint ?_ | refine vboo ?_ | refine rint ?_ | refine rrow ?_ | skip)) <;> (try first | omega | (simp; done) | ((repeat rw [flts_closed _ (by assumption)]); exact vws_closed _ (by assumption))))) (fun k hk => ?_)
  match k, hk with
  | 0, hk =>
    refine ⟨fun h => ?_, fun h => ?_⟩
    · conv => whnf
      refine ⟨0, rfl, by omega, ?_⟩
      conv => whnf
      refine ⟨0, rfl, by omega, ?_⟩
      conv => whnf
      refine ⟨fun h6 => ?_, fun h6 => ?_⟩
      · have := of_decide_eq_true h6
        omega
      · conv => whnf
        rw [nat_wrap (by omega)]
        refine ⟨1, none, ?_, by omega, by omega⟩
        (refine ⟨rfl, rfl, ?_, ?_⟩ <;> ((repeat' (first | exact trivial | exact rfl | refine And.intro ?_ ?_)) <;> (try ((conv => whnf); first | refine vint ?_ | refine vboo ?_ | refine rint ?_ | refine rrow ?_ | skip)) <;> (try first | omega | (simp; done) | ((repeat rw [flts_closed _ (by assumption)]); exact vws_closed _ (by assumption)))))
    · have h := ltF h
      omega
  | k + 1, hk =>
    have hb := bIx_le (fun i => (esL m).getD i 0) k
    refine ⟨fun h => ?_, fun h => ?_⟩
    · have h := ltT h
      conv => whnf
      refine ⟨k + 1, rfl, h, ?_⟩
      conv => whnf
      refine ⟨bIx (fun i => (esL m).getD i 0) k, rfl, by omega, ?_⟩
      conv => whnf
      refine ⟨fun h6 => ?_, fun h6 => ?_⟩
      · have e : bIx (fun i => (esL m).getD i 0) (k + 1) = k + 1 := if_pos (of_decide_eq_true h6)
        conv => whnf
        rw [nat_wrap (by omega)]
        refine ⟨k + 2, none, ?_, by omega, by omega⟩
        dsimp only
        rw [e]
        (refine ⟨rfl, rfl, ?_, ?_⟩ <;> ((repeat' (first | exact trivial | exact rfl | refine And.intro ?_ ?_)) <;> (try ((conv => whnf); first | refine vint ?_ | refine vboo ?_ | refine rint ?_ | refine rrow ?_ | skip)) <;> (try first | omega | (simp; done) | ((repeat rw [flts_closed _ (by assumption)]); exact vws_closed _ (by assumption)))))
      · have e : bIx (fun i => (esL m).getD i 0) (k + 1) = bIx (fun i => (esL m).getD i 0) k := if_neg (of_decide_eq_false h6)
        conv => whnf
        rw [nat_wrap (by omega)]
        refine ⟨k + 2, none, ?_, by omega, by omega⟩
        dsimp only
        rw [e]
        (refine ⟨rfl, rfl, ?_, ?_⟩ <;> ((repeat' (first | exact trivial | exact rfl | refine And.intro ?_ ?_)) <;> (try ((conv => whnf); first | refine vint ?_ | refine vboo ?_ | refine rint ?_ | refine rrow ?_ | skip)) <;> (try first | omega | (simp; done) | ((repeat rw [flts_closed _ (by assumption)]); exact vws_closed _ (by assumption)))))
    · have h := ltF h
      obtain rfl : k = 7 := by omega
      conv => whnf
      refine ADraw.std tyOk mx ⟨by kernel_rfl, esBest m, rfl, by unfold esBest; omega, ?_⟩
      conv => whnf
      refine ⟨by decide, ?_⟩
      conv => whnf
      exact ⟨by rw [← part_eq]; rfl, rfl⟩

def poK (x y z : Int) (m : List (List Int)) : Int := if qpB x y z m then (esBest m : Int) else 0
def poN (x y z : Int) (m : List (List Int)) : Int := if qpB x y z m then partN z ((esL m).getD (esBest m) 0) else 0
theorem PartOf_s (x y z : Int) (m : List (List Int)) (_hx : InR x) (_hy : InR y) (_hz : InR z) (_hm : OkM m) (km : SzM m) :
    FSpec Try.prog 69 [.ag [.c (.int .i64 (x)), .c (.int .i64 (y)), .c (.int .i64 (z)), .t (.rows m)]] (ex (.tu [.c (.int .i64 (poK x y z m)), .c (.int .i64 (poN x y z m)), .c (.bool (qpB x y z m))]) []) := by
  refine fspec tyOk mx Try.func69 rfl (by kernel_rfl) rfl ?_
  conv => whnf
  refine ACall.use (l6Quiet_spec x y z m km) ?_
  conv => whnf
  refine ⟨fun h => ?_, fun h => ?_⟩
  · have h : qpB x y z m = false := by simpa using h
    conv => whnf
    exact ⟨by rw [poK, poN, h]; rfl, rfl⟩
  · have h : qpB x y z m = true := by simpa using h
    have h' := h
    obtain ⟨rfl, rfl, g1, g2, g3, g4⟩ := qpB_spec h
    conv => whnf
    refine ACall.use (l6Part_spec z m g3 (fun r hr => (g4 r hr).1)) ?_
    conv => whnf
    exact ⟨by rw [poK, poN, h']; rfl, rfl⟩
theorem PartOf_i (x y z : Int) (m : List (List Int)) (_hx : InR x) (_hy : InR y) (_hz : InR z) (_hm : OkM m) (km : SzM m) :
    FSpec Try.prog 68 [.ag [.c (.int .i64 (x)), .c (.int .i64 (y)), .c (.int .i64 (z)), .t (.rows m)]] (ex (.tu [.c (.int .i64 (poK x y z m)), .c (.int .i64 (poN x y z m)), .c (.bool (qpB x y z m))]) []) := by
  refine fspec tyOk mx Try.func68 rfl (by kernel_rfl) rfl ?_
  conv => whnf
  refine ACall.use (isQuietPair_spec x y z m km) ?_
  conv => whnf
  refine ⟨fun h => ?_, fun h => ?_⟩
  · have h : qpB x y z m = false := by simpa using h
    conv => whnf
    exact ⟨by rw [poK, poN, h]; rfl, rfl⟩
  · have h : qpB x y z m = true := by simpa using h
    have h' := h
    obtain ⟨rfl, rfl, g1, g2, g3, g4⟩ := qpB_spec h
    conv => whnf
    refine ACall.use (part_spec z m g3 (fun r hr => (g4 r hr).1)) ?_
    conv => whnf
    exact ⟨by rw [poK, poN, h']; rfl, rfl⟩

/-- the sums for the answer 1 -/
def cntL (nx ny : Nat) (m : List (List Int)) : List Int := (List.range nx).map (fun x => one0 (m.getD (x * ny + 0) [])) ++ (List.range ny).map (fun y => one1 (m.getD (0 * ny + y) []))
theorem counts_spec (nx ny : Nat) (z : Int) (m : List (List Int)) (hx : nx ≤ 3) (hy : ny ≤ 3) (hy1 : 1 ≤ ny) (hx1 : 1 ≤ nx) (hm : m.length = nx * ny) (h4 : ∀ r, r ∈ m → r.length = 4) :
    FSpec Try.prog 224 [.ag [.c (.int .i64 (nx)), .c (.int .i64 (ny)), .c (.int .i64 (z)), .t (.rows m)]] (ex (.own 0) [(0, .ints 3 .i64 (cntL nx ny m))]) := by
  have hn : nx * ny ≤ 3 * 3 := Nat.mul_le_mul hx hy
  refine fspec tyOk mx Try.func224 rfl (by kernel_rfl) rfl ?_
  conv => whnf
  refine ACall.use (questions_spec _ _ _ _) ?_
  conv => whnf
  refine aloopI tyOk mx (fun p : Nat => (⟨29, [(1, .ptr 0 0), (3, .own 1), (4, .ptr 2 0), (10, .c (.int .i64 (p)))], [(0, .cells 53 [.c (.int .i64 (nx)), .c (.int .i64 (ny)), .c (.int .i64 (z)), .t (.rows m)]), (1, .ints 3 .i64 (match p with | 0 => [] | 1 => (List.range nx).map (fun x => one0 (m.getD (x * ny + 0) [])) | _ => cntL nx ny m)), (2, .cells 158 [.c (.int .i64 (nx)), .c (.int .i64 (ny))])], 3⟩ : St)) (fun p => p ≤ 2) (fun p => 2 - p) 0 (by omega) none (by refine ⟨rfl, rfl, ?_, ?_⟩ <;> ((repeat' (first | exact trivial | exact rfl | refine And.intro ?_ ?_)) <;> (try ((conv => whnf); first | refine vint ?_ | refine vboo ?_ | refine rint ?_ | refine rrow ?_ | skip)) <;> (try first | omega | (simp; done) | ((repeat rw [flts_closed _ (by assumption)]); exact vws_closed _ (by assumption))))) (fun p hp => ?_)
  refine ⟨fun h => ?_, fun h => ?_⟩
  · have h : p < 2 := by have := of_decide_eq_true h; omega
    have hp2 : p = 0 ∨ p = 1 := by omega
    rcases hp2 with rfl | rfl
    · conv => whnf
      refine ⟨0, rfl, by omega, by simp, ?_⟩
      conv => whnf
      refine aloopI tyOk mx (fun x : Nat => (⟨29, [(1, .ptr 0 0), (3, .own 1), (4, .ptr 2 0), (5, .c (.int .i64 ((0 : Nat)))), (10, .c (.int .i64 ((0 : Nat)))), (15, .c (.int .i64 (nx))), (16, .c (.int .i64 (x)))], [(0, .cells 53 [.c (.int .i64 (nx)), .c (.int .i64 (ny)), .c (.int .i64 (z)), .t (.rows m)]), (1, .ints 3 .i64 ((List.range x).map (fun x => one0 (m.getD (x * ny + 0) [])))), (2, .cells 158 [.c (.int .i64 (nx)), .c (.int .i64 (ny))])], 3⟩ : St)) (fun x => x ≤ nx) (fun x => nx - x) 0 (Nat.zero_le _) none (by refine ⟨rfl, rfl, ?_, ?_⟩ <;> ((repeat' (first | exact trivial | exact rfl | refine And.intro ?_ ?_)) <;> (try ((conv => whnf); first | refine vint ?_ | refine vboo ?_ | refine rint ?_ | refine rrow ?_ | skip)) <;> (try first | omega | (simp; done) | ((repeat rw [flts_closed _ (by assumption)]); exact vws_closed _ (by assumption))))) (fun x hx2 => ?_)
      refine ⟨fun h2 => ?_, fun h2 => ?_⟩
      · have h2 := ltT h2
        have hlt := ix_lt h2 (show 0 < ny by omega)
        conv => whnf
        refine ACall.use (ones0_spec nx ny x 0 z m (by omega) (by omega) h4) ?_
        conv => whnf
        refine ⟨by simp [room]; omega, ?_⟩
        conv => whnf
        rw [nat_wrap (by omega)]
        refine ⟨x + 1, none, ?_, by omega, by omega⟩
        (refine ⟨rfl, rfl, ?_, ?_⟩ <;> ((repeat' (first | exact trivial | exact rfl | refine And.intro ?_ ?_)) <;> (try ((conv => whnf); first | refine vint ?_ | refine vboo ?_ | refine rint ?_ | refine rrow ?_ | skip)) <;> (try first | omega | (simp; done) | ((repeat rw [flts_closed _ (by assumption)]); exact vws_closed _ (by assumption)))))
        rw [← map_range_succ]; rfl
      · have h2 := ltF h2
        obtain rfl : x = nx := by omega
        conv => whnf
        exact ⟨1, none, (by refine ⟨rfl, rfl, ?_, ?_⟩ <;> ((repeat' (first | exact trivial | exact rfl | refine And.intro ?_ ?_)) <;> (try ((conv => whnf); first | refine vint ?_ | refine vboo ?_ | refine rint ?_ | refine rrow ?_ | skip)) <;> (try first | omega | (simp; done) | ((repeat rw [flts_closed _ (by assumption)]); exact vws_closed _ (by assumption))))), by omega, by omega⟩
    · conv => whnf
      refine ⟨1, rfl, by omega, by simp, ?_⟩
      conv => whnf
      refine aloopI tyOk mx (fun y : Nat => (⟨29, [(1, .ptr 0 0), (3, .own 1), (4, .ptr 2 0), (5, .c (.int .i64 ((1 : Nat)))), (10, .c (.int .i64 ((1 : Nat)))), (15, .c (.int .i64 (ny))), (16, .c (.int .i64 (y)))], [(0, .cells 53 [.c (.int .i64 (nx)), .c (.int .i64 (ny)), .c (.int .i64 (z)), .t (.rows m)]), (1, .ints 3 .i64 ((List.range nx).map (fun x => one0 (m.getD (x * ny + 0) [])) ++ (List.range y).map (fun y => one1 (m.getD (0 * ny + y) [])))), (2, .cells 158 [.c (.int .i64 (nx)), .c (.int .i64 (ny))])], 3⟩ : St)) (fun y => y ≤ ny) (fun y => ny - y) 0 (Nat.zero_le _) none (by refine ⟨rfl, rfl, ?_, ?_⟩ <;> ((repeat' (first | exact trivial | exact rfl | refine And.intro ?_ ?_)) <;> (try ((conv => whnf); first | refine vint ?_ | refine vboo ?_ | refine rint ?_ | refine rrow ?_ | skip)) <;> (try first | omega | (simp; done) | ((repeat rw [flts_closed _ (by assumption)]); exact vws_closed _ (by assumption))))) (fun y hy2 => ?_)
      refine ⟨fun h2 => ?_, fun h2 => ?_⟩
      · have h2 := ltT h2
        have hlt := ix_lt (show 0 < nx by omega) h2
        conv => whnf
        refine ACall.use (ones1_spec nx ny y 0 z m (by omega) (by omega) h4) ?_
        conv => whnf
        refine ⟨by simp [room]; omega, ?_⟩
        conv => whnf
        rw [nat_wrap (by omega)]
        refine ⟨y + 1, none, ?_, by omega, by omega⟩
        (refine ⟨rfl, rfl, ?_, ?_⟩ <;> ((repeat' (first | exact trivial | exact rfl | refine And.intro ?_ ?_)) <;> (try ((conv => whnf); first | refine vint ?_ | refine vboo ?_ | refine rint ?_ | refine rrow ?_ | skip)) <;> (try first | omega | (simp; done) | ((repeat rw [flts_closed _ (by assumption)]); exact vws_closed _ (by assumption)))))
        rw [← map_range_succ, ← List.append_assoc]; rfl
      · have h2 := ltF h2
        obtain rfl : y = ny := by omega
        conv => whnf
        exact ⟨2, none, (by refine ⟨rfl, rfl, ?_, ?_⟩ <;> ((repeat' (first | exact trivial | exact rfl | refine And.intro ?_ ?_)) <;> (try ((conv => whnf); first | refine vint ?_ | refine vboo ?_ | refine rint ?_ | refine rrow ?_ | skip)) <;> (try first | omega | (simp; done) | ((repeat rw [flts_closed _ (by assumption)]); exact vws_closed _ (by assumption))))), by omega, by omega⟩
  · have h : ¬ p < 2 := by have := of_decide_eq_false h; omega
    obtain rfl : p = 2 := by omega
    conv => whnf
    exact ⟨rfl, rfl⟩

theorem AnswerCounts_spec (x y z : Int) (m : List (List Int)) (km : SzM m) (hq : qpB x y z m = true) :
    FSpec Try.prog 225 [.ag [.c (.int .i64 (x)), .c (.int .i64 (y)), .c (.int .i64 (z)), .t (.rows m)]] (ex (.tu [.own 0, .c (.bool true)]) [(0, .ints 3 .i64 (cntL 2 2 m))]) := by
  have hq2 := hq
  simp only [qpB, pairB, Bool.and_eq_true] at hq2
  have hg := hq2.1.1
  have hqq := hq2.2
  obtain ⟨rfl, rfl, g1, g2, g3, g4⟩ := qpB_spec hq
  have h4 : ∀ r, r ∈ m → r.length = 4 := fun r hr => (g4 r hr).1
  refine fspec tyOk mx Try.func225 rfl (by kernel_rfl) rfl ?_
  conv => whnf
  refine ACall.use (l2Box_spec _ _ z m km) ?_
  rw [hg]
  conv => whnf
  refine ⟨fun _ => ?_, fun h => absurd h (by decide)⟩
  conv => whnf
  refine ACall.use (l2Quiet_spec 2 2 z m (by omega) (by omega) (by omega) (by omega) g3 h4) ?_
  rw [hqq]
  conv => whnf
  refine ⟨fun h => absurd h (by decide), fun _ => ?_⟩
  conv => whnf
  refine aloopI tyOk mx (fun x : Nat => (⟨44, [(1, .ptr 0 0), (4, .own 1), (5, .c (.int .i64 (x)))], [(0, .cells 53 [.c (.int .i64 (2)), .c (.int .i64 (2)), .c (.int .i64 (z)), .t (.rows m)]), (1, .ints 3 .i64 ((List.range x).map (fun x => one0 (m.getD (x * 2 + 0) []))))], 2⟩ : St)) (fun x => x ≤ 2) (fun x => 2 - x) 0 (by omega) none (by refine ⟨rfl, rfl, ?_, ?_⟩ <;> ((repeat' (first | exact trivial | exact rfl | refine And.intro ?_ ?_)) <;> (try ((conv => whnf); first | refine vint ?_ | refine vboo ?_ | refine rint ?_ | refine rrow ?_ | skip)) <;> (try first | omega | (simp; done) | ((repeat rw [flts_closed _ (by assumption)]); exact vws_closed _ (by assumption))))) (fun x hx => ?_)
  refine ⟨fun h => ?_, fun h => ?_⟩
  · have h : x < 2 := by have := of_decide_eq_true h; omega
    conv => whnf
    refine ACall.use (l2Row_spec 2 2 x 0 z m (by omega) (by omega)) ?_
    conv => whnf
    refine ACall.use (l2One0_spec _ (h4 _ (getD_mem (show x * 2 + 0 < m.length by omega)))) ?_
    conv => whnf
    refine ⟨by simp [room]; omega, ?_⟩
    conv => whnf
    rw [nat_wrap (by omega)]
    refine ⟨x + 1, none, ?_, by omega, by omega⟩
    (refine ⟨rfl, rfl, ?_, ?_⟩ <;> ((repeat' (first | exact trivial | exact rfl | refine And.intro ?_ ?_)) <;> (try ((conv => whnf); first | refine vint ?_ | refine vboo ?_ | refine rint ?_ | refine rrow ?_ | skip)) <;> (try first | omega | (simp; done) | ((repeat rw [flts_closed _ (by assumption)]); exact vws_closed _ (by assumption)))))
    rw [← map_range_succ]; rfl
  · have h : ¬ x < 2 := by have := of_decide_eq_false h; omega
    obtain rfl : x = 2 := by omega
    conv => whnf
    refine aloopI tyOk mx (fun y : Nat => (⟨44, [(1, .ptr 0 0), (4, .own 1), (6, .c (.int .i64 (y)))], [(0, .cells 53 [.c (.int .i64 (2)), .c (.int .i64 (2)), .c (.int .i64 (z)), .t (.rows m)]), (1, .ints 3 .i64 ((List.range 2).map (fun x => one0 (m.getD (x * 2 + 0) [])) ++ (List.range y).map (fun y => one1 (m.getD (0 * 2 + y) []))))], 2⟩ : St)) (fun y => y ≤ 2) (fun y => 2 - y) 0 (by omega) none (by refine ⟨rfl, rfl, ?_, ?_⟩ <;> ((repeat' (first | exact trivial | exact rfl | refine And.intro ?_ ?_)) <;> (try ((conv => whnf); first | refine vint ?_ | refine vboo ?_ | refine rint ?_ | refine rrow ?_ | skip)) <;> (try first | omega | (simp; done) | ((repeat rw [flts_closed _ (by assumption)]); exact vws_closed _ (by assumption))))) (fun y hy => ?_)
    refine ⟨fun h => ?_, fun h => ?_⟩
    · have h : y < 2 := by have := of_decide_eq_true h; omega
      conv => whnf
      refine ACall.use (l2Row_spec 2 2 0 y z m (by omega) (by omega)) ?_
      conv => whnf
      refine ACall.use (l2One1_spec _ (h4 _ (getD_mem (show 0 * 2 + y < m.length by omega)))) ?_
      conv => whnf
      refine ⟨by simp [room]; omega, ?_⟩
      conv => whnf
      rw [nat_wrap (by omega)]
      refine ⟨y + 1, none, ?_, by omega, by omega⟩
      (refine ⟨rfl, rfl, ?_, ?_⟩ <;> ((repeat' (first | exact trivial | exact rfl | refine And.intro ?_ ?_)) <;> (try ((conv => whnf); first | refine vint ?_ | refine vboo ?_ | refine rint ?_ | refine rrow ?_ | skip)) <;> (try first | omega | (simp; done) | ((repeat rw [flts_closed _ (by assumption)]); exact vws_closed _ (by assumption)))))
      rw [List.append_assoc]; exact congrArg _ (map_range_succ (fun y => one1 (m.getD (0 * 2 + y) [])) y)
    · have h : ¬ y < 2 := by have := of_decide_eq_false h; omega
      obtain rfl : y = 2 := by omega
      conv => whnf
      exact ⟨rfl, rfl⟩

def evenC (z : Int) (l : List Int) : Bool := l.all fun v => W (2 * v) == z
def ebV (x y z : Int) (m : List (List Int)) : Bool := qpB x y z m && evenC z (cntL 2 2 m)
theorem cntL_len (nx ny : Nat) (m : List (List Int)) : (cntL nx ny m).length = nx + ny := by simp [cntL]
theorem IsEvenBox_s (x y z : Int) (m : List (List Int)) (_hx : InR x) (_hy : InR y) (_hz : InR z) (_hm : OkM m) (km : SzM m) :
    FSpec Try.prog 113 [.ag [.c (.int .i64 (x)), .c (.int .i64 (y)), .c (.int .i64 (z)), .t (.rows m)]] (ex (.tu [.c (.bool (ebV x y z m)), .c (.bool (qpB x y z m))]) []) := by
  have hl := cntL_len 2 2 m
  refine fspec tyOk mx Try.func113 rfl (by kernel_rfl) rfl ?_
  conv => whnf
  refine ACall.use (l6Quiet_spec x y z m km) ?_
  conv => whnf
  refine ⟨fun h => ?_, fun h => ?_⟩
  · have h : qpB x y z m = false := by simpa using h
    conv => whnf
    exact ⟨by rw [ebV, h]; rfl, rfl⟩
  · have h : qpB x y z m = true := by simpa using h
    have h' := h
    conv => whnf
    refine ACall.use (AnswerCounts_spec x y z m km h) ?_
    conv => whnf
    refine aloopI tyOk mx (fun k : Nat => (⟨29, [(1, .ptr 0 0), (4, .own 1), (6, .c (.int .i64 (k)))], [(0, .cells 53 [.c (.int .i64 (x)), .c (.int .i64 (y)), .c (.int .i64 (z)), .t (.rows m)]), (1, .ints 3 .i64 (cntL 2 2 m))], 2⟩ : St)) (fun k => k ≤ (cntL 2 2 m).length ∧ ((cntL 2 2 m).take k).all (fun v => W (2 * v) == z) = true) (fun k => (cntL 2 2 m).length - k) 0 ⟨Nat.zero_le _, rfl⟩ none (by refine ⟨rfl, rfl, ?_, ?_⟩ <;> ((repeat' (first | exact trivial | exact rfl | refine And.intro ?_ ?_)) <;> (try ((conv => whnf); first | refine vint ?_ | refine vboo ?_ | refine rint ?_ | refine rrow ?_ | skip)) <;> (try first | omega | (simp; done) | ((repeat rw [flts_closed _ (by assumption)]); exact vws_closed _ (by assumption))))) (fun k hI => ?_)
    obtain ⟨hk, hp⟩ := hI
    refine ⟨fun h => ?_, fun h => ?_⟩
    · have h := ltT h
      refine ADraw.std tyOk mx ⟨by kernel_rfl, k, rfl, h, ?_⟩
      conv => whnf
      refine ⟨fun h2 => ?_, fun h2 => ?_⟩
      · have e : ebV x y z m = false := by
          rw [ebV, evenC, all_false (d := 0) h (by rw [beq_eq_false_iff_ne]; exact bne_iff_ne.1 h2), Bool.and_false]
        conv => whnf
        exact ⟨by rw [e, h'], rfl⟩
      · conv => whnf
        rw [nat_wrap (by omega)]
        exact ⟨k + 1, none, (by refine ⟨rfl, rfl, ?_, ?_⟩ <;> ((repeat' (first | exact trivial | exact rfl | refine And.intro ?_ ?_)) <;> (try ((conv => whnf); first | refine vint ?_ | refine vboo ?_ | refine rint ?_ | refine rrow ?_ | skip)) <;> (try first | omega | (simp; done) | ((repeat rw [flts_closed _ (by assumption)]); exact vws_closed _ (by assumption))))), ⟨by omega, all_take_succ (d := 0) h hp (by rw [beq_iff_eq]; exact bne_eq_false_iff_eq.1 h2)⟩, by omega⟩
    · have h := ltF h
      have e : ebV x y z m = true := by rw [ebV, h', evenC, all_end h hp]; rfl
      conv => whnf
      exact ⟨by rw [e, h'], rfl⟩
theorem IsEvenBox_i (x y z : Int) (m : List (List Int)) (_hx : InR x) (_hy : InR y) (_hz : InR z) (_hm : OkM m) (km : SzM m) :
    FSpec Try.prog 112 [.ag [.c (.int .i64 (x)), .c (.int .i64 (y)), .c (.int .i64 (z)), .t (.rows m)]] (ex (.tu [.c (.bool (ebV x y z m)), .c (.bool (qpB x y z m))]) []) := by
  have hl := cntL_len 2 2 m
  refine fspec tyOk mx Try.func112 rfl (by kernel_rfl) rfl ?_
  conv => whnf
  refine ACall.use (isQuietPair_spec x y z m km) ?_
  conv => whnf
  refine ⟨fun h => ?_, fun h => ?_⟩
  · have h : qpB x y z m = false := by simpa using h
    conv => whnf
    exact ⟨by rw [ebV, h]; rfl, rfl⟩
  · have h : qpB x y z m = true := by simpa using h
    have h' := h
    obtain ⟨rfl, rfl, g1, g2, g3, g4⟩ := qpB_spec h
    conv => whnf
    refine ACall.use (counts_spec 2 2 z m (by omega) (by omega) (by omega) (by omega) g3 (fun r hr => (g4 r hr).1)) ?_
    conv => whnf
    refine aloopI tyOk mx (fun k : Nat => (⟨22, [(1, .ptr 0 0), (10, .own 1), (11, .c (.int .i64 ((cntL 2 2 m).length))), (12, .c (.int .i64 (k)))], [(0, .cells 53 [.c (.int .i64 (2)), .c (.int .i64 (2)), .c (.int .i64 (z)), .t (.rows m)]), (1, .ints 3 .i64 (cntL 2 2 m))], 2⟩ : St)) (fun k => k ≤ (cntL 2 2 m).length ∧ ((cntL 2 2 m).take k).all (fun v => W (2 * v) == z) = true) (fun k => (cntL 2 2 m).length - k) 0 ⟨Nat.zero_le _, rfl⟩ none (by refine ⟨rfl, rfl, ?_, ?_⟩ <;> ((repeat' (first | exact trivial | exact rfl | refine And.intro ?_ ?_)) <;> (try ((conv => whnf); first | refine vint ?_ | refine vboo ?_ | refine rint ?_ | refine rrow ?_ | skip)) <;> (try first | omega | (simp; done) | ((repeat rw [flts_closed _ (by assumption)]); exact vws_closed _ (by assumption))))) (fun k hI => ?_)
    obtain ⟨hk, hp⟩ := hI
    refine ⟨fun h => ?_, fun h => ?_⟩
    · have h := ltT h
      conv => whnf
      refine ⟨k, rfl, h, ?_⟩
      conv => whnf
      refine ⟨fun h2 => ?_, fun h2 => ?_⟩
      · have e : ebV 2 2 z m = false := by
          rw [ebV, evenC, all_false (d := 0) h (by rw [beq_eq_false_iff_ne]; exact bne_iff_ne.1 h2), Bool.and_false]
        conv => whnf
        exact ⟨by rw [e, h'], rfl⟩
      · conv => whnf
        rw [nat_wrap (by omega)]
        exact ⟨k + 1, none, (by refine ⟨rfl, rfl, ?_, ?_⟩ <;> ((repeat' (first | exact trivial | exact rfl | refine And.intro ?_ ?_)) <;> (try ((conv => whnf); first | refine vint ?_ | refine vboo ?_ | refine rint ?_ | refine rrow ?_ | skip)) <;> (try first | omega | (simp; done) | ((repeat rw [flts_closed _ (by assumption)]); exact vws_closed _ (by assumption))))), ⟨by omega, all_take_succ (d := 0) h hp (by rw [beq_iff_eq]; exact bne_eq_false_iff_eq.1 h2)⟩, by omega⟩
    · have h := ltF h
      have e : ebV 2 2 z m = true := by rw [ebV, h', evenC, all_end h hp]; rfl
      conv => whnf
      exact ⟨by rw [e, h'], rfl⟩
end Go.Proofs.Ytkomndcehdneaaa
/- Rests of quiet boxes: reference and program. -/
namespace Go.Aw
def partF (T B : Nat → Nat → Int) (i n : Nat) : List (List Int) :=
  (List.range 4).map fun p => (List.range 4).map fun q => if p < i ∨ (p = i ∧ q < n) then T p q else B p q
theorem partF_step (T B : Nat → Nat → Int) {i n : Nat} (hi : i < 4) (hn : n < 4) : (partF T B i n).set i (((partF T B i n).getD i []).set n (T i n)) = partF T B i (n + 1) := by
  have h1 : i = 0 ∨ i = 1 ∨ i = 2 ∨ i = 3 := by omega
  have h2 : n = 0 ∨ n = 1 ∨ n = 2 ∨ n = 3 := by omega
  rcases h1 with rfl | rfl | rfl | rfl <;> rcases h2 with rfl | rfl | rfl | rfl <;> rfl
theorem partF_get (T B : Nat → Nat → Int) {i n : Nat} (hi : i < 4) (hn : n < 4) : ((partF T B i n).getD i []).getD n 0 = B i n := by
  have h1 : i = 0 ∨ i = 1 ∨ i = 2 ∨ i = 3 := by omega
  have h2 : n = 0 ∨ n = 1 ∨ n = 2 ∨ n = 3 := by omega
  rcases h1 with rfl | rfl | rfl | rfl <;> rcases h2 with rfl | rfl | rfl | rfl <;> rfl
theorem partF_end (T B : Nat → Nat → Int) {i : Nat} (hi : i < 4) : partF T B i 4 = partF T B (i + 1) 0 := by
  have h1 : i = 0 ∨ i = 1 ∨ i = 2 ∨ i = 3 := by omega
  rcases h1 with rfl | rfl | rfl | rfl <;> rfl
theorem partF_len (T B : Nat → Nat → Int) (i n : Nat) : (partF T B i n).length = 4 := by simp [partF]
theorem partF_row (T B : Nat → Nat → Int) {i n p : Nat} (hp : p < 4) : ((partF T B i n).getD p []).length = 4 := by
  rw [partF, range_getD hp]; simp
theorem mat_rows (f : Nat → Nat → Nat → Nat → Int) : boxRows f 2 2 = (List.range 4).map fun p => (List.range 4).map fun q => f (p / 2) (p % 2) (q / 2) (q % 2) := rfl
theorem mat_get (f : Nat → Nat → Nat → Nat → Int) {p q : Nat} (hp : p < 4) (hq : q < 4) : ((boxRows f 2 2).getD p []).getD q 0 = f (p / 2) (p % 2) (q / 2) (q % 2) := by
  rw [mat_rows, range_getD hp, range_getD hq]
theorem mat_eta {M : List (List Int)} (h : M.length = 4) (hr : ∀ r, r ∈ M → r.length = 4) : ((List.range 4).map fun p => (List.range 4).map fun q => (M.getD p []).getD q 0) = M := by
  refine List.ext_getElem (by simp [h]) fun p h1 h2 => ?_
  have hrow := hr _ (List.getElem_mem h2)
  simp only [List.getElem_map, List.getElem_range]
  refine List.ext_getElem (by simp [hrow]) fun q h3 h4 => ?_
  simp only [List.getElem_map, List.getElem_range]
  simp [List.getD, h2, h4]
theorem mat_congr {F G : Nat → Nat → Int} (h : ∀ p q, p < 4 → q < 4 → F p q = G p q) : ((List.range 4).map fun p => (List.range 4).map fun q => F p q) = (List.range 4).map fun p => (List.range 4).map fun q => G p q := by
  refine List.map_congr_left fun p hp => List.map_congr_left fun q hq => h p q (by simpa using hp) (by simpa using hq)
theorem times_get {M : List (List Int)} (h : M.length = 4) (hr : ∀ r, r ∈ M → r.length = 4) (k d : Int) {p q : Nat} (hp : p < 4) (hq : q < 4) : ((timesL M k d).getD p []).getD q 0 = W (Int.tdiv (W ((M.getD p []).getD q 0 * k)) d) := by
  have hm : M.getD p [] ∈ M := by rw [List.getD_eq_getElem?_getD, List.getElem?_eq_getElem (by omega)]; exact List.getElem_mem _
  rw [timesL, map_getD (d := []) (by omega), timesR, map_getD (d := 0) (by rw [hr _ hm]; omega)]
end Go.Aw
namespace Go.Proofs.Ytkomndcehdneaaa
open Go.Aw
set_option maxRecDepth 100000
set_option maxHeartbeats 4000000

def rsNum (m : List (List Int)) (k : Nat) (N : Int) (x y a b : Nat) : Int := W (W (2 * (m.getD (x * 2 + y) []).getD (2 * a + b) 0) - W (N * eqNum k x y a b))
def rsM (m : List (List Int)) (k : Nat) (N : Int) : List (List Int) := boxRows (rsNum m k N) 2 2
def rsW (z N : Int) : Int := W (W (2 * z) - W (2 * N))
def rsN (z : Int) (m : List (List Int)) : Int := partN z ((esL m).getD (esBest m) 0)
def rsOk (x y z : Int) (m : List (List Int)) : Bool := qpB x y z m && goodB 2 2 (rsW z (rsN z m)) (rsM m (esBest m) (rsN z m))
def rsR (x y z : Int) (m : List (List Int)) : List (List Int) := if rsOk x y z m then rsM m (esBest m) (rsN z m) else []
theorem box_sz (f : Nat → Nat → Nat → Nat → Int) : SzM (boxRows f 2 2) := by
  have h1 : (boxRows f 2 2).length = 4 := boxRows_len _ 2 2
  have h2 := tot_le_mul (m := boxRows f 2 2) (n := 4) (fun q hq => by rw [boxRows_rows _ _ _ q hq]; omega)
  unfold SzM; omega
theorem esBest_lt (m : List (List Int)) : esBest m < 8 := by
  have := bIx_le (fun i => (esL m).getD i 0) 7
  unfold esBest; omega

theorem rsNum_spec (m : List (List Int)) (hm : m.length = 4) (h4 : ∀ r, r ∈ m → r.length = 4) (z : Int) (k : Nat) (N : Int) (x y a b : Nat) (hx : x < 2) (hy : y < 2) (ha : a < 2) (hb : b < 2) :
    FSpec Try.prog 184 [.c (.int .i64 (x)), .c (.int .i64 (y)), .c (.int .i64 (a)), .c (.int .i64 (b)), .rp [.c (.int .i64 (2)), .c (.int .i64 (2)), .c (.int .i64 (z)), .t (.rows m)] 0, .rp [.c (.int .i64 (N))] 0, .rp [.c (.int .i64 (2)), .c (.int .i64 (2)), .c (.int .i64 (2)), .t (.rows (equalM k))] 0] (ex (.c (.int .i64 (rsNum m k N x y a b))) []) := by
  have hl : (equalM k).length = 4 := boxRows_len _ 2 2
  have hr := boxRows_rows (eqNum k) 2 2 _ (getD_mem (d := []) (show x * 2 + y < (equalM k).length by omega))
  have hr2 := h4 _ (getD_mem (d := []) (show x * 2 + y < m.length by omega))
  refine fspec tyOk mx Try.func184 rfl (by kernel_rfl) rfl ?_
  conv => whnf
  refine ADraw.plan tyOk mx (.q 0 (.q 1 (.q 2 (.q 3 (.q 4 (.q 7 (.q 8 (.q 9 (.q 10 (.q 11 (.q 12 (.last 5 (.q 6 (.last 13 (.q 14 (.q 15 (.q 16 (.done))))))))))))))))) : Plan) (by kernel_rfl) ?_
  conv => whnf
  refine ACall.useR (at_spec 2 2 x y a b z m (by omega) (by omega) (by omega) (by omega)) ?_
  conv => whnf
  refine ACall.useR (at_spec 2 2 x y a b 2 (equalM k) (by omega) (by omega) (by show 2 * a + b < ((boxRows (eqNum k) 2 2).getD (x * 2 + y) []).length; rw [hr]; omega) (by omega)) ?_
  conv => whnf
  refine ⟨?_, rfl⟩
  rw [equalM, boxRows_get _ hx hy ha hb]; rfl

theorem RestOf_i (x y z : Int) (m : List (List Int)) (_hx : InR x) (_hy : InR y) (_hz : InR z) (_hm : OkM m) (km : SzM m) :
    FSpec Try.prog 66 [.ag [.c (.int .i64 (x)), .c (.int .i64 (y)), .c (.int .i64 (z)), .t (.rows m)]] (ex (.tu [.ag [.c (.int .i64 (if rsOk x y z m then 2 else 0)), .c (.int .i64 (if rsOk x y z m then 2 else 0)), .c (.int .i64 (if rsOk x y z m then rsW z (rsN z m) else 0)), .own 0], .c (.bool (rsOk x y z m))]) [(0, .rows 25 3 true (rsR x y z m))]) := by
  refine view_box ?_
  refine fspec tyOk mx Try.func66 rfl (by kernel_rfl) rfl ?_
  conv => whnf
  refine ACall.use (isQuietPair_spec x y z m km) ?_
  conv => whnf
  refine ⟨fun h => ?_, fun h => ?_⟩
  · have h : qpB x y z m = false := by simpa using h
    have e : rsOk x y z m = false := by rw [rsOk, h]; rfl
    conv => whnf
    exact .inl ⟨e, rfl, rfl⟩
  · have h : qpB x y z m = true := by simpa using h
    have h' := h
    obtain ⟨rfl, rfl, g1, g2, g3, g4⟩ := qpB_spec h
    have h4 : ∀ r, r ∈ m → r.length = 4 := fun r hr => (g4 r hr).1
    conv => whnf
    refine ACall.use (part_spec z m g3 h4) ?_
    conv => whnf
    refine ACall.use (equalSum_spec (esBest m)) ?_
    conv => whnf
    refine ACall.use (newBox_spec 2 2 (rsW z (rsN z m)) _ [.rp [.c (.int .i64 (2)), .c (.int .i64 (2)), .c (.int .i64 (z)), .t (.rows m)] 0, .rp [.c (.int .i64 (rsN z m))] 0, .rp [.c (.int .i64 (2)), .c (.int .i64 (2)), .c (.int .i64 (2)), .t (.rows (equalM (esBest m)))] 0] (rsNum m (esBest m) (rsN z m)) (by omega) (by omega) (fun _ _ => rfl) rfl (fun i k' a b hi hk ha hb => rsNum_spec m g3 h4 z (esBest m) (rsN z m) i k' a b hi hk ha hb)) ?_
    conv => whnf
    refine ACall.use (IsBox_spec 2 2 (rsW z (rsN z m)) (rsM m (esBest m) (rsN z m)) (box_sz _)) ?_
    conv => whnf
    refine ⟨fun h5 => ?_, fun h5 => ?_⟩
    · have h5 : goodB 2 2 (rsW z (rsN z m)) (rsM m (esBest m) (rsN z m)) = false := by simpa using h5
      have e2 : rsOk 2 2 z m = false := by rw [rsOk, h5, Bool.and_false]
      conv => whnf
      exact .inl ⟨e2, rfl, rfl⟩
    · have h5 : goodB 2 2 (rsW z (rsN z m)) (rsM m (esBest m) (rsN z m)) = true := by simpa using h5
      have e2 : rsOk 2 2 z m = true := by rw [rsOk, h', h5]; rfl
      conv => whnf
      exact .inr ⟨e2, rfl, rfl⟩

def rsB (m : List (List Int)) (p q : Nat) : Int := ((timesL m 2 1).getD p []).getD q 0
def rsT (m : List (List Int)) (k : Nat) (N : Int) (p q : Nat) : Int := W (rsB m p q - W (N * ((equalM k).getD p []).getD q 0))
theorem rs_zero (m : List (List Int)) (hm : m.length = 4) (h4 : ∀ r, r ∈ m → r.length = 4) (k : Nat) (N : Int) : partF (rsT m k N) (rsB m) 0 0 = timesL m 2 1 := by
  have e : partF (rsT m k N) (rsB m) 0 0 = (List.range 4).map fun p => (List.range 4).map fun q => rsB m p q := by
    unfold partF; exact mat_congr fun p q _ _ => if_neg (by omega)
  rw [e]
  exact mat_eta (by rw [timesL_len, hm]) (fun r hr => by
    obtain ⟨c, hc, rfl⟩ := List.mem_map.1 hr
    rw [timesR, List.length_map]; exact h4 c hc)
theorem rs_end (m : List (List Int)) (hm : m.length = 4) (h4 : ∀ r, r ∈ m → r.length = 4) (k : Nat) (N : Int) : partF (rsT m k N) (rsB m) 4 0 = rsM m k N := by
  rw [rsM, mat_rows]
  unfold partF
  refine mat_congr fun p q hp hq => ?_
  rw [if_pos (by omega), rsT, rsB, times_get hm h4 _ _ hp hq, equalM, mat_get _ hp hq, rsNum, tdiv_one, WW, Int.mul_comm]
  rw [show p / 2 * 2 + p % 2 = p by omega, show 2 * (q / 2) + q % 2 = q by omega]

theorem RestOf_s (x y z : Int) (m : List (List Int)) (_hx : InR x) (_hy : InR y) (_hz : InR z) (_hm : OkM m) (km : SzM m) :
    FSpec Try.prog 67 [.ag [.c (.int .i64 (x)), .c (.int .i64 (y)), .c (.int .i64 (z)), .t (.rows m)]] (ex (.tu [.ag [.c (.int .i64 (if rsOk x y z m then 2 else 0)), .c (.int .i64 (if rsOk x y z m then 2 else 0)), .c (.int .i64 (if rsOk x y z m then rsW z (rsN z m) else 0)), .own 0], .c (.bool (rsOk x y z m))]) [(0, .rows 25 3 true (rsR x y z m))]) := by
  refine view_box ?_
  refine fspec tyOk mx Try.func67 rfl (by kernel_rfl) rfl ?_
  conv => whnf
  refine ACall.use (l6Quiet_spec x y z m km) ?_
  conv => whnf
  refine ⟨fun h => ?_, fun h => ?_⟩
  · have h : qpB x y z m = false := by simpa using h
    have e : rsOk x y z m = false := by rw [rsOk, h]; rfl
    conv => whnf
    exact .inl ⟨e, rfl, rfl⟩
  · have h : qpB x y z m = true := by simpa using h
    have h' := h
    obtain ⟨rfl, rfl, g1, g2, g3, g4⟩ := qpB_spec h
    have h4 : ∀ r, r ∈ m → r.length = 4 := fun r hr => (g4 r hr).1
    have hel : (equalM (esBest m)).length = 4 := boxRows_len _ 2 2
    have her := boxRows_rows (eqNum (esBest m)) 2 2
    have ew : W (Int.tdiv (W (z * 2)) 1) = W (2 * z) := by rw [tdiv_one, WW, Int.mul_comm]
    conv => whnf
    refine ACall.use (l6Part_spec z m g3 h4) ?_
    conv => whnf
    refine ACall.use (l2Times_spec 2 2 z m 2 1 (by decide) (by omega) (fun r hr => by rw [h4 r hr]; omega)) ?_
    rw [ew]
    conv => whnf
    refine ACall.use (l6Sum_spec (esBest m) (esBest_lt m)) ?_
    conv => whnf
    refine aloopI tyOk mx (fun i : Nat => (⟨70, [(2, .ptr 1 0), (5, .c (.int .i64 (rsN z m))), (6, .ptr 4 0), (7, .ptr 5 0), (8, .c (.int .i64 (i)))], [(1, .cells 53 [.c (.int .i64 (0)), .c (.int .i64 (0)), .c (.int .i64 (0)), .c (.slice none 0 0)]), (2, .rows 25 3 true (partF (rsT m (esBest m) (rsN z m)) (rsB m) i 0)), (3, .rows 25 3 true (equalM (esBest m))), (4, .cells 53 [.c (.int .i64 (2)), .c (.int .i64 (2)), .c (.int .i64 (rsW z (rsN z m))), .own 2]), (5, .cells 53 [.c (.int .i64 (2)), .c (.int .i64 (2)), .c (.int .i64 (2)), .own 3])], 6⟩ : St)) (fun i => i ≤ 4) (fun i => 4 - i) 0 (Nat.zero_le _) none (by (refine ⟨rfl, rfl, ?_, ?_⟩ <;> ((repeat' (first | exact trivial | exact rfl | refine And.intro ?_ ?_)) <;> (try ((conv => whnf); first | refine vint ?_ | refine vboo ?_ | refine rint ?_ | refine rrow ?_ | skip)) <;> (try first | omega | (simp; done) | ((repeat rw [flts_closed _ (by assumption)]); exact vws_closed _ (by assumption))))); exact (rs_zero m g3 h4 _ _).symm) (fun i hi => ?_)
    have hl := partF_len (rsT m (esBest m) (rsN z m)) (rsB m) i 0
    refine ⟨fun h => ?_, fun h => ?_⟩
    · have h : i < 4 := by have := ltT h; omega
      conv => whnf
      refine aloopI tyOk mx (fun n : Nat => (⟨70, [(2, .ptr 1 0), (5, .c (.int .i64 (rsN z m))), (6, .ptr 4 0), (7, .ptr 5 0), (8, .c (.int .i64 (i))), (9, .c (.int .i64 (n)))], [(1, .cells 53 [.c (.int .i64 (0)), .c (.int .i64 (0)), .c (.int .i64 (0)), .c (.slice none 0 0)]), (2, .rows 25 3 true (partF (rsT m (esBest m) (rsN z m)) (rsB m) i n)), (3, .rows 25 3 true (equalM (esBest m))), (4, .cells 53 [.c (.int .i64 (2)), .c (.int .i64 (2)), .c (.int .i64 (rsW z (rsN z m))), .own 2]), (5, .cells 53 [.c (.int .i64 (2)), .c (.int .i64 (2)), .c (.int .i64 (2)), .own 3])], 6⟩ : St)) (fun n => n ≤ 4) (fun n => 4 - n) 0 (Nat.zero_le _) none (by refine ⟨rfl, rfl, ?_, ?_⟩ <;> ((repeat' (first | exact trivial | exact rfl | refine And.intro ?_ ?_)) <;> (try ((conv => whnf); first | refine vint ?_ | refine vboo ?_ | refine rint ?_ | refine rrow ?_ | skip)) <;> (try first | omega | (simp; done) | ((repeat rw [flts_closed _ (by assumption)]); exact vws_closed _ (by assumption))))) (fun n hn => ?_)
      have hl2 := partF_len (rsT m (esBest m) (rsN z m)) (rsB m) i n
      have hr2 := partF_row (rsT m (esBest m) (rsN z m)) (rsB m) (i := i) (n := n) h
      have her2 := her _ (getD_mem (d := []) (show i < (equalM (esBest m)).length by omega))
      have her3 : ((equalM (esBest m)).getD i []).length = 4 := her2
      refine ⟨fun h5 => ?_, fun h5 => ?_⟩
      · have h5 : n < 4 := by have := of_decide_eq_true h5; omega
        have hg := partF_get (rsT m (esBest m) (rsN z m)) (rsB m) h h5
        refine ADraw.plan tyOk mx (.q 0 (.q 1 (.q 2 (.q 3 (.q 4 (.q 5 (.q 6 (.q 7 (.q 8 (.q 9 (.q 10 (.q 11 (.q 12 (.q 13 (.q 14 (.q 15 (.q 16 (.q 17 (.q 18 (.q 19 (.q 20 (.q 21 (.q 22 (.q 23 (.q 24 (.q 25 (.last 26 (.done))))))))))))))))))))))))))) : Plan) (by kernel_rfl) ?_
        conv => whnf
        repeat' (first | (refine ⟨i, rfl, by omega, ?_⟩; conv => whnf) | (refine ⟨n, rfl, by omega, ?_⟩; conv => whnf) | (refine And.intro ?_ ?_ <;> (conv => whnf)))
        all_goals
          rw [nat_wrap (by omega)]
          refine ⟨n + 1, none, ?_, by omega, by omega⟩
          (refine ⟨rfl, rfl, ?_, ?_⟩ <;> ((repeat' (first | exact trivial | exact rfl | refine And.intro ?_ ?_)) <;> (try ((conv => whnf); first | refine vint ?_ | refine vboo ?_ | refine rint ?_ | refine rrow ?_ | skip)) <;> (try first | omega | (simp; done) | ((repeat rw [flts_closed _ (by assumption)]); exact vws_closed _ (by assumption)))))
          rw [hg]
          exact partF_step _ _ h h5
      · have h5 : ¬ n < 4 := by have := of_decide_eq_false h5; omega
        obtain rfl : n = 4 := by omega
        conv => whnf
        rw [nat_wrap (by omega)]
        refine ⟨i + 1, none, ?_, by omega, by omega⟩
        (refine ⟨rfl, rfl, ?_, ?_⟩ <;> ((repeat' (first | exact trivial | exact rfl | refine And.intro ?_ ?_)) <;> (try ((conv => whnf); first | refine vint ?_ | refine vboo ?_ | refine rint ?_ | refine rrow ?_ | skip)) <;> (try first | omega | (simp; done) | ((repeat rw [flts_closed _ (by assumption)]); exact vws_closed _ (by assumption)))))
        exact partF_end _ _ h
    · have h : ¬ i < 4 := by have := ltF h; omega
      obtain rfl : i = 4 := by omega
      rw [rs_end m g3 h4]
      conv => whnf
      refine ACallS.inline tyOk mx Try.func171 rfl (by kernel_rfl) rfl ?_
      conv => whnf
      refine ACall.use (l2Box_spec 2 2 (rsW z (rsN z m)) (rsM m (esBest m) (rsN z m)) (box_sz _)) ?_
      conv => whnf
      refine ⟨fun h5 => ?_, fun h5 => ?_⟩
      · have h5 : goodB 2 2 (rsW z (rsN z m)) (rsM m (esBest m) (rsN z m)) = false := by simpa using h5
        have e2 : rsOk 2 2 z m = false := by rw [rsOk, h5, Bool.and_false]
        conv => whnf
        refine ⟨rfl, ?_⟩
        conv => whnf
        exact .inl ⟨e2, rfl, rfl⟩
      · have h5 : goodB 2 2 (rsW z (rsN z m)) (rsM m (esBest m) (rsN z m)) = true := by simpa using h5
        have e2 : rsOk 2 2 z m = true := by rw [rsOk, h', h5]; rfl
        conv => whnf
        refine ⟨rfl, ?_⟩
        conv => whnf
        exact .inr ⟨e2, rfl, rfl⟩
theorem RestOf_bd (x y z : Int) (m : List (List Int)) (_hx : InR x) (_hy : InR y) (_hz : InR z) (_hm : OkM m) (_km : SzM m) : (rsR x y z m).length ≤ 1048576 ∧ tot (rsR x y z m) ≤ 1048576 := by
  unfold rsR
  split
  · obtain ⟨a, _, b⟩ := (box_sz (rsNum m (esBest m) (rsN z m))).all
    exact ⟨a, b⟩
  · simp [tot]
end Go.Proofs.Ytkomndcehdneaaa
/- Boxes that are evened out: what both make, and the parts that are walked. -/
namespace Go.Aw
def revN (m : List (List Int)) (x y a b : Nat) : Int := (m.getD (x * 2 + y) []).getD (3 - (2 * a + b)) 0
def revM (m : List (List Int)) : List (List Int) := boxRows (revN m) 2 2
def eoN (m : List (List Int)) (x y a b : Nat) : Int := W ((m.getD (x * 2 + y) []).getD (2 * a + b) 0 + ((revM m).getD (x * 2 + y) []).getD (2 * a + b) 0)
def eoM (m : List (List Int)) : List (List Int) := boxRows (eoN m) 2 2
theorem sum4 (a b c d : Int) (h1 : 0 ≤ a ∧ a ≤ 2000) (h2 : 0 ≤ b ∧ b ≤ 2000) (h3 : 0 ≤ c ∧ c ≤ 2000) (h4 : 0 ≤ d ∧ d ≤ 2000) : sumF [a, b, c, d] 4 = a + b + c + d := by
  show W (W (W (W (0 + a) + b) + c) + d) = _
  have e : ∀ n : Int, 0 ≤ n → n ≤ 1000000 → W n = n := fun n h h' => w64 (by omega) (by omega)
  rw [e (0 + a) (by omega) (by omega), e (0 + a + b) (by omega) (by omega), e (0 + a + b + c) (by omega) (by omega), e (0 + a + b + c + d) (by omega) (by omega)]
  omega
theorem row4 {r : List Int} {z : Int} (hz : z ≤ 1000) (hl : r.length = 4) (hb : ∀ v, v ∈ r → 0 ≤ v ∧ v ≤ z) (hs : sumF r r.length = z) :
    ∃ a b c d : Int, r = [a, b, c, d] ∧ 0 ≤ a ∧ 0 ≤ b ∧ 0 ≤ c ∧ 0 ≤ d ∧ a + b + c + d = z := by
  match r, hl with
  | [a, b, c, d], _ =>
    have h1 := hb a (by simp)
    have h2 := hb b (by simp)
    have h3 := hb c (by simp)
    have h4 := hb d (by simp)
    have := sum4 a b c d (by omega) (by omega) (by omega) (by omega)
    exact ⟨a, b, c, d, rfl, h1.1, h2.1, h3.1, h4.1, by rw [← this]; exact hs⟩
end Go.Aw
namespace Go.Proofs.Ytkomndcehdneaaa
open Go.Aw
set_option maxRecDepth 100000
set_option maxHeartbeats 4000000

theorem rowOk_mk {a b c d z : Int} (ha : 0 ≤ a) (hb : 0 ≤ b) (hc : 0 ≤ c) (hd : 0 ≤ d) (hs : a + b + c + d = z) (hz : z ≤ 1000) : rowOk z [a, b, c, d] = true := by
  have h := sum4 a b c d (by omega) (by omega) (by omega) (by omega)
  unfold rowOk
  rw [show sumF [a, b, c, d] [a, b, c, d].length = a + b + c + d from h, hs]
  have : rowIn [a, b, c, d] 0 z = true := rowIn_iff.2 fun v hv => by
    simp only [List.mem_cons, List.not_mem_nil, or_false] at hv
    rcases hv with rfl | rfl | rfl | rfl <;> omega
  rw [this]; simp
theorem good4 {z : Int} {r0 r1 r2 r3 : List Int} (h1 : 1 ≤ z) (h2 : z ≤ 1000) (k0 : rowOk z r0 = true) (k1 : rowOk z r1 = true) (k2 : rowOk z r2 = true) (k3 : rowOk z r3 = true) : goodB 2 2 z [r0, r1, r2, r3] = true := by
  have hz : inR z 1 1000 = true := inR_iff.2 ⟨h1, h2⟩
  simp [goodB, hz, k0, k1, k2, k3]; rfl
theorem eo_good {x y z : Int} {m : List (List Int)} (h : pairB x y z m = true) : goodB 2 2 z (revM m) = true ∧ (z + z ≤ 1000 → goodB 2 2 (z + z) (eoM m) = true) := by
  obtain ⟨rfl, rfl, g1, g2, g3, g4⟩ := pairB_spec h
  match m, g3 with
  | [r0, r1, r2, r3], _ =>
    have q0 := g4 r0 (by simp)
    have q1 := g4 r1 (by simp)
    have q2 := g4 r2 (by simp)
    have q3 := g4 r3 (by simp)
    obtain ⟨a0, b0, c0, d0, rfl, u0, v0, w0, x0, s0⟩ := row4 g2 q0.1 q0.2.1 q0.2.2
    obtain ⟨a1, b1, c1, d1, rfl, u1, v1, w1, x1, s1⟩ := row4 g2 q1.1 q1.2.1 q1.2.2
    obtain ⟨a2, b2, c2, d2, rfl, u2, v2, w2, x2, s2⟩ := row4 g2 q2.1 q2.2.1 q2.2.2
    obtain ⟨a3, b3, c3, d3, rfl, u3, v3, w3, x3, s3⟩ := row4 g2 q3.1 q3.2.1 q3.2.2
    refine ⟨good4 (r0 := [d0, c0, b0, a0]) (r1 := [d1, c1, b1, a1]) (r2 := [d2, c2, b2, a2]) (r3 := [d3, c3, b3, a3]) g1 g2 (rowOk_mk x0 w0 v0 u0 (by omega) g2) (rowOk_mk x1 w1 v1 u1 (by omega) g2) (rowOk_mk x2 w2 v2 u2 (by omega) g2) (rowOk_mk x3 w3 v3 u3 (by omega) g2), fun hz => ?_⟩
    have e : ∀ n : Int, 0 ≤ n → n ≤ 1000000 → W n = n := fun n h h' => w64 (by omega) (by omega)
    have em : eoM [[a0, b0, c0, d0], [a1, b1, c1, d1], [a2, b2, c2, d2], [a3, b3, c3, d3]] = [[W (a0 + d0), W (b0 + c0), W (c0 + b0), W (d0 + a0)], [W (a1 + d1), W (b1 + c1), W (c1 + b1), W (d1 + a1)], [W (a2 + d2), W (b2 + c2), W (c2 + b2), W (d2 + a2)], [W (a3 + d3), W (b3 + c3), W (c3 + b3), W (d3 + a3)]] := rfl
    rw [em]
    refine good4 (by omega) hz ?_ ?_ ?_ ?_
    · rw [e (a0 + d0) (by omega) (by omega), e (b0 + c0) (by omega) (by omega), e (c0 + b0) (by omega) (by omega), e (d0 + a0) (by omega) (by omega)]
      exact rowOk_mk (by omega) (by omega) (by omega) (by omega) (by omega) hz
    · rw [e (a1 + d1) (by omega) (by omega), e (b1 + c1) (by omega) (by omega), e (c1 + b1) (by omega) (by omega), e (d1 + a1) (by omega) (by omega)]
      exact rowOk_mk (by omega) (by omega) (by omega) (by omega) (by omega) hz
    · rw [e (a2 + d2) (by omega) (by omega), e (b2 + c2) (by omega) (by omega), e (c2 + b2) (by omega) (by omega), e (d2 + a2) (by omega) (by omega)]
      exact rowOk_mk (by omega) (by omega) (by omega) (by omega) (by omega) hz
    · rw [e (a3 + d3) (by omega) (by omega), e (b3 + c3) (by omega) (by omega), e (c3 + b3) (by omega) (by omega), e (d3 + a3) (by omega) (by omega)]
      exact rowOk_mk (by omega) (by omega) (by omega) (by omega) (by omega) hz

theorem xor1 {a x : Nat} (ha : a < 2) (hx : x < 4) : bits .xor .i64 (a : Int) (([1, 1, 1, 1] : List Int).getD x 0) = ((1 - a : Nat) : Int) := by
  have : ∀ a : Nat, a < 2 → ∀ x : Nat, x < 4 → bits .xor .i64 (a : Int) (([1, 1, 1, 1] : List Int).getD x 0) = ((1 - a : Nat) : Int) := by decide +kernel
  exact this a ha x hx

theorem flN_spec (m : List (List Int)) (hm : m.length = 4) (h4 : ∀ r, r ∈ m → r.length = 4) (z : Int) (x y a b : Nat) (hx : x < 2) (hy : y < 2) (ha : a < 2) (hb : b < 2) :
    FSpec Try.prog 253 [.c (.int .i64 (x)), .c (.int .i64 (y)), .c (.int .i64 (a)), .c (.int .i64 (b)), .rp [.c (.int .i64 (2)), .c (.int .i64 (2)), .c (.int .i64 (z)), .t (.rows m)] 0, .rp [.t (.ints .i64 [1, 1, 1, 1])] 0] (ex (.c (.int .i64 (revN m x y a b))) []) := by
  have hr2 := h4 _ (getD_mem (d := []) (show x * 2 + y < m.length by omega))
  have e1 := xor1 (x := x) ha (by omega)
  have e2 := xor1 (x := 2 + y) hb (by omega)
  refine fspec tyOk mx Try.func253 rfl (by kernel_rfl) rfl ?_
  conv => whnf
  refine ADraw.plan tyOk mx (.q 0 (.q 1 (.q 2 (.q 3 (.q 4 (.q 5 (.q 6 (.q 7 (.q 8 (.q 9 (.q 10 (.q 11 (.q 12 (.q 13 (.q 14 (.q 15 (.q 16 (.q 17 (.last 18 (.q 19 (.done)))))))))))))))))))) : Plan) (by kernel_rfl) ?_
  conv => whnf
  refine ⟨x, rfl, (show x < 4 by omega), ?_⟩
  conv => whnf
  refine ⟨2 + y, by rw [show (2 : Int) + (y : Int) = ((2 + y : Nat) : Int) by omega]; exact w64 (by omega) (by omega), (show 2 + y < 4 by omega), ?_⟩
  conv => whnf
  rw [e1, e2]
  refine ACall.useR (at_spec 2 2 x y (1 - a) (1 - b) z m (by omega) (by omega) (by omega) (by omega)) ?_
  conv => whnf
  refine ⟨?_, rfl⟩
  rw [revN, show 3 - (2 * a + b) = 2 * (1 - a) + (1 - b) by omega]

theorem flipped_spec (m : List (List Int)) (hm : m.length = 4) (h4 : ∀ r, r ∈ m → r.length = 4) (z : Int) :
    FSpec Try.prog 222 [.ag [.c (.int .i64 (2)), .c (.int .i64 (2)), .c (.int .i64 (z)), .t (.rows m)], .t (.ints .i64 [1, 1, 1, 1])] (ex (.ag [.c (.int .i64 (2)), .c (.int .i64 (2)), .c (.int .i64 (z)), .own 0]) [(0, .rows 25 3 true (revM m))]) := by
  refine fspec tyOk mx Try.func222 rfl (by kernel_rfl) rfl ?_
  conv => whnf
  refine ACall.use (newBox_spec 2 2 z _ [.rp [.c (.int .i64 (2)), .c (.int .i64 (2)), .c (.int .i64 (z)), .t (.rows m)] 0, .rp [.t (.ints .i64 [1, 1, 1, 1])] 0] (revN m) (by omega) (by omega) (fun _ _ => rfl) rfl (fun i k' a b hi hk ha hb => flN_spec m hm h4 z i k' a b hi hk ha hb)) ?_
  conv => whnf
  exact ⟨rfl, rfl⟩

theorem eoN_spec (m : List (List Int)) (hm : m.length = 4) (h4 : ∀ r, r ∈ m → r.length = 4) (z z' : Int) (x y a b : Nat) (hx : x < 2) (hy : y < 2) (ha : a < 2) (hb : b < 2) :
    FSpec Try.prog 168 [.c (.int .i64 (x)), .c (.int .i64 (y)), .c (.int .i64 (a)), .c (.int .i64 (b)), .rp [.c (.int .i64 (2)), .c (.int .i64 (2)), .c (.int .i64 (z)), .t (.rows m)] 0, .rp [.c (.int .i64 (2)), .c (.int .i64 (2)), .c (.int .i64 (z')), .t (.rows (revM m))] 0] (ex (.c (.int .i64 (eoN m x y a b))) []) := by
  have hl : (revM m).length = 4 := boxRows_len _ 2 2
  have hr := boxRows_rows (revN m) 2 2 _ (getD_mem (d := []) (show x * 2 + y < (revM m).length by omega))
  have hr2 := h4 _ (getD_mem (d := []) (show x * 2 + y < m.length by omega))
  refine fspec tyOk mx Try.func168 rfl (by kernel_rfl) rfl ?_
  conv => whnf
  refine ADraw.plan tyOk mx (.q 0 (.q 1 (.q 2 (.q 3 (.q 4 (.q 6 (.q 7 (.q 8 (.q 9 (.q 10 (.last 5 (.last 11 (.q 12 (.q 13 (.done)))))))))))))) : Plan) (by kernel_rfl) ?_
  conv => whnf
  refine ACall.useR (at_spec 2 2 x y a b z m (by omega) (by omega) (by omega) (by omega)) ?_
  conv => whnf
  refine ACall.useR (at_spec 2 2 x y a b z' (revM m) (by omega) (by omega) (by show 2 * a + b < ((boxRows (revN m) 2 2).getD (x * 2 + y) []).length; rw [hr]; omega) (by omega)) ?_
  conv => whnf
  exact ⟨rfl, rfl⟩

theorem sameQ_spec (z z' : Int) (m m' : List (List Int)) (km : SzM m) (km' : SzM m') (h : goodB 2 2 z m = true) (h' : goodB 2 2 z' m' = true) :
    FSpec Try.prog 166 [.ag [.c (.int .i64 (2)), .c (.int .i64 (2)), .c (.int .i64 (z)), .t (.rows m)], .ag [.c (.int .i64 (2)), .c (.int .i64 (2)), .c (.int .i64 (z')), .t (.rows m')]] (ex (.c (.bool true)) []) := by
  refine fspec tyOk mx Try.func166 rfl (by kernel_rfl) rfl ?_
  conv => whnf
  refine ACall.use (IsBox_spec 2 2 z m km) ?_
  rw [h]
  conv => whnf
  first | refine ⟨fun h => absurd h (by decide), fun _ => ?_⟩ | refine ⟨fun _ => ?_, fun h => absurd h (by decide)⟩
  conv => whnf
  refine ACall.use (IsBox_spec 2 2 z' m' km') ?_
  rw [h']
  conv => whnf
  (repeat (conv => whnf); (first | refine ⟨fun h => absurd h (by decide), fun _ => ?_⟩ | refine ⟨fun _ => ?_, fun h => absurd h (by decide)⟩)); conv => whnf
  exact ⟨rfl, rfl⟩

theorem MixBoxes_no (z : Int) (m : List (List Int)) (km : SzM m) (h : pairB 2 2 z m = true) (hz : 1000 < z + z) :
    FSpec Try.prog 48 [.ag [.c (.int .i64 (2)), .c (.int .i64 (2)), .c (.int .i64 (z)), .t (.rows m)], .ag [.c (.int .i64 (2)), .c (.int .i64 (2)), .c (.int .i64 (z)), .t (.rows (revM m))]] (ex (.tu [.ag [.c (.int .i64 (0)), .c (.int .i64 (0)), .c (.int .i64 (0)), .c (.slice none 0 0)], .c (.bool false)]) []) := by
  obtain ⟨_, _, g1, g2, g3, g4⟩ := pairB_spec h
  have hg : goodB 2 2 z m = true := by simp only [pairB, Bool.and_eq_true] at h; exact h.1
  have ew : IntKind.i64.wrap (z + z) = z + z := w64 (by omega) (by omega)
  refine fspec tyOk mx Try.func48 rfl (by kernel_rfl) rfl ?_
  conv => whnf
  refine ACall.use (sameQ_spec z z m (revM m) km (box_sz _) hg (eo_good h).1) ?_
  conv => whnf
  first | refine ⟨fun h => absurd h (by decide), fun _ => ?_⟩ | refine ⟨fun _ => ?_, fun h => absurd h (by decide)⟩
  conv => whnf
  refine ⟨fun h2 => ?_, fun h2 => ?_⟩
  · conv => whnf
    exact ⟨rfl, rfl⟩
  · have h2 := of_decide_eq_false h2
    rw [ew] at h2
    omega
theorem MixBoxes_ok (z : Int) (m : List (List Int)) (km : SzM m) (h : pairB 2 2 z m = true) (hz : z + z ≤ 1000) :
    FSpec Try.prog 48 [.ag [.c (.int .i64 (2)), .c (.int .i64 (2)), .c (.int .i64 (z)), .t (.rows m)], .ag [.c (.int .i64 (2)), .c (.int .i64 (2)), .c (.int .i64 (z)), .t (.rows (revM m))]] (ex (.tu [.ag [.c (.int .i64 (2)), .c (.int .i64 (2)), .c (.int .i64 (W (z + z))), .own 0], .c (.bool true)]) [(0, .rows 25 3 true (eoM m))]) := by
  obtain ⟨_, _, g1, g2, g3, g4⟩ := pairB_spec h
  have h4 : ∀ r, r ∈ m → r.length = 4 := fun r hr => (g4 r hr).1
  have hg : goodB 2 2 z m = true := by simp only [pairB, Bool.and_eq_true] at h; exact h.1
  have ew : IntKind.i64.wrap (z + z) = z + z := w64 (by omega) (by omega)
  refine fspec tyOk mx Try.func48 rfl (by kernel_rfl) rfl ?_
  conv => whnf
  refine ACall.use (sameQ_spec z z m (revM m) km (box_sz _) hg (eo_good h).1) ?_
  conv => whnf
  first | refine ⟨fun h => absurd h (by decide), fun _ => ?_⟩ | refine ⟨fun _ => ?_, fun h => absurd h (by decide)⟩
  conv => whnf
  refine ⟨fun h2 => ?_, fun h2 => ?_⟩
  · have h2 := of_decide_eq_true h2
    rw [ew] at h2
    omega
  · conv => whnf
    refine ACall.use (newBox_spec 2 2 (W (z + z)) _ [.rp [.c (.int .i64 (2)), .c (.int .i64 (2)), .c (.int .i64 (z)), .t (.rows m)] 0, .rp [.c (.int .i64 (2)), .c (.int .i64 (2)), .c (.int .i64 (z)), .t (.rows (revM m))] 0] (eoN m) (by omega) (by omega) (fun _ _ => rfl) rfl (fun i k' a b hi hk ha hb => eoN_spec m g3 h4 z z i k' a b hi hk ha hb)) ?_
    conv => whnf
    exact ⟨rfl, rfl⟩

def eoOk (x y z : Int) (m : List (List Int)) : Bool := pairB x y z m && decide (z + z ≤ 1000)
def eoR (x y z : Int) (m : List (List Int)) : List (List Int) := if eoOk x y z m then eoM m else []
theorem EvenOut_i (x y z : Int) (m : List (List Int)) (_hx : InR x) (_hy : InR y) (_hz : InR z) (_hm : OkM m) (km : SzM m) :
    FSpec Try.prog 109 [.ag [.c (.int .i64 (x)), .c (.int .i64 (y)), .c (.int .i64 (z)), .t (.rows m)]] (ex (.tu [.ag [.c (.int .i64 (if eoOk x y z m then 2 else 0)), .c (.int .i64 (if eoOk x y z m then 2 else 0)), .c (.int .i64 (if eoOk x y z m then W (z + z) else 0)), .own 0], .c (.bool (eoOk x y z m))]) [(0, .rows 25 3 true (eoR x y z m))]) := by
  refine view_box ?_
  refine fspec tyOk mx Try.func109 rfl (by kernel_rfl) rfl ?_
  conv => whnf
  refine ACall.use (isPair_spec x y z m km) ?_
  conv => whnf
  refine ⟨fun h => ?_, fun h => ?_⟩
  · have h : pairB x y z m = false := by simpa using h
    have e : eoOk x y z m = false := by rw [eoOk, h]; rfl
    conv => whnf
    exact .inl ⟨e, rfl, rfl⟩
  · have h : pairB x y z m = true := by simpa using h
    have h' := h
    obtain ⟨rfl, rfl, g1, g2, g3, g4⟩ := pairB_spec h
    have h4 : ∀ r, r ∈ m → r.length = 4 := fun r hr => (g4 r hr).1
    by_cases hz : z + z ≤ 1000
    · have e : eoOk 2 2 z m = true := by rw [eoOk, h, decide_eq_true hz]; rfl
      conv => whnf
      refine ADraw.plan tyOk mx (.q 0 (.q 1 (.last 2 (.last 3 (.last 4 (.q 5 (.q 6 (.last 7 (.q 8 (.done))))))))) : Plan) (by kernel_rfl) ?_
      conv => whnf
      refine ACall.useR (flipped_spec m g3 h4 z) ?_
      conv => whnf
      refine ACall.useR (MixBoxes_ok z m km h hz) ?_
      conv => whnf
      repeat' (refine And.intro ?_ ?_ <;> (conv => whnf))
      all_goals exact .inr ⟨e, rfl, rfl⟩
    · have e : eoOk 2 2 z m = false := by rw [eoOk, decide_eq_false hz, Bool.and_false]
      conv => whnf
      refine ADraw.plan tyOk mx (.q 0 (.q 1 (.last 2 (.last 3 (.last 4 (.q 5 (.q 6 (.last 7 (.q 8 (.done))))))))) : Plan) (by kernel_rfl) ?_
      conv => whnf
      refine ACall.useR (flipped_spec m g3 h4 z) ?_
      conv => whnf
      refine ACall.useR (MixBoxes_no z m km h (by omega)) ?_
      conv => whnf
      repeat' (refine And.intro ?_ ?_ <;> (conv => whnf))
      all_goals exact .inl ⟨e, rfl, rfl⟩
end Go.Proofs.Ytkomndcehdneaaa
/- Signs of sums, quiet boxes of two questions each, row by row. -/
namespace Go.Proofs.Ytkomndcehdneaaa
open Go.Aw
set_option maxRecDepth 100000
set_option maxHeartbeats 4000000

theorem wS {n : Int} (h : -1000000000000 ≤ n) (h' : n ≤ 1000000000000) : W n = n := w64 (by omega) (by omega)
/-- the sign of a row in a sum -/
def sg (k x y : Nat) : Int := W (1 - W (2 * oddAt k x y))
theorem sg_pm {k x y : Nat} (hk : k < 8) (hx : x < 2) (hy : y < 2) : sg k x y = 1 ∨ sg k x y = -1 := by
  have : ∀ k : Nat, k < 8 → ∀ x : Nat, x < 2 → ∀ y : Nat, y < 2 → sg k x y = 1 ∨ sg k x y = -1 := by decide +kernel
  exact this k hk x hx y hy
theorem agr4 {a b c d : Int} (ha : -100000 ≤ a ∧ a ≤ 100000) (hb : -100000 ≤ b ∧ b ≤ 100000) (hc : -100000 ≤ c ∧ c ≤ 100000) (hd : -100000 ≤ d ∧ d ≤ 100000) : agr [a, b, c, d] = a - b - c + d := by
  show W (W (W (a - b) - c) + d) = _
  rw [wS (n := a - b) (by omega) (by omega), wS (n := a - b - c) (by omega) (by omega), wS (by omega) (by omega)]
/-- a sum, of four agreements -/
theorem esTo_eq {k : Nat} (hk : k < 8) {r0 r1 r2 r3 : List Int} {g0 g1 g2 g3 : Int} (e0 : agr r0 = g0) (e1 : agr r1 = g1) (e2 : agr r2 = g2) (e3 : agr r3 = g3)
    (h0 : -400000 ≤ g0 ∧ g0 ≤ 400000) (h1 : -400000 ≤ g1 ∧ g1 ≤ 400000) (h2 : -400000 ≤ g2 ∧ g2 ≤ 400000) (h3 : -400000 ≤ g3 ∧ g3 ≤ 400000) :
    esTo k [r0, r1, r2, r3] 2 = sg k 0 0 * g0 + sg k 0 1 * g1 + sg k 1 0 * g2 + sg k 1 1 * g3 := by
  show W (W (W (W (0 + W (agr r0 * sg k 0 0)) + W (agr r1 * sg k 0 1)) + W (agr r2 * sg k 1 0)) + W (agr r3 * sg k 1 1)) = _
  rw [e0, e1, e2, e3]
  have s0 := sg_pm hk (x := 0) (y := 0) (by omega) (by omega)
  have s1 := sg_pm hk (x := 0) (y := 1) (by omega) (by omega)
  have s2 := sg_pm hk (x := 1) (y := 0) (by omega) (by omega)
  have s3 := sg_pm hk (x := 1) (y := 1) (by omega) (by omega)
  generalize sg k 0 0 = t0 at *
  generalize sg k 0 1 = t1 at *
  generalize sg k 1 0 = t2 at *
  generalize sg k 1 1 = t3 at *
  have p0 : -400000 ≤ t0 * g0 ∧ t0 * g0 ≤ 400000 := by rcases s0 with rfl | rfl <;> omega
  have p1 : -400000 ≤ t1 * g1 ∧ t1 * g1 ≤ 400000 := by rcases s1 with rfl | rfl <;> omega
  have p2 : -400000 ≤ t2 * g2 ∧ t2 * g2 ≤ 400000 := by rcases s2 with rfl | rfl <;> omega
  have p3 : -400000 ≤ t3 * g3 ∧ t3 * g3 ≤ 400000 := by rcases s3 with rfl | rfl <;> omega
  rw [Int.mul_comm g0, Int.mul_comm g1, Int.mul_comm g2, Int.mul_comm g3]
  rw [wS (n := t0 * g0) (by omega) (by omega), wS (n := t1 * g1) (by omega) (by omega), wS (n := t2 * g2) (by omega) (by omega), wS (n := t3 * g3) (by omega) (by omega)]
  rw [wS (n := 0 + t0 * g0) (by omega) (by omega), wS (n := 0 + t0 * g0 + t1 * g1) (by omega) (by omega), wS (n := 0 + t0 * g0 + t1 * g1 + t2 * g2) (by omega) (by omega), wS (by omega) (by omega)]
  omega
theorem esL_get {m : List (List Int)} {k : Nat} (hk : k < 8) : (esL m).getD k 0 = esTo k m 2 := range_getD hk

def eqSg (k x y : Nat) : Bool := (sg k x y == 1 && eqNum k x y 0 0 == 1 && eqNum k x y 0 1 == 0 && eqNum k x y 1 0 == 0 && eqNum k x y 1 1 == 1) || (sg k x y == -1 && eqNum k x y 0 0 == 0 && eqNum k x y 0 1 == 1 && eqNum k x y 1 0 == 1 && eqNum k x y 1 1 == 0)
theorem eq_sg {k x y : Nat} (hk : k < 8) (hx : x < 2) (hy : y < 2) : (sg k x y = 1 ∧ eqNum k x y 0 0 = 1 ∧ eqNum k x y 0 1 = 0 ∧ eqNum k x y 1 0 = 0 ∧ eqNum k x y 1 1 = 1) ∨
      (sg k x y = -1 ∧ eqNum k x y 0 0 = 0 ∧ eqNum k x y 0 1 = 1 ∧ eqNum k x y 1 0 = 1 ∧ eqNum k x y 1 1 = 0) := by
  have : ∀ k : Nat, k < 8 → ∀ x : Nat, x < 2 → ∀ y : Nat, y < 2 → eqSg k x y = true := by decide +kernel
  have h := this k hk x hx y hy
  simp only [eqSg, Bool.or_eq_true, Bool.and_eq_true, beq_iff_eq] at h
  rcases h with ⟨⟨⟨⟨a, b⟩, c⟩, d⟩, e⟩ | ⟨⟨⟨⟨a, b⟩, c⟩, d⟩, e⟩
  · exact .inl ⟨a, b, c, d, e⟩
  · exact .inr ⟨a, b, c, d, e⟩
theorem quiet_2 (a b c d : List Int) : quietF 2 2 [a, b, c, d] = (((one0 b == one0 a)) && ((one0 d == one0 c)) && (((one1 c == one1 a)) && ((one1 d == one1 b)))) := by
  simp [quietF, q0r, q1r, q0, q1, List.range_succ]
theorem bIx_ge (f : Nat → Int) : ∀ n k, k ≤ n → f k ≤ f (bIx f n)
  | 0, k, h => by
    obtain rfl : k = 0 := by omega
    exact Int.le_refl _
  | n + 1, k, h => by
    rw [bIx]
    split
    · rename_i hg
      by_cases hk : k = n + 1
      · subst hk; omega
      · have := bIx_ge f n k (by omega); omega
    · rename_i hg
      by_cases hk : k = n + 1
      · subst hk; omega
      · exact bIx_ge f n k (by omega)
end Go.Proofs.Ytkomndcehdneaaa
/- Boxes of any sizes that are mixed: reference and program. -/
namespace Go.Aw
/-- a table of four columns -/
def gridR (G : Nat → Nat → Int) (p : Nat) : List Int := (List.range 4).map (G p)
def grid (n : Nat) (G : Nat → Nat → Int) : List (List Int) := (List.range n).map (gridR G)
theorem grid_len (n : Nat) (G : Nat → Nat → Int) : (grid n G).length = n := by simp [grid]
theorem grid_rows {n : Nat} {G : Nat → Nat → Int} : ∀ r, r ∈ grid n G → r.length = 4 := fun r hr => by
  obtain ⟨p, _, rfl⟩ := List.mem_map.1 hr
  simp [gridR]
theorem grid_get {n : Nat} {G : Nat → Nat → Int} {p q : Nat} (hp : p < n) (hq : q < 4) : ((grid n G).getD p []).getD q 0 = G p q := by
  rw [grid, range_getD hp, gridR, range_getD hq]
theorem grid_row {n : Nat} {G : Nat → Nat → Int} {p : Nat} (hp : p < n) : (grid n G).getD p [] = [G p 0, G p 1, G p 2, G p 3] := by
  rw [grid, range_getD hp]; rfl
theorem grid_congr {n : Nat} {F G : Nat → Nat → Int} (h : ∀ p q, p < n → q < 4 → F p q = G p q) : grid n F = grid n G :=
  List.map_congr_left fun p hp => List.map_congr_left fun q hq => h p q (List.mem_range.1 hp) (List.mem_range.1 hq)
theorem grid_eta {m : List (List Int)} (hr : ∀ r, r ∈ m → r.length = 4) : grid m.length (fun p q => (m.getD p []).getD q 0) = m := by
  refine List.ext_getElem (by rw [grid_len]) (fun p h1 h2 => ?_)
  have hp : p < m.length := h2
  have e1 : (grid m.length (fun p q => (m.getD p []).getD q 0))[p] = (grid m.length (fun p q => (m.getD p []).getD q 0)).getD p [] := by rw [List.getD_eq_getElem?_getD, List.getElem?_eq_getElem h1]; rfl
  have e2 : m.getD p [] = m[p] := by rw [List.getD_eq_getElem?_getD, List.getElem?_eq_getElem hp]; rfl
  rw [e1, grid_row hp, e2]
  match m[p], hr _ (List.getElem_mem hp) with
  | [a, b, c, d], _ => rfl
/-- rows by questions and answers -/
theorem box_grid (nx ny : Nat) (G : Nat → Nat → Int) : boxRows (fun x y a b => G (x * ny + y) (2 * a + b)) nx ny = grid (nx * ny) G := by
  have row : ∀ x y, boxRow (fun x y a b => G (x * ny + y) (2 * a + b)) x y = gridR G (x * ny + y) := fun x y => rfl
  induction nx with
  | zero => simp [boxRows, grid]
  | succ n ih =>
    have e : boxRows (fun x y a b => G (x * ny + y) (2 * a + b)) (n + 1) ny = boxRows (fun x y a b => G (x * ny + y) (2 * a + b)) n ny ++ (List.range ny).map (boxRow (fun x y a b => G (x * ny + y) (2 * a + b)) n) := by
      simp [boxRows, List.range_succ]
    rw [e, ih, Nat.succ_mul]
    unfold grid
    rw [List.range_add, List.map_append, List.map_map]
    rfl
def mxN (m m' : List (List Int)) (p q : Nat) : Int := W ((m.getD p []).getD q 0 + (m'.getD p []).getD q 0)
end Go.Aw
namespace Go.Proofs.Ytkomndcehdneaaa
open Go.Aw
set_option maxRecDepth 100000
set_option maxHeartbeats 4000000

theorem grid_sz {n : Nat} (h : n ≤ 9) (G : Nat → Nat → Int) : SzM (grid n G) := by
  have k1 := tot_le_mul (m := grid n G) (n := 4) (fun r hr => by rw [grid_rows r hr]; omega)
  rw [grid_len] at k1
  have : n * 4 ≤ 9 * 4 := Nat.mul_le_mul_right 4 h
  unfold SzM; rw [grid_len]; omega
theorem l2MixG_spec (x y z z' : Int) (m m' : List (List Int)) (N : Nat) (hN : N ≤ 1000) (hm : m.length = N) (h4 : ∀ r, r ∈ m → r.length = 4) (hm' : m'.length = N) (h4' : ∀ r, r ∈ m' → r.length = 4) (x' y' : Int) :
    FSpec Try.prog 172 [.ag [.c (.int .i64 (x)), .c (.int .i64 (y)), .c (.int .i64 (z)), .t (.rows m)], .ag [.c (.int .i64 (x')), .c (.int .i64 (y')), .c (.int .i64 (z')), .t (.rows m')]] (ex (.ag [.c (.int .i64 (x)), .c (.int .i64 (y)), .c (.int .i64 (W (z + z'))), .own 0]) [(0, .rows 25 3 true (grid N (mxN m m')))]) := by
  refine fspec tyOk mx Try.func172 rfl (by kernel_rfl) rfl ?_
  conv => whnf
  refine aloopI tyOk mx (fun i : Nat => (⟨59, [(2, .ptr 0 0), (3, .ptr 1 0), (4, .ptr 2 0), (5, .ptr 4 0), (6, .c (.int .i64 (i)))], [(0, .cells 53 [.c (.int .i64 (x)), .c (.int .i64 (y)), .c (.int .i64 (z)), .t (.rows m)]), (1, .cells 53 [.c (.int .i64 (x')), .c (.int .i64 (y')), .c (.int .i64 (z')), .t (.rows m')]), (2, .cells 53 [.c (.int .i64 (0)), .c (.int .i64 (0)), .c (.int .i64 (0)), .c (.slice none 0 0)]), (3, .rows 25 3 true ((List.range i).map (gridR (mxN m m')))), (4, .cells 53 [.c (.int .i64 (x)), .c (.int .i64 (y)), .c (.int .i64 (W (z + z'))), .own 3])], 5⟩ : St)) (fun i => i ≤ N) (fun i => N - i) 0 (Nat.zero_le _) none (by refine ⟨rfl, rfl, ?_, ?_⟩ <;> ((repeat' (first | exact trivial | exact rfl | refine And.intro ?_ ?_)) <;> (try ((conv => whnf); first | refine vint ?_ | refine vboo ?_ | refine rint ?_ | refine rrow ?_ | skip)) <;> (try first | omega | (simp; done) | ((repeat rw [flts_closed _ (by assumption)]); exact vws_closed _ (by assumption))))) (fun i hi => ?_)
  refine ⟨fun h => ?_, fun h => ?_⟩
  · have h : i < N := by have := ltT h; omega
    have r1 := h4 _ (getD_mem (d := []) (k := i) (by omega))
    have r2 := h4' _ (getD_mem (d := []) (k := i) (by omega))
    conv => whnf
    refine aloopI tyOk mx (fun n : Nat => (⟨59, [(2, .ptr 0 0), (3, .ptr 1 0), (4, .ptr 2 0), (5, .ptr 4 0), (6, .c (.int .i64 (i))), (7, .own 5), (8, .c (.int .i64 (n)))], [(0, .cells 53 [.c (.int .i64 (x)), .c (.int .i64 (y)), .c (.int .i64 (z)), .t (.rows m)]), (1, .cells 53 [.c (.int .i64 (x')), .c (.int .i64 (y')), .c (.int .i64 (z')), .t (.rows m')]), (2, .cells 53 [.c (.int .i64 (0)), .c (.int .i64 (0)), .c (.int .i64 (0)), .c (.slice none 0 0)]), (3, .rows 25 3 true ((List.range i).map (gridR (mxN m m')))), (4, .cells 53 [.c (.int .i64 (x)), .c (.int .i64 (y)), .c (.int .i64 (W (z + z'))), .own 3]), (5, .ints 3 .i64 ((List.range n).map (mxN m m' i)))], 6⟩ : St)) (fun n => n ≤ 4) (fun n => 4 - n) 0 (Nat.zero_le _) none (by refine ⟨rfl, rfl, ?_, ?_⟩ <;> ((repeat' (first | exact trivial | exact rfl | refine And.intro ?_ ?_)) <;> (try ((conv => whnf); first | refine vint ?_ | refine vboo ?_ | refine rint ?_ | refine rrow ?_ | skip)) <;> (try first | omega | (simp; done) | ((repeat rw [flts_closed _ (by assumption)]); exact vws_closed _ (by assumption))))) (fun n hn => ?_)
    refine ⟨fun h5 => ?_, fun h5 => ?_⟩
    · have h5 : n < 4 := by have := of_decide_eq_true h5; omega
      refine ADraw.plan tyOk mx (.q 0 (.q 1 (.q 2 (.q 3 (.q 4 (.q 5 (.q 6 (.q 7 (.q 8 (.q 9 (.q 10 (.q 11 (.q 12 (.q 13 (.q 14 (.q 15 (.q 16 (.q 17 (.last 18 (.last 19 (.q 20 (.done))))))))))))))))))))) : Plan) (by kernel_rfl) ?_
      conv => whnf
      refine ⟨i, rfl, by omega, n, rfl, by omega, i, rfl, by omega, n, rfl, by omega, ?_⟩
      conv => whnf
      refine ⟨by simp [room]; omega, ?_⟩
      conv => whnf
      rw [nat_wrap (by omega)]
      refine ⟨n + 1, none, ?_, by omega, by omega⟩
      (refine ⟨rfl, rfl, ?_, ?_⟩ <;> ((repeat' (first | exact trivial | exact rfl | refine And.intro ?_ ?_)) <;> (try ((conv => whnf); first | refine vint ?_ | refine vboo ?_ | refine rint ?_ | refine rrow ?_ | skip)) <;> (try first | omega | (simp; done) | ((repeat rw [flts_closed _ (by assumption)]); exact vws_closed _ (by assumption)))))
      rw [← map_range_succ]; rfl
    · have h5 : ¬ n < 4 := by have := of_decide_eq_false h5; omega
      obtain rfl : n = 4 := by omega
      conv => whnf
      refine ⟨by simp [room]; omega, ?_⟩
      conv => whnf
      rw [nat_wrap (by omega)]
      refine ⟨i + 1, none, ?_, by omega, by omega⟩
      (refine ⟨rfl, rfl, ?_, ?_⟩ <;> ((repeat' (first | exact trivial | exact rfl | refine And.intro ?_ ?_)) <;> (try ((conv => whnf); first | refine vint ?_ | refine vboo ?_ | refine rint ?_ | refine rrow ?_ | skip)) <;> (try first | omega | (simp; done) | ((repeat rw [flts_closed _ (by assumption)]); exact vws_closed _ (by assumption)))))
      exact map_range_succ (gridR (mxN m m')) i
  · have h : ¬ i < N := by have := ltF h; omega
    obtain rfl : i = N := by omega
    conv => whnf
    exact ⟨rfl, rfl⟩
/-- four numbers of at least 0 with a sum -/
theorem row4g {r : List Int} {z : Int} (h : rowOk z r = true) (hz : z ≤ 1000) : ∃ a b c d : Int, r = [a, b, c, d] ∧ 0 ≤ a ∧ 0 ≤ b ∧ 0 ≤ c ∧ 0 ≤ d ∧ a + b + c + d = z := by
  simp only [rowOk, Bool.and_eq_true, decide_eq_true_eq] at h
  obtain ⟨⟨h1, h2⟩, h3⟩ := h
  exact row4 hz h1 (fun v hv => rowIn_iff.1 h2 v hv) h3
/-- the mixture of good boxes is good, where it is not too great -/
theorem mx_good {x y z z' : Int} {m m' : List (List Int)} (h : goodB x y z m = true) (h' : goodB x y z' m' = true) (hz : z + z' ≤ 1000) : goodB x y (z + z') (grid m.length (mxN m m')) = true := by
  have h0 := h; have h0' := h'
  simp only [goodB, Bool.and_eq_true, decide_eq_true_eq, List.all_eq_true] at h h'
  obtain ⟨⟨⟨h1, h2⟩, h3⟩, h4⟩ := h
  obtain ⟨⟨⟨h1', h2'⟩, h3'⟩, h4'⟩ := h'
  have z1 := inR_iff.1 h2; have z2 := inR_iff.1 h2'
  simp only [goodB, Bool.and_eq_true, decide_eq_true_eq, List.all_eq_true]
  refine ⟨⟨⟨h1, inR_iff.2 (by omega)⟩, by rw [grid_len]; exact h3⟩, fun r hr => ?_⟩
  obtain ⟨p, hp, rfl⟩ := List.mem_map.1 hr
  have hp := List.mem_range.1 hp
  have hp' : p < m'.length := by omega
  obtain ⟨a, b, c, d, e, ha, hb, hc, hd, hs⟩ := row4g (h4 _ (getD_mem (d := []) hp)) z1.2
  obtain ⟨a', b', c', d', e', ha', hb', hc', hd', hs'⟩ := row4g (h4' _ (getD_mem (d := []) hp')) z2.2
  have eR : gridR (mxN m m') p = [W (a + a'), W (b + b'), W (c + c'), W (d + d')] := by
    show [mxN m m' p 0, mxN m m' p 1, mxN m m' p 2, mxN m m' p 3] = _
    unfold mxN
    rw [e, e']; rfl
  rw [eR, wS (n := a + a') (by omega) (by omega), wS (n := b + b') (by omega) (by omega), wS (n := c + c') (by omega) (by omega), wS (n := d + d') (by omega) (by omega)]
  exact rowOk_mk (by omega) (by omega) (by omega) (by omega) (by omega) hz

def mbOk (x y z : Int) (m : List (List Int)) (x' y' z' : Int) (m' : List (List Int)) : Bool := sqB x y z m x' y' z' m' && decide (z + z' ≤ 1000)
def mbR (x y z : Int) (m : List (List Int)) (x' y' z' : Int) (m' : List (List Int)) : List (List Int) := if mbOk x y z m x' y' z' m' then grid m.length (mxN m m') else []
theorem mxN_spec (nx ny : Nat) (z z' : Int) (m m' : List (List Int)) (hm : m.length = nx * ny) (hn : nx * ny ≤ 9) (h4 : ∀ r, r ∈ m → r.length = 4) (hm' : m'.length = nx * ny) (h4' : ∀ r, r ∈ m' → r.length = 4) (x y a b : Nat) (hx : x < nx) (hy : y < ny) (ha : a < 2) (hb : b < 2) :
    FSpec Try.prog 168 [.c (.int .i64 (x)), .c (.int .i64 (y)), .c (.int .i64 (a)), .c (.int .i64 (b)), .rp [.c (.int .i64 (nx)), .c (.int .i64 (ny)), .c (.int .i64 (z)), .t (.rows m)] 0, .rp [.c (.int .i64 (nx)), .c (.int .i64 (ny)), .c (.int .i64 (z')), .t (.rows m')] 0] (ex (.c (.int .i64 (mxN m m' (x * ny + y) (2 * a + b)))) []) := by
  have hix := ix_lt hx hy
  have hr := h4' _ (getD_mem (d := []) (show x * ny + y < m'.length by omega))
  have hr2 := h4 _ (getD_mem (d := []) (show x * ny + y < m.length by omega))
  refine fspec tyOk mx Try.func168 rfl (by kernel_rfl) rfl ?_
  conv => whnf
  refine ADraw.plan tyOk mx (.q 0 (.q 1 (.q 2 (.q 3 (.q 4 (.q 6 (.q 7 (.q 8 (.q 9 (.q 10 (.last 5 (.last 11 (.q 12 (.q 13 (.done)))))))))))))) : Plan) (by kernel_rfl) ?_
  conv => whnf
  refine ACall.useR (at_spec nx ny x y a b z m (by omega) (by omega) (by omega) (by omega)) ?_
  conv => whnf
  refine ACall.useR (at_spec nx ny x y a b z' m' (by omega) (by omega) (by omega) (by omega)) ?_
  conv => whnf
  exact ⟨rfl, rfl⟩
theorem MixBoxes_i (x y z : Int) (m : List (List Int)) (x' y' z' : Int) (m' : List (List Int)) (km : SzM m) (km' : SzM m') :
    FSpec Try.prog 48 [.ag [.c (.int .i64 (x)), .c (.int .i64 (y)), .c (.int .i64 (z)), .t (.rows m)], .ag [.c (.int .i64 (x')), .c (.int .i64 (y')), .c (.int .i64 (z')), .t (.rows m')]]
      (ex (.tu [.ag [.c (.int .i64 (if mbOk x y z m x' y' z' m' then x else 0)), .c (.int .i64 (if mbOk x y z m x' y' z' m' then y else 0)), .c (.int .i64 (if mbOk x y z m x' y' z' m' then z + z' else 0)), .own 0], .c (.bool (mbOk x y z m x' y' z' m'))]) [(0, .rows 25 3 true (mbR x y z m x' y' z' m'))]) := by
  refine view_box ?_
  refine fspec tyOk mx Try.func48 rfl (by kernel_rfl) rfl ?_
  conv => whnf
  refine ACall.use (sameQuestions_spec x y z m x' y' z' m' km km') ?_
  conv => whnf
  refine ⟨fun h => ?_, fun h => ?_⟩
  · have h : sqB x y z m x' y' z' m' = true := by simpa using h
    obtain ⟨h1, h2, e1, e2⟩ := sqB_spec h
    subst e1 e2
    obtain ⟨a, b, ea, eb, _, a3, _, b3, z1, z3, l1, c1, r1⟩ := goodB_spec h1
    obtain ⟨a', b', ea', eb', _, _, _, _, z1', z3', l2, c2, r2⟩ := goodB_spec h2
    have ha : a = a' := by omega
    have hb : b = b' := by omega
    subst ha hb
    subst ea eb
    have ew : IntKind.i64.wrap (z + z') = z + z' := w64 (by omega) (by omega)
    conv => whnf
    rw [ew]
    refine ⟨fun h3 => ?_, fun h3 => ?_⟩
    · have h3 := of_decide_eq_true h3
      have e : mbOk a b z m a b z' m' = false := by rw [mbOk, h, decide_eq_false (by omega)]; rfl
      conv => whnf
      exact .inl ⟨e, rfl, rfl⟩
    · have h3 := of_decide_eq_false h3
      have e : mbOk a b z m a b z' m' = true := by rw [mbOk, h, decide_eq_true (by omega)]; rfl
      conv => whnf
      rw [ew]
      refine ACall.use (newBox_spec a b (z + z') _ [.rp [.c (.int .i64 (a)), .c (.int .i64 (b)), .c (.int .i64 (z)), .t (.rows m)] 0, .rp [.c (.int .i64 (a)), .c (.int .i64 (b)), .c (.int .i64 (z')), .t (.rows m')] 0] (fun x y a' b' => mxN m m' (x * b + y) (2 * a' + b')) (by omega) (by omega) (fun _ _ => rfl) rfl (fun i k' a' b' hi hk ha hb => mxN_spec a b z z' m m' l1 c1 (fun r hr => (r1 r hr).1) l2 (fun r hr => (r2 r hr).1) i k' a' b' hi hk ha hb)) ?_
      rw [box_grid, ← l1]
      conv => whnf
      exact .inr ⟨e, rfl, rfl⟩
  · have h : sqB x y z m x' y' z' m' = false := by simpa using h
    have e : mbOk x y z m x' y' z' m' = false := by rw [mbOk, h]; rfl
    (repeat (conv => whnf); (first | refine ⟨fun h => absurd h (by decide), fun _ => ?_⟩ | refine ⟨fun _ => ?_, fun h => absurd h (by decide)⟩)); conv => whnf
    exact .inl ⟨e, rfl, rfl⟩
theorem l2Same_spec (x y z : Int) (m : List (List Int)) (x' y' z' : Int) (m' : List (List Int)) (km : SzM m) (km' : SzM m') :
    FSpec Try.prog 170 [.ag [.c (.int .i64 (x)), .c (.int .i64 (y)), .c (.int .i64 (z)), .t (.rows m)], .ag [.c (.int .i64 (x')), .c (.int .i64 (y')), .c (.int .i64 (z')), .t (.rows m')]] (ex (.c (.bool (sqB x y z m x' y' z' m'))) []) := by
  refine fspec tyOk mx Try.func170 rfl (by kernel_rfl) rfl ?_
  conv => whnf
  refine ACall.use (l2Box_spec x y z m km) ?_
  conv => whnf
  refine ⟨fun h => ?_, fun h => ?_⟩
  · conv => whnf
    refine ACall.use (l2Box_spec x' y' z' m' km') ?_
    conv => whnf
    refine ⟨fun h2 => ?_, fun h2 => ?_⟩
    · conv => whnf
      refine ⟨fun h3 => ?_, fun h3 => ?_⟩
      · conv => whnf
        have e : x = x' := by simpa using h3
        refine ⟨?_, rfl⟩
        rw [sqB, h, h2, decide_eq_true e]
        by_cases hy : y = y'
        · rw [decide_eq_true hy]; simp [hy]
        · rw [decide_eq_false hy]; simp [hy]
      · conv => whnf
        have e : ¬ x = x' := by simpa using h3
        exact ⟨by rw [sqB, decide_eq_false e, Bool.false_and, Bool.and_false, Bool.and_false], rfl⟩
    · (repeat (conv => whnf); (first | refine ⟨fun h => absurd h (by decide), fun _ => ?_⟩ | refine ⟨fun _ => ?_, fun h => absurd h (by decide)⟩)); conv => whnf
      exact ⟨by rw [sqB, h2, Bool.false_and, Bool.and_false], rfl⟩
  · (repeat (conv => whnf); (first | refine ⟨fun h => absurd h (by decide), fun _ => ?_⟩ | refine ⟨fun _ => ?_, fun h => absurd h (by decide)⟩)); conv => whnf
    exact ⟨by rw [sqB, h, Bool.false_and], rfl⟩
theorem MixBoxes_s (x y z : Int) (m : List (List Int)) (x' y' z' : Int) (m' : List (List Int)) (km : SzM m) (km' : SzM m') :
    FSpec Try.prog 49 [.ag [.c (.int .i64 (x)), .c (.int .i64 (y)), .c (.int .i64 (z)), .t (.rows m)], .ag [.c (.int .i64 (x')), .c (.int .i64 (y')), .c (.int .i64 (z')), .t (.rows m')]]
      (ex (.tu [.ag [.c (.int .i64 (if mbOk x y z m x' y' z' m' then x else 0)), .c (.int .i64 (if mbOk x y z m x' y' z' m' then y else 0)), .c (.int .i64 (if mbOk x y z m x' y' z' m' then z + z' else 0)), .own 0], .c (.bool (mbOk x y z m x' y' z' m'))]) [(0, .rows 25 3 true (mbR x y z m x' y' z' m'))]) := by
  refine view_box ?_
  refine fspec tyOk mx Try.func49 rfl (by kernel_rfl) rfl ?_
  conv => whnf
  refine ACall.use (l2Same_spec x y z m x' y' z' m' km km') ?_
  conv => whnf
  refine ⟨fun h => ?_, fun h => ?_⟩
  · have h : sqB x y z m x' y' z' m' = false := by simpa using h
    have e : mbOk x y z m x' y' z' m' = false := by rw [mbOk, h]; rfl
    conv => whnf
    exact .inl ⟨e, rfl, rfl⟩
  · have h : sqB x y z m x' y' z' m' = true := by simpa using h
    obtain ⟨h1, h2, e1, e2⟩ := sqB_spec h
    subst e1 e2
    obtain ⟨a, b, ea, eb, _, a3, _, b3, z1, z3, l1, c1, r1⟩ := goodB_spec h1
    obtain ⟨a', b', ea', eb', _, _, _, _, z1', z3', l2, c2, r2⟩ := goodB_spec h2
    have ew : W (z + z') = z + z' := w64 (by omega) (by omega)
    have el : m'.length = m.length := by
      have e3 : a = a' := by omega
      have e4 : b = b' := by omega
      subst e3 e4
      omega
    conv => whnf
    refine ACall.use (l2MixG_spec x y z z' m m' m.length (by omega) rfl (fun r hr => (r1 r hr).1) el (fun r hr => (r2 r hr).1) x y) ?_
    rw [ew]
    conv => whnf
    refine ACallS.inline tyOk mx Try.func171 rfl (by kernel_rfl) rfl ?_
    conv => whnf
    refine ACall.use (l2Box_spec x y (z + z') (grid m.length (mxN m m')) (grid_sz (by omega) _)) ?_
    conv => whnf
    refine ⟨fun h5 => ?_, fun h5 => ?_⟩
    · have h5 : goodB x y (z + z') (grid m.length (mxN m m')) = false := by simpa using h5
      have hz : ¬ z + z' ≤ 1000 := fun hz => by rw [mx_good h1 h2 hz] at h5; cases h5
      have e : mbOk x y z m x y z' m' = false := by rw [mbOk, h, decide_eq_false hz]; rfl
      conv => whnf
      refine ⟨rfl, ?_⟩
      conv => whnf
      exact .inl ⟨e, rfl, rfl⟩
    · have h5 : goodB x y (z + z') (grid m.length (mxN m m')) = true := by simpa using h5
      have hz : z + z' ≤ 1000 := by
        obtain ⟨_, _, _, _, _, _, _, _, _, h8, _⟩ := goodB_spec h5
        exact h8
      have e : mbOk x y z m x y z' m' = true := by rw [mbOk, h, decide_eq_true hz]; rfl
      conv => whnf
      refine ⟨rfl, ?_⟩
      conv => whnf
      exact .inr ⟨e, rfl, rfl⟩
end Go.Proofs.Ytkomndcehdneaaa
/- Boxes of any sizes, scaled: reference and program. -/
namespace Go.Aw
def scN (k : Int) (m : List (List Int)) (p q : Nat) : Int := W (k * (m.getD p []).getD q 0)
theorem timesG_get {M : List (List Int)} (hr : ∀ r, r ∈ M → r.length = 4) (k d : Int) {p q : Nat} (hp : p < M.length) (hq : q < 4) : ((timesL M k d).getD p []).getD q 0 = W (Int.tdiv (W ((M.getD p []).getD q 0 * k)) d) := by
  have hm : M.getD p [] ∈ M := by rw [List.getD_eq_getElem?_getD, List.getElem?_eq_getElem (by omega)]; exact List.getElem_mem _
  rw [timesL, map_getD (d := []) (by omega), timesR, map_getD (d := 0) (by rw [hr _ hm]; omega)]
theorem timesG {M : List (List Int)} (hr : ∀ r, r ∈ M → r.length = 4) (k d : Int) : timesL M k d = grid M.length (fun p q => W (Int.tdiv (W ((M.getD p []).getD q 0 * k)) d)) := by
  rw [← grid_eta (m := timesL M k d) (fun r hc => by
    obtain ⟨c, hc', rfl⟩ := List.mem_map.1 hc
    rw [timesR, List.length_map]; exact hr c hc'), timesL_len]
  exact grid_congr fun p q hp hq => timesG_get hr k d hp hq
theorem times_sc {M : List (List Int)} (hr : ∀ r, r ∈ M → r.length = 4) (k : Int) : timesL M k 1 = grid M.length (scN k M) := by
  rw [timesG hr]
  exact grid_congr fun p q _ _ => by rw [tdiv_one, WW, Int.mul_comm]; rfl
end Go.Aw
namespace Go.Proofs.Ytkomndcehdneaaa
open Go.Aw
set_option maxRecDepth 100000
set_option maxHeartbeats 4000000
def skOk (x y z : Int) (m : List (List Int)) (k : Int) : Bool := goodB x y z m && inR k 1 1000 && decide (k * z ≤ 1000)
def skR (x y z : Int) (m : List (List Int)) (k : Int) : List (List Int) := if skOk x y z m k then grid m.length (scN k m) else []
/-- a scaled good box is good, where it is not too great -/
theorem sc_good {x y z k : Int} {m : List (List Int)} (h : goodB x y z m = true) (hk : 1 ≤ k) (hz : k * z ≤ 1000) : goodB x y (k * z) (grid m.length (scN k m)) = true := by
  have h0 := h
  simp only [goodB, Bool.and_eq_true, decide_eq_true_eq, List.all_eq_true] at h
  obtain ⟨⟨⟨h1, h2⟩, h3⟩, h4⟩ := h
  have z1 := inR_iff.1 h2
  have k1 : z ≤ k * z := by
    have := Int.mul_le_mul_of_nonneg_right (a := 1) (b := k) (c := z) hk (by omega)
    omega
  simp only [goodB, Bool.and_eq_true, decide_eq_true_eq, List.all_eq_true]
  refine ⟨⟨⟨h1, inR_iff.2 (by omega)⟩, by rw [grid_len]; exact h3⟩, fun r hr => ?_⟩
  obtain ⟨p, hp, rfl⟩ := List.mem_map.1 hr
  have hp := List.mem_range.1 hp
  obtain ⟨a, b, c, d, e, ha, hb, hc, hd, hs⟩ := row4g (h4 _ (getD_mem (d := []) hp)) z1.2
  have eR : gridR (scN k m) p = [W (k * a), W (k * b), W (k * c), W (k * d)] := by
    show [scN k m p 0, scN k m p 1, scN k m p 2, scN k m p 3] = _
    unfold scN
    rw [e]; rfl
  have qa := Int.mul_nonneg (a := k) (by omega) ha
  have qb := Int.mul_nonneg (a := k) (by omega) hb
  have qc := Int.mul_nonneg (a := k) (by omega) hc
  have qd := Int.mul_nonneg (a := k) (by omega) hd
  have qs : k * a + k * b + k * c + k * d = k * z := by rw [← hs]; simp only [Int.mul_add]
  rw [eR, wS (n := k * a) (by omega) (by omega), wS (n := k * b) (by omega) (by omega), wS (n := k * c) (by omega) (by omega), wS (n := k * d) (by omega) (by omega)]
  exact rowOk_mk (by omega) (by omega) (by omega) (by omega) (by omega) hz
theorem sc_bd {k z : Int} (h1 : 1 ≤ k) (h2 : k ≤ 1000) (h3 : 1 ≤ z) (h4 : z ≤ 1000) : 1 ≤ k * z ∧ k * z ≤ 1000000 := by
  have a := Int.mul_le_mul h2 h4 (by omega) (by omega : (0 : Int) ≤ 1000)
  have b := Int.mul_le_mul h1 h3 (by omega) (by omega : (0 : Int) ≤ k)
  omega
theorem scN_spec (nx ny : Nat) (z k : Int) (m : List (List Int)) (hm : m.length = nx * ny) (hn : nx * ny ≤ 9) (h4 : ∀ r, r ∈ m → r.length = 4) (x y a b : Nat) (hx : x < nx) (hy : y < ny) (ha : a < 2) (hb : b < 2) :
    FSpec Try.prog 173 [.c (.int .i64 (x)), .c (.int .i64 (y)), .c (.int .i64 (a)), .c (.int .i64 (b)), .rp [.c (.int .i64 (k))] 0, .rp [.c (.int .i64 (nx)), .c (.int .i64 (ny)), .c (.int .i64 (z)), .t (.rows m)] 0] (ex (.c (.int .i64 (scN k m (x * ny + y) (2 * a + b)))) []) := by
  have hix := ix_lt hx hy
  have hr2 := h4 _ (getD_mem (d := []) (show x * ny + y < m.length by omega))
  refine fspec tyOk mx Try.func173 rfl (by kernel_rfl) rfl ?_
  conv => whnf
  refine ADraw.plan tyOk mx (.q 0 (.q 1 (.q 2 (.q 3 (.q 4 (.q 5 (.last 6 (.q 7 (.q 8 (.done))))))))) : Plan) (by kernel_rfl) ?_
  conv => whnf
  refine ACall.useR (at_spec nx ny x y a b z m (by omega) (by omega) (by omega) (by omega)) ?_
  conv => whnf
  exact ⟨rfl, rfl⟩
theorem ScaleBox_i (x y z : Int) (m : List (List Int)) (k : Int) (km : SzM m) :
    FSpec Try.prog 52 [.ag [.c (.int .i64 (x)), .c (.int .i64 (y)), .c (.int .i64 (z)), .t (.rows m)], .c (.int .i64 (k))]
      (ex (.tu [.ag [.c (.int .i64 (if skOk x y z m k then x else 0)), .c (.int .i64 (if skOk x y z m k then y else 0)), .c (.int .i64 (if skOk x y z m k then k * z else 0)), .own 0], .c (.bool (skOk x y z m k))]) [(0, .rows 25 3 true (skR x y z m k))]) := by
  refine view_box ?_
  refine fspec tyOk mx Try.func52 rfl (by kernel_rfl) rfl ?_
  conv => whnf
  refine ACall.use (IsBox_spec x y z m km) ?_
  conv => whnf
  refine ⟨fun h => ?_, fun h => ?_⟩
  · have h : goodB x y z m = true := by simpa using h
    conv => whnf
    refine ACall.use (within_spec _ _ _) ?_
    conv => whnf
    refine ⟨fun h2 => ?_, fun h2 => ?_⟩
    · have h2 : inR k 1 1000 = true := by simpa using h2
      have k2 := inR_iff.1 h2
      obtain ⟨a, b, ea, eb, _, a3, _, b3, z1, z3, l1, c1, r1⟩ := goodB_spec h
      have bd := sc_bd k2.1 k2.2 z1 z3
      subst ea eb
      have ew : IntKind.i64.wrap (k * z) = k * z := w64 (by omega) (by omega)
      conv => whnf
      rw [ew]
      refine ⟨fun h3 => ?_, fun h3 => ?_⟩
      · have h3 := of_decide_eq_true h3
        have e : skOk a b z m k = false := by rw [skOk, h, h2, decide_eq_false (by omega)]; rfl
        conv => whnf
        exact .inl ⟨e, rfl, rfl⟩
      · have h3 := of_decide_eq_false h3
        have e : skOk a b z m k = true := by rw [skOk, h, h2, decide_eq_true (by omega)]; rfl
        conv => whnf
        rw [ew]
        refine ACall.use (newBox_spec a b (k * z) _ [.rp [.c (.int .i64 (k))] 0, .rp [.c (.int .i64 (a)), .c (.int .i64 (b)), .c (.int .i64 (z)), .t (.rows m)] 0] (fun x y a' b' => scN k m (x * b + y) (2 * a' + b')) (by omega) (by omega) (fun _ _ => rfl) rfl (fun i k' a' b' hi hk ha hb => scN_spec a b z k m l1 c1 (fun r hr => (r1 r hr).1) i k' a' b' hi hk ha hb)) ?_
        rw [box_grid, ← l1]
        conv => whnf
        exact .inr ⟨e, rfl, rfl⟩
    · have h2 : inR k 1 1000 = false := by simpa using h2
      have e : skOk x y z m k = false := by rw [skOk, h, h2]; rfl
      (repeat (conv => whnf); (first | refine ⟨fun h => absurd h (by decide), fun _ => ?_⟩ | refine ⟨fun _ => ?_, fun h => absurd h (by decide)⟩)); conv => whnf
      exact .inl ⟨e, rfl, rfl⟩
  · have h : goodB x y z m = false := by simpa using h
    have e : skOk x y z m k = false := by rw [skOk, h]; rfl
    (repeat (conv => whnf); (first | refine ⟨fun h => absurd h (by decide), fun _ => ?_⟩ | refine ⟨fun _ => ?_, fun h => absurd h (by decide)⟩)); conv => whnf
    exact .inl ⟨e, rfl, rfl⟩
theorem ScaleBox_s (x y z : Int) (m : List (List Int)) (k : Int) (km : SzM m) :
    FSpec Try.prog 53 [.ag [.c (.int .i64 (x)), .c (.int .i64 (y)), .c (.int .i64 (z)), .t (.rows m)], .c (.int .i64 (k))]
      (ex (.tu [.ag [.c (.int .i64 (if skOk x y z m k then x else 0)), .c (.int .i64 (if skOk x y z m k then y else 0)), .c (.int .i64 (if skOk x y z m k then k * z else 0)), .own 0], .c (.bool (skOk x y z m k))]) [(0, .rows 25 3 true (skR x y z m k))]) := by
  refine view_box ?_
  refine fspec tyOk mx Try.func53 rfl (by kernel_rfl) rfl ?_
  conv => whnf
  refine ACall.use (l2Box_spec x y z m km) ?_
  conv => whnf
  refine ⟨fun h => ?_, fun h => ?_⟩
  · have h : goodB x y z m = true := by simpa using h
    conv => whnf
    refine ACall.use (l1In_spec _ _ _) ?_
    conv => whnf
    refine ⟨fun h2 => ?_, fun h2 => ?_⟩
    · have h2 : inR k 1 1000 = false := by simpa using h2
      have e : skOk x y z m k = false := by rw [skOk, h, h2]; rfl
      conv => whnf
      exact .inl ⟨e, rfl, rfl⟩
    · have h2 : inR k 1 1000 = true := by simpa using h2
      have k2 := inR_iff.1 h2
      obtain ⟨a, b, ea, eb, _, a3, _, b3, z1, z3, l1, c1, r1⟩ := goodB_spec h
      have bd := sc_bd k2.1 k2.2 z1 z3
      have ew : W (Int.tdiv (W (z * k)) 1) = k * z := by rw [tdiv_one, WW, Int.mul_comm]; exact w64 (by omega) (by omega)
      conv => whnf
      refine ACall.use (l2Times_spec x y z m k 1 (by decide) (by omega) (fun r hr => by rw [(r1 r hr).1]; omega)) ?_
      rw [ew, times_sc (fun r hr => (r1 r hr).1)]
      conv => whnf
      refine ACallS.inline tyOk mx Try.func171 rfl (by kernel_rfl) rfl ?_
      conv => whnf
      refine ACall.use (l2Box_spec x y (k * z) (grid m.length (scN k m)) (grid_sz (by omega) _)) ?_
      conv => whnf
      refine ⟨fun h5 => ?_, fun h5 => ?_⟩
      · have h5 : goodB x y (k * z) (grid m.length (scN k m)) = false := by simpa using h5
        have hz : ¬ k * z ≤ 1000 := fun hz => by rw [sc_good h k2.1 hz] at h5; cases h5
        have e : skOk x y z m k = false := by rw [skOk, h, h2, decide_eq_false hz]; rfl
        conv => whnf
        refine ⟨rfl, ?_⟩
        conv => whnf
        exact .inl ⟨e, rfl, rfl⟩
      · have h5 : goodB x y (k * z) (grid m.length (scN k m)) = true := by simpa using h5
        have hz : k * z ≤ 1000 := by
          obtain ⟨_, _, _, _, _, _, _, _, _, h8, _⟩ := goodB_spec h5
          exact h8
        have e : skOk x y z m k = true := by rw [skOk, h, h2, decide_eq_true hz]; rfl
        conv => whnf
        refine ⟨rfl, ?_⟩
        conv => whnf
        exact .inr ⟨e, rfl, rfl⟩
  · have h : goodB x y z m = false := by simpa using h
    have e : skOk x y z m k = false := by rw [skOk, h]; rfl
    (repeat (conv => whnf); (first | refine ⟨fun h => absurd h (by decide), fun _ => ?_⟩ | refine ⟨fun _ => ?_, fun h => absurd h (by decide)⟩)); conv => whnf
    exact .inl ⟨e, rfl, rfl⟩
end Go.Proofs.Ytkomndcehdneaaa
/- Games as arguments: sizes, copies, comparing, marks. -/
namespace Go.Proofs.Ytkomndcehdneaaa
open Go.Aw
set_option maxRecDepth 100000

def szGameF (s : List Int) (m : List (List Int)) (left : Int) : Int := if szS s left < 0 then -1 else if szSS m (szS s left) < 0 then -1 else szSS m (szS s left)
theorem szGame_tot {m : List (List Int)} {s : List Int} {left : Int} (h : 0 ≤ szGameF s m left) : 0 ≤ szGameF s m left ∧ szGameF s m left = left - s.length - m.length - tot m := by
  refine ⟨h, ?_⟩
  unfold szGameF at h ⊢
  split at h
  · omega
  · rename_i hn
    rw [if_neg hn]
    split at h
    · omega
    · rename_i hn2
      rw [if_neg hn2, (szSS_tot (Int.not_lt.1 hn2)).2]
      have : szS s left = left - s.length := by
        unfold szS at hn ⊢
        split at hn
        · omega
        · rename_i h4; rw [if_neg h4]
      omega


end Go.Proofs.Ytkomndcehdneaaa
/- Which games are valid: reference and program. -/
namespace Go.Proofs.Ytkomndcehdneaaa
open Go.Aw
set_option maxRecDepth 100000
set_option maxHeartbeats 4000000

def winOk (r : List Int) : Bool := decide (r.length = 4) && rowIn r 0 1
def goodG (x y : Int) (s : List Int) (m : List (List Int)) : Bool :=
  szOk x y && decide ((s.length : Int) = x * y) && decide ((m.length : Int) = x * y) && rowIn s 0 99 && decide (0 < sumF s s.length) && m.all winOk

theorem goodG_spec {x y : Int} {s : List Int} {m : List (List Int)} (h : goodG x y s m = true) : ∃ a b : Nat, x = a ∧ y = b ∧ 1 ≤ a ∧ a ≤ 3 ∧ 1 ≤ b ∧ b ≤ 3 ∧ s.length = a * b ∧ m.length = a * b ∧ a * b ≤ 9 ∧
    (∀ v, v ∈ s → 0 ≤ v ∧ v ≤ 99) ∧ 0 < sumF s s.length ∧ (∀ r, r ∈ m → r.length = 4 ∧ ∀ v, v ∈ r → 0 ≤ v ∧ v ≤ 1) := by
  simp only [goodG, Bool.and_eq_true, decide_eq_true_eq, List.all_eq_true, winOk, rowIn_iff] at h
  obtain ⟨⟨⟨⟨⟨h1, h2⟩, h3⟩, h4⟩, h5⟩, h6⟩ := h
  obtain ⟨a, b, rfl, rfl, g1, g2, g3, g4, g5, g6⟩ := szOk_nat h1
  rw [g5] at h2 h3
  exact ⟨a, b, rfl, rfl, g1, g2, g3, g4, by omega, by omega, g6, h4, h5, h6⟩

theorem l4Game_spec (x y : Int) (s : List Int) (m : List (List Int)) (ks : SzI s) (km : SzM m) :
    FSpec Try.prog 200 [.ag [.c (.int .i64 x), .c (.int .i64 y), .t (.ints .i64 s), .t (.rows m)]] (ex (.c (.bool (goodG x y s m))) []) := by
  obtain ⟨i, j, z⟩ := km.all
  have ks' : s.length ≤ 1048576 := ks
  refine fspec tyOk mx Try.func200 rfl (by kernel_rfl) rfl ?_
  conv => whnf
  refine ACall.use (l2Sizes_spec _ _) ?_
  conv => whnf
  refine ⟨fun h1 => ?_, fun h1 => ?_⟩
  · have h1 : szOk x y = true := by simpa using h1
    conv => whnf
    refine ⟨fun h2 => ?_, fun h2 => ?_⟩
    · rw [szOk_mul h1] at h2
      have h2 : (s.length : Int) = x * y := by simpa using h2
      conv => whnf
      refine ⟨fun h3 => ?_, fun h3 => ?_⟩
      · rw [szOk_mul h1] at h3
        have h3 : ¬ (m.length : Int) = x * y := by simpa using h3
        conv => whnf
        exact ⟨by rw [goodG, decide_eq_false h3]; simp, rfl⟩
      · rw [szOk_mul h1] at h3
        have h3 : (m.length : Int) = x * y := by simpa using h3
        have hsm : m.length = s.length := by omega
        have hsl : s.length ≤ 9 := by obtain ⟨a, b, _, _, _, _, _, _, h5, h6⟩ := szOk_nat h1; omega
        conv => whnf
        refine aloopI tyOk mx (fun k : Nat => (⟨65, [(1, .ptr 0 0), (3, .c (.int .i64 (sumF s k))), (4, .c (.int .i64 (k)))], [(0, .cells 84 [.c (.int .i64 (x)), .c (.int .i64 (y)), .t (.ints .i64 s), .t (.rows m)])], 1⟩ : St)) (fun k => k ≤ s.length ∧ (s.take k).all (fun x => inR x 0 99) = true ∧ (m.take k).all winOk = true) (fun k => s.length - k) 0 ⟨Nat.zero_le _, rfl, rfl⟩ none (by refine ⟨rfl, rfl, ?_, ?_⟩ <;> ((repeat' (first | exact trivial | exact rfl | refine And.intro ?_ ?_)) <;> (try ((conv => whnf); first | refine vint ?_ | refine vboo ?_ | refine rint ?_ | refine rrow ?_ | skip)) <;> (try first | omega | (simp; done) | ((repeat rw [flts_closed _ (by assumption)]); exact vws_closed _ (by assumption))))) (fun k hI => ?_)
        obtain ⟨hk, hp, hq⟩ := hI
        refine ⟨fun h => ?_, fun h => ?_⟩
        · have h := ltT h
          have hm' : k < m.length := by omega
          conv => whnf
          refine ⟨k, rfl, h, ?_⟩
          conv => whnf
          refine ACall.use (l1In_spec _ _ _) ?_
          conv => whnf
          refine ⟨fun h4 => ?_, fun h4 => ?_⟩
          · have h4 : inR (s.getD k 0) 0 99 = true := by simpa using h4
            conv => whnf
            refine ⟨k, rfl, hm', ?_⟩
            conv => whnf
            refine ACall.use (l2Bits_spec (m.getD k []) 4 (by have := j _ (getD_mem (d := []) hm'); omega)) ?_
            conv => whnf
            have e4 : (rowIn (m.getD k []) 0 1 && decide (((m.getD k []).length : Int) = 4)) = winOk (m.getD k []) := by
              rw [winOk, Bool.and_comm]; congr 1; exact decide_eq_decide.2 (by omega)
            refine ⟨fun h5 => ?_, fun h5 => ?_⟩
            · rw [e4] at h5
              conv => whnf
              exact ⟨by rw [goodG, all_false (d := []) hm' (by simpa using h5), Bool.and_false], rfl⟩
            · rw [e4] at h5
              conv => whnf
              refine ⟨k, rfl, h, ?_⟩
              conv => whnf
              rw [nat_wrap (by omega)]
              exact ⟨k + 1, none, (by refine ⟨rfl, rfl, ?_, ?_⟩ <;> ((repeat' (first | exact trivial | exact rfl | refine And.intro ?_ ?_)) <;> (try ((conv => whnf); first | refine vint ?_ | refine vboo ?_ | refine rint ?_ | refine rrow ?_ | skip)) <;> (try first | omega | (simp; done) | ((repeat rw [flts_closed _ (by assumption)]); exact vws_closed _ (by assumption))))), ⟨by omega, all_take_succ (d := 0) h hp h4, all_take_succ (d := []) hm' hq (by simpa using h5)⟩, by omega⟩
          · have h4 : inR (s.getD k 0) 0 99 = false := by simpa using h4
            (repeat (conv => whnf); (first | refine ⟨fun h => absurd h (by decide), fun _ => ?_⟩ | refine ⟨fun _ => ?_, fun h => absurd h (by decide)⟩)); conv => whnf
            exact ⟨by rw [goodG, rowIn, all_false (d := 0) h h4]; simp, rfl⟩
        · have h := ltF h
          have hs := all_end h hp
          have hm2 := all_end (by omega) hq
          obtain rfl : k = s.length := by omega
          conv => whnf
          refine ⟨?_, rfl⟩
          rw [goodG, h1, decide_eq_true h2, decide_eq_true h3, hm2, rowIn, hs]
          simp
    · rw [szOk_mul h1] at h2
      have h2 : ¬ (s.length : Int) = x * y := by simpa using h2
      (repeat (conv => whnf); (first | refine ⟨fun h => absurd h (by decide), fun _ => ?_⟩ | refine ⟨fun _ => ?_, fun h => absurd h (by decide)⟩)); conv => whnf
      exact ⟨by rw [goodG, decide_eq_false h2]; simp, rfl⟩
  · have h1 : szOk x y = false := by simpa using h1
    (repeat (conv => whnf); (first | refine ⟨fun h => absurd h (by decide), fun _ => ?_⟩ | refine ⟨fun _ => ?_, fun h => absurd h (by decide)⟩)); conv => whnf
    exact ⟨by rw [goodG, h1]; simp, rfl⟩

theorem iIsGame_spec (x y : Int) (s : List Int) (m : List (List Int)) (ks : SzI s) (km : SzM m) :
    FSpec Try.prog 198 [.ag [.c (.int .i64 x), .c (.int .i64 y), .t (.ints .i64 s), .t (.rows m)]] (ex (.c (.bool (goodG x y s m))) []) := by
  obtain ⟨i, j, z⟩ := km.all
  have ks' : s.length ≤ 1048576 := ks
  refine fspec tyOk mx Try.func198 rfl (by kernel_rfl) rfl ?_
  conv => whnf
  refine ACall.use (areQuestions_spec _ _) ?_
  conv => whnf
  refine ⟨fun h1 => ?_, fun h1 => ?_⟩
  · have h1 : szOk x y = true := by simpa using h1
    conv => whnf
    refine ⟨fun h2 => ?_, fun h2 => ?_⟩
    · rw [szOk_mul h1] at h2
      have h2 : (s.length : Int) = x * y := by simpa using h2
      have hsl : s.length ≤ 9 := by obtain ⟨a, b, _, _, _, _, _, _, h5, h6⟩ := szOk_nat h1; omega
      conv => whnf
      refine ACall.use (allWithin_spec s _ _ (by omega)) ?_
      conv => whnf
      refine ⟨fun h4 => ?_, fun h4 => ?_⟩
      · have h4 : rowIn s 0 99 = true := by simpa using h4
        have hbd := sumF_bd (rowIn_iff.1 h4) (by omega) s.length (Nat.le_refl _)
        conv => whnf
        refine ACall.use (total_spec s ks') ?_
        conv => whnf
        refine ⟨fun h5 => ?_, fun h5 => ?_⟩
        · have h5 : 0 < sumF s s.length := by simp at h5; omega
          conv => whnf
          refine ⟨fun h3 => ?_, fun h3 => ?_⟩
          · rw [szOk_mul h1] at h3
            have h3 : ¬ (m.length : Int) = x * y := by simpa using h3
            conv => whnf
            exact ⟨by rw [goodG, decide_eq_false h3]; simp, rfl⟩
          · rw [szOk_mul h1] at h3
            have h3 : (m.length : Int) = x * y := by simpa using h3
            conv => whnf
            refine aloopI tyOk mx (fun k : Nat => (⟨59, [(1, .ptr 0 0), (44, .t (.rows m)), (45, .c (.int .i64 (m.length))), (46, .c (.int .i64 (k)))], [(0, .cells 84 [.c (.int .i64 (x)), .c (.int .i64 (y)), .t (.ints .i64 s), .t (.rows m)])], 1⟩ : St)) (fun k => k ≤ m.length ∧ (m.take k).all winOk = true) (fun k => m.length - k) 0 ⟨Nat.zero_le _, rfl⟩ none (by refine ⟨rfl, rfl, ?_, ?_⟩ <;> ((repeat' (first | exact trivial | exact rfl | refine And.intro ?_ ?_)) <;> (try ((conv => whnf); first | refine vint ?_ | refine vboo ?_ | refine rint ?_ | refine rrow ?_ | skip)) <;> (try first | omega | (simp; done) | ((repeat rw [flts_closed _ (by assumption)]); exact vws_closed _ (by assumption))))) (fun k hI => ?_)
            obtain ⟨hk, hp⟩ := hI
            refine ⟨fun h => ?_, fun h => ?_⟩
            · have h := ltT h
              conv => whnf
              refine ⟨k, rfl, h, ?_⟩
              conv => whnf
              refine ⟨fun h6 => ?_, fun h6 => ?_⟩
              · have h6 : (m.getD k []).length = 4 := by rw [bne_eq_false_iff_eq] at h6; omega
                conv => whnf
                refine ACall.use (allWithin_spec (m.getD k []) _ _ (by omega)) ?_
                conv => whnf
                refine ⟨fun h7 => ?_, fun h7 => ?_⟩
                · have h7 : rowIn (m.getD k []) 0 1 = false := by simpa using h7
                  conv => whnf
                  exact ⟨by rw [goodG, all_false (d := []) h (by rw [winOk, h7, Bool.and_false]), Bool.and_false], rfl⟩
                · have h7 : rowIn (m.getD k []) 0 1 = true := by simpa using h7
                  conv => whnf
                  rw [nat_wrap (by omega)]
                  exact ⟨k + 1, none, (by refine ⟨rfl, rfl, ?_, ?_⟩ <;> ((repeat' (first | exact trivial | exact rfl | refine And.intro ?_ ?_)) <;> (try ((conv => whnf); first | refine vint ?_ | refine vboo ?_ | refine rint ?_ | refine rrow ?_ | skip)) <;> (try first | omega | (simp; done) | ((repeat rw [flts_closed _ (by assumption)]); exact vws_closed _ (by assumption))))), ⟨by omega, all_take_succ (d := []) h hp (by rw [winOk, h7, h6]; rfl)⟩, by omega⟩
              · have h6 : ¬ (m.getD k []).length = 4 := by rw [bne_iff_ne] at h6; omega
                (repeat (conv => whnf); (first | refine ⟨fun h => absurd h (by decide), fun _ => ?_⟩ | refine ⟨fun _ => ?_, fun h => absurd h (by decide)⟩)); conv => whnf
                exact ⟨by rw [goodG, all_false (d := []) h (by rw [winOk, decide_eq_false h6, Bool.false_and]), Bool.and_false], rfl⟩
            · have h := ltF h
              have hm2 := all_end h hp
              conv => whnf
              refine ⟨?_, rfl⟩
              rw [goodG, h1, decide_eq_true h2, decide_eq_true h3, hm2, h4, decide_eq_true h5]
              rfl
        · have h5 : ¬ 0 < sumF s s.length := by simp at h5; omega
          (repeat (conv => whnf); (first | refine ⟨fun h => absurd h (by decide), fun _ => ?_⟩ | refine ⟨fun _ => ?_, fun h => absurd h (by decide)⟩)); conv => whnf
          exact ⟨by rw [goodG, decide_eq_false h5]; simp, rfl⟩
      · have h4 : rowIn s 0 99 = false := by simpa using h4
        (repeat (conv => whnf); (first | refine ⟨fun h => absurd h (by decide), fun _ => ?_⟩ | refine ⟨fun _ => ?_, fun h => absurd h (by decide)⟩)); conv => whnf
        exact ⟨by rw [goodG, h4]; simp, rfl⟩
    · rw [szOk_mul h1] at h2
      have h2 : ¬ (s.length : Int) = x * y := by simpa using h2
      (repeat (conv => whnf); (first | refine ⟨fun h => absurd h (by decide), fun _ => ?_⟩ | refine ⟨fun _ => ?_, fun h => absurd h (by decide)⟩)); conv => whnf
      exact ⟨by rw [goodG, decide_eq_false h2]; simp, rfl⟩
  · have h1 : szOk x y = false := by simpa using h1
    (repeat (conv => whnf); (first | refine ⟨fun h => absurd h (by decide), fun _ => ?_⟩ | refine ⟨fun _ => ?_, fun h => absurd h (by decide)⟩)); conv => whnf
    exact ⟨by rw [goodG, h1]; simp, rfl⟩
end Go.Proofs.Ytkomndcehdneaaa
/- Scores of plays: reference and program. -/
namespace Go.Aw
def bitIx (p : List Int) (n i k : Nat) : Nat := (2 * p.getD i 0 + p.getD (n + k) 0).toNat
theorem bits_mem {p : List Int} (h : ∀ v, v ∈ p → 0 ≤ v ∧ v ≤ 1) {i : Nat} : 0 ≤ p.getD i 0 ∧ p.getD i 0 ≤ 1 := by
  by_cases hi : i < p.length
  · exact h _ (by rw [List.getD_eq_getElem?_getD, List.getElem?_eq_getElem hi]; exact List.getElem_mem _)
  · rw [List.getD_eq_getElem?_getD, List.getElem?_eq_none (by omega)]; simp
theorem bitIx_eq {p : List Int} (h : ∀ v, v ∈ p → 0 ≤ v ∧ v ≤ 1) (n i k : Nat) : IntKind.i64.wrap (IntKind.i64.wrap (2 * p.getD i 0) + p.getD (n + k) 0) = ((bitIx p n i k : Nat) : Int) ∧ bitIx p n i k < 4 := by
  have h1 := bits_mem h (i := i)
  have h2 := bits_mem h (i := n + k)
  unfold bitIx
  rw [w64 (n := 2 * p.getD i 0) (by omega) (by omega), w64 (by omega) (by omega)]
  omega
def wonAt (s : List Int) (m : List (List Int)) (p : List Int) (nx ny i k : Nat) : Int := W (s.getD (i * ny + k) 0 * (m.getD (i * ny + k) []).getD (bitIx p nx i k) 0)
def scoreRow (s : List Int) (m : List (List Int)) (p : List Int) (nx ny i : Nat) (a : Int) (n : Nat) : Int := fo (fun a k => W (a + wonAt s m p nx ny i k)) a n
def scoreTo (s : List Int) (m : List (List Int)) (p : List Int) (nx ny n : Nat) : Int := fo (fun a i => scoreRow s m p nx ny i a ny) 0 n
def pwRow (f : List (List Int)) (p : List Int) (nx ny i : Nat) (a : Int) (n : Nat) : Int := fo (fun a k => W (a + (f.getD (i * ny + k) []).getD (bitIx p nx i k) 0)) a n
def pwTo (f : List (List Int)) (p : List Int) (nx ny n : Nat) : Int := fo (fun a i => pwRow f p nx ny i a ny) 0 n
def fnGRow (s : List Int) (m : List (List Int)) (i : Nat) : List Int := (m.getD i []).map (fun w => W (w * s.getD i 0))
def funG (s : List Int) (m : List (List Int)) : List (List Int) := (List.range m.length).map (fnGRow s m)
theorem pw_score (s : List Int) (m : List (List Int)) (p : List Int) (nx ny : Nat) (hp : ∀ v, v ∈ p → 0 ≤ v ∧ v ≤ 1) (hm : m.length = nx * ny) (h4 : ∀ r, r ∈ m → r.length = 4) :
    pwTo (funG s m) p nx ny nx = scoreTo s m p nx ny nx := by
  refine fo_congr fun a i hi => fo_congr fun b k hk => ?_
  have hlt := ix_lt hi hk
  have hb := (bitIx_eq hp nx i k).2
  have hrow : (m.getD (i * ny + k) []).length = 4 := h4 _ (by rw [List.getD_eq_getElem?_getD, List.getElem?_eq_getElem (by omega)]; exact List.getElem_mem _)
  rw [funG, range_getD (by omega), fnGRow, map_getD (d := 0) (by omega), wonAt, Int.mul_comm]
end Go.Aw
namespace Go.Proofs.Ytkomndcehdneaaa
open Go.Aw
set_option maxRecDepth 100000
set_option maxHeartbeats 4000000

theorem l4Won_spec (nx ny i k q : Nat) (s : List Int) (m : List (List Int)) (A B : Int) (hs : i * ny + k < s.length) (hm : i * ny + k < m.length) (hb : i * ny + k ≤ 1000000) (hq : IntKind.i64.wrap (IntKind.i64.wrap (2 * A) + B) = (q : Int)) (hl : q < (m.getD (i * ny + k) []).length) :
    FSpec Try.prog 207 [.ag [.c (.int .i64 (nx)), .c (.int .i64 (ny)), .t (.ints .i64 s), .t (.rows m)], .c (.int .i64 (i)), .c (.int .i64 (k)), .c (.int .i64 (A)), .c (.int .i64 (B))] (ex (.c (.int .i64 (W (s.getD (i * ny + k) 0 * (m.getD (i * ny + k) []).getD q 0)))) []) := by
  refine fspec tyOk mx Try.func207 rfl (by kernel_rfl) rfl ?_
  conv => whnf
  refine ADraw.std tyOk mx ⟨by kernel_rfl, i * ny + k, natMulAdd hb, hs, i * ny + k, natMulAdd hb, hm, q, hq, hl, ?_⟩
  conv => whnf
  exact ⟨rfl, rfl⟩

theorem l4Score_spec (nx ny : Nat) (s : List Int) (m : List (List Int)) (p : List Int) (hx : nx ≤ 3) (hy : ny ≤ 3) (hs : s.length = nx * ny) (hm : m.length = nx * ny) (h4 : ∀ r, r ∈ m → r.length = 4) (hp : ∀ v, v ∈ p → 0 ≤ v ∧ v ≤ 1) (hl : p.length = nx + ny) :
    FSpec Try.prog 205 [.ag [.c (.int .i64 (nx)), .c (.int .i64 (ny)), .t (.ints .i64 s), .t (.rows m)], .t (.ints .i64 p)] (ex (.c (.int .i64 (scoreTo s m p nx ny nx))) []) := by
  have hn : nx * ny ≤ 3 * 3 := Nat.mul_le_mul hx hy
  refine fspec tyOk mx Try.func205 rfl (by kernel_rfl) rfl ?_
  conv => whnf
  refine aloopI tyOk mx (fun i : Nat => (⟨38, [(1, .t (.ints .i64 p)), (2, .ptr 0 0), (5, .c (.int .i64 (scoreTo s m p nx ny i))), (6, .c (.int .i64 (i)))], [(0, .cells 84 [.c (.int .i64 (nx)), .c (.int .i64 (ny)), .t (.ints .i64 s), .t (.rows m)])], 1⟩ : St)) (fun i => i ≤ nx) (fun i => nx - i) 0 (Nat.zero_le _) none (by refine ⟨rfl, rfl, ?_, ?_⟩ <;> ((repeat' (first | exact trivial | exact rfl | refine And.intro ?_ ?_)) <;> (try ((conv => whnf); first | refine vint ?_ | refine vboo ?_ | refine rint ?_ | refine rrow ?_ | skip)) <;> (try first | omega | (simp; done) | ((repeat rw [flts_closed _ (by assumption)]); exact vws_closed _ (by assumption))))) (fun i hi => ?_)
  refine ⟨fun h => ?_, fun h => ?_⟩
  · have h := ltT h
    conv => whnf
    refine aloopI tyOk mx (fun k : Nat => (⟨38, [(1, .t (.ints .i64 p)), (2, .ptr 0 0), (5, .c (.int .i64 (scoreRow s m p nx ny i (scoreTo s m p nx ny i) k))), (6, .c (.int .i64 (i))), (7, .c (.int .i64 (k)))], [(0, .cells 84 [.c (.int .i64 (nx)), .c (.int .i64 (ny)), .t (.ints .i64 s), .t (.rows m)])], 1⟩ : St)) (fun k => k ≤ ny) (fun k => ny - k) 0 (Nat.zero_le _) none (by refine ⟨rfl, rfl, ?_, ?_⟩ <;> ((repeat' (first | exact trivial | exact rfl | refine And.intro ?_ ?_)) <;> (try ((conv => whnf); first | refine vint ?_ | refine vboo ?_ | refine rint ?_ | refine rrow ?_ | skip)) <;> (try first | omega | (simp; done) | ((repeat rw [flts_closed _ (by assumption)]); exact vws_closed _ (by assumption))))) (fun k hk => ?_)
    refine ⟨fun h2 => ?_, fun h2 => ?_⟩
    · have h2 := ltT h2
      have hlt := ix_lt h h2
      have hb := bitIx_eq hp nx i k
      have hrow : (m.getD (i * ny + k) []).length = 4 := h4 _ (getD_mem (by omega))
      refine ADraw.std tyOk mx ⟨by kernel_rfl, i, rfl, by omega, nx + k, natAdd (by omega), by omega, ?_⟩
      conv => whnf
      refine QCall.use (l4Won_spec nx ny i k (bitIx p nx i k) s m _ _ (by omega) (by omega) (by omega) hb.1 (by omega)) ?_
      conv => whnf
      rw [nat_wrap (by omega)]
      exact ⟨k + 1, none, (by refine ⟨rfl, rfl, ?_, ?_⟩ <;> ((repeat' (first | exact trivial | exact rfl | refine And.intro ?_ ?_)) <;> (try ((conv => whnf); first | refine vint ?_ | refine vboo ?_ | refine rint ?_ | refine rrow ?_ | skip)) <;> (try first | omega | (simp; done) | ((repeat rw [flts_closed _ (by assumption)]); exact vws_closed _ (by assumption))))), by omega, by omega⟩
    · have h2 := ltF h2
      obtain rfl : k = ny := by omega
      conv => whnf
      rw [nat_wrap (by omega)]
      exact ⟨i + 1, none, (by refine ⟨rfl, rfl, ?_, ?_⟩ <;> ((repeat' (first | exact trivial | exact rfl | refine And.intro ?_ ?_)) <;> (try ((conv => whnf); first | refine vint ?_ | refine vboo ?_ | refine rint ?_ | refine rrow ?_ | skip)) <;> (try first | omega | (simp; done) | ((repeat rw [flts_closed _ (by assumption)]); exact vws_closed _ (by assumption))))), by omega, by omega⟩
  · have h := ltF h
    obtain rfl : i = nx := by omega
    conv => whnf
    exact ⟨rfl, rfl⟩

theorem playWorth_spec (nx ny : Nat) (f : List (List Int)) (p : List Int) (hx : nx ≤ 3) (hy : ny ≤ 3) (hf : f.length = nx * ny) (h4 : ∀ r, r ∈ f → r.length = 4) (hp : ∀ v, v ∈ p → 0 ≤ v ∧ v ≤ 1) (hl : p.length = nx + ny) :
    FSpec Try.prog 143 [.c (.int .i64 (nx)), .c (.int .i64 (ny)), .t (.rows f), .t (.ints .i64 p)] (ex (.c (.int .i64 (pwTo f p nx ny nx))) []) := by
  have hn : nx * ny ≤ 3 * 3 := Nat.mul_le_mul hx hy
  refine fspec tyOk mx Try.func143 rfl (by kernel_rfl) rfl ?_
  conv => whnf
  refine aloopI tyOk mx (fun i : Nat => (⟨47, [(0, .c (.int .i64 (nx))), (1, .c (.int .i64 (ny))), (2, .t (.rows f)), (3, .t (.ints .i64 p)), (9, .c (.int .i64 (pwTo f p nx ny i))), (12, .c (.int .i64 (nx))), (13, .c (.int .i64 (i)))], [], 0⟩ : St)) (fun i => i ≤ nx) (fun i => nx - i) 0 (Nat.zero_le _) none (by refine ⟨rfl, rfl, ?_, ?_⟩ <;> ((repeat' (first | exact trivial | exact rfl | refine And.intro ?_ ?_)) <;> (try ((conv => whnf); first | refine vint ?_ | refine vboo ?_ | refine rint ?_ | refine rrow ?_ | skip)) <;> (try first | omega | (simp; done) | ((repeat rw [flts_closed _ (by assumption)]); exact vws_closed _ (by assumption))))) (fun i hi => ?_)
  refine ⟨fun h => ?_, fun h => ?_⟩
  · have h := ltT h
    conv => whnf
    refine aloopI tyOk mx (fun k : Nat => (⟨47, [(0, .c (.int .i64 (nx))), (1, .c (.int .i64 (ny))), (2, .t (.rows f)), (3, .t (.ints .i64 p)), (9, .c (.int .i64 (pwRow f p nx ny i (pwTo f p nx ny i) k))), (10, .c (.int .i64 (i))), (12, .c (.int .i64 (nx))), (13, .c (.int .i64 (i))), (16, .c (.int .i64 (ny))), (17, .c (.int .i64 (k)))], [], 0⟩ : St)) (fun k => k ≤ ny) (fun k => ny - k) 0 (Nat.zero_le _) none (by refine ⟨rfl, rfl, ?_, ?_⟩ <;> ((repeat' (first | exact trivial | exact rfl | refine And.intro ?_ ?_)) <;> (try ((conv => whnf); first | refine vint ?_ | refine vboo ?_ | refine rint ?_ | refine rrow ?_ | skip)) <;> (try first | omega | (simp; done) | ((repeat rw [flts_closed _ (by assumption)]); exact vws_closed _ (by assumption))))) (fun k hk => ?_)
    refine ⟨fun h2 => ?_, fun h2 => ?_⟩
    · have h2 := ltT h2
      have hlt := ix_lt h h2
      have hb := bitIx_eq hp nx i k
      have hrow : (f.getD (i * ny + k) []).length = 4 := h4 _ (getD_mem (by omega))
      conv => whnf
      refine ADraw.std tyOk mx ⟨by kernel_rfl, i * ny + k, natMulAdd (by omega), by omega, i, rfl, by omega, nx + k, natAdd (by omega), by omega, bitIx p nx i k, hb.1, by omega, ?_⟩
      conv => whnf
      rw [nat_wrap (by omega)]
      exact ⟨k + 1, none, (by refine ⟨rfl, rfl, ?_, ?_⟩ <;> ((repeat' (first | exact trivial | exact rfl | refine And.intro ?_ ?_)) <;> (try ((conv => whnf); first | refine vint ?_ | refine vboo ?_ | refine rint ?_ | refine rrow ?_ | skip)) <;> (try first | omega | (simp; done) | ((repeat rw [flts_closed _ (by assumption)]); exact vws_closed _ (by assumption))))), by omega, by omega⟩
    · have h2 := ltF h2
      obtain rfl : k = ny := by omega
      conv => whnf
      rw [nat_wrap (by omega)]
      exact ⟨i + 1, none, (by refine ⟨rfl, rfl, ?_, ?_⟩ <;> ((repeat' (first | exact trivial | exact rfl | refine And.intro ?_ ?_)) <;> (try ((conv => whnf); first | refine vint ?_ | refine vboo ?_ | refine rint ?_ | refine rrow ?_ | skip)) <;> (try first | omega | (simp; done) | ((repeat rw [flts_closed _ (by assumption)]); exact vws_closed _ (by assumption))))), by omega, by omega⟩
  · have h := ltF h
    obtain rfl : i = nx := by omega
    conv => whnf
    exact ⟨rfl, rfl⟩

theorem functional_spec (x y : Int) (s : List Int) (m : List (List Int)) (hs : s.length = m.length) (hm : m.length ≤ 1000) (h4 : ∀ r, r ∈ m → r.length ≤ 1000) :
    FSpec Try.prog 199 [.ag [.c (.int .i64 (x)), .c (.int .i64 (y)), .t (.ints .i64 s), .t (.rows m)]] (ex (.own 0) [(0, .rows 25 3 true (funG s m))]) := by
  refine fspec tyOk mx Try.func199 rfl (by kernel_rfl) rfl ?_
  conv => whnf
  refine aloopI tyOk mx (fun i : Nat => (⟨42, [(1, .ptr 0 0), (3, .own 1), (11, .t (.rows m)), (12, .c (.int .i64 (m.length))), (13, .c (.int .i64 (i)))], [(0, .cells 84 [.c (.int .i64 (x)), .c (.int .i64 (y)), .t (.ints .i64 s), .t (.rows m)]), (1, .rows 25 3 true ((List.range i).map (fnGRow s m)))], 2⟩ : St)) (fun i => i ≤ m.length) (fun i => m.length - i) 0 (Nat.zero_le _) none (by refine ⟨rfl, rfl, ?_, ?_⟩ <;> ((repeat' (first | exact trivial | exact rfl | refine And.intro ?_ ?_)) <;> (try ((conv => whnf); first | refine vint ?_ | refine vboo ?_ | refine rint ?_ | refine rrow ?_ | skip)) <;> (try first | omega | (simp; done) | ((repeat rw [flts_closed _ (by assumption)]); exact vws_closed _ (by assumption))))) (fun i hi => ?_)
  refine ⟨fun h => ?_, fun h => ?_⟩
  · have h := ltT h
    have h5 := h4 _ (getD_mem (d := []) h)
    conv => whnf
    refine ⟨i, rfl, h, ?_⟩
    conv => whnf
    refine aloopI tyOk mx (fun k : Nat => (⟨42, [(1, .ptr 0 0), (3, .own 1), (4, .c (.int .i64 (i))), (6, .own 2), (11, .t (.rows m)), (12, .c (.int .i64 (m.length))), (13, .c (.int .i64 (i))), (19, .t (.ints .i64 (m.getD i []))), (20, .c (.int .i64 ((m.getD i []).length))), (21, .c (.int .i64 (k)))], [(0, .cells 84 [.c (.int .i64 (x)), .c (.int .i64 (y)), .t (.ints .i64 s), .t (.rows m)]), (1, .rows 25 3 true ((List.range i).map (fnGRow s m))), (2, .ints 3 .i64 (((m.getD i []).take k).map (fun w => W (w * s.getD i 0))))], 3⟩ : St)) (fun k => k ≤ (m.getD i []).length) (fun k => (m.getD i []).length - k) 0 (Nat.zero_le _) none (by refine ⟨rfl, rfl, ?_, ?_⟩ <;> ((repeat' (first | exact trivial | exact rfl | refine And.intro ?_ ?_)) <;> (try ((conv => whnf); first | refine vint ?_ | refine vboo ?_ | refine rint ?_ | refine rrow ?_ | skip)) <;> (try first | omega | (simp; done) | ((repeat rw [flts_closed _ (by assumption)]); exact vws_closed _ (by assumption))))) (fun k hk => ?_)
    refine ⟨fun h2 => ?_, fun h2 => ?_⟩
    · have h2 := ltT h2
      conv => whnf
      refine ⟨k, rfl, h2, ?_⟩
      conv => whnf
      refine ⟨i, rfl, by omega, ?_⟩
      conv => whnf
      refine ⟨by simp [room]; omega, ?_⟩
      conv => whnf
      rw [nat_wrap (by omega)]
      refine ⟨k + 1, none, ?_, by omega, by omega⟩
      (refine ⟨rfl, rfl, ?_, ?_⟩ <;> ((repeat' (first | exact trivial | exact rfl | refine And.intro ?_ ?_)) <;> (try ((conv => whnf); first | refine vint ?_ | refine vboo ?_ | refine rint ?_ | refine rrow ?_ | skip)) <;> (try first | omega | (simp; done) | ((repeat rw [flts_closed _ (by assumption)]); exact vws_closed _ (by assumption)))))
      rw [List.take_succ_eq_append_getElem h2, List.map_append, getD_lt h2]
      rfl
    · have h2 := ltF h2
      obtain rfl : k = (m.getD i []).length := by omega
      conv => whnf
      refine ⟨by simp [room]; omega, ?_⟩
      conv => whnf
      rw [nat_wrap (by omega)]
      refine ⟨i + 1, none, ?_, by omega, by omega⟩
      (refine ⟨rfl, rfl, ?_, ?_⟩ <;> ((repeat' (first | exact trivial | exact rfl | refine And.intro ?_ ?_)) <;> (try ((conv => whnf); first | refine vint ?_ | refine vboo ?_ | refine rint ?_ | refine rrow ?_ | skip)) <;> (try first | omega | (simp; done) | ((repeat rw [flts_closed _ (by assumption)]); exact vws_closed _ (by assumption)))))
      rw [← map_range_succ, fnGRow, List.take_length]
  · have h := ltF h
    obtain rfl : i = m.length := by omega
    conv => whnf
    exact ⟨rfl, rfl⟩

theorem l4Functional_spec (x y : Int) (s : List Int) (m : List (List Int)) (hs : s.length = m.length) (hm : m.length ≤ 1000) (h4 : ∀ r, r ∈ m → r.length = 4) :
    FSpec Try.prog 201 [.ag [.c (.int .i64 (x)), .c (.int .i64 (y)), .t (.ints .i64 s), .t (.rows m)]] (ex (.own 0) [(0, .rows 25 3 true (funG s m))]) := by
  refine fspec tyOk mx Try.func201 rfl (by kernel_rfl) rfl ?_
  conv => whnf
  refine aloopI tyOk mx (fun i : Nat => (⟨42, [(1, .ptr 0 0), (3, .own 1), (4, .c (.int .i64 (i)))], [(0, .cells 84 [.c (.int .i64 (x)), .c (.int .i64 (y)), .t (.ints .i64 s), .t (.rows m)]), (1, .rows 25 3 true ((List.range i).map (fnGRow s m)))], 2⟩ : St)) (fun i => i ≤ m.length) (fun i => m.length - i) 0 (Nat.zero_le _) none (by refine ⟨rfl, rfl, ?_, ?_⟩ <;> ((repeat' (first | exact trivial | exact rfl | refine And.intro ?_ ?_)) <;> (try ((conv => whnf); first | refine vint ?_ | refine vboo ?_ | refine rint ?_ | refine rrow ?_ | skip)) <;> (try first | omega | (simp; done) | ((repeat rw [flts_closed _ (by assumption)]); exact vws_closed _ (by assumption))))) (fun i hi => ?_)
  refine ⟨fun h => ?_, fun h => ?_⟩
  · have h := ltT h
    have h5 := h4 _ (getD_mem (d := []) h)
    conv => whnf
    refine aloopI tyOk mx (fun k : Nat => (⟨42, [(1, .ptr 0 0), (3, .own 1), (4, .c (.int .i64 (i))), (5, .own 2), (6, .c (.int .i64 (k)))], [(0, .cells 84 [.c (.int .i64 (x)), .c (.int .i64 (y)), .t (.ints .i64 s), .t (.rows m)]), (1, .rows 25 3 true ((List.range i).map (fnGRow s m))), (2, .ints 3 .i64 (((m.getD i []).take k).map (fun w => W (w * s.getD i 0))))], 3⟩ : St)) (fun k => k ≤ 4) (fun k => 4 - k) 0 (Nat.zero_le _) none (by refine ⟨rfl, rfl, ?_, ?_⟩ <;> ((repeat' (first | exact trivial | exact rfl | refine And.intro ?_ ?_)) <;> (try ((conv => whnf); first | refine vint ?_ | refine vboo ?_ | refine rint ?_ | refine rrow ?_ | skip)) <;> (try first | omega | (simp; done) | ((repeat rw [flts_closed _ (by assumption)]); exact vws_closed _ (by assumption))))) (fun k hk => ?_)
    refine ⟨fun h2 => ?_, fun h2 => ?_⟩
    · have h2 : k < (m.getD i []).length := by have := of_decide_eq_true h2; omega
      conv => whnf
      refine ADraw.plan tyOk mx (.q 0 (.q 1 (.q 2 (.q 3 (.q 4 (.q 5 (.q 6 (.q 7 (.q 8 (.q 9 (.q 10 (.q 11 (.q 12 (.q 13 (.q 14 (.last 15 (.last 16 (.q 17 (.done)))))))))))))))))) : Plan) (by kernel_rfl) ?_
      conv => whnf
      refine ⟨i, rfl, by omega, i, rfl, h, k, rfl, h2, ?_⟩
      conv => whnf
      refine ⟨by simp [room]; omega, ?_⟩
      conv => whnf
      rw [nat_wrap (by omega)]
      refine ⟨k + 1, none, ?_, by omega, by omega⟩
      (refine ⟨rfl, rfl, ?_, ?_⟩ <;> ((repeat' (first | exact trivial | exact rfl | refine And.intro ?_ ?_)) <;> (try ((conv => whnf); first | refine vint ?_ | refine vboo ?_ | refine rint ?_ | refine rrow ?_ | skip)) <;> (try first | omega | (simp; done) | ((repeat rw [flts_closed _ (by assumption)]); exact vws_closed _ (by assumption)))))
      rw [List.take_succ_eq_append_getElem h2, List.map_append, getD_lt h2, Int.mul_comm]
      rfl
    · have h2 : ¬ k < 4 := by have := of_decide_eq_false h2; omega
      obtain rfl : k = 4 := by omega
      conv => whnf
      refine ⟨by simp [room]; omega, ?_⟩
      conv => whnf
      rw [nat_wrap (by omega)]
      refine ⟨i + 1, none, ?_, by omega, by omega⟩
      (refine ⟨rfl, rfl, ?_, ?_⟩ <;> ((repeat' (first | exact trivial | exact rfl | refine And.intro ?_ ?_)) <;> (try ((conv => whnf); first | refine vint ?_ | refine vboo ?_ | refine rint ?_ | refine rrow ?_ | skip)) <;> (try first | omega | (simp; done) | ((repeat rw [flts_closed _ (by assumption)]); exact vws_closed _ (by assumption)))))
      rw [← map_range_succ, fnGRow, List.take_of_length_le (by omega)]
  · have h := ltF h
    obtain rfl : i = m.length := by omega
    conv => whnf
    exact ⟨rfl, rfl⟩

theorem score_spec (nx ny : Nat) (s : List Int) (m : List (List Int)) (p : List Int) (hx : nx ≤ 3) (hy : ny ≤ 3) (hs : s.length = nx * ny) (hm : m.length = nx * ny) (h4 : ∀ r, r ∈ m → r.length = 4) (hp : ∀ v, v ∈ p → 0 ≤ v ∧ v ≤ 1) (hl : p.length = nx + ny) :
    FSpec Try.prog 203 [.ag [.c (.int .i64 (nx)), .c (.int .i64 (ny)), .t (.ints .i64 s), .t (.rows m)], .t (.ints .i64 p)] (ex (.c (.int .i64 (scoreTo s m p nx ny nx))) []) := by
  have hn : nx * ny ≤ 3 * 3 := Nat.mul_le_mul hx hy
  have hf : (funG s m).length = nx * ny := by simp [funG, hm]
  have hf4 : ∀ r, r ∈ funG s m → r.length = 4 := fun r hr => by
    obtain ⟨i, hi, rfl⟩ := List.mem_map.1 hr
    rw [fnGRow, List.length_map]
    exact h4 _ (getD_mem (by simpa using hi))
  refine fspec tyOk mx Try.func203 rfl (by kernel_rfl) rfl ?_
  conv => whnf
  refine ADraw.plan tyOk mx (.q 0 (.q 1 (.q 2 (.q 3 (.q 4 (.q 6 (.last 5 (.last 7 (.q 8 (.done))))))))) : Plan) (by kernel_rfl) ?_
  conv => whnf
  refine ACall.useR (functional_spec _ _ s m (by omega) (by omega) (fun r hr => by have := h4 r hr; omega)) ?_
  conv => whnf
  refine ACall.useR (playWorth_spec nx ny (funG s m) p hx hy hf hf4 hp hl) ?_
  conv => whnf
  exact ⟨by rw [pw_score s m p nx ny hp hm h4], rfl⟩

theorem isPlay_spec (x y : Int) (p : List Int) (hl : p.length ≤ 1048576) :
    FSpec Try.prog 162 [.c (.int .i64 (x)), .c (.int .i64 (y)), .t (.ints .i64 p)] (ex (.c (.bool (decide ((p.length : Int) = W (x + y)) && rowIn p 0 1))) []) := by
  refine fspec tyOk mx Try.func162 rfl (by kernel_rfl) rfl ?_
  conv => whnf
  refine ⟨fun h => ?_, fun h => ?_⟩
  · conv => whnf
    refine ACall.use (allWithin_spec p _ _ (by omega)) ?_
    conv => whnf
    refine ⟨?_, rfl⟩
    rw [decide_eq_true (by simpa using h), Bool.true_and]
  · conv => whnf
    refine ⟨?_, rfl⟩
    rw [decide_eq_false (by simpa using h), Bool.false_and]

def isGP (x y : Int) (s : List Int) (m : List (List Int)) (p : List Int) : Bool := goodG x y s m && (decide ((p.length : Int) = W (x + y)) && rowIn p 0 1)
theorem isGamePlay_spec (x y : Int) (s : List Int) (m : List (List Int)) (p : List Int) (ks : SzI s) (km : SzM m) (kp : SzI p) :
    FSpec Try.prog 202 [.ag [.c (.int .i64 (x)), .c (.int .i64 (y)), .t (.ints .i64 s), .t (.rows m)], .t (.ints .i64 p)] (ex (.c (.bool (isGP x y s m p))) []) := by
  refine fspec tyOk mx Try.func202 rfl (by kernel_rfl) rfl ?_
  conv => whnf
  refine ACall.use (iIsGame_spec x y s m ks km) ?_
  conv => whnf
  refine ⟨fun h => ?_, fun h => ?_⟩
  · conv => whnf
    refine ACall.use (isPlay_spec x y p kp) ?_
    conv => whnf
    exact ⟨by rw [isGP, h, Bool.true_and], rfl⟩
  · conv => whnf
    exact ⟨by rw [isGP, h, Bool.false_and], rfl⟩
theorem l4Played_spec (x y : Int) (s : List Int) (m : List (List Int)) (p : List Int) (ks : SzI s) (km : SzM m) (kp : SzI p) :
    FSpec Try.prog 204 [.ag [.c (.int .i64 (x)), .c (.int .i64 (y)), .t (.ints .i64 s), .t (.rows m)], .t (.ints .i64 p)] (ex (.c (.bool (isGP x y s m p))) []) := by
  have kp' : p.length ≤ 1048576 := kp
  refine fspec tyOk mx Try.func204 rfl (by kernel_rfl) rfl ?_
  conv => whnf
  refine ACall.use (l4Game_spec x y s m ks km) ?_
  conv => whnf
  refine ⟨fun h => ?_, fun h => ?_⟩
  · conv => whnf
    refine ACall.use (l2Bits_spec p _ (by omega)) ?_
    conv => whnf
    refine ⟨?_, rfl⟩
    rw [isGP, h, Bool.true_and, Bool.and_comm]
  · conv => whnf
    exact ⟨by rw [isGP, h, Bool.false_and], rfl⟩
theorem isGP_spec {x y : Int} {s : List Int} {m : List (List Int)} {p : List Int} (h : isGP x y s m p = true) : ∃ a b : Nat, x = a ∧ y = b ∧ 1 ≤ a ∧ a ≤ 3 ∧ 1 ≤ b ∧ b ≤ 3 ∧ s.length = a * b ∧ m.length = a * b ∧ a * b ≤ 9 ∧
    (∀ v, v ∈ s → 0 ≤ v ∧ v ≤ 99) ∧ 0 < sumF s s.length ∧ (∀ r, r ∈ m → r.length = 4 ∧ ∀ v, v ∈ r → 0 ≤ v ∧ v ≤ 1) ∧ p.length = a + b ∧ (∀ v, v ∈ p → 0 ≤ v ∧ v ≤ 1) := by
  simp only [isGP, Bool.and_eq_true, decide_eq_true_eq, rowIn_iff] at h
  obtain ⟨h1, h2, h3⟩ := h
  obtain ⟨a, b, rfl, rfl, g1, g2, g3, g4, g5, g6, g7, g8, g9, g10⟩ := goodG_spec h1
  have e : W ((a : Int) + b) = ((a + b : Nat) : Int) := natAdd (by omega)
  rw [e] at h2
  exact ⟨a, b, rfl, rfl, g1, g2, g3, g4, g5, g6, g7, g8, g9, g10, by omega, h3⟩

def psF (x y : Int) (s : List Int) (m : List (List Int)) (p : List Int) : Int := if isGP x y s m p then scoreTo s m p x.toNat y.toNat x.toNat else 0

theorem PlayScore_s (x y : Int) (s : List Int) (m : List (List Int)) (_hx : InR x) (_hy : InR y) (_hs : OkI s) (_hm : OkM m) (ks : SzI s) (km : SzM m) (p : List Int) (_hp : OkI p) (kp : SzI p) :
    FSpec Try.prog 84 [.ag [.c (.int .i64 (x)), .c (.int .i64 (y)), .t (.ints .i64 s), .t (.rows m)], .t (.ints .i64 p)] (ex (.tu [.c (.int .i64 (psF x y s m p)), .c (.bool (isGP x y s m p))]) []) := by
  refine fspec tyOk mx Try.func84 rfl (by kernel_rfl) rfl ?_
  conv => whnf
  refine ACall.use (l4Played_spec x y s m p ks km kp) ?_
  conv => whnf
  refine ⟨fun h => ?_, fun h => ?_⟩
  · have h : isGP x y s m p = false := by simpa using h
    conv => whnf
    exact ⟨by rw [psF, h]; rfl, rfl⟩
  · have h : isGP x y s m p = true := by simpa using h
    have h' := h
    obtain ⟨a, b, rfl, rfl, g1, g2, g3, g4, g5, g6, g7, g8, g9, g10, g11, g12⟩ := isGP_spec h
    conv => whnf
    refine ACall.use (l4Score_spec a b s m p g2 g4 g5 g6 (fun r hr => (g10 r hr).1) g12 g11) ?_
    conv => whnf
    exact ⟨by rw [psF, h']; rfl, rfl⟩
theorem PlayScore_i (x y : Int) (s : List Int) (m : List (List Int)) (_hx : InR x) (_hy : InR y) (_hs : OkI s) (_hm : OkM m) (ks : SzI s) (km : SzM m) (p : List Int) (_hp : OkI p) (kp : SzI p) :
    FSpec Try.prog 83 [.ag [.c (.int .i64 (x)), .c (.int .i64 (y)), .t (.ints .i64 s), .t (.rows m)], .t (.ints .i64 p)] (ex (.tu [.c (.int .i64 (psF x y s m p)), .c (.bool (isGP x y s m p))]) []) := by
  refine fspec tyOk mx Try.func83 rfl (by kernel_rfl) rfl ?_
  conv => whnf
  refine ACall.use (isGamePlay_spec x y s m p ks km kp) ?_
  conv => whnf
  refine ⟨fun h => ?_, fun h => ?_⟩
  · have h : isGP x y s m p = false := by simpa using h
    conv => whnf
    exact ⟨by rw [psF, h]; rfl, rfl⟩
  · have h : isGP x y s m p = true := by simpa using h
    have h' := h
    obtain ⟨a, b, rfl, rfl, g1, g2, g3, g4, g5, g6, g7, g8, g9, g10, g11, g12⟩ := isGP_spec h
    conv => whnf
    refine ACall.use (score_spec a b s m p g2 g4 g5 g6 (fun r hr => (g10 r hr).1) g12 g11) ?_
    conv => whnf
    exact ⟨by rw [psF, h']; rfl, rfl⟩
end Go.Proofs.Ytkomndcehdneaaa
/- The boxes of plays of any sizes: reference and program. -/
namespace Go.Aw
def pgN (play : List Int) (nx : Nat) (w : Int) (x y a b : Nat) : Int := if play.getD x 0 = a ∧ play.getD (nx + y) 0 = b then w else 0
def pgM (play : List Int) (nx ny : Nat) (w : Int) : List (List Int) := boxRows (pgN play nx w) nx ny
theorem pg_row {nx : Nat} {play : List Int} {w : Int} {i k p q : Nat} (hp : play.getD i 0 = p) (hq : play.getD (nx + k) 0 = q) (h1 : p < 2) (h2 : q < 2) : (List.replicate 4 (0 : Int)).set (2 * p + q) w = boxRow (pgN play nx w) i k := by
  unfold boxRow pgN
  rw [hp, hq]
  have h1 : p = 0 ∨ p = 1 := by omega
  have h2 : q = 0 ∨ q = 1 := by omega
  rcases h1 with rfl | rfl <;> rcases h2 with rfl | rfl <;> rfl
end Go.Aw
namespace Go.Proofs.Ytkomndcehdneaaa
open Go.Aw
set_option maxRecDepth 100000
set_option maxHeartbeats 4000000

theorem pgN_spec (nx ny : Nat) (h3 : nx ≤ 3) (h3' : ny ≤ 3) (play : List Int) (hl : play.length = nx + ny) (w : Int) (i k a b : Nat) (hi : i < nx) (hk : k < ny) :
    FSpec Try.prog 245 [.c (.int .i64 (i)), .c (.int .i64 (k)), .c (.int .i64 (a)), .c (.int .i64 (b)), .rp [.t (.ints .i64 play)] 0, .rp [.c (.int .i64 (nx))] 0, .rp [.c (.int .i64 (w))] 0] (ex (.c (.int .i64 (pgN play nx w i k a b))) []) := by
  have e : IntKind.i64.wrap ((nx : Int) + (k : Int)) = ((nx + k : Nat) : Int) := by rw [w64 (by omega) (by omega)]; omega
  refine fspec tyOk mx Try.func245 rfl (by kernel_rfl) rfl ?_
  conv => whnf
  refine ⟨i, rfl, by omega, ?_⟩
  conv => whnf
  refine ⟨fun h => ?_, fun h => ?_⟩
  · have h : play.getD i 0 = a := by simpa using h
    conv => whnf
    refine ⟨nx + k, e, by omega, ?_⟩
    conv => whnf
    refine ⟨fun h2 => ?_, fun h2 => ?_⟩
    · have h2 : play.getD (nx + k) 0 = b := by simpa using h2
      conv => whnf
      exact ⟨by rw [pgN, if_pos ⟨h, h2⟩], rfl⟩
    · have h2 : ¬ play.getD (nx + k) 0 = b := by simpa using h2
      conv => whnf
      exact ⟨by rw [pgN, if_neg (fun c => h2 c.2)], rfl⟩
  · have h : ¬ play.getD i 0 = a := by simpa using h
    conv => whnf
    (repeat (conv => whnf); (first | refine ⟨fun h => absurd h (by decide), fun _ => ?_⟩ | refine ⟨fun _ => ?_, fun h => absurd h (by decide)⟩)); conv => whnf
    exact ⟨by rw [pgN, if_neg (fun c => h c.1)], rfl⟩

theorem playBoxG_spec (nx ny : Nat) (h3 : nx ≤ 3) (h3' : ny ≤ 3) (play : List Int) (hl : play.length = nx + ny) (w : Int) :
    FSpec Try.prog 180 [.c (.int .i64 (nx)), .c (.int .i64 (ny)), .t (.ints .i64 play), .c (.int .i64 (w))] (ex (.ag [.c (.int .i64 (nx)), .c (.int .i64 (ny)), .c (.int .i64 (w)), .own 0]) [(0, .rows 25 3 true (pgM play nx ny w))]) := by
  refine fspec tyOk mx Try.func180 rfl (by kernel_rfl) rfl ?_
  conv => whnf
  refine ACall.use (newBox_spec nx ny w _ [.rp [.t (.ints .i64 play)] 0, .rp [.c (.int .i64 (nx))] 0, .rp [.c (.int .i64 (w))] 0] (pgN play nx w) (by omega) (by omega) (fun _ _ => rfl) rfl (fun i k' a b hi hk _ _ => pgN_spec nx ny h3 h3' play hl w i k' a b hi hk)) ?_
  conv => whnf
  exact ⟨rfl, rfl⟩

theorem l2PlayBoxG_spec (nx ny : Nat) (h3 : nx ≤ 3) (h3' : ny ≤ 3) (play : List Int) (hl : play.length = nx + ny) (h01 : ∀ v, v ∈ play → 0 ≤ v ∧ v ≤ 1) (w : Int) :
    FSpec Try.prog 146 [.c (.int .i64 (nx)), .c (.int .i64 (ny)), .t (.ints .i64 play), .c (.int .i64 (w))] (ex (.ag [.c (.int .i64 (nx)), .c (.int .i64 (ny)), .c (.int .i64 (w)), .own 0]) [(0, .rows 25 3 true (pgM play nx ny w))]) := by
  refine fspec tyOk mx Try.func146 rfl (by kernel_rfl) rfl ?_
  conv => whnf
  refine aloopI tyOk mx (fun i : Nat => (⟨51, [(0, .c (.int .i64 (nx))), (1, .c (.int .i64 (ny))), (2, .t (.ints .i64 play)), (3, .c (.int .i64 (w))), (8, .ptr 0 0), (9, .ptr 2 0), (10, .c (.int .i64 (i)))], [(0, .cells 53 [.c (.int .i64 (0)), .c (.int .i64 (0)), .c (.int .i64 (0)), .c (.slice none 0 0)]), (1, .rows 25 3 true (boxTo (pgN play nx w) ny i 0)), (2, .cells 53 [.c (.int .i64 (nx)), .c (.int .i64 (ny)), .c (.int .i64 (w)), .own 1])], 3⟩ : St)) (fun i => i ≤ nx) (fun i => nx - i) 0 (Nat.zero_le _) none (by refine ⟨rfl, rfl, ?_, ?_⟩ <;> ((repeat' (first | exact trivial | exact rfl | refine And.intro ?_ ?_)) <;> (try ((conv => whnf); first | refine vint ?_ | refine vboo ?_ | refine rint ?_ | refine rrow ?_ | skip)) <;> (try first | omega | (simp; done) | ((repeat rw [flts_closed _ (by assumption)]); exact vws_closed _ (by assumption))))) (fun i hi => ?_)
  refine ⟨fun h => ?_, fun h => ?_⟩
  · have h : i < nx := by have := of_decide_eq_true h; omega
    conv => whnf
    refine aloopI tyOk mx (fun k : Nat => (⟨51, [(0, .c (.int .i64 (nx))), (1, .c (.int .i64 (ny))), (2, .t (.ints .i64 play)), (3, .c (.int .i64 (w))), (8, .ptr 0 0), (9, .ptr 2 0), (10, .c (.int .i64 (i))), (11, .c (.int .i64 (k)))], [(0, .cells 53 [.c (.int .i64 (0)), .c (.int .i64 (0)), .c (.int .i64 (0)), .c (.slice none 0 0)]), (1, .rows 25 3 true (boxTo (pgN play nx w) ny i k)), (2, .cells 53 [.c (.int .i64 (nx)), .c (.int .i64 (ny)), .c (.int .i64 (w)), .own 1])], 3⟩ : St)) (fun k => k ≤ ny) (fun k => ny - k) 0 (Nat.zero_le _) none (by refine ⟨rfl, rfl, ?_, ?_⟩ <;> ((repeat' (first | exact trivial | exact rfl | refine And.intro ?_ ?_)) <;> (try ((conv => whnf); first | refine vint ?_ | refine vboo ?_ | refine rint ?_ | refine rrow ?_ | skip)) <;> (try first | omega | (simp; done) | ((repeat rw [flts_closed _ (by assumption)]); exact vws_closed _ (by assumption))))) (fun k hk => ?_)
    have hix : i * ny ≤ 3 * 3 := Nat.mul_le_mul (by omega) h3'
    have hlen := boxTo_len (pgN play nx w) ny i k
    refine ⟨fun h2 => ?_, fun h2 => ?_⟩
    · have h2 : k < ny := by have := of_decide_eq_true h2; omega
      have hp := h01 _ (getD_mem (d := 0) (show i < play.length by omega))
      have hq := h01 _ (getD_mem (d := 0) (show nx + k < play.length by omega))
      have e : IntKind.i64.wrap ((nx : Int) + (k : Int)) = ((nx + k : Nat) : Int) := by rw [w64 (by omega) (by omega)]; omega
      have e2 : IntKind.i64.wrap (IntKind.i64.wrap (2 * play.getD i 0) + play.getD (nx + k) 0) = ((2 * (play.getD i 0).toNat + (play.getD (nx + k) 0).toNat : Nat) : Int) := by
        rw [w64 (n := 2 * play.getD i 0) (by omega) (by omega), w64 (by omega) (by omega)]; omega
      conv => whnf
      refine ⟨4, rfl, rfl, by simp [room], ?_⟩
      conv => whnf
      refine ADraw.plan tyOk mx (.q 0 (.q 1 (.q 2 (.q 3 (.q 4 (.q 5 (.q 6 (.q 7 (.q 8 (.q 9 (.q 10 (.q 11 (.q 12 (.q 13 (.q 14 (.last 15 (.done)))))))))))))))) : Plan) (by kernel_rfl) ?_
      conv => whnf
      repeat' (first | (refine ⟨i, rfl, by omega, ?_⟩; conv => whnf) | (refine ⟨nx + k, e, by omega, ?_⟩; conv => whnf) | (refine ⟨2 * (play.getD i 0).toNat + (play.getD (nx + k) 0).toNat, e2, by rw [List.length_replicate]; omega, ?_⟩; conv => whnf) | (refine ⟨by simp [room]; omega, ?_⟩; conv => whnf) | (refine And.intro ?_ ?_ <;> (conv => whnf)))
      all_goals
        rw [nat_wrap (by omega)]
        refine ⟨k + 1, none, ?_, by omega, by omega⟩
        (refine ⟨rfl, rfl, ?_, ?_⟩ <;> ((repeat' (first | exact trivial | exact rfl | refine And.intro ?_ ?_)) <;> (try ((conv => whnf); first | refine vint ?_ | refine vboo ?_ | refine rint ?_ | refine rrow ?_ | skip)) <;> (try first | omega | (simp; done) | ((repeat rw [flts_closed _ (by assumption)]); exact vws_closed _ (by assumption)))))
        rw [← boxTo_row, ← pg_row (i := i) (k := k) (p := (play.getD i 0).toNat) (q := (play.getD (nx + k) 0).toNat) (by omega) (by omega) (by omega) (by omega)]
    · have h2 : ¬ k < ny := by have := of_decide_eq_false h2; omega
      obtain rfl : k = ny := by omega
      conv => whnf
      rw [nat_wrap (by omega)]
      refine ⟨i + 1, none, ?_, by omega, by omega⟩
      (refine ⟨rfl, rfl, ?_, ?_⟩ <;> ((repeat' (first | exact trivial | exact rfl | refine And.intro ?_ ?_)) <;> (try ((conv => whnf); first | refine vint ?_ | refine vboo ?_ | refine rint ?_ | refine rrow ?_ | skip)) <;> (try first | omega | (simp; done) | ((repeat rw [flts_closed _ (by assumption)]); exact vws_closed _ (by assumption)))))
      exact boxTo_end _ _ i
  · have h : ¬ i < nx := by have := of_decide_eq_false h; omega
    obtain rfl : i = nx := by omega
    conv => whnf
    exact ⟨rfl, by rw [boxTo_all]; rfl⟩

theorem AreAlike_s (x y z : Int) (m : List (List Int)) (x' y' z' : Int) (m' : List (List Int)) (km : SzM m) (km' : SzM m') :
    FSpec Try.prog 59 [.ag [.c (.int .i64 (x)), .c (.int .i64 (y)), .c (.int .i64 (z)), .t (.rows m)], .ag [.c (.int .i64 (x')), .c (.int .i64 (y')), .c (.int .i64 (z')), .t (.rows m')]] (ex (.tu [.c (.bool (aaV x y z m x' y' z' m')), .c (.bool (sqB x y z m x' y' z' m'))]) []) := by
  refine fspec tyOk mx Try.func59 rfl (by kernel_rfl) rfl ?_
  conv => whnf
  refine ACall.use (l2Same_spec x y z m x' y' z' m' km km') ?_
  conv => whnf
  refine ⟨fun h => ?_, fun h => ?_⟩
  · have h : sqB x y z m x' y' z' m' = false := by simpa using h
    conv => whnf
    exact ⟨by rw [aaV, h]; rfl, rfl⟩
  · have h : sqB x y z m x' y' z' m' = true := by simpa using h
    obtain ⟨h1, h2, rfl, rfl⟩ := sqB_spec h
    obtain ⟨a, b, e1, e2, _, _, _, _, _, _, l1, c1, r1⟩ := goodB_spec h1
    obtain ⟨a', b', e1', e2', _, _, _, _, _, _, l2, c2, r2⟩ := goodB_spec h2
    have ea : a = a' := by omega
    have eb : b = b' := by omega
    subst ea eb
    conv => whnf
    refine ACall.use (l2Alike_spec x y z x y z' m m' (by rw [l1, l2]) (by omega) (fun r hr => (r1 r hr).1) (fun r hr => (r2 r hr).1)) ?_
    conv => whnf
    exact ⟨by rw [aaV, h, Bool.true_and], rfl⟩
end Go.Proofs.Ytkomndcehdneaaa
/- Functionals of any sizes, worths: reference and program. -/
namespace Go.Proofs.Ytkomndcehdneaaa
open Go.Aw
set_option maxRecDepth 100000
set_option maxHeartbeats 4000000

/-- a functional for x and y questions -/
def fnG (x y : Int) (f : List (List Int)) : Bool := szOk x y && decide ((f.length : Int) = x * y) && f.all fnRow
theorem fnG_spec {x y : Int} {f : List (List Int)} (h : fnG x y f = true) : ∃ a b : Nat, x = a ∧ y = b ∧ 1 ≤ a ∧ a ≤ 3 ∧ 1 ≤ b ∧ b ≤ 3 ∧ f.length = a * b ∧ a * b ≤ 9 ∧ (∀ r, r ∈ f → r.length = 4) ∧ ∀ r, r ∈ f → ∀ v, v ∈ r → -99 ≤ v ∧ v ≤ 99 := by
  simp only [fnG, Bool.and_eq_true, decide_eq_true_eq, List.all_eq_true, fnRow, rowIn_iff] at h
  obtain ⟨⟨h1, h2⟩, h3⟩ := h
  obtain ⟨a, b, rfl, rfl, a1, a3, b1, b3, e, hab⟩ := szOk_nat h1
  exact ⟨a, b, rfl, rfl, a1, a3, b1, b3, by omega, hab, fun r hr => (h3 r hr).1, fun r hr => (h3 r hr).2⟩
theorem isFunctionalG_spec (x y : Int) (f : List (List Int)) (kf : SzM f) : FSpec Try.prog 138 [.c (.int .i64 (x)), .c (.int .i64 (y)), .t (.rows f)] (ex (.c (.bool (fnG x y f))) []) := by
  obtain ⟨k1, k2, k3⟩ := kf.all
  refine fspec tyOk mx Try.func138 rfl (by kernel_rfl) rfl ?_
  conv => whnf
  refine aloopI tyOk mx (fun i : Nat => (⟨35, [(0, .c (.int .i64 (x))), (1, .c (.int .i64 (y))), (2, .t (.rows f)), (9, .t (.rows f)), (10, .c (.int .i64 (f.length))), (11, .c (.int .i64 (i)))], [], 0⟩ : St)) (fun i => i ≤ f.length ∧ (f.take i).all fnRow = true) (fun i => f.length - i) 0 ⟨Nat.zero_le _, rfl⟩ none (by refine ⟨rfl, rfl, ?_, ?_⟩ <;> ((repeat' (first | exact trivial | exact rfl | refine And.intro ?_ ?_)) <;> (try ((conv => whnf); first | refine vint ?_ | refine vboo ?_ | refine rint ?_ | refine rrow ?_ | skip)) <;> (try first | omega | (simp; done) | ((repeat rw [flts_closed _ (by assumption)]); exact vws_closed _ (by assumption))))) (fun i hi => ?_)
  obtain ⟨hi, hp⟩ := hi
  refine ⟨fun h => ?_, fun h => ?_⟩
  · have h : i < f.length := by have := ltT h; omega
    have hri := k2 _ (getD_mem (d := []) h)
    conv => whnf
    refine ⟨i, rfl, h, ?_⟩
    conv => whnf
    refine ⟨fun h3 => ?_, fun h3 => ?_⟩
    · have h3 : (f.getD i []).length = 4 := by
        have : ((f.getD i []).length : Int) = 4 := by simpa using h3
        omega
      conv => whnf
      refine ACall.use (allWithin_spec (f.getD i []) _ _ (by omega)) ?_
      conv => whnf
      refine ⟨fun h4 => ?_, fun h4 => ?_⟩
      · have h4 : rowIn (f.getD i []) (-99) 99 = false := by simpa using h4
        conv => whnf
        refine ⟨?_, rfl⟩
        rw [fnG, all_false (d := []) h (by rw [fnRow, h4, Bool.and_false]), Bool.and_false]
      · have h4 : rowIn (f.getD i []) (-99) 99 = true := by simpa using h4
        conv => whnf
        rw [nat_wrap (by omega)]
        exact ⟨i + 1, none, (by refine ⟨rfl, rfl, ?_, ?_⟩ <;> ((repeat' (first | exact trivial | exact rfl | refine And.intro ?_ ?_)) <;> (try ((conv => whnf); first | refine vint ?_ | refine vboo ?_ | refine rint ?_ | refine rrow ?_ | skip)) <;> (try first | omega | (simp; done) | ((repeat rw [flts_closed _ (by assumption)]); exact vws_closed _ (by assumption))))), ⟨by omega, all_take_succ (d := []) h hp (by rw [fnRow, h4, decide_eq_true h3]; rfl)⟩, by omega⟩
    · have h3 : ¬ (f.getD i []).length = 4 := by
        intro e; rw [e] at h3; exact absurd h3 (by decide)
      conv => whnf
      (repeat (conv => whnf); (first | refine ⟨fun h => absurd h (by decide), fun _ => ?_⟩ | refine ⟨fun _ => ?_, fun h => absurd h (by decide)⟩)); conv => whnf
      refine ⟨?_, rfl⟩
      rw [fnG, all_false (d := []) h (by rw [fnRow, decide_eq_false h3, Bool.false_and]), Bool.and_false]
  · have h : ¬ i < f.length := by have := ltF h; omega
    have hall := all_end h hp
    conv => whnf
    refine ACall.use (areQuestions_spec x y) ?_
    conv => whnf
    refine ⟨fun hs => ?_, fun hs => ?_⟩
    · obtain ⟨a, b, rfl, rfl, _, a3, _, b3, exy, hab⟩ := szOk_nat hs
      have ew : IntKind.i64.wrap ((a : Int) * (b : Int)) = (a : Int) * b := by rw [exy]; exact w64 (by omega) (by omega)
      conv => whnf
      rw [ew]
      refine ⟨?_, rfl⟩
      rw [fnG, hall, Bool.and_true, hs, Bool.true_and]
      by_cases e : (f.length : Int) = (a : Int) * b
      · rw [decide_eq_true e]; simp [e]
      · rw [decide_eq_false e]; simp [e]
    · conv => whnf
      refine ⟨?_, rfl⟩
      rw [fnG, hs, Bool.false_and, Bool.false_and]

def woOk (x y z : Int) (m f : List (List Int)) : Bool := goodB x y z m && fnG x y f
def woV (x y z : Int) (m f : List (List Int)) : Int := if woOk x y z m f then worthF f m else 0
theorem WorthOf_i (x y z : Int) (m f : List (List Int)) (km : SzM m) (kf : SzM f) :
    FSpec Try.prog 44 [.t (.rows f), .ag [.c (.int .i64 (x)), .c (.int .i64 (y)), .c (.int .i64 (z)), .t (.rows m)]] (ex (.tu [.c (.int .i64 (woV x y z m f)), .c (.bool (woOk x y z m f))]) []) := by
  refine fspec tyOk mx Try.func44 rfl (by kernel_rfl) rfl ?_
  conv => whnf
  refine ACall.use (IsBox_spec x y z m km) ?_
  conv => whnf
  refine ⟨fun h => ?_, fun h => ?_⟩
  · conv => whnf
    refine ACall.use (isFunctionalG_spec x y f kf) ?_
    conv => whnf
    refine ⟨fun h2 => ?_, fun h2 => ?_⟩
    · have h2 : fnG x y f = false := by simpa using h2
      have e : woOk x y z m f = false := by rw [woOk, h2, Bool.and_false]
      conv => whnf
      exact ⟨by rw [woV, e]; rfl, rfl⟩
    · have h2 : fnG x y f = true := by simpa using h2
      have hg : goodB x y z m = true := by simpa using h
      have e : woOk x y z m f = true := by rw [woOk, hg, h2]; rfl
      obtain ⟨a, b, rfl, rfl, _, _, _, _, f1, _, f3, _⟩ := fnG_spec h2
      obtain ⟨a', b', ea, eb, _, _, _, _, _, _, g1, g2, g3⟩ := goodB_spec hg
      have ea : a = a' := by omega
      have eb : b = b' := by omega
      subst ea eb
      conv => whnf
      refine ACall.use (worth_spec f m (by rw [f1, g1]) (by omega) f3 (fun r hr => (g3 r hr).1)) ?_
      conv => whnf
      exact ⟨by rw [woV, e]; rfl, rfl⟩
  · have hg : goodB x y z m = false := by simpa using h
    have e : woOk x y z m f = false := by rw [woOk, hg, Bool.false_and]
    (repeat (conv => whnf); (first | refine ⟨fun h => absurd h (by decide), fun _ => ?_⟩ | refine ⟨fun _ => ?_, fun h => absurd h (by decide)⟩)); conv => whnf
    exact ⟨by rw [woV, e]; rfl, rfl⟩

theorem l2FunctionalG_spec (x y : Int) (f : List (List Int)) (kf : SzM f) : FSpec Try.prog 177 [.c (.int .i64 (x)), .c (.int .i64 (y)), .t (.rows f)] (ex (.c (.bool (fnG x y f))) []) := by
  obtain ⟨k1, k2, k3⟩ := kf.all
  refine fspec tyOk mx Try.func177 rfl (by kernel_rfl) rfl ?_
  conv => whnf
  refine ACall.use (l2Sizes_spec x y) ?_
  conv => whnf
  cases hs : szOk x y with
  | false =>
    (repeat (conv => whnf); (first | refine ⟨fun h => absurd h (by decide), fun _ => ?_⟩ | refine ⟨fun _ => ?_, fun h => absurd h (by decide)⟩)); conv => whnf
    refine ⟨?_, rfl⟩
    rw [fnG, hs, Bool.false_and, Bool.false_and]
  | true =>
  obtain ⟨a, b, ea, eb, _, a3, _, b3, exy, hab⟩ := szOk_nat hs
  have ew : IntKind.i64.wrap (x * y) = x * y := by rw [exy]; exact w64 (by omega) (by omega)
  (repeat (conv => whnf); (first | refine ⟨fun h => absurd h (by decide), fun _ => ?_⟩ | refine ⟨fun _ => ?_, fun h => absurd h (by decide)⟩)); conv => whnf
  rw [ew]
  refine ⟨fun h => ?_, fun h => ?_⟩
  · have h : ¬ (f.length : Int) = x * y := by
      intro e
      rw [e] at h
      simp at h
    conv => whnf
    refine ⟨?_, rfl⟩
    rw [fnG, decide_eq_false h, Bool.and_false, Bool.false_and]
  · have h0 : (f.length : Int) = x * y := by simpa using h
    clear h
    conv => whnf
    refine aloopI tyOk mx (fun i : Nat => (⟨51, [(2, .t (.rows f)), (7, .c (.int .i64 (i)))], [], 0⟩ : St)) (fun i => i ≤ f.length ∧ (f.take i).all fnRow = true) (fun i => f.length - i) 0 ⟨Nat.zero_le _, rfl⟩ none (by refine ⟨rfl, rfl, ?_, ?_⟩ <;> ((repeat' (first | exact trivial | exact rfl | refine And.intro ?_ ?_)) <;> (try ((conv => whnf); first | refine vint ?_ | refine vboo ?_ | refine rint ?_ | refine rrow ?_ | skip)) <;> (try first | omega | (simp; done) | ((repeat rw [flts_closed _ (by assumption)]); exact vws_closed _ (by assumption))))) (fun i hi => ?_)
    obtain ⟨hi, hp⟩ := hi
    refine ⟨fun h => ?_, fun h => ?_⟩
    · have h : i < f.length := by have := ltT h; omega
      have hri := k2 _ (getD_mem (d := []) h)
      conv => whnf
      refine aloopI tyOk mx (fun n : Nat => (⟨51, [(2, .t (.rows f)), (7, .c (.int .i64 (i))), (8, .c (.int .i64 (n)))], [], 0⟩ : St)) (fun n => n ≤ (f.getD i []).length ∧ ((f.getD i []).take n).all (fun x => inR x (-99) 99) = true) (fun n => (f.getD i []).length - n) 0 ⟨Nat.zero_le _, rfl⟩ none (by refine ⟨rfl, rfl, ?_, ?_⟩ <;> ((repeat' (first | exact trivial | exact rfl | refine And.intro ?_ ?_)) <;> (try ((conv => whnf); first | refine vint ?_ | refine vboo ?_ | refine rint ?_ | refine rrow ?_ | skip)) <;> (try first | omega | (simp; done) | ((repeat rw [flts_closed _ (by assumption)]); exact vws_closed _ (by assumption))))) (fun n hn => ?_)
      obtain ⟨hn, hq⟩ := hn
      refine ⟨i, rfl, h, ?_⟩
      conv => whnf
      refine ⟨fun h2 => ?_, fun h2 => ?_⟩
      · have h2 : n < (f.getD i []).length := by have := ltT h2; omega
        conv => whnf
        refine ⟨i, rfl, h, n, rfl, h2, ?_⟩
        conv => whnf
        refine ACall.use (l1In_spec _ _ _) ?_
        conv => whnf
        refine ⟨fun h3 => ?_, fun h3 => ?_⟩
        · have h3 : inR ((f.getD i []).getD n 0) (-99) 99 = false := by simpa using h3
          conv => whnf
          refine ⟨?_, rfl⟩
          rw [fnG, all_false (d := []) h (by rw [fnRow, rowIn, all_false (d := 0) h2 h3, Bool.and_false]), Bool.and_false]
        · have h3 : inR ((f.getD i []).getD n 0) (-99) 99 = true := by simpa using h3
          conv => whnf
          rw [nat_wrap (by omega)]
          exact ⟨n + 1, none, (by refine ⟨rfl, rfl, ?_, ?_⟩ <;> ((repeat' (first | exact trivial | exact rfl | refine And.intro ?_ ?_)) <;> (try ((conv => whnf); first | refine vint ?_ | refine vboo ?_ | refine rint ?_ | refine rrow ?_ | skip)) <;> (try first | omega | (simp; done) | ((repeat rw [flts_closed _ (by assumption)]); exact vws_closed _ (by assumption))))), ⟨by omega, all_take_succ (d := 0) h2 hq h3⟩, by omega⟩
      · have h2 : ¬ n < (f.getD i []).length := by have := ltF h2; omega
        have hrow : rowIn (f.getD i []) (-99) 99 = true := all_end h2 hq
        conv => whnf
        refine ⟨i, rfl, h, ?_⟩
        conv => whnf
        refine ⟨fun h3 => ?_, fun h3 => ?_⟩
        · have h3 : ¬ (f.getD i []).length = 4 := by
            intro e; rw [e] at h3; exact absurd h3 (by decide)
          conv => whnf
          refine ⟨?_, rfl⟩
          rw [fnG, all_false (d := []) h (by rw [fnRow, decide_eq_false h3, Bool.false_and]), Bool.and_false]
        · have h3 : (f.getD i []).length = 4 := by
            have : ((f.getD i []).length : Int) = 4 := by simpa using h3
            omega
          conv => whnf
          rw [nat_wrap (by omega)]
          exact ⟨i + 1, none, (by refine ⟨rfl, rfl, ?_, ?_⟩ <;> ((repeat' (first | exact trivial | exact rfl | refine And.intro ?_ ?_)) <;> (try ((conv => whnf); first | refine vint ?_ | refine vboo ?_ | refine rint ?_ | refine rrow ?_ | skip)) <;> (try first | omega | (simp; done) | ((repeat rw [flts_closed _ (by assumption)]); exact vws_closed _ (by assumption))))), ⟨by omega, all_take_succ (d := []) h hp (by rw [fnRow, hrow, decide_eq_true h3]; rfl)⟩, by omega⟩
    · have h : ¬ i < f.length := by have := ltF h; omega
      conv => whnf
      refine ⟨?_, rfl⟩
      rw [fnG, hs, decide_eq_true h0, all_end h hp]; rfl
theorem WorthOf_s (x y z : Int) (m f : List (List Int)) (km : SzM m) (kf : SzM f) :
    FSpec Try.prog 61 [.t (.rows f), .ag [.c (.int .i64 (x)), .c (.int .i64 (y)), .c (.int .i64 (z)), .t (.rows m)]] (ex (.tu [.c (.int .i64 (woV x y z m f)), .c (.bool (woOk x y z m f))]) []) := by
  refine fspec tyOk mx Try.func61 rfl (by kernel_rfl) rfl ?_
  conv => whnf
  refine ACall.use (l2Box_spec x y z m km) ?_
  conv => whnf
  refine ⟨fun h => ?_, fun h => ?_⟩
  · conv => whnf
    refine ACall.use (l2FunctionalG_spec x y f kf) ?_
    conv => whnf
    refine ⟨fun h2 => ?_, fun h2 => ?_⟩
    · have h2 : fnG x y f = false := by simpa using h2
      have e : woOk x y z m f = false := by rw [woOk, h2, Bool.and_false]
      conv => whnf
      exact ⟨by rw [woV, e]; rfl, rfl⟩
    · have h2 : fnG x y f = true := by simpa using h2
      have hg : goodB x y z m = true := by simpa using h
      have e : woOk x y z m f = true := by rw [woOk, hg, h2]; rfl
      obtain ⟨a, b, rfl, rfl, _, _, _, _, f1, _, f3, _⟩ := fnG_spec h2
      obtain ⟨a', b', ea, eb, _, _, _, _, _, _, g1, g2, g3⟩ := goodB_spec hg
      have ea : a = a' := by omega
      have eb : b = b' := by omega
      subst ea eb
      conv => whnf
      refine ACall.use (l2Worth_spec f m a b z (by rw [f1, g1]) (by omega) f3 (fun r hr => (g3 r hr).1)) ?_
      conv => whnf
      exact ⟨by rw [woV, e]; rfl, rfl⟩
  · have hg : goodB x y z m = false := by simpa using h
    have e : woOk x y z m f = false := by rw [woOk, hg, Bool.false_and]
    (repeat (conv => whnf); (first | refine ⟨fun h => absurd h (by decide), fun _ => ?_⟩ | refine ⟨fun _ => ?_, fun h => absurd h (by decide)⟩)); conv => whnf
    exact ⟨by rw [woV, e]; rfl, rfl⟩
end Go.Proofs.Ytkomndcehdneaaa
/- The worths of plays, and plays' boxes, of any sizes: reference and program. -/
namespace Go.Aw
theorem fo_flatG {α : Type} (f : α → Nat → α) (ny : Nat) (a : α) : ∀ n, fo (fun a i => fo (fun a k => f a (i * ny + k)) a ny) a n = fo f a (n * ny)
  | 0 => by rw [Nat.zero_mul]; rfl
  | n + 1 => by
    have ih := fo_flatG f ny a n
    show fo (fun a k => f a (n * ny + k)) (fo (fun a i => fo (fun a k => f a (i * ny + k)) a ny) a n) ny = _
    rw [ih, Nat.succ_mul]
    have h : ∀ k, fo (fun a k => f a (n * ny + k)) (fo f a (n * ny)) k = fo f a (n * ny + k) := fun k => by
      induction k with
      | zero => rfl
      | succ k ih => show f (fo (fun a k => f a (n * ny + k)) (fo f a (n * ny)) k) _ = _; rw [ih]; rfl
    exact h ny
theorem boxRows_row (num : Nat → Nat → Nat → Nat → Int) (ny : Nat) : ∀ nx {i k : Nat}, i < nx → k < ny → (boxRows num nx ny).getD (i * ny + k) [] = boxRow num i k
  | 0, i, k, hi, _ => absurd hi (Nat.not_lt_zero i)
  | n + 1, i, k, hi, hk => by
    have e : boxRows num (n + 1) ny = boxRows num n ny ++ (List.range ny).map (boxRow num n) := by
      simp [boxRows, List.range_succ]
    have hl := boxRows_len num n ny
    rw [e, List.getD_eq_getElem?_getD]
    by_cases h : i < n
    · have hlt : i * ny + k < n * ny := by
        have := Nat.mul_le_mul_right ny h
        rw [Nat.succ_mul] at this; omega
      rw [List.getElem?_append_left (by omega), ← List.getD_eq_getElem?_getD]
      exact boxRows_row num ny n h hk
    · obtain rfl : i = n := by omega
      rw [List.getElem?_append_right (by omega), hl, Nat.add_sub_cancel_left, ← List.getD_eq_getElem?_getD, range_getD hk]
theorem Wexp (x : Int) : W x = (x + 9223372036854775808) % 18446744073709551616 - 9223372036854775808 := by
  show IntKind.i64.wrap x = _
  rw [IntKind.wrap_i64]
theorem Wl (a b : Int) : W (W a + b) = W (a + b) := by simp only [Wexp]; omega
theorem Wr (a b : Int) : W (a + W b) = W (a + b) := by simp only [Wexp]; omega
theorem W0 : W 0 = 0 := rfl
theorem wRow_play {f m : List (List Int)} {j b : Nat} (h : m.getD j [] = (List.replicate 4 (0 : Int)).set b 1) (hb : b < 4) (a : Int) : wRow f m j a 4 = W (a + (f.getD j []).getD b 0) := by
  have e : wRow f m j a 4 = W (W (W (W (a + W ((f.getD j []).getD 0 0 * (m.getD j []).getD 0 0)) + W ((f.getD j []).getD 1 0 * (m.getD j []).getD 1 0)) + W ((f.getD j []).getD 2 0 * (m.getD j []).getD 2 0)) + W ((f.getD j []).getD 3 0 * (m.getD j []).getD 3 0)) := rfl
  rw [e, h]
  have h4 : b = 0 ∨ b = 1 ∨ b = 2 ∨ b = 3 := by omega
  rcases h4 with rfl | rfl | rfl | rfl <;> simp only [List.replicate, List.set, List.getD_cons_zero, List.getD_cons_succ, Int.mul_zero, Int.mul_one, W0, Int.add_zero, Wl, Wr, WW]
theorem pw_worth {f : List (List Int)} {p : List Int} {nx ny : Nat} (hp : ∀ v, v ∈ p → 0 ≤ v ∧ v ≤ 1) : worthF f (pgM p nx ny 1) = pwTo f p nx ny nx := by
  rw [worthF, wTo, pgM, boxRows_len, ← fo_flatG]
  refine fo_congr fun a i hi => fo_congr fun b k hk => ?_
  have h1 := bits_mem hp (i := i)
  have h2 := bits_mem hp (i := nx + k)
  refine wRow_play (b := bitIx p nx i k) ?_ (bitIx_eq hp nx i k).2 b
  rw [boxRows_row _ _ _ hi hk, ← pg_row (i := i) (k := k) (p := (p.getD i 0).toNat) (q := (p.getD (nx + k) 0).toNat) (by omega) (by omega) (by omega) (by omega)]
  congr 1
  unfold bitIx; omega
end Go.Aw
namespace Go.Proofs.Ytkomndcehdneaaa
open Go.Aw
set_option maxRecDepth 100000
set_option maxHeartbeats 4000000
def pyB (x y : Int) (p : List Int) : Bool := decide ((p.length : Int) = W (x + y)) && rowIn p 0 1
def pwOk (x y : Int) (f : List (List Int)) (p : List Int) : Bool := fnG x y f && pyB x y p
def pwV (x y : Int) (f : List (List Int)) (p : List Int) : Int := if pwOk x y f p then pwTo f p x.toNat y.toNat x.toNat else 0
theorem pyB_len {a b : Nat} {p : List Int} (h : pyB a b p = true) (ha : a ≤ 3) (hb : b ≤ 3) : p.length = a + b ∧ ∀ v, v ∈ p → 0 ≤ v ∧ v ≤ 1 := by
  simp only [pyB, Bool.and_eq_true, decide_eq_true_eq] at h
  obtain ⟨h1, h2⟩ := h
  rw [show W ((a : Int) + (b : Int)) = (a : Int) + b from w64 (by omega) (by omega)] at h1
  exact ⟨by omega, fun v hv => rowIn_iff.1 h2 v hv⟩
theorem PlayWorth_i (x y : Int) (f : List (List Int)) (p : List Int) (kf : SzM f) (kp : SzI p) :
    FSpec Try.prog 45 [.c (.int .i64 (x)), .c (.int .i64 (y)), .t (.rows f), .t (.ints .i64 p)] (ex (.tu [.c (.int .i64 (pwV x y f p)), .c (.bool (pwOk x y f p))]) []) := by
  refine fspec tyOk mx Try.func45 rfl (by kernel_rfl) rfl ?_
  conv => whnf
  refine ACall.use (isFunctionalG_spec x y f kf) ?_
  conv => whnf
  refine ⟨fun h => ?_, fun h => ?_⟩
  · have h : fnG x y f = true := by simpa using h
    conv => whnf
    refine ACall.use (isPlay_spec x y p kp) ?_
    conv => whnf
    refine ⟨fun h2 => ?_, fun h2 => ?_⟩
    · have h2 : pyB x y p = false := by change (!pyB x y p) = true at h2; simpa using h2
      have e : pwOk x y f p = false := by rw [pwOk, h2, Bool.and_false]
      conv => whnf
      exact ⟨by rw [pwV, e]; rfl, rfl⟩
    · have h2 : pyB x y p = true := by change (!pyB x y p) = false at h2; simpa using h2
      have e : pwOk x y f p = true := by rw [pwOk, h, h2]; rfl
      obtain ⟨a, b, rfl, rfl, _, a3, _, b3, f1, _, f3, _⟩ := fnG_spec h
      obtain ⟨p1, p2⟩ := pyB_len h2 a3 b3
      conv => whnf
      refine ACall.use (playWorth_spec a b f p a3 b3 f1 f3 p2 p1) ?_
      conv => whnf
      exact ⟨by rw [pwV, e]; rfl, rfl⟩
  · have h : fnG x y f = false := by simpa using h
    have e : pwOk x y f p = false := by rw [pwOk, h, Bool.false_and]
    (repeat (conv => whnf); (first | refine ⟨fun h => absurd h (by decide), fun _ => ?_⟩ | refine ⟨fun _ => ?_, fun h => absurd h (by decide)⟩)); conv => whnf
    exact ⟨by rw [pwV, e]; rfl, rfl⟩
theorem l2PlayA_spec (x y : Int) (p : List Int) (kp : SzI p) :
    FSpec Try.prog 179 [.c (.int .i64 (x)), .c (.int .i64 (y)), .t (.ints .i64 p)] (ex (.c (.bool (szOk x y && pyB x y p))) []) := by
  have kp' : p.length ≤ 1048576 := kp
  refine fspec tyOk mx Try.func179 rfl (by kernel_rfl) rfl ?_
  conv => whnf
  refine ACall.use (l2Sizes_spec x y) ?_
  conv => whnf
  refine ⟨fun h => ?_, fun h => ?_⟩
  · have h : szOk x y = true := by simpa using h
    conv => whnf
    refine ACall.use (l2Bits_spec p _ (by omega)) ?_
    conv => whnf
    exact ⟨by rw [h, pyB, Bool.true_and, Bool.and_comm], rfl⟩
  · have h : szOk x y = false := by simpa using h
    conv => whnf
    exact ⟨by rw [h, Bool.false_and], rfl⟩
theorem PlayWorth_s (x y : Int) (f : List (List Int)) (p : List Int) (kf : SzM f) (kp : SzI p) :
    FSpec Try.prog 63 [.c (.int .i64 (x)), .c (.int .i64 (y)), .t (.rows f), .t (.ints .i64 p)] (ex (.tu [.c (.int .i64 (pwV x y f p)), .c (.bool (pwOk x y f p))]) []) := by
  refine fspec tyOk mx Try.func63 rfl (by kernel_rfl) rfl ?_
  conv => whnf
  refine ACall.use (l2PlayA_spec x y p kp) ?_
  conv => whnf
  refine ⟨fun h => ?_, fun h => ?_⟩
  · have h2 : (szOk x y && pyB x y p) = true := by simpa using h
    conv => whnf
    refine ACall.use (l2FunctionalG_spec x y f kf) ?_
    conv => whnf
    refine ⟨fun h => ?_, fun h => ?_⟩
    · have h : fnG x y f = false := by simpa using h
      have e : pwOk x y f p = false := by rw [pwOk, h, Bool.false_and]
      conv => whnf
      exact ⟨by rw [pwV, e]; rfl, rfl⟩
    · have h : fnG x y f = true := by simpa using h
      have h2 : pyB x y p = true := (Bool.and_eq_true_iff.1 h2).2
      have e : pwOk x y f p = true := by rw [pwOk, h, h2]; rfl
      obtain ⟨a, b, rfl, rfl, _, a3, _, b3, f1, fl, f3, _⟩ := fnG_spec h
      obtain ⟨p1, p2⟩ := pyB_len h2 a3 b3
      have hm : (pgM p a b 1).length = a * b := boxRows_len _ _ _
      conv => whnf
      refine ACall.use (l2PlayBoxG_spec a b a3 b3 p p1 p2 1) ?_
      conv => whnf
      refine ACall.use (l2Worth_spec f (pgM p a b 1) a b 1 (by rw [f1, hm]) (by omega) f3 (boxRows_rows _ _ _)) ?_
      conv => whnf
      exact ⟨by rw [pwV, e, pw_worth p2]; rfl, rfl⟩
  · have h2 : (szOk x y && pyB x y p) = false := by
      change (!(szOk x y && pyB x y p)) = true at h
      generalize (szOk x y && pyB x y p) = q at h ⊢
      simpa using h
    have e : pwOk x y f p = false := by
      rw [pwOk]
      cases hf : fnG x y f with
      | false => rfl
      | true =>
        rw [fnG] at hf
        simp only [Bool.and_eq_true] at hf
        rw [hf.1.1, Bool.true_and] at h2
        rw [h2]; rfl
    (repeat (conv => whnf); (first | refine ⟨fun h => absurd h (by decide), fun _ => ?_⟩ | refine ⟨fun _ => ?_, fun h => absurd h (by decide)⟩)); conv => whnf
    exact ⟨by rw [pwV, e]; rfl, rfl⟩
def plOk (x y : Int) (p : List Int) (w : Int) : Bool := szOk x y && (pyB x y p && inR w 1 1000)
def plR (x y : Int) (p : List Int) (w : Int) : List (List Int) := if plOk x y p w then pgM p x.toNat y.toNat w else []
theorem PlayBox_i (x y : Int) (p : List Int) (w : Int) (kp : SzI p) :
    FSpec Try.prog 64 [.c (.int .i64 (x)), .c (.int .i64 (y)), .t (.ints .i64 p), .c (.int .i64 (w))]
      (ex (.tu [.ag [.c (.int .i64 (if plOk x y p w then x else 0)), .c (.int .i64 (if plOk x y p w then y else 0)), .c (.int .i64 (if plOk x y p w then w else 0)), .own 0], .c (.bool (plOk x y p w))]) [(0, .rows 25 3 true (plR x y p w))]) := by
  refine view_box ?_
  refine fspec tyOk mx Try.func64 rfl (by kernel_rfl) rfl ?_
  conv => whnf
  refine ACall.use (areQuestions_spec x y) ?_
  conv => whnf
  refine ⟨fun h => ?_, fun h => ?_⟩
  · have h : szOk x y = true := by simpa using h
    conv => whnf
    refine ACall.use (isPlay_spec x y p kp) ?_
    conv => whnf
    refine ⟨fun h2 => ?_, fun h2 => ?_⟩
    · have h2 : pyB x y p = true := by change (!pyB x y p) = false at h2; simpa using h2
      conv => whnf
      refine ACall.use (within_spec _ _ _) ?_
      conv => whnf
      refine ⟨fun h3 => ?_, fun h3 => ?_⟩
      · have h3 : inR w 1 1000 = false := by simpa using h3
        have e : plOk x y p w = false := by rw [plOk, h, h2, h3]; rfl
        conv => whnf
        exact .inl ⟨e, rfl, rfl⟩
      · have h3 : inR w 1 1000 = true := by simpa using h3
        have e : plOk x y p w = true := by rw [plOk, h, h2, h3]; rfl
        obtain ⟨a, b, rfl, rfl, _, a3, _, b3, _, _⟩ := szOk_nat h
        obtain ⟨p1, p2⟩ := pyB_len h2 a3 b3
        conv => whnf
        refine ACall.use (playBoxG_spec a b a3 b3 p p1 w) ?_
        conv => whnf
        exact .inr ⟨e, rfl, rfl⟩
    · have h2 : pyB x y p = false := by change (!pyB x y p) = true at h2; simpa using h2
      have e : plOk x y p w = false := by rw [plOk, h, h2]; rfl
      (repeat (conv => whnf); (first | refine ⟨fun h => absurd h (by decide), fun _ => ?_⟩ | refine ⟨fun _ => ?_, fun h => absurd h (by decide)⟩)); conv => whnf
      exact .inl ⟨e, rfl, rfl⟩
  · have h : szOk x y = false := by simpa using h
    have e : plOk x y p w = false := by rw [plOk, h]; rfl
    (repeat (conv => whnf); (first | refine ⟨fun h => absurd h (by decide), fun _ => ?_⟩ | refine ⟨fun _ => ?_, fun h => absurd h (by decide)⟩)); conv => whnf
    exact .inl ⟨e, rfl, rfl⟩
end Go.Proofs.Ytkomndcehdneaaa
/- The types of this program, more of them. -/
namespace Go.Aw
theorem FSpec.toldL {P : Program} {f : FuncId} {args : List AVal} {x x' : AVal} {h : List (Nat × ARow)} (hs : FSpec P f args (ex x h)) (hv : vw h [] 0 x x') : FSpec P f args (ex x' []) :=
  hs.view (fun y hr e => by obtain ⟨rfl, rfl⟩ := e; exact ⟨[], x', [], rfl, trivial, hv, rfl, rfl⟩)
end Go.Aw
namespace Go.Proofs.Ytkomndcehdneaaa.L
open Go.Aw
def ty : Tys := [
 (3, ⟨.int .i64, 1, 8, [.int .i64 0]⟩),
 (25, ⟨.slice 3, 1, 24, [.slice none 0 0]⟩),
 (24, ⟨.slice 25, 1, 24, [.slice none 0 0]⟩),
 (176, ⟨.int .u64, 1, 8, [.int .u64 0]⟩),
 (53, ⟨.struct [(0, 3), (1, 3), (2, 3), (3, 24)], 4, 48, [.int .i64 0, .int .i64 0, .int .i64 0, .slice none 0 0]⟩),
 (84, ⟨.struct [(0, 3), (1, 3), (2, 25), (3, 24)], 4, 64, [.int .i64 0, .int .i64 0, .slice none 0 0, .slice none 0 0]⟩),
 (158, ⟨.array 2 3, 2, 16, [.int .i64 0, .int .i64 0]⟩),
 (180, ⟨.slice 158, 1, 24, [.slice none 0 0]⟩),
 (185, ⟨.array 4 3, 4, 32, [.int .i64 0, .int .i64 0, .int .i64 0, .int .i64 0]⟩),
 (183, ⟨.array 2 53, 8, 96, [.int .i64 0, .int .i64 0, .int .i64 0, .slice none 0 0, .int .i64 0, .int .i64 0, .int .i64 0, .slice none 0 0]⟩),
 (177, ⟨.slice 24, 1, 24, [.slice none 0 0]⟩),
 (163, ⟨.slice 53, 1, 24, [.slice none 0 0]⟩),
 (179, ⟨.other, 1, 8, [.nilFunc]⟩),
 (5, ⟨.int .u8, 1, 1, [.int .u8 0]⟩),
 (22, ⟨.slice 5, 1, 24, [.slice none 0 0]⟩),
 (105, ⟨.int .u64, 1, 8, [.int .u64 0]⟩),
 (107, ⟨.struct [(0, 22), (1, 3), (2, 105)], 3, 40, [.slice none 0 0, .int .i64 0, .int .u64 0]⟩),
  (4, ⟨.bool, 1, 1, [.bool false]⟩)]
theorem tyOk : TysOk Try.prog ty :=
  ⟨TyOk.of (z := .int .i64 0) Try.underlying3 (by kernel_rfl) rfl,
     TyOk.of (z := .slice none 0 0) Try.underlying25 (by kernel_rfl) rfl,
     TyOk.of (z := .slice none 0 0) Try.underlying24 (by kernel_rfl) rfl,
     TyOk.of (z := .int .u64 0) Try.underlying176 (by kernel_rfl) rfl,
     TyOk.of (z := .agg #[.int .i64 0, .int .i64 0, .int .i64 0, .slice none 0 0]) ⟨_, Try.underlying53, rfl⟩ (by kernel_rfl) rfl,
     TyOk.of (z := .agg #[.int .i64 0, .int .i64 0, .slice none 0 0, .slice none 0 0]) ⟨_, Try.underlying84, rfl⟩ (by kernel_rfl) rfl,
     TyOk.of (z := .agg #[.int .i64 0, .int .i64 0]) Try.underlying158 (by kernel_rfl) rfl,
     TyOk.of (z := .slice none 0 0) Try.underlying180 (by kernel_rfl) rfl,
     TyOk.of (z := .agg #[.int .i64 0, .int .i64 0, .int .i64 0, .int .i64 0]) Try.underlying185 (by kernel_rfl) rfl,
     TyOk.of (z := .agg #[.int .i64 0, .int .i64 0, .int .i64 0, .slice none 0 0, .int .i64 0, .int .i64 0, .int .i64 0, .slice none 0 0]) Try.underlying183 (by kernel_rfl) rfl,
     TyOk.of (z := .slice none 0 0) Try.underlying177 (by kernel_rfl) rfl,
     TyOk.of (z := .slice none 0 0) Try.underlying163 (by kernel_rfl) rfl,
     TyOk.of (z := .nilFunc) ⟨_, Try.underlying179, trivial⟩ (by kernel_rfl) rfl,
     TyOk.of (z := .int .u8 0) Try.underlying5 (by kernel_rfl) rfl,
     TyOk.of (z := .slice none 0 0) Try.underlying22 (by kernel_rfl) rfl,
     TyOk.of (z := .int .u64 0) Try.underlying105 (by kernel_rfl) rfl,
     TyOk.of (z := .agg #[.slice none 0 0, .int .i64 0, .int .u64 0]) ⟨_, Try.underlying107, rfl⟩ (by kernel_rfl) rfl,
   TyOk.of (z := .bool false) Try.underlying4 (by kernel_rfl) rfl,
   trivial⟩
end Go.Proofs.Ytkomndcehdneaaa.L
/- The greatest worth of a play: reference and program. -/
namespace Go.Aw
/-- the greatest one of the first numbers -/
def lvN (w : Nat → Int) : Nat → Int
  | 0 => 0
  | k + 1 => if k = 0 ∨ w k > lvN w k then w k else lvN w k
theorem lvN_ge (w : Nat → Int) : ∀ k i, i < k → w i ≤ lvN w k
  | k + 1, i, h => by
    unfold lvN
    by_cases e : i = k
    · subst e; split <;> omega
    · have := lvN_ge w k i (by omega)
      split <;> omega
theorem lvN_own (w : Nat → Int) : ∀ k, 0 < k → ∃ i, i < k ∧ lvN w k = w i
  | k + 1, _ => by
    unfold lvN
    split
    · exact ⟨k, by omega, rfl⟩
    · rename_i h
      obtain ⟨i, hi, e⟩ := lvN_own w k (by omega)
      exact ⟨i, by omega, e⟩
/-- the worth of the i-th play -/
def pwI (f : List (List Int)) (nx ny i : Nat) : Int := pwTo f ((playsL (nx + ny)).getD i []) nx ny nx
def lvF (f : List (List Int)) (nx ny : Nat) : Int := lvN (pwI f nx ny) (2 ^ (nx + ny))
end Go.Aw
namespace Go.Proofs.Ytkomndcehdneaaa
open Go.Aw
set_option maxRecDepth 100000
set_option maxHeartbeats 4000000
def lvV (x y : Int) (f : List (List Int)) : Int := if fnG x y f then lvF f x.toNat y.toNat else 0
theorem localValue_spec (nx ny : Nat) (f : List (List Int)) (hx : nx ≤ 3) (hy : ny ≤ 3) (hf : f.length = nx * ny) (h4 : ∀ r, r ∈ f → r.length = 4) :
    FSpec Try.prog 139 [.c (.int .i64 (nx)), .c (.int .i64 (ny)), .t (.rows f)] (ex (.c (.int .i64 (lvF f nx ny))) []) := by
  have hl := playsL_len (nx + ny)
  have h64 := two_pow6 (n := nx + ny) (by omega)
  refine fspec tyOk mx Try.func139 rfl (by kernel_rfl) rfl ?_
  conv => whnf
  refine ACall.use (FSpec.toldL (plays_spec nx ny (by omega)) (x' := .t (.rows (playsL (nx + ny)))) ⟨rfl, rfl⟩) ?_
  conv => whnf
  refine aloopI tyOk mx (fun i : Nat => (⟨35, [(0, .c (.int .i64 (nx))), (1, .c (.int .i64 (ny))), (2, .t (.rows f)), (7, .c (.int .i64 (lvN (pwI f nx ny) i))), (13, .t (.rows (playsL (nx + ny)))), (14, .c (.int .i64 ((playsL (nx + ny)).length))), (15, .c (.int .i64 (i)))], [], 0⟩ : St)) (fun i => i ≤ (playsL (nx + ny)).length) (fun i => (playsL (nx + ny)).length - i) 0 (Nat.zero_le _) none (by refine ⟨rfl, rfl, ?_, ?_⟩ <;> ((repeat' (first | exact trivial | exact rfl | refine And.intro ?_ ?_)) <;> (try ((conv => whnf); first | refine vint ?_ | refine vboo ?_ | refine rint ?_ | refine rrow ?_ | skip)) <;> (try first | omega | (simp; done) | ((repeat rw [flts_closed _ (by assumption)]); exact vws_closed _ (by assumption))))) (fun i hi => ?_)
  refine ⟨fun h => ?_, fun h => ?_⟩
  · have h := ltT h
    obtain ⟨p1, p2⟩ := playsL_row (n := nx + ny) (by omega) h
    have eN : IntKind.i64.wrap ((i : Int) + 1) = ((i + 1 : Nat) : Int) := nat_wrap (by omega)
    have ew : pwTo f ((playsL (nx + ny)).getD i []) nx ny nx = pwI f nx ny i := rfl
    conv => whnf
    refine ⟨i, rfl, h, ?_⟩
    conv => whnf
    refine ACall.use (playWorth_spec nx ny f _ hx hy hf h4 p2 p1) ?_
    conv => whnf
    rw [ew]
    have hi0 : i = 0 ∨ ¬ i = 0 := by omega
    rcases hi0 with rfl | hi0
    · (repeat (conv => whnf); (first | refine ⟨fun h => absurd h (by decide), fun _ => ?_⟩ | refine ⟨fun _ => ?_, fun h => absurd h (by decide)⟩)); conv => whnf
      rw [eN]
      exact ⟨1, none, (by refine ⟨rfl, rfl, ?_, ?_⟩ <;> ((repeat' (first | exact trivial | exact rfl | refine And.intro ?_ ?_)) <;> (try ((conv => whnf); first | refine vint ?_ | refine vboo ?_ | refine rint ?_ | refine rrow ?_ | skip)) <;> (try first | omega | (simp; done) | ((repeat rw [flts_closed _ (by assumption)]); exact vws_closed _ (by assumption))))), by omega, by omega⟩
    · refine ⟨fun _ => ?_, fun h => absurd h (by simp; omega)⟩
      conv => whnf
      refine ⟨fun h5 => ?_, fun h5 => ?_⟩
      · have h5 : pwI f nx ny i > lvN (pwI f nx ny) i := of_decide_eq_true h5
        have e5 : lvN (pwI f nx ny) (i + 1) = pwI f nx ny i := by rw [lvN, if_pos (.inr h5)]
        conv => whnf
        rw [eN]
        refine ⟨i + 1, none, ?_, by omega, by omega⟩
        rw [e5]
        (refine ⟨rfl, rfl, ?_, ?_⟩ <;> ((repeat' (first | exact trivial | exact rfl | refine And.intro ?_ ?_)) <;> (try ((conv => whnf); first | refine vint ?_ | refine vboo ?_ | refine rint ?_ | refine rrow ?_ | skip)) <;> (try first | omega | (simp; done) | ((repeat rw [flts_closed _ (by assumption)]); exact vws_closed _ (by assumption)))))
      · have h5 : ¬ pwI f nx ny i > lvN (pwI f nx ny) i := of_decide_eq_false h5
        have e5 : lvN (pwI f nx ny) (i + 1) = lvN (pwI f nx ny) i := by rw [lvN, if_neg (by omega)]
        conv => whnf
        rw [eN]
        refine ⟨i + 1, none, ?_, by omega, by omega⟩
        rw [e5]
        (refine ⟨rfl, rfl, ?_, ?_⟩ <;> ((repeat' (first | exact trivial | exact rfl | refine And.intro ?_ ?_)) <;> (try ((conv => whnf); first | refine vint ?_ | refine vboo ?_ | refine rint ?_ | refine rrow ?_ | skip)) <;> (try first | omega | (simp; done) | ((repeat rw [flts_closed _ (by assumption)]); exact vws_closed _ (by assumption)))))
  · have h := ltF h
    obtain rfl : i = (playsL (nx + ny)).length := by omega
    conv => whnf
    refine ⟨?_, rfl⟩
    rw [lvF, hl]
theorem LocalValue_i (x y : Int) (f : List (List Int)) (kf : SzM f) : FSpec Try.prog 28 [.c (.int .i64 (x)), .c (.int .i64 (y)), .t (.rows f)] (ex (.tu [.c (.int .i64 (lvV x y f)), .c (.bool (fnG x y f))]) []) := by
  refine fspec tyOk mx Try.func28 rfl (by kernel_rfl) rfl ?_
  conv => whnf
  refine ACall.use (isFunctionalG_spec x y f kf) ?_
  conv => whnf
  refine ⟨fun h => ?_, fun h => ?_⟩
  · have h : fnG x y f = false := by simpa using h
    conv => whnf
    exact ⟨by rw [lvV, h]; rfl, rfl⟩
  · have h : fnG x y f = true := by simpa using h
    have h' := h
    obtain ⟨a, b, rfl, rfl, _, a3, _, b3, f1, _, f3, _⟩ := fnG_spec h'
    conv => whnf
    refine ACall.use (localValue_spec a b f a3 b3 f1 f3) ?_
    conv => whnf
    exact ⟨by rw [lvV, h, Int.toNat_natCast, Int.toNat_natCast]; rfl, rfl⟩
theorem l3Value_spec (nx ny : Nat) (f : List (List Int)) (hx : nx ≤ 3) (hy : ny ≤ 3) (hf : f.length = nx * ny) (h4 : ∀ r, r ∈ f → r.length = 4) :
    FSpec Try.prog 141 [.c (.int .i64 (nx)), .c (.int .i64 (ny)), .t (.rows f)] (ex (.c (.int .i64 (lvF f nx ny))) []) := by
  have hl := playsL_len (nx + ny)
  have h64 := two_pow6 (n := nx + ny) (by omega)
  have hn : nx * ny ≤ 3 * 3 := Nat.mul_le_mul hx hy
  refine fspec tyOk mx Try.func141 rfl (by kernel_rfl) rfl ?_
  conv => whnf
  refine ACall.use (FSpec.toldL (l2Plays_spec nx ny (by omega)) (x' := .t (.rows (playsL (nx + ny)))) ⟨rfl, rfl⟩) ?_
  conv => whnf
  refine aloopI tyOk mx (fun i : Nat => (⟨38, [(0, .c (.int .i64 (nx))), (1, .c (.int .i64 (ny))), (2, .t (.rows f)), (7, .t (.rows (playsL (nx + ny)))), (8, .c (.int .i64 (lvN (pwI f nx ny) i))), (9, .c (.int .i64 (i)))], [], 0⟩ : St)) (fun i => i ≤ (playsL (nx + ny)).length) (fun i => (playsL (nx + ny)).length - i) 0 (Nat.zero_le _) none (by refine ⟨rfl, rfl, ?_, ?_⟩ <;> ((repeat' (first | exact trivial | exact rfl | refine And.intro ?_ ?_)) <;> (try ((conv => whnf); first | refine vint ?_ | refine vboo ?_ | refine rint ?_ | refine rrow ?_ | skip)) <;> (try first | omega | (simp; done) | ((repeat rw [flts_closed _ (by assumption)]); exact vws_closed _ (by assumption))))) (fun i hi => ?_)
  refine ⟨fun h => ?_, fun h => ?_⟩
  · have h := ltT h
    obtain ⟨p1, p2⟩ := playsL_row (n := nx + ny) (by omega) h
    have eN : IntKind.i64.wrap ((i : Int) + 1) = ((i + 1 : Nat) : Int) := nat_wrap (by omega)
    have hm : (pgM ((playsL (nx + ny)).getD i []) nx ny 1).length = nx * ny := boxRows_len _ _ _
    have ew : worthF f (pgM ((playsL (nx + ny)).getD i []) nx ny 1) = pwI f nx ny i := pw_worth p2
    conv => whnf
    refine ⟨i, rfl, h, ?_⟩
    conv => whnf
    refine ACall.use (l2PlayBoxG_spec nx ny hx hy _ p1 p2 1) ?_
    conv => whnf
    refine ACall.use (l2Worth_spec f (pgM ((playsL (nx + ny)).getD i []) nx ny 1) nx ny 1 (by rw [hf, hm]) (by omega) h4 (boxRows_rows _ _ _)) ?_
    conv => whnf
    rw [ew]
    have hi0 : i = 0 ∨ ¬ i = 0 := by omega
    rcases hi0 with rfl | hi0
    · (repeat (conv => whnf); (first | refine ⟨fun h => absurd h (by decide), fun _ => ?_⟩ | refine ⟨fun _ => ?_, fun h => absurd h (by decide)⟩)); conv => whnf
      rw [eN]
      exact ⟨1, none, (by refine ⟨rfl, rfl, ?_, ?_⟩ <;> ((repeat' (first | exact trivial | exact rfl | refine And.intro ?_ ?_)) <;> (try ((conv => whnf); first | refine vint ?_ | refine vboo ?_ | refine rint ?_ | refine rrow ?_ | skip)) <;> (try first | omega | (simp; done) | ((repeat rw [flts_closed _ (by assumption)]); exact vws_closed _ (by assumption))))), by omega, by omega⟩
    · refine ⟨fun _ => ?_, fun h => absurd h (by simp; omega)⟩
      conv => whnf
      refine ⟨fun h5 => ?_, fun h5 => ?_⟩
      · have h5 : pwI f nx ny i > lvN (pwI f nx ny) i := of_decide_eq_true h5
        have e5 : lvN (pwI f nx ny) (i + 1) = pwI f nx ny i := by rw [lvN, if_pos (.inr h5)]
        conv => whnf
        rw [eN]
        refine ⟨i + 1, none, ?_, by omega, by omega⟩
        rw [e5]
        (refine ⟨rfl, rfl, ?_, ?_⟩ <;> ((repeat' (first | exact trivial | exact rfl | refine And.intro ?_ ?_)) <;> (try ((conv => whnf); first | refine vint ?_ | refine vboo ?_ | refine rint ?_ | refine rrow ?_ | skip)) <;> (try first | omega | (simp; done) | ((repeat rw [flts_closed _ (by assumption)]); exact vws_closed _ (by assumption)))))
      · have h5 : ¬ pwI f nx ny i > lvN (pwI f nx ny) i := of_decide_eq_false h5
        have e5 : lvN (pwI f nx ny) (i + 1) = lvN (pwI f nx ny) i := by rw [lvN, if_neg (by omega)]
        conv => whnf
        rw [eN]
        refine ⟨i + 1, none, ?_, by omega, by omega⟩
        rw [e5]
        (refine ⟨rfl, rfl, ?_, ?_⟩ <;> ((repeat' (first | exact trivial | exact rfl | refine And.intro ?_ ?_)) <;> (try ((conv => whnf); first | refine vint ?_ | refine vboo ?_ | refine rint ?_ | refine rrow ?_ | skip)) <;> (try first | omega | (simp; done) | ((repeat rw [flts_closed _ (by assumption)]); exact vws_closed _ (by assumption)))))
  · have h := ltF h
    obtain rfl : i = (playsL (nx + ny)).length := by omega
    conv => whnf
    refine ⟨?_, rfl⟩
    rw [lvF, hl]
theorem l3Asks_spec (x y : Int) (f : List (List Int)) (kf : SzM f) : FSpec Try.prog 140 [.c (.int .i64 (x)), .c (.int .i64 (y)), .t (.rows f)] (ex (.c (.bool (fnG x y f))) []) := by
  refine fspec tyOk mx Try.func140 rfl (by kernel_rfl) rfl ?_
  conv => whnf
  refine ACall.use (l2Sizes_spec x y) ?_
  conv => whnf
  refine ⟨fun h => ?_, fun h => ?_⟩
  · conv => whnf
    refine ACall.use (l2FunctionalG_spec x y f kf) ?_
    conv => whnf
    exact ⟨rfl, rfl⟩
  · conv => whnf
    exact ⟨by rw [fnG, h]; rfl, rfl⟩
theorem LocalValue_s (x y : Int) (f : List (List Int)) (kf : SzM f) : FSpec Try.prog 29 [.c (.int .i64 (x)), .c (.int .i64 (y)), .t (.rows f)] (ex (.tu [.c (.int .i64 (lvV x y f)), .c (.bool (fnG x y f))]) []) := by
  refine fspec tyOk mx Try.func29 rfl (by kernel_rfl) rfl ?_
  conv => whnf
  refine ACall.use (l3Asks_spec x y f kf) ?_
  conv => whnf
  refine ⟨fun h => ?_, fun h => ?_⟩
  · have h : fnG x y f = false := by simpa using h
    conv => whnf
    exact ⟨by rw [lvV, h]; rfl, rfl⟩
  · have h : fnG x y f = true := by simpa using h
    have h' := h
    obtain ⟨a, b, rfl, rfl, _, a3, _, b3, f1, _, f3, _⟩ := fnG_spec h'
    conv => whnf
    refine ACall.use (l3Value_spec a b f a3 b3 f1 f3) ?_
    conv => whnf
    exact ⟨by rw [lvV, h, Int.toNat_natCast, Int.toNat_natCast]; rfl, rfl⟩
end Go.Proofs.Ytkomndcehdneaaa
/- An empty row of rows may be told as one whose rows are read-only. -/
namespace Go.Aw
open Go.RowKit
variable {P : Program} {w0 : Base} {ob : Nat → Prop} {st : St} {a : Act} {w : World} {η : Env}
def St.reR (st : St) (d k e e1 : Nat) : St := { st with sl := (d, .own k) :: rem d (fltS (ne k) (ne k) st.sl), hp := (k, .rows e e1 false []) :: rem k (fltH (ne k) (ne k) st.hp) }
theorem SRep.emptyRows (h : SRep w0 ob st a w η) {d k e e1 : Nat} (hr : look st.hp k = some (.rows e e1 true [])) (hd : look st.sl d = some (.own k)) :
    ∃ η', SRep w0 ob (st.reR d k e e1) a w η' := by
  have hrow := h.heap.row k _ hr
  have hcel : η.cel k = [] := by
    have h2 := hrow.2
    cases hc : η.cel k with
    | nil => rfl
    | cons x l => rw [hc] at h2; exact h2.elim
  have hown := hrow.1
  rw [hcel] at hown
  have hb1 : bsOf η k (.rows e e1 true []) = blk (η.val k) := by simp [bsOf, hcel]
  have hb2 : bsOf (η.upd k (η.val k) []) k (.rows e e1 false []) = blk (η.val k) := by simp [bsOf, upd_val, upd_cel]
  have hnd := h.heap.nodup k _ hr
  rw [hb1] at hnd
  have hs := h.app (w' := w) (r' := .rows e e1 false []) (v' := η.val k) (cs' := []) (hp1 := st.hp) hr (fun _ _ _ h => h) (fun _ _ _ => rfl) (Below.refl _ _) (by rw [hb2]; exact hnd)
    (fun b hb => by
      rw [hb2] at hb
      exact .inl ⟨k, _, hr, by rw [hb1]; exact hb, .inl rfl⟩)
    (fun _ => ⟨by rw [upd_val, upd_cel]; exact hown, by rw [upd_cel]; trivial⟩)
  have hv := h.slot d _ hd
  obtain ⟨hlt, hval⟩ := hv
  obtain ⟨_, hval⟩ := hval _ hr
  refine ⟨η.upd k (η.val k) [], hs.defers, hs.size, hs.below, hs.base, hs.frame, hs.src, hs.heap, fun i x hi => ?_⟩
  by_cases e' : i = d
  · subst e'
    simp only [St.reR, look_upd, if_true, Option.some.injEq] at hi
    subst hi
    refine ⟨hlt, fun r hr' => ?_⟩
    simp only [St.reR] at hr'
    rw [look_upd, if_pos rfl] at hr'
    obtain rfl := Option.some.inj hr'
    exact ⟨by simp [ARow.kind], by rw [upd_val]; exact hval⟩
  · refine hs.slot i x ?_
    simp only [St.reR] at hi
    rwa [look_upd, if_neg (Ne.symm e')] at hi
theorem ALoop.emptyRows {b : Code} {K : Exit → St → Prop} (d k : Nat) {e e1 : Nat} (hr : look st.hp k = some (.rows e e1 true [])) (hd : look st.sl d = some (.own k)) (h : ALoop P b (st.reR d k e e1) K) : ALoop P b st K :=
  ⟨fun w0 ob a w ⟨_, hs⟩ => h.run w0 ob a w (hs.emptyRows hr hd)⟩
end Go.Aw
/- All plays, the best plays: reference and program. -/
namespace Go.Aw
variable {P : Program}
def bpPost (ok : Bool) (e e1 : Nat) (L : List (List Int)) : AVal → List (Nat × ARow) → Prop := fun x h =>
  (ok = false ∧ x = .tu [.c (.slice none 0 0), .c (.bool false)] ∧ h = []) ∨ (ok = false ∧ x = .tu [.own 0, .c (.bool false)] ∧ h = [(0, .rows e e1 true [])]) ∨ (ok = true ∧ x = .tu [.own 0, .c (.bool true)] ∧ h = [(0, .rows e e1 false L)])
theorem tell_rowsE {f : FuncId} {args : List AVal} {ok : Bool} {e e1 : Nat} {L : List (List Int)} (h : FSpec P f args (bpPost ok e e1 L)) :
    FSpec P f args (ex (.tu [.t (.rows (if ok then L else [])), .c (.bool ok)]) []) := by
  have h2 : FSpec P f args (fun x hr => ∃ b, x = .tu [.own 0, .c (.bool ok)] ∧ hr = [(0, .rows e e1 b (if ok then L else []))]) := by
    refine FSpec.view h ?_
    rintro x hr (⟨rfl, rfl, rfl⟩ | ⟨rfl, rfl, rfl⟩ | ⟨rfl, rfl, rfl⟩)
    · exact ⟨[(0, .nil)], .tu [.own 0, .c (.bool false)], [(0, .rows e e1 true [])], rfl, ⟨rfl, trivial, trivial⟩, ⟨⟨rfl, rfl, rfl⟩, rfl, trivial⟩, true, rfl, rfl⟩
    · exact ⟨[(0, .row 0)], .tu [.own 0, .c (.bool false)], [(0, .rows e e1 true [])], rfl, ⟨rfl, rfl, trivial⟩, ⟨⟨rfl, rfl⟩, rfl, trivial⟩, true, rfl, rfl⟩
    · exact ⟨[(0, .row 0)], .tu [.own 0, .c (.bool true)], [(0, .rows e e1 false L)], rfl, ⟨rfl, rfl, trivial⟩, ⟨⟨rfl, rfl⟩, rfl, trivial⟩, _, rfl, rfl⟩
  refine FSpec.view h2 ?_
  rintro x hr ⟨b, rfl, rfl⟩
  cases b
  · exact ⟨[], .tu [.t (.rows (if ok then L else [])), .c (.bool ok)], [], rfl, trivial, ⟨⟨rfl, rfl⟩, rfl, trivial⟩, rfl, rfl⟩
  · exact ⟨[], .tu [.t (.rows (if ok then L else [])), .c (.bool ok)], [], rfl, trivial, ⟨⟨rfl, rfl⟩, rfl, trivial⟩, rfl, rfl⟩
/-- the best ones among the first plays -/
def bpTo (f : List (List Int)) (nx ny : Nat) : Nat → List (List Int)
  | 0 => []
  | i + 1 => if pwI f nx ny i = lvF f nx ny then bpTo f nx ny i ++ [(playsL (nx + ny)).getD i []] else bpTo f nx ny i
theorem bpTo_len (f : List (List Int)) (nx ny : Nat) : ∀ i, (bpTo f nx ny i).length ≤ i
  | 0 => Nat.le_refl _
  | i + 1 => by
    have := bpTo_len f nx ny i
    unfold bpTo; split
    · simp; omega
    · omega
end Go.Aw
namespace Go.Proofs.Ytkomndcehdneaaa
open Go.Aw
set_option maxRecDepth 100000
set_option maxHeartbeats 4000000
def bpV (x y : Int) (f : List (List Int)) : List (List Int) := if fnG x y f then bpTo f x.toNat y.toNat (2 ^ (x.toNat + y.toNat)) else []
def plV (x y : Int) : List (List Int) := if szOk x y then playsL (x.toNat + y.toNat) else []
theorem BestPlays_in (nx ny : Nat) (f : List (List Int)) (kf : SzM f) (hf : fnG nx ny f = true) : FSpec Try.prog 30 [.c (.int .i64 (nx)), .c (.int .i64 (ny)), .t (.rows f)] (bpPost (fnG nx ny f) 25 3 (bpTo f nx ny (2 ^ (nx + ny)))) := by
  obtain ⟨nx', ny', ex, ey, _, hx, _, hy, f1, _, f3, _⟩ := fnG_spec hf
  obtain rfl : nx = nx' := by omega
  obtain rfl : ny = ny' := by omega
  have hl := playsL_len (nx + ny)
  have h64 := two_pow6 (n := nx + ny) (by omega)
  refine fspec tyOk mx Try.func30 rfl (by kernel_rfl) rfl ?_
  conv => whnf
  refine ACall.use (isFunctionalG_spec nx ny f kf) ?_
  conv => whnf
  refine ⟨fun h => absurd h (by rw [hf]; decide), fun _ => ?_⟩
  conv => whnf
  refine ACall.use (localValue_spec nx ny f hx hy f1 f3) ?_
  conv => whnf
  refine ACall.use (FSpec.toldL (plays_spec nx ny (by omega)) (x' := .t (.rows (playsL (nx + ny)))) ⟨rfl, rfl⟩) ?_
  conv => whnf
  refine ALoop.emptyRows 8 0 rfl rfl ?_
  refine aloopI tyOk mx (fun i : Nat => (⟨43, [(0, .c (.int .i64 (nx))), (1, .c (.int .i64 (ny))), (2, .t (.rows f)), (8, .own 0), (9, .c (.int .i64 (lvF f nx ny))), (24, .t (.rows (playsL (nx + ny)))), (25, .c (.int .i64 ((playsL (nx + ny)).length))), (26, .c (.int .i64 (i)))], [(0, .rows 25 3 false (bpTo f nx ny i))], 1⟩ : St)) (fun i => i ≤ (playsL (nx + ny)).length) (fun i => (playsL (nx + ny)).length - i) 0 (Nat.zero_le _) none (by refine ⟨rfl, rfl, ?_, ?_⟩ <;> ((repeat' (first | exact trivial | exact rfl | refine And.intro ?_ ?_)) <;> (try ((conv => whnf); first | refine vint ?_ | refine vboo ?_ | refine rint ?_ | refine rrow ?_ | skip)) <;> (try first | omega | (simp; done) | ((repeat rw [flts_closed _ (by assumption)]); exact vws_closed _ (by assumption))))) (fun i hi => ?_)
  refine ⟨fun h => ?_, fun h => ?_⟩
  · have h := ltT h
    obtain ⟨p1, p2⟩ := playsL_row (n := nx + ny) (by omega) h
    have eN : IntKind.i64.wrap ((i : Int) + 1) = ((i + 1 : Nat) : Int) := nat_wrap (by omega)
    have bl := bpTo_len f nx ny i
    have ew : pwTo f ((playsL (nx + ny)).getD i []) nx ny nx = pwI f nx ny i := rfl
    conv => whnf
    refine ⟨i, rfl, h, ?_⟩
    conv => whnf
    refine ACall.use (playWorth_spec nx ny f _ hx hy f1 f3 p2 p1) ?_
    conv => whnf
    rw [ew]
    refine ⟨fun h5 => ?_, fun h5 => ?_⟩
    · have h5 : pwI f nx ny i = lvF f nx ny := by simpa using h5
      have e5 : bpTo f nx ny (i + 1) = bpTo f nx ny i ++ [(playsL (nx + ny)).getD i []] := by rw [bpTo, if_pos h5]
      conv => whnf
      refine ⟨by simp [room]; omega, ?_⟩
      conv => whnf
      rw [eN]
      refine ⟨i + 1, none, ?_, by omega, by omega⟩
      rw [e5]
      (refine ⟨rfl, rfl, ?_, ?_⟩ <;> ((repeat' (first | exact trivial | exact rfl | refine And.intro ?_ ?_)) <;> (try ((conv => whnf); first | refine vint ?_ | refine vboo ?_ | refine rint ?_ | refine rrow ?_ | skip)) <;> (try first | omega | (simp; done) | ((repeat rw [flts_closed _ (by assumption)]); exact vws_closed _ (by assumption)))))
    · have h5 : ¬ pwI f nx ny i = lvF f nx ny := by simpa using h5
      have e5 : bpTo f nx ny (i + 1) = bpTo f nx ny i := by rw [bpTo, if_neg h5]
      conv => whnf
      rw [eN]
      refine ⟨i + 1, none, ?_, by omega, by omega⟩
      rw [e5]
      (refine ⟨rfl, rfl, ?_, ?_⟩ <;> ((repeat' (first | exact trivial | exact rfl | refine And.intro ?_ ?_)) <;> (try ((conv => whnf); first | refine vint ?_ | refine vboo ?_ | refine rint ?_ | refine rrow ?_ | skip)) <;> (try first | omega | (simp; done) | ((repeat rw [flts_closed _ (by assumption)]); exact vws_closed _ (by assumption)))))
  · have h' := ltF h
    obtain rfl : i = (playsL (nx + ny)).length := by omega
    conv => whnf
    exact .inr (.inr ⟨hf, rfl, by rw [hl]⟩)
theorem BestPlays_i (x y : Int) (f : List (List Int)) (kf : SzM f) : FSpec Try.prog 30 [.c (.int .i64 (x)), .c (.int .i64 (y)), .t (.rows f)] (ex (.tu [.t (.rows (bpV x y f)), .c (.bool (fnG x y f))]) []) := by
  refine tell_rowsE (e := 25) (e1 := 3) (L := bpTo f x.toNat y.toNat (2 ^ (x.toNat + y.toNat))) ?_
  by_cases h : fnG x y f = true
  · obtain ⟨nx, ny, rfl, rfl, _⟩ := fnG_spec h
    exact BestPlays_in nx ny f kf h
  · have h : fnG x y f = false := by simpa using h
    refine fspec tyOk mx Try.func30 rfl (by kernel_rfl) rfl ?_
    conv => whnf
    refine ACall.use (isFunctionalG_spec x y f kf) ?_
    conv => whnf
    refine ⟨fun _ => ?_, fun h' => absurd h' (by rw [h]; decide)⟩
    conv => whnf
    exact .inl ⟨h, rfl, rfl⟩
theorem BestPlays_sn (nx ny : Nat) (f : List (List Int)) (kf : SzM f) (hf : fnG nx ny f = true) : FSpec Try.prog 31 [.c (.int .i64 (nx)), .c (.int .i64 (ny)), .t (.rows f)] (bpPost (fnG nx ny f) 25 3 (bpTo f nx ny (2 ^ (nx + ny)))) := by
  obtain ⟨nx', ny', ex, ey, _, hx, _, hy, f1, _, f3, _⟩ := fnG_spec hf
  obtain rfl : nx = nx' := by omega
  obtain rfl : ny = ny' := by omega
  have hl := playsL_len (nx + ny)
  have h64 := two_pow6 (n := nx + ny) (by omega)
  refine fspec tyOk mx Try.func31 rfl (by kernel_rfl) rfl ?_
  conv => whnf
  refine ACall.use (l3Asks_spec nx ny f kf) ?_
  conv => whnf
  refine ⟨fun h => absurd h (by rw [hf]; decide), fun _ => ?_⟩
  conv => whnf
  refine ACall.use (FSpec.toldL (l2Plays_spec nx ny (by omega)) (x' := .t (.rows (playsL (nx + ny)))) ⟨rfl, rfl⟩) ?_
  conv => whnf
  refine ACall.use (l3Value_spec nx ny f hx hy f1 f3) ?_
  conv => whnf
  refine ALoop.emptyRows 8 0 rfl rfl ?_
  refine aloopI tyOk mx (fun i : Nat => (⟨51, [(0, .c (.int .i64 (nx))), (1, .c (.int .i64 (ny))), (2, .t (.rows f)), (8, .own 0), (9, .t (.rows (playsL (nx + ny)))), (10, .c (.int .i64 (lvF f nx ny))), (11, .c (.int .i64 (i)))], [(0, .rows 25 3 false (bpTo f nx ny i))], 1⟩ : St)) (fun i => i ≤ (playsL (nx + ny)).length) (fun i => (playsL (nx + ny)).length - i) 0 (Nat.zero_le _) none (by refine ⟨rfl, rfl, ?_, ?_⟩ <;> ((repeat' (first | exact trivial | exact rfl | refine And.intro ?_ ?_)) <;> (try ((conv => whnf); first | refine vint ?_ | refine vboo ?_ | refine rint ?_ | refine rrow ?_ | skip)) <;> (try first | omega | (simp; done) | ((repeat rw [flts_closed _ (by assumption)]); exact vws_closed _ (by assumption))))) (fun i hi => ?_)
  refine ⟨fun h => ?_, fun h => ?_⟩
  · have h := ltT h
    obtain ⟨p1, p2⟩ := playsL_row (n := nx + ny) (by omega) h
    have eN : IntKind.i64.wrap ((i : Int) + 1) = ((i + 1 : Nat) : Int) := nat_wrap (by omega)
    have bl := bpTo_len f nx ny i
    have hm : (pgM ((playsL (nx + ny)).getD i []) nx ny 1).length = nx * ny := boxRows_len _ _ _
    have ew : worthF f (pgM ((playsL (nx + ny)).getD i []) nx ny 1) = pwI f nx ny i := pw_worth p2
    have hn : nx * ny ≤ 3 * 3 := Nat.mul_le_mul hx hy
    conv => whnf
    refine ⟨i, rfl, h, ?_⟩
    conv => whnf
    refine ACall.use (l2PlayBoxG_spec nx ny hx hy _ p1 p2 1) ?_
    conv => whnf
    refine ACall.use (l2Worth_spec f (pgM ((playsL (nx + ny)).getD i []) nx ny 1) nx ny 1 (by rw [f1, hm]) (by omega) f3 (boxRows_rows _ _ _)) ?_
    conv => whnf
    rw [ew]
    refine ⟨fun h5 => ?_, fun h5 => ?_⟩
    · have h5 : pwI f nx ny i = lvF f nx ny := by simpa using h5
      have e5 : bpTo f nx ny (i + 1) = bpTo f nx ny i ++ [(playsL (nx + ny)).getD i []] := by rw [bpTo, if_pos h5]
      conv => whnf
      refine ⟨i, rfl, h, ?_⟩
      conv => whnf
      refine ⟨by simp [room]; omega, ?_⟩
      conv => whnf
      rw [eN]
      refine ⟨i + 1, none, ?_, by omega, by omega⟩
      rw [e5]
      (refine ⟨rfl, rfl, ?_, ?_⟩ <;> ((repeat' (first | exact trivial | exact rfl | refine And.intro ?_ ?_)) <;> (try ((conv => whnf); first | refine vint ?_ | refine vboo ?_ | refine rint ?_ | refine rrow ?_ | skip)) <;> (try first | omega | (simp; done) | ((repeat rw [flts_closed _ (by assumption)]); exact vws_closed _ (by assumption)))))
    · have h5 : ¬ pwI f nx ny i = lvF f nx ny := by simpa using h5
      have e5 : bpTo f nx ny (i + 1) = bpTo f nx ny i := by rw [bpTo, if_neg h5]
      conv => whnf
      rw [eN]
      refine ⟨i + 1, none, ?_, by omega, by omega⟩
      rw [e5]
      (refine ⟨rfl, rfl, ?_, ?_⟩ <;> ((repeat' (first | exact trivial | exact rfl | refine And.intro ?_ ?_)) <;> (try ((conv => whnf); first | refine vint ?_ | refine vboo ?_ | refine rint ?_ | refine rrow ?_ | skip)) <;> (try first | omega | (simp; done) | ((repeat rw [flts_closed _ (by assumption)]); exact vws_closed _ (by assumption)))))
  · have h' := ltF h
    obtain rfl : i = (playsL (nx + ny)).length := by omega
    conv => whnf
    exact .inr (.inr ⟨hf, rfl, by rw [hl]⟩)
theorem BestPlays_s (x y : Int) (f : List (List Int)) (kf : SzM f) : FSpec Try.prog 31 [.c (.int .i64 (x)), .c (.int .i64 (y)), .t (.rows f)] (ex (.tu [.t (.rows (bpV x y f)), .c (.bool (fnG x y f))]) []) := by
  refine tell_rowsE (e := 25) (e1 := 3) (L := bpTo f x.toNat y.toNat (2 ^ (x.toNat + y.toNat))) ?_
  by_cases h : fnG x y f = true
  · obtain ⟨nx, ny, rfl, rfl, _⟩ := fnG_spec h
    exact BestPlays_sn nx ny f kf h
  · have h : fnG x y f = false := by simpa using h
    refine fspec tyOk mx Try.func31 rfl (by kernel_rfl) rfl ?_
    conv => whnf
    refine ACall.use (l3Asks_spec x y f kf) ?_
    conv => whnf
    refine ⟨fun _ => ?_, fun h' => absurd h' (by rw [h]; decide)⟩
    conv => whnf
    exact .inr (.inl ⟨h, rfl, rfl⟩)
theorem PlaysOf_i (x y : Int) : FSpec Try.prog 32 [.c (.int .i64 (x)), .c (.int .i64 (y))] (ex (.tu [.t (.rows (plV x y)), .c (.bool (szOk x y))]) []) := by
  refine FSpec.told (h := [(0, .rows 25 3 true (plV x y))]) (x := .tu [.own 0, .c (.bool (szOk x y))]) ?_ ⟨⟨rfl, rfl⟩, rfl, trivial⟩
  refine view_rows ?_
  refine fspec tyOk mx Try.func32 rfl (by kernel_rfl) rfl ?_
  conv => whnf
  refine ACall.use (areQuestions_spec x y) ?_
  conv => whnf
  refine ⟨fun h => ?_, fun h => ?_⟩
  · have h : szOk x y = false := by simpa using h
    conv => whnf
    exact .inl ⟨h, rfl, rfl⟩
  · have h : szOk x y = true := by simpa using h
    obtain ⟨nx, ny, rfl, rfl, _, hx, _, hy, _⟩ := szOk_nat h
    conv => whnf
    refine ACall.use (plays_spec nx ny (by omega)) ?_
    conv => whnf
    exact .inr ⟨h, rfl, by rw [Int.toNat_natCast, Int.toNat_natCast]⟩
theorem PlaysOf_s (x y : Int) : FSpec Try.prog 33 [.c (.int .i64 (x)), .c (.int .i64 (y))] (ex (.tu [.t (.rows (plV x y)), .c (.bool (szOk x y))]) []) := by
  refine FSpec.told (h := [(0, .rows 25 3 true (plV x y))]) (x := .tu [.own 0, .c (.bool (szOk x y))]) ?_ ⟨⟨rfl, rfl⟩, rfl, trivial⟩
  refine fspec tyOk mx Try.func33 rfl (by kernel_rfl) rfl ?_
  conv => whnf
  refine ACall.use (l2Sizes_spec x y) ?_
  conv => whnf
  refine ⟨fun h => ?_, fun h => ?_⟩
  · have h : szOk x y = false := by simpa using h
    conv => whnf
    exact ⟨by rw [h], by rw [plV, h]; rfl⟩
  · have h : szOk x y = true := by simpa using h
    obtain ⟨nx, ny, rfl, rfl, _, hx, _, hy, _⟩ := szOk_nat h
    conv => whnf
    refine ACall.use (l2Plays_spec nx ny (by omega)) ?_
    conv => whnf
    exact ⟨by rw [h], by rw [plV, if_pos h, Int.toNat_natCast, Int.toNat_natCast]⟩
end Go.Proofs.Ytkomndcehdneaaa
/- Shares and mixtures: reference and program. -/
namespace Go.Proofs.Ytkomndcehdneaaa
open Go.Aw
set_option maxRecDepth 100000
set_option maxHeartbeats 4000000
def addAt (m : List (List Int)) (q e : Nat) (s : Int) : List (List Int) := m.set q ((m.getD q []).set e (W ((m.getD q []).getD e 0 + s)))
def zeroR (n : Nat) : List (List Int) := List.replicate n [0, 0, 0, 0]
def mixIn (p : List Int) (s : Int) (nx ny j : Nat) (m : List (List Int)) (k : Nat) : List (List Int) := fo (fun m k => addAt m (j * ny + k) (bitIx p nx j k) s) m k
def mixPl (p : List Int) (s : Int) (nx ny : Nat) (m : List (List Int)) (j : Nat) : List (List Int) := fo (fun m j => mixIn p s nx ny j m ny) m j
def mixFl (p : List Int) (s : Int) (nx ny : Nat) (m : List (List Int)) (q : Nat) : List (List Int) := fo (fun m q => addAt m q (bitIx p nx (q / ny) (q % ny)) s) m q
def mixTo (l : List Int) (nx ny n : Nat) : List (List Int) := fo (fun m i => mixPl ((playsL (nx + ny)).getD i []) (l.getD i 0) nx ny m nx) (zeroR (nx * ny)) n
def mixL (l : List Int) (nx ny : Nat) : List (List Int) := mixTo l nx ny (2 ^ (nx + ny))
/-- n rows of four -/
def Sq (n : Nat) (m : List (List Int)) : Prop := m.length = n ∧ ∀ r, r ∈ m → r.length = 4
theorem Sq.row {n q : Nat} {m : List (List Int)} (h : Sq n m) (hq : q < n) : (m.getD q []).length = 4 := h.2 _ (getD_mem (by rw [h.1]; exact hq))
theorem Sq.zero (n : Nat) : Sq n (zeroR n) := ⟨by simp [zeroR], fun r hr => by rw [List.eq_of_mem_replicate hr]; rfl⟩
theorem Sq.add {n q e : Nat} {s : Int} {m : List (List Int)} (h : Sq n m) (hq : q < n) : Sq n (addAt m q e s) := by
  refine ⟨by rw [addAt, List.length_set]; exact h.1, fun r hr => ?_⟩
  rcases List.mem_or_eq_of_mem_set hr with h1 | rfl
  · exact h.2 r h1
  · rw [List.length_set]; exact h.row hq
theorem Sq.inn {p : List Int} {s : Int} {nx ny j : Nat} {m : List (List Int)} (h : Sq (nx * ny) m) (hj : j < nx) : ∀ k, k ≤ ny → Sq (nx * ny) (mixIn p s nx ny j m k)
  | 0, _ => h
  | k + 1, hk => (Sq.inn h hj k (by omega)).add (ix_lt hj (by omega))
theorem Sq.pl {p : List Int} {s : Int} {nx ny : Nat} {m : List (List Int)} (h : Sq (nx * ny) m) : ∀ j, j ≤ nx → Sq (nx * ny) (mixPl p s nx ny m j)
  | 0, _ => h
  | j + 1, hj => Sq.inn (Sq.pl h j (by omega)) (by omega) ny (Nat.le_refl _)
theorem Sq.fl {p : List Int} {s : Int} {nx ny : Nat} {m : List (List Int)} (h : Sq (nx * ny) m) : ∀ q, q ≤ nx * ny → Sq (nx * ny) (mixFl p s nx ny m q)
  | 0, _ => h
  | q + 1, hq => (Sq.fl h q (by omega)).add (by omega)
theorem Sq.mix (l : List Int) (nx ny : Nat) : ∀ n, Sq (nx * ny) (mixTo l nx ny n)
  | 0 => Sq.zero _
  | n + 1 => Sq.pl (Sq.mix l nx ny n) nx (Nat.le_refl _)
theorem mixFl_eq (p : List Int) (s : Int) (nx ny : Nat) (m : List (List Int)) : mixFl p s nx ny m (nx * ny) = mixPl p s nx ny m nx := by
  unfold mixFl mixPl mixIn
  rw [← fo_flatG]
  refine fo_congr fun m i hi => fo_congr fun m k hk => ?_
  have e1 : (i * ny + k) / ny = i := by rw [Nat.mul_comm, Nat.mul_add_div (by omega), Nat.div_eq_of_lt hk, Nat.add_zero]
  have e2 : (i * ny + k) % ny = k := by rw [Nat.mul_comm, Nat.mul_add_mod, Nat.mod_eq_of_lt hk]
  rw [e1, e2]
theorem boxRows_zero (nx ny : Nat) : boxRows (fun _ _ _ _ => 0) nx ny = zeroR (nx * ny) := by
  refine List.eq_replicate_iff.2 ⟨boxRows_len _ _ _, fun r hr => ?_⟩
  obtain ⟨i, _, h⟩ := List.mem_flatMap.1 hr
  obtain ⟨k, _, rfl⟩ := List.mem_map.1 h
  rfl
/-- shares -/
def shOk (x y : Int) (l : List Int) : Bool := szOk x y && decide (l.length = 2 ^ (x.toNat + y.toNat)) && rowIn l 0 1000 && inR (sumF l l.length) 1 1000
theorem areShares_spec (x y : Int) (l : List Int) (kl : SzI l) : FSpec Try.prog 150 [.c (.int .i64 (x)), .c (.int .i64 (y)), .t (.ints .i64 l)] (ex (.c (.bool (shOk x y l))) []) := by
  unfold SzI at kl
  refine fspec tyOk mx Try.func150 rfl (by kernel_rfl) rfl ?_
  conv => whnf
  refine ACall.use (areQuestions_spec x y) ?_
  conv => whnf
  refine ⟨fun h => ?_, fun h => ?_⟩
  · have h : szOk x y = true := by simpa using h
    obtain ⟨nx, ny, rfl, rfl, _, hx, _, hy, _⟩ := szOk_nat h
    conv => whnf
    rw [natAdd (by omega)]
    refine ⟨by omega, ?_⟩
    conv => whnf
    rw [shl_one (by omega)]
    refine ⟨fun h2 => ?_, fun h2 => ?_⟩
    · have h2 : l.length = 2 ^ (nx + ny) := by simpa [-Int.natCast_pow, Int.natCast_inj] using h2
      have h64 := two_pow6 (n := nx + ny) (by omega)
      conv => whnf
      refine ACall.use (allWithin_spec l 0 1000 (by omega)) ?_
      conv => whnf
      refine ⟨fun h3 => ?_, fun h3 => ?_⟩
      · have h3 : rowIn l 0 1000 = true := by simpa using h3
        conv => whnf
        refine ACall.use (total_spec l (by omega)) ?_
        conv => whnf
        refine ACall.use (within_spec (sumF l l.length) 1 1000) ?_
        conv => whnf
        exact ⟨by rw [shOk, h, h3, Int.toNat_natCast, Int.toNat_natCast, decide_eq_true h2]; simp, rfl⟩
      · have h3 : rowIn l 0 1000 = false := by simpa using h3
        conv => whnf
        exact ⟨by rw [shOk, h3]; simp, rfl⟩
    · have h2 : ¬ l.length = 2 ^ (nx + ny) := by simpa [-Int.natCast_pow, Int.natCast_inj] using h2
      conv => whnf
      refine ⟨fun h' => absurd h' (by decide), fun _ => ?_⟩
      conv => whnf
      exact ⟨by rw [shOk, Int.toNat_natCast, Int.toNat_natCast, decide_eq_false h2]; simp, rfl⟩
  · conv => whnf
    refine ⟨fun h' => absurd h' (by decide), fun _ => ?_⟩
    conv => whnf
    refine ⟨fun h' => absurd h' (by decide), fun _ => ?_⟩
    conv => whnf
    exact ⟨by rw [shOk, h]; rfl, rfl⟩
theorem mix1_spec (i k a b : Nat) : FSpec Try.prog 237 [.c (.int .i64 (i)), .c (.int .i64 (k)), .c (.int .i64 (a)), .c (.int .i64 (b))] (ex (.c (.int .i64 (0))) []) := by
  refine fspec tyOk mx Try.func237 rfl (by kernel_rfl) rfl ?_
  conv => whnf
  exact ⟨rfl, rfl⟩
theorem mixture_spec (nx ny : Nat) (l : List Int) (hx : nx ≤ 3) (hy : ny ≤ 3) (hl : l.length = 2 ^ (nx + ny)) :
    FSpec Try.prog 151 [.c (.int .i64 (nx)), .c (.int .i64 (ny)), .t (.ints .i64 l)] (ex (.ag [.c (.int .i64 (nx)), .c (.int .i64 (ny)), .c (.int .i64 (sumF l l.length)), .own 0]) [(0, .rows 25 3 true (mixL l nx ny))]) := by
  have h64 := two_pow6 (n := nx + ny) (by omega)
  have hpl := playsL_len (nx + ny)
  have hn : nx * ny ≤ 3 * 3 := Nat.mul_le_mul hx hy
  refine fspec tyOk mx Try.func151 rfl (by kernel_rfl) rfl ?_
  conv => whnf
  refine ACall.use (total_spec l (by omega)) ?_
  conv => whnf
  refine ACall.use (newBox_spec nx ny (sumF l l.length) _ [] (fun _ _ _ _ => 0) (by omega) (by omega) (fun _ _ => rfl) rfl (fun i k a b _ _ _ _ => mix1_spec i k a b)) ?_
  rw [boxRows_zero]
  conv => whnf
  refine ACall.use (FSpec.toldL (plays_spec nx ny (by omega)) (x' := .t (.rows (playsL (nx + ny)))) ⟨rfl, rfl⟩) ?_
  conv => whnf
  refine aloopI tyOk mx (fun i : Nat => (⟨67, [(0, .c (.int .i64 (nx))), (1, .c (.int .i64 (ny))), (2, .t (.ints .i64 l)), (6, .ptr 0 0), (7, .ptr 2 0), (19, .t (.rows (playsL (nx + ny)))), (20, .c (.int .i64 ((playsL (nx + ny)).length))), (21, .c (.int .i64 (i)))], [(0, .cells 53 [.c (.int .i64 (0)), .c (.int .i64 (0)), .c (.int .i64 (0)), .c (.slice none 0 0)]), (1, .rows 25 3 true (mixTo l nx ny i)), (2, .cells 53 [.c (.int .i64 (nx)), .c (.int .i64 (ny)), .c (.int .i64 (sumF l l.length)), .own 1])], 3⟩ : St)) (fun i => i ≤ (playsL (nx + ny)).length) (fun i => (playsL (nx + ny)).length - i) 0 (Nat.zero_le _) none (by refine ⟨rfl, rfl, ?_, ?_⟩ <;> ((repeat' (first | exact trivial | exact rfl | refine And.intro ?_ ?_)) <;> (try ((conv => whnf); first | refine vint ?_ | refine vboo ?_ | refine rint ?_ | refine rrow ?_ | skip)) <;> (try first | omega | (simp; done) | ((repeat rw [flts_closed _ (by assumption)]); exact vws_closed _ (by assumption))))) (fun i hi => ?_)
  refine ⟨fun h => ?_, fun h => ?_⟩
  · have h := ltT h
    obtain ⟨p1, p2⟩ := playsL_row (n := nx + ny) (by omega) h
    have sq := Sq.mix l nx ny i
    have hli : i < l.length := by omega
    have eP : mixTo l nx ny (i + 1) = mixPl ((playsL (nx + ny)).getD i []) (l.getD i 0) nx ny (mixTo l nx ny i) nx := rfl
    conv => whnf
    refine ⟨i, rfl, h, ?_⟩
    conv => whnf
    generalize hp : (playsL (nx + ny)).getD i [] = p at p1 p2 eP
    generalize mixTo l nx ny i = m at sq eP
    refine aloopI tyOk mx (fun j : Nat => (⟨67, [(0, .c (.int .i64 (nx))), (1, .c (.int .i64 (ny))), (2, .t (.ints .i64 l)), (6, .ptr 0 0), (7, .ptr 2 0), (8, .c (.int .i64 (i))), (9, .t (.ints .i64 p)), (19, .t (.rows (playsL (nx + ny)))), (20, .c (.int .i64 ((playsL (nx + ny)).length))), (21, .c (.int .i64 (i))), (26, .c (.int .i64 (nx))), (27, .c (.int .i64 (j)))], [(0, .cells 53 [.c (.int .i64 (0)), .c (.int .i64 (0)), .c (.int .i64 (0)), .c (.slice none 0 0)]), (1, .rows 25 3 true (mixPl p (l.getD i 0) nx ny m j)), (2, .cells 53 [.c (.int .i64 (nx)), .c (.int .i64 (ny)), .c (.int .i64 (sumF l l.length)), .own 1])], 3⟩ : St)) (fun j => j ≤ nx) (fun j => nx - j) 0 (Nat.zero_le _) none (by refine ⟨rfl, rfl, ?_, ?_⟩ <;> ((repeat' (first | exact trivial | exact rfl | refine And.intro ?_ ?_)) <;> (try ((conv => whnf); first | refine vint ?_ | refine vboo ?_ | refine rint ?_ | refine rrow ?_ | skip)) <;> (try first | omega | (simp; done) | ((repeat rw [flts_closed _ (by assumption)]); exact vws_closed _ (by assumption))))) (fun j hj => ?_)
    refine ⟨fun h2 => ?_, fun h2 => ?_⟩
    · have h2 := ltT h2
      have sj := Sq.pl (p := p) (s := l.getD i 0) sq j hj
      have eJ : mixPl p (l.getD i 0) nx ny m (j + 1) = mixIn p (l.getD i 0) nx ny j (mixPl p (l.getD i 0) nx ny m j) ny := rfl
      generalize mixPl p (l.getD i 0) nx ny m j = m2 at sj eJ
      conv => whnf
      refine aloopI tyOk mx (fun k : Nat => (⟨67, [(0, .c (.int .i64 (nx))), (1, .c (.int .i64 (ny))), (2, .t (.ints .i64 l)), (6, .ptr 0 0), (7, .ptr 2 0), (8, .c (.int .i64 (i))), (9, .t (.ints .i64 p)), (10, .c (.int .i64 (j))), (19, .t (.rows (playsL (nx + ny)))), (20, .c (.int .i64 ((playsL (nx + ny)).length))), (21, .c (.int .i64 (i))), (26, .c (.int .i64 (nx))), (27, .c (.int .i64 (j))), (30, .c (.int .i64 (ny))), (31, .c (.int .i64 (k)))], [(0, .cells 53 [.c (.int .i64 (0)), .c (.int .i64 (0)), .c (.int .i64 (0)), .c (.slice none 0 0)]), (1, .rows 25 3 true (mixIn p (l.getD i 0) nx ny j m2 k)), (2, .cells 53 [.c (.int .i64 (nx)), .c (.int .i64 (ny)), .c (.int .i64 (sumF l l.length)), .own 1])], 3⟩ : St)) (fun k => k ≤ ny) (fun k => ny - k) 0 (Nat.zero_le _) none (by refine ⟨rfl, rfl, ?_, ?_⟩ <;> ((repeat' (first | exact trivial | exact rfl | refine And.intro ?_ ?_)) <;> (try ((conv => whnf); first | refine vint ?_ | refine vboo ?_ | refine rint ?_ | refine rrow ?_ | skip)) <;> (try first | omega | (simp; done) | ((repeat rw [flts_closed _ (by assumption)]); exact vws_closed _ (by assumption))))) (fun k hk => ?_)
      refine ⟨fun h3 => ?_, fun h3 => ?_⟩
      · have h3 := ltT h3
        have sk := Sq.inn (p := p) (s := l.getD i 0) sj h2 k hk
        have eK : mixIn p (l.getD i 0) nx ny j m2 (k + 1) = addAt (mixIn p (l.getD i 0) nx ny j m2 k) (j * ny + k) (bitIx p nx j k) (l.getD i 0) := rfl
        generalize mixIn p (l.getD i 0) nx ny j m2 k = m3 at sk eK
        have hq := ix_lt h2 h3
        have er := sk.row hq
        obtain ⟨b1, b2⟩ := bitIx_eq p2 nx j k
        conv => whnf
        refine ADraw.std tyOk mx ⟨by kernel_rfl, ?_⟩
        conv => whnf
        refine ⟨j * ny + k, natMulAdd (by omega), by rw [sk.1]; exact hq, ?_⟩
        conv => whnf
        refine ⟨j, rfl, by omega, ?_⟩
        conv => whnf
        refine ⟨nx + k, natAdd (by omega), by omega, ?_⟩
        conv => whnf
        refine ⟨bitIx p nx j k, b1, by rw [er]; exact b2, ?_⟩
        conv => whnf
        refine ⟨i, rfl, hli, ?_⟩
        conv => whnf
        refine ⟨bitIx p nx j k, b1, by rw [er]; exact b2, ?_⟩
        conv => whnf
        rw [nat_wrap (by omega)]
        refine ⟨k + 1, none, ?_, by omega, by omega⟩
        rw [eK]
        (refine ⟨rfl, rfl, ?_, ?_⟩ <;> ((repeat' (first | exact trivial | exact rfl | refine And.intro ?_ ?_)) <;> (try ((conv => whnf); first | refine vint ?_ | refine vboo ?_ | refine rint ?_ | refine rrow ?_ | skip)) <;> (try first | omega | (simp; done) | ((repeat rw [flts_closed _ (by assumption)]); exact vws_closed _ (by assumption)))))
      · have h3 := ltF h3
        obtain rfl : k = ny := by omega
        conv => whnf
        rw [nat_wrap (by omega)]
        refine ⟨j + 1, none, ?_, by omega, by omega⟩
        rw [eJ]
        (refine ⟨rfl, rfl, ?_, ?_⟩ <;> ((repeat' (first | exact trivial | exact rfl | refine And.intro ?_ ?_)) <;> (try ((conv => whnf); first | refine vint ?_ | refine vboo ?_ | refine rint ?_ | refine rrow ?_ | skip)) <;> (try first | omega | (simp; done) | ((repeat rw [flts_closed _ (by assumption)]); exact vws_closed _ (by assumption)))))
    · have h2 := ltF h2
      obtain rfl : j = nx := by omega
      conv => whnf
      rw [nat_wrap (by omega)]
      refine ⟨i + 1, none, ?_, by omega, by omega⟩
      rw [eP]
      (refine ⟨rfl, rfl, ?_, ?_⟩ <;> ((repeat' (first | exact trivial | exact rfl | refine And.intro ?_ ?_)) <;> (try ((conv => whnf); first | refine vint ?_ | refine vboo ?_ | refine rint ?_ | refine rrow ?_ | skip)) <;> (try first | omega | (simp; done) | ((repeat rw [flts_closed _ (by assumption)]); exact vws_closed _ (by assumption)))))
  · have h' := ltF h
    obtain rfl : i = (playsL (nx + ny)).length := by omega
    conv => whnf
    refine ⟨rfl, ?_⟩
    rw [mixL, hpl]
end Go.Proofs.Ytkomndcehdneaaa
