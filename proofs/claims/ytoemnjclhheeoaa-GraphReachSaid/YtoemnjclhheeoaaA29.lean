/- The abstract interpreter: runs of equal ints, each once: the two words for it are one. No condition. -/
import Derived.Test.YtoemnjclhheeoaaA28
import Derived.Lib.SlicesCompact
namespace Go.Ai
open Go.Lib

theorem compact_two (x y : Int) (r : List Int) : compact (x :: y :: r) = bif x == y then compact (y :: r) else x :: compact (y :: r) := by
  unfold compact compactUpTo
  have e : List.range (x :: y :: r).length = 0 :: 1 :: (List.range r.length).map (· + 2) := by
    rw [List.length_cons, List.length_cons, List.range_succ_eq_map, List.range_succ_eq_map]
    simp [List.map_map, Function.comp_def]
  have e' : List.range (y :: r).length = 0 :: (List.range r.length).map (· + 1) := by
    rw [List.length_cons, List.range_succ_eq_map]
  rw [e, e']
  have g0 : (x :: y :: r).toArray[0]! = x := by simp
  have g1 : (x :: y :: r).toArray[1]! = y := by simp
  have h0 : (y :: r).toArray[0]! = y := by simp
  have sh : ∀ j, (x :: y :: r).toArray[j + 2]! = (y :: r).toArray[j + 1]! := by intro j; simp
  have k0 : ∀ d : Array Int, keeps d 0 = true := fun d => keeps_lt_one d 0 (by omega)
  have kk : ∀ j, keeps (x :: y :: r).toArray (j + 2) = keeps (y :: r).toArray (j + 1) := by
    intro j
    unfold keeps
    simp
  have main : (((List.range r.length).map (· + 2)).filter (keeps (x :: y :: r).toArray)).map ((x :: y :: r).toArray[·]!) = (((List.range r.length).map (· + 1)).filter (keeps (y :: r).toArray)).map ((y :: r).toArray[·]!) := by
    rw [List.filter_map, List.filter_map, List.map_map, List.map_map]
    have : (keeps (x :: y :: r).toArray ∘ fun x => x + 2) = (keeps (y :: r).toArray ∘ fun x => x + 1) := by funext j; exact kk j
    rw [this]
    exact List.map_congr_left fun j _ => sh j
  rw [List.filter_cons_of_pos (k0 _), List.filter_cons_of_pos (k0 _)]
  by_cases hxy : x = y
  · subst hxy
    have k1 : ¬ keeps (x :: x :: r).toArray 1 = true := by simp [keeps]
    rw [List.filter_cons_of_neg k1]
    simp only [List.map_cons, g0, h0, beq_self_eq_true, cond_true]
    rw [main]
  · have k1 : keeps (x :: y :: r).toArray 1 = true := by simp [keeps]; omega
    rw [List.filter_cons_of_pos k1]
    have hb : (x == y) = false := by simpa using hxy
    simp only [List.map_cons, g0, g1, h0, hb, cond_false]
    rw [main]

theorem compI_eq : ∀ zs : List Int, compI' zs = compact zs
  | [] => by simp [compI', compact, compactUpTo]
  | [x] => by simp [compI', compact, compactUpTo, keeps]
  | x :: y :: r => by
    rw [compact_two, compI', compI_eq (y :: r)]
end Go.Ai
