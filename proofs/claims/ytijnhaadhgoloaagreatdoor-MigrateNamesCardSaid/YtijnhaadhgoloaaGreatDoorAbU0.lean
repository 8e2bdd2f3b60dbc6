/- An interpreter of our own: what slices.Sorted(maps.Keys(m)) comes to. -/
import Derived.Test.YtijnhaadhgoloaaGreatDoorAbA
namespace Go.Ab
noncomputable section

def ins (x : Int) : List Int → List Int
  | [] => [x]
  | y :: l => if x ≤ y then x :: y :: l else y :: ins x l
def isort : List Int → List Int
  | [] => []
  | x :: l => ins x (isort l)

def keysOf : List (Value × Value) → Option (List Int)
  | [] => some []
  | (.int .i64 n, _) :: l => if (Lit.int .i64 n).wf then match keysOf l with
      | some r => some (n :: r)
      | none => none
    else none
  | _ => none

/-- slices.Sorted of what maps.Keys (its inner function: ks) has handed back. -/
def sortedP (ks : FuncId) (args : List Value) (m : Mem) : Option (Value × Mem) := match args with
  | [.func (.func g) fs cp] => if g = ks ∧ fs.size = 0 then match cp.toList with
    | [.pointer (some ⟨B, 0, none⟩)] => match m.get B with
      | some (.cells c _ 0) => if c.n = 1 then match c.get 0 with
        | .map none => some (.slice none 0 0, m)
        | .map (some b) => match m.get b with
          | some (.map es _) => match keysOf es with
            | some l => if l.length * 8 ≤ 140737488355328 then
                (if l.length = 0 then some (.slice none 0 0, m) else
                  some (.slice (some ⟨m.next, 0, none⟩) l.length l.length, (m.bump 1).put m.next (.cells (.ofList ((isort l).map (.int .i64))) true 1)))
              else none
            | none => none
          | _ => none
        | _ => none
        else none
      | _ => none
    | _ => none
    else none
  | _ => none
end
end Go.Ab
