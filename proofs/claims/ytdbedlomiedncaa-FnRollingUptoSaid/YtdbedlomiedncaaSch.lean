/- The orders in which the operations of open regions are taken. Written by sched.py. -/
import Derived.Test.YtdbedlomiedncaaTy
namespace Go.Proofs.Ytdbedlomiedncaa.Vc
open Go

def schAt : List (Nat × Sch) → Nat → Sch
  | [], _ => .done
  | (i, s) :: r, j => match Nat.beq i j with
    | true => s
    | false => schAt r j

abbrev D0 : Nat → Sch := fun _ => .done
abbrev D1 : Nat → Sch := fun _ => .done
abbrev D2 : Nat → Sch := fun _ => .done
abbrev D3 : Nat → Sch := fun _ => .done
def D4 : Nat → Sch := schAt [(14, .op 0 [] (.op 1 [] (.op 2 [0] (.op 3 [] (.op 4 [] (.done))))))]
def D5 : Nat → Sch := schAt [(10, .op 0 [] (.op 1 [] (.op 2 [] (.op 3 [] (.op 4 [] (.op 5 [] (.op 6 [] (.op 7 [] (.op 8 [] (.op 9 [] (.op 10 [] (.op 11 [] (.op 12 [] (.op 13 [] (.op 14 [] (.done)))))))))))))))), (18, .op 0 [] (.op 1 [] (.op 2 [] (.op 3 [] (.op 5 [] (.op 6 [] (.op 7 [] (.op 8 [] (.op 9 [] (.op 4 [9] (.op 10 [] (.op 11 [] (.done)))))))))))))]
def D6 : Nat → Sch := schAt [(6, .op 0 [] (.op 1 [] (.op 2 [] (.op 4 [] (.op 5 [] (.op 6 [] (.op 3 [] (.op 7 [] (.op 8 [] (.op 9 [] (.done))))))))))), (13, .op 0 [] (.op 1 [] (.op 2 [] (.op 3 [] (.op 4 [] (.op 5 [] (.op 6 [] (.op 7 [] (.op 8 [] (.op 9 [] (.op 10 [] (.op 11 [] (.op 12 [] (.op 13 [] (.op 14 [] (.op 15 [] (.op 16 [] (.op 17 [] (.op 18 [] (.op 19 [] (.op 20 [] (.op 21 [] (.op 22 [16] (.op 23 [] (.op 24 [] (.done)))))))))))))))))))))))))), (17, .op 0 [] (.op 1 [] (.op 2 [] (.op 3 [] (.op 4 [] (.op 5 [] (.op 6 [] (.op 7 [] (.op 8 [] (.op 9 [] (.op 10 [] (.op 11 [] (.op 12 [] (.op 13 [] (.op 14 [] (.op 15 [12] (.op 16 [] (.op 17 [] (.op 18 [] (.op 19 [] (.op 20 [] (.op 22 [] (.op 21 [22] (.op 23 [] (.op 24 [] (.op 25 [] (.done)))))))))))))))))))))))))))]
def D7 : Nat → Sch := schAt [(6, .op 0 [] (.op 2 [] (.op 1 [2] (.op 3 [] (.op 4 [] (.op 5 [] (.op 6 [] (.op 7 [] (.op 8 [] (.op 9 [] (.op 10 [] (.op 11 [] (.op 12 [] (.op 13 [] (.op 14 [] (.done)))))))))))))))), (20, .op 0 [] (.op 2 [] (.op 1 [] (.op 3 [] (.op 4 [] (.op 5 [] (.op 6 [] (.op 7 [] (.op 8 [] (.op 10 [] (.op 11 [] (.op 9 [11] (.op 12 [] (.op 13 [] (.op 14 [] (.op 15 [] (.op 16 [] (.op 17 [] (.op 18 [] (.op 19 [] (.op 20 [] (.done))))))))))))))))))))))]
def D8 : Nat → Sch := schAt [(15, .op 0 [] (.op 1 [] (.op 2 [] (.op 3 [] (.op 4 [] (.op 5 [] (.op 6 [] (.op 7 [] (.op 8 [] (.op 9 [] (.two (.op 10 [1, 4, 9] (.op 11 [] (.op 12 [] (.op 13 [] (.op 14 [1, 4, 9] (.op 15 [] (.op 16 [] (.done)))))))) (.op 14 [1, 4, 9] (.op 10 [] (.op 11 [] (.op 12 [] (.op 13 [] (.op 15 [] (.op 16 [] (.done))))))))))))))))))), (17, .op 0 [] (.op 1 [] (.op 2 [] (.op 3 [] (.op 4 [] (.op 5 [] (.op 6 [] (.op 8 [] (.op 7 [] (.op 9 [] (.op 10 [] (.done)))))))))))), (18, .op 0 [] (.op 1 [] (.op 2 [] (.op 3 [] (.op 4 [] (.op 5 [] (.op 6 [] (.op 7 [] (.op 8 [] (.op 9 [] (.op 10 [] (.op 11 [] (.op 12 [] (.op 13 [] (.op 14 [] (.op 15 [] (.op 16 [] (.op 17 [] (.op 18 [] (.op 19 [] (.op 20 [] (.op 21 [] (.op 22 [] (.op 23 [] (.done)))))))))))))))))))))))))]
def D9 : Nat → Sch := schAt [(10, .op 0 [] (.op 1 [] (.op 2 [0] (.op 3 [] (.op 4 [] (.done))))))]
abbrev D10 : Nat → Sch := fun _ => .done
def D11 : Nat → Sch := schAt [(6, .op 0 [] (.op 1 [] (.op 2 [] (.op 3 [] (.op 4 [] (.op 5 [] (.op 6 [] (.op 7 [] (.op 9 [] (.op 10 [] (.op 11 [] (.op 12 [] (.op 8 [12] (.op 13 [] (.op 14 [] (.op 15 [] (.done))))))))))))))))), (8, .op 0 [] (.op 1 [] (.op 2 [] (.op 3 [] (.op 4 [] (.op 5 [] (.op 6 [] (.op 8 [] (.op 9 [] (.op 10 [] (.op 7 [] (.op 11 [] (.op 12 [] (.op 13 [] (.done)))))))))))))))]
abbrev D12 : Nat → Sch := fun _ => .done
abbrev D13 : Nat → Sch := fun _ => .done
def D14 : Nat → Sch := schAt [(6, .op 0 [] (.op 1 [] (.op 2 [] (.op 3 [] (.op 4 [] (.op 5 [] (.op 6 [] (.op 7 [] (.op 8 [] (.op 9 [] (.done)))))))))))]
abbrev D15 : Nat → Sch := fun _ => .done
def D16 : Nat → Sch := schAt [(4, .op 0 [] (.op 1 [] (.op 2 [] (.op 3 [] (.op 4 [] (.op 5 [] (.op 6 [4] (.op 7 [] (.done)))))))))]
abbrev D17 : Nat → Sch := fun _ => .done
def D18 : Nat → Sch := schAt [(4, .op 0 [] (.op 1 [] (.op 3 [] (.op 2 [1] (.op 4 [1] (.op 5 [1] (.op 6 [] (.op 7 [] (.op 8 [] (.done))))))))))]
abbrev D19 : Nat → Sch := fun _ => .done
def D20 : Nat → Sch := schAt [(5, .op 0 [] (.op 1 [] (.op 2 [] (.op 3 [1] (.op 4 [1] (.op 5 [] (.op 6 [] (.op 7 [] (.done))))))))), (9, .op 0 [] (.op 1 [] (.op 2 [] (.op 3 [1] (.op 4 [1] (.op 5 [] (.op 6 [] (.op 7 [] (.done)))))))))]
abbrev D21 : Nat → Sch := fun _ => .done
abbrev D22 : Nat → Sch := fun _ => .done
abbrev D23 : Nat → Sch := fun _ => .done
abbrev D24 : Nat → Sch := fun _ => .done
abbrev D25 : Nat → Sch := fun _ => .done
abbrev D26 : Nat → Sch := fun _ => .done
abbrev D27 : Nat → Sch := fun _ => .done
abbrev D28 : Nat → Sch := fun _ => .done
abbrev D29 : Nat → Sch := fun _ => .done
def D30 : Nat → Sch := schAt [(6, .op 0 [] (.op 1 [] (.op 2 [] (.op 3 [] (.op 4 [] (.op 5 [] (.op 6 [] (.op 7 [] (.op 8 [] (.done))))))))))]
abbrev D31 : Nat → Sch := fun _ => .done
abbrev D32 : Nat → Sch := fun _ => .done
abbrev D33 : Nat → Sch := fun _ => .done
def D34 : Nat → Sch := schAt [(7, .op 0 [] (.op 1 [] (.op 2 [] (.op 3 [] (.op 4 [] (.op 5 [] (.op 6 [] (.op 7 [] (.op 8 [] (.op 9 [] (.done)))))))))))]
abbrev D35 : Nat → Sch := fun _ => .done
abbrev D36 : Nat → Sch := fun _ => .done
def D37 : Nat → Sch := schAt [(9, .op 0 [] (.op 1 [] (.op 2 [] (.op 3 [] (.op 4 [] (.op 5 [] (.op 6 [] (.op 7 [] (.op 8 [] (.op 9 [] (.done)))))))))))]
def D38 : Nat → Sch := schAt [(8, .op 0 [] (.op 1 [] (.op 2 [1] (.op 3 [] (.done)))))]
def D39 : Nat → Sch := schAt [(8, .op 0 [] (.op 1 [] (.op 2 [] (.op 3 [1] (.op 4 [] (.op 5 [] (.done))))))), (10, .op 0 [] (.op 1 [] (.op 2 [] (.op 3 [] (.op 4 [] (.op 5 [3] (.op 6 [] (.op 7 [] (.done))))))))), (12, .op 0 [] (.op 1 [] (.op 2 [] (.op 3 [] (.op 4 [] (.op 5 [] (.op 6 [] (.op 7 [] (.op 8 [] (.op 9 [] (.op 10 [] (.op 11 [6, 8] (.op 12 [] (.op 13 [] (.done)))))))))))))))]
abbrev D40 : Nat → Sch := fun _ => .done
def D41 : Nat → Sch := schAt [(5, .op 0 [] (.op 1 [] (.op 3 [] (.op 4 [] (.op 2 [4] (.op 5 [] (.op 6 [] (.op 7 [] (.op 8 [] (.op 9 [] (.done)))))))))))]
def D42 : Nat → Sch := schAt [(3, .op 0 [] (.op 1 [] (.op 2 [0] (.op 3 [] (.op 4 [] (.done))))))]
abbrev D43 : Nat → Sch := fun _ => .done
def D44 : Nat → Sch := schAt [(4, .op 0 [] (.op 1 [] (.op 2 [] (.op 3 [] (.op 4 [] (.op 5 [] (.op 6 [] (.op 7 [] (.op 8 [] (.op 9 [] (.op 10 [] (.op 11 [] (.op 12 [] (.op 13 [] (.op 14 [] (.op 15 [] (.op 16 [] (.op 17 [] (.op 18 [] (.op 19 [] (.op 20 [] (.op 21 [] (.op 22 [] (.op 23 [] (.op 24 [] (.op 25 [] (.op 26 [] (.op 27 [] (.op 28 [] (.op 29 [] (.op 30 [] (.done))))))))))))))))))))))))))))))))]
abbrev D45 : Nat → Sch := fun _ => .done
abbrev D46 : Nat → Sch := fun _ => .done
abbrev D47 : Nat → Sch := fun _ => .done
abbrev D48 : Nat → Sch := fun _ => .done
abbrev D49 : Nat → Sch := fun _ => .done
def D50 : Nat → Sch := schAt [(3, .op 0 [] (.op 1 [] (.op 2 [] (.op 3 [] (.op 4 [] (.op 5 [] (.op 6 [0] (.op 7 [] (.op 8 [] (.op 9 [] (.done)))))))))))]
abbrev D51 : Nat → Sch := fun _ => .done
abbrev D52 : Nat → Sch := fun _ => .done
abbrev D53 : Nat → Sch := fun _ => .done
abbrev D54 : Nat → Sch := fun _ => .done
abbrev D55 : Nat → Sch := fun _ => .done
abbrev D56 : Nat → Sch := fun _ => .done
abbrev D57 : Nat → Sch := fun _ => .done
abbrev D58 : Nat → Sch := fun _ => .done
abbrev D59 : Nat → Sch := fun _ => .done
abbrev D60 : Nat → Sch := fun _ => .done
def D61 : Nat → Sch := schAt [(1, .op 0 [] (.op 2 [] (.op 1 [2] (.op 3 [] (.op 4 [] (.op 5 [] (.done)))))))]
abbrev D62 : Nat → Sch := fun _ => .done
abbrev D63 : Nat → Sch := fun _ => .done
abbrev D64 : Nat → Sch := fun _ => .done
abbrev D65 : Nat → Sch := fun _ => .done
abbrev D66 : Nat → Sch := fun _ => .done
def D67 : Nat → Sch := schAt [(5, .op 0 [] (.op 1 [] (.op 3 [] (.op 4 [] (.op 5 [] (.op 6 [] (.op 7 [] (.op 2 [1, 4, 7] (.op 8 [1] (.op 9 [1] (.op 10 [] (.op 11 [] (.op 12 [] (.done))))))))))))))]
abbrev D68 : Nat → Sch := fun _ => .done
def D69 : Nat → Sch := schAt [(4, .op 0 [] (.op 1 [] (.op 2 [] (.op 3 [] (.op 4 [] (.op 5 [] (.op 6 [] (.op 7 [] (.op 8 [] (.op 9 [] (.op 10 [] (.op 11 [] (.op 12 [] (.op 13 [] (.op 14 [] (.op 15 [] (.op 16 [] (.op 17 [] (.op 18 [] (.op 19 [] (.op 20 [] (.op 21 [] (.done)))))))))))))))))))))))]
def D70 : Nat → Sch := schAt [(6, .op 0 [] (.op 1 [] (.op 2 [] (.op 3 [] (.op 4 [] (.op 5 [] (.op 6 [] (.op 7 [] (.op 8 [] (.op 9 [] (.done)))))))))))]
abbrev D71 : Nat → Sch := fun _ => .done
abbrev D72 : Nat → Sch := fun _ => .done
abbrev D73 : Nat → Sch := fun _ => .done
abbrev D74 : Nat → Sch := fun _ => .done
abbrev D75 : Nat → Sch := fun _ => .done
abbrev D76 : Nat → Sch := fun _ => .done
abbrev D77 : Nat → Sch := fun _ => .done
abbrev D78 : Nat → Sch := fun _ => .done
abbrev D79 : Nat → Sch := fun _ => .done
abbrev D80 : Nat → Sch := fun _ => .done
abbrev D81 : Nat → Sch := fun _ => .done
abbrev D82 : Nat → Sch := fun _ => .done
def D83 : Nat → Sch := schAt [(11, .op 0 [] (.op 1 [] (.op 2 [] (.op 3 [] (.op 4 [] (.op 5 [] (.op 6 [] (.op 7 [] (.op 8 [] (.done)))))))))), (15, .op 0 [] (.op 1 [] (.op 2 [] (.op 3 [] (.op 4 [] (.op 5 [] (.op 6 [] (.op 7 [] (.op 8 [] (.done))))))))))]
abbrev D84 : Nat → Sch := fun _ => .done
abbrev D85 : Nat → Sch := fun _ => .done
def D86 : Nat → Sch := schAt [(9, .op 0 [] (.op 1 [] (.op 2 [] (.op 3 [] (.op 4 [] (.op 5 [] (.op 6 [] (.op 7 [] (.op 8 [] (.op 9 [] (.op 10 [] (.done)))))))))))), (10, .op 0 [] (.op 1 [] (.op 2 [] (.op 3 [] (.op 4 [] (.op 5 [] (.op 6 [] (.op 7 [] (.op 8 [] (.op 9 [] (.op 10 [] (.op 11 [] (.op 12 [] (.done))))))))))))))]
abbrev D87 : Nat → Sch := fun _ => .done
def D88 : Nat → Sch := schAt [(5, .op 0 [] (.op 1 [] (.op 2 [0] (.op 3 [] (.op 4 [] (.done)))))), (12, .op 0 [] (.op 1 [] (.op 2 [] (.op 3 [1] (.op 4 [1] (.op 5 [1] (.op 6 [] (.op 7 [] (.op 8 [] (.done))))))))))]
abbrev D89 : Nat → Sch := fun _ => .done
abbrev D90 : Nat → Sch := fun _ => .done
abbrev D91 : Nat → Sch := fun _ => .done
abbrev D92 : Nat → Sch := fun _ => .done
abbrev D93 : Nat → Sch := fun _ => .done
abbrev D94 : Nat → Sch := fun _ => .done
abbrev D95 : Nat → Sch := fun _ => .done
abbrev D96 : Nat → Sch := fun _ => .done
def D97 : Nat → Sch := schAt [(6, .op 0 [] (.op 1 [] (.op 2 [0] (.op 3 [] (.op 4 [] (.done))))))]
abbrev D98 : Nat → Sch := fun _ => .done
def D99 : Nat → Sch := schAt [(2, .op 0 [] (.op 1 [] (.op 2 [] (.op 3 [] (.op 4 [] (.op 5 [] (.op 6 [] (.op 7 [] (.op 8 [] (.op 9 [] (.op 10 [] (.op 11 [] (.op 12 [] (.done)))))))))))))), (3, .op 0 [] (.op 1 [] (.op 2 [] (.op 3 [] (.op 4 [] (.op 5 [] (.op 6 [] (.op 7 [] (.op 8 [] (.op 9 [] (.done))))))))))), (4, .op 0 [] (.op 1 [] (.op 2 [] (.op 3 [] (.op 4 [] (.op 5 [] (.op 6 [] (.op 7 [] (.op 8 [] (.op 9 [] (.op 10 [] (.op 11 [] (.op 12 [] (.op 13 [] (.op 14 [] (.done))))))))))))))))]
abbrev D100 : Nat → Sch := fun _ => .done
abbrev D101 : Nat → Sch := fun _ => .done
abbrev D102 : Nat → Sch := fun _ => .done
abbrev D103 : Nat → Sch := fun _ => .done
abbrev D104 : Nat → Sch := fun _ => .done
abbrev D105 : Nat → Sch := fun _ => .done
def D106 : Nat → Sch := schAt [(6, .op 0 [] (.op 1 [] (.op 2 [] (.op 3 [] (.op 4 [] (.op 5 [] (.op 6 [] (.op 7 [] (.done))))))))), (8, .op 0 [] (.op 1 [] (.op 2 [] (.op 3 [] (.op 4 [] (.op 5 [] (.op 6 [] (.op 7 [] (.op 8 [] (.op 9 [] (.op 10 [] (.op 11 [] (.done)))))))))))))]
abbrev D107 : Nat → Sch := fun _ => .done
abbrev D108 : Nat → Sch := fun _ => .done
abbrev D109 : Nat → Sch := fun _ => .done
abbrev D110 : Nat → Sch := fun _ => .done
def D111 : Nat → Sch := schAt [(4, .op 0 [] (.op 1 [] (.op 2 [] (.op 3 [] (.op 4 [] (.op 5 [] (.op 6 [] (.op 7 [] (.op 8 [] (.op 9 [] (.op 10 [] (.op 11 [] (.op 12 [] (.op 13 [] (.op 14 [] (.op 15 [] (.op 16 [] (.done)))))))))))))))))), (6, .op 0 [] (.op 1 [] (.op 2 [] (.op 3 [] (.op 4 [] (.op 5 [] (.op 6 [] (.op 7 [] (.op 8 [] (.op 9 [] (.op 10 [] (.op 11 [] (.op 12 [] (.op 13 [] (.op 14 [] (.op 15 [] (.op 16 [] (.op 17 [] (.done)))))))))))))))))))]
def D112 : Nat → Sch := schAt [(5, .op 0 [] (.op 1 [] (.op 2 [] (.op 3 [] (.op 4 [] (.op 5 [] (.op 6 [] (.op 7 [] (.op 8 [] (.op 9 [] (.op 10 [] (.done)))))))))))), (11, .op 0 [] (.op 1 [] (.op 2 [] (.op 3 [] (.op 4 [] (.op 5 [] (.op 6 [] (.op 7 [] (.op 8 [] (.op 9 [] (.op 10 [] (.op 11 [] (.op 12 [] (.op 13 [] (.op 14 [] (.op 15 [] (.op 16 [] (.op 17 [] (.done))))))))))))))))))), (17, .op 0 [] (.op 1 [] (.op 2 [] (.op 3 [] (.op 4 [] (.op 5 [] (.op 6 [] (.op 7 [] (.op 8 [] (.op 9 [] (.op 10 [] (.op 11 [] (.done))))))))))))), (23, .op 0 [] (.op 1 [] (.op 2 [] (.op 3 [] (.op 4 [] (.op 5 [] (.op 6 [] (.op 7 [] (.op 8 [] (.op 9 [] (.op 10 [] (.op 11 [] (.op 12 [] (.op 13 [] (.op 14 [] (.op 15 [] (.op 16 [] (.op 17 [] (.done))))))))))))))))))), (35, .op 0 [] (.op 1 [] (.op 2 [] (.op 3 [] (.op 4 [] (.op 5 [] (.op 6 [] (.op 7 [] (.op 8 [] (.op 9 [] (.op 10 [] (.op 11 [] (.op 12 [] (.op 13 [] (.done)))))))))))))))]
abbrev D113 : Nat → Sch := fun _ => .done
abbrev D114 : Nat → Sch := fun _ => .done
abbrev D115 : Nat → Sch := fun _ => .done
abbrev D116 : Nat → Sch := fun _ => .done
abbrev D117 : Nat → Sch := fun _ => .done
abbrev D118 : Nat → Sch := fun _ => .done
abbrev D119 : Nat → Sch := fun _ => .done
abbrev D120 : Nat → Sch := fun _ => .done
def D121 : Nat → Sch := schAt [(3, .op 0 [] (.op 1 [] (.op 2 [] (.op 3 [] (.op 4 [] (.op 5 [] (.op 6 [] (.op 7 [] (.op 8 [] (.op 9 [] (.op 10 [] (.op 11 [] (.op 12 [] (.op 13 [] (.op 14 [] (.op 15 [] (.done)))))))))))))))))]
def D122 : Nat → Sch := schAt [(3, .op 0 [] (.op 1 [] (.op 2 [] (.op 3 [] (.op 4 [] (.op 5 [] (.op 6 [] (.op 7 [] (.op 8 [] (.op 9 [] (.op 10 [] (.op 11 [] (.op 12 [] (.op 13 [] (.op 14 [] (.op 15 [] (.op 16 [] (.op 17 [] (.op 18 [] (.op 19 [] (.op 20 [] (.op 21 [] (.op 22 [] (.op 23 [] (.done)))))))))))))))))))))))))]
abbrev D123 : Nat → Sch := fun _ => .done
abbrev D124 : Nat → Sch := fun _ => .done
abbrev D125 : Nat → Sch := fun _ => .done
abbrev D126 : Nat → Sch := fun _ => .done
abbrev D127 : Nat → Sch := fun _ => .done
abbrev D128 : Nat → Sch := fun _ => .done
abbrev D129 : Nat → Sch := fun _ => .done
abbrev D130 : Nat → Sch := fun _ => .done
abbrev D131 : Nat → Sch := fun _ => .done
abbrev D132 : Nat → Sch := fun _ => .done
abbrev D133 : Nat → Sch := fun _ => .done
abbrev D134 : Nat → Sch := fun _ => .done
abbrev D135 : Nat → Sch := fun _ => .done
abbrev D136 : Nat → Sch := fun _ => .done
abbrev D137 : Nat → Sch := fun _ => .done
abbrev D138 : Nat → Sch := fun _ => .done

end Go.Proofs.Ytdbedlomiedncaa.Vc
